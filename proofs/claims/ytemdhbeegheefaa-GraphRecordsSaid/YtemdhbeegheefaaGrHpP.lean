
/- Heaps in lists: up and down. No program in sight. No condition. -/
import Derived.Test.YtemdhbeegheefaaKit
namespace Go.Proofs.Ytemdhbeegheefaa
namespace Gr

def swap (l : List Int) (i j : Nat) : List Int := (l.set i (l.getD j 0)).set j (l.getD i 0)
theorem swap_len (l : List Int) (i j : Nat) : (swap l i j).length = l.length := by simp [swap]
theorem swap_at (l : List Int) (i j : Nat) (hi : i < l.length) (hj : j < l.length) (k : Nat) : (swap l i j).getD k 0 = if k = j then l.getD i 0 else if k = i then l.getD j 0 else l.getD k 0 := by
  unfold swap
  simp only [List.getD_eq_getElem?_getD, List.getElem?_set, List.length_set]
  by_cases h1 : k = j
  · subst h1; simp [hj]
  · by_cases h2 : k = i
    · subst h2; simp [hi, h1, Ne.symm h1]
    · simp [h1, h2, Ne.symm h1, Ne.symm h2]
theorem swap_perm (l : List Int) (i j : Nat) (hi : i < l.length) (hj : j < l.length) : (swap l i j).Perm l := by
  rw [List.perm_iff_count]
  intro a
  unfold swap
  have e1 : l.getD i 0 = l[i] := by simp [hi]
  have e2 : l.getD j 0 = l[j] := by simp [hj]
  rw [e1, e2, List.count_set (by simpa using hj), List.count_set hi]
  have p1 : l[i] = a → 0 < l.count a := fun e => List.count_pos_iff.2 (e ▸ List.getElem_mem hi)
  have p2 : l[j] = a → 0 < l.count a := fun e => List.count_pos_iff.2 (e ▸ List.getElem_mem hj)
  rw [List.getElem_set]
  by_cases h : i = j
  · subst h
    by_cases c : l[i] = a
    · have := p1 c; simp [c]; omega
    · simp [c]
  · rw [if_neg h]
    by_cases c : l[i] = a
    · have := p1 c
      by_cases d : l[j] = a
      · simp [c, d]; omega
      · simp [c, d]; omega
    · by_cases d : l[j] = a
      · have := p2 d; simp [c, d]
      · simp [c, d]

/-- A heap. -/
def Hq (a : Nat → Int) (n : Nat) : Prop := ∀ k, 0 < k → k < n → a ((k - 1) / 2) ≤ a k
/-- A heap, but for one that may have to go up. -/
structure Hup (a : Nat → Int) (n j : Nat) : Prop where
  rest : ∀ k, 0 < k → k < n → k ≠ j → a ((k - 1) / 2) ≤ a k
  kids : 0 < j → ∀ k, 0 < k → k < n → (k - 1) / 2 = j → a ((j - 1) / 2) ≤ a k
/-- A heap, but for one that may have to go down. -/
structure Hdn (a : Nat → Int) (n i : Nat) : Prop where
  rest : ∀ k, 0 < k → k < n → (k - 1) / 2 ≠ i → a ((k - 1) / 2) ≤ a k
  kids : 0 < i → ∀ k, 0 < k → k < n → (k - 1) / 2 = i → a ((i - 1) / 2) ≤ a k

variable {a : Nat → Int} {n : Nat}
theorem Hq.min (h : Hq a n) : ∀ k, k < n → a 0 ≤ a k := by
  intro k
  induction k using Nat.strongRecOn with
  | _ k ih =>
    intro hk
    by_cases h0 : k = 0
    · rw [h0]; exact Int.le_refl _
    · exact Int.le_trans (ih ((k - 1) / 2) (by omega) (by omega)) (h k (by omega) hk)
theorem Hup.stop0 (h : Hup a n 0) : Hq a n := fun k h0 hk => h.rest k h0 hk (by omega)
theorem Hup.stop {j : Nat} (h : Hup a n j) (hle : a ((j - 1) / 2) ≤ a j) : Hq a n := fun k h0 hk => by
  by_cases e : k = j
  · rw [e]; exact hle
  · exact h.rest k h0 hk e
theorem Hup.step {j : Nat} {a' : Nat → Int} (h : Hup a n j) (h0 : 0 < j) (hj : j < n) (hlt : a j < a ((j - 1) / 2)) (ha : ∀ k, a' k = if k = j then a ((j - 1) / 2) else if k = (j - 1) / 2 then a j else a k) : Hup a' n ((j - 1) / 2) := by
  obtain ⟨i, hi⟩ : ∃ i, i = (j - 1) / 2 := ⟨_, rfl⟩
  rw [← hi] at hlt ha ⊢
  have hij : i < j := by omega
  have ai : a' i = a j := by rw [ha, if_neg (by omega), if_pos rfl]
  have aj : a' j = a i := by rw [ha, if_pos rfl]
  have ao : ∀ k, k ≠ i → k ≠ j → a' k = a k := fun k h1 h2 => by rw [ha, if_neg h2, if_neg h1]
  have hkids := h.kids h0
  rw [← hi] at hkids
  constructor
  · intro k k0 hk hki
    by_cases e : k = j
    · rw [e, ← hi, ai, aj]; exact Int.le_of_lt hlt
    · rw [ao k hki e]
      have hr := h.rest k k0 hk e
      by_cases e1 : (k - 1) / 2 = j
      · rw [e1, aj]; exact hkids k k0 hk e1
      · by_cases e2 : (k - 1) / 2 = i
        · rw [e2] at hr ⊢; rw [ai]; omega
        · rw [ao _ e2 e1]; exact hr
  · intro i0 k k0 hk hki
    have hpi := h.rest i i0 (by omega) (by omega)
    rw [ao ((i - 1) / 2) (by omega) (by omega)]
    by_cases e : k = j
    · rw [e, aj]; exact hpi
    · rw [ao k (by omega) e]
      have hr := h.rest k k0 hk e
      rw [hki] at hr
      omega
/-- One more at the end. -/
theorem Hq.push {n : Nat} (h : Hq a n) : Hup a (n + 1) n where
  rest k k0 hk hne := h k k0 (by omega)
  kids _ k k0 hk hki := by omega
theorem Hdn.stop {i : Nat} (h : Hdn a n i) (hle : ∀ k, 0 < k → k < n → (k - 1) / 2 = i → a i ≤ a k) : Hq a n := fun k h0 hk => by
  by_cases e : (k - 1) / 2 = i
  · rw [e]; exact hle k h0 hk e
  · exact h.rest k h0 hk e
theorem Hdn.step {i j : Nat} {a' : Nat → Int} (h : Hdn a n i) (hj : j < n) (j0 : 0 < j) (hji : (j - 1) / 2 = i) (hlt : a j < a i) (hmin : ∀ k, 0 < k → k < n → (k - 1) / 2 = i → a j ≤ a k)
    (ha : ∀ k, a' k = if k = j then a i else if k = i then a j else a k) : Hdn a' n j := by
  have hij : i < j := by omega
  have ai : a' i = a j := by rw [ha, if_neg (by omega), if_pos rfl]
  have aj : a' j = a i := by rw [ha, if_pos rfl]
  have ao : ∀ k, k ≠ i → k ≠ j → a' k = a k := fun k h1 h2 => by rw [ha, if_neg h2, if_neg h1]
  constructor
  · intro k k0 hk hkj
    by_cases e : (k - 1) / 2 = i
    · rw [e, ai]
      by_cases e2 : k = j
      · rw [e2, aj]; exact Int.le_of_lt hlt
      · rw [ao k (by omega) e2]; exact hmin k k0 hk e
    · have hr := h.rest k k0 hk e
      rw [ao _ e hkj]
      by_cases e2 : k = i
      · rw [e2, ai]
        have := h.kids (by omega) j j0 hj hji
        exact this
      · rw [ao k e2 (by omega)]; exact hr
  · intro _ k k0 hk hki
    have hr := h.rest k k0 hk (by omega)
    rw [hki] at hr
    rw [hji, ai, ao k (by omega) (by omega)]
    exact hr
/-- The first one is taken, the last one stands where it was. -/
theorem Hq.take {a' : Nat → Int} {n : Nat} (h : Hq a (n + 1)) (ha : ∀ k, k ≠ 0 → k < n → a' k = a k) : Hdn a' n 0 where
  rest k k0 hk hne := by
    rw [ha k (by omega) hk, ha _ hne (by omega)]
    exact h k k0 (by omega)
  kids h0 := absurd h0 (by omega)
end Gr
end Go.Proofs.Ytemdhbeegheefaa
