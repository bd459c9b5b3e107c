
/- What is parsed is right; right items are parsed of what is shown of them. No program in sight. No condition. -/
import Derived.Test.YtcdclkgfgieppaaItLawA
namespace Go.Proofs.Ytcdclkgfgieppaa.It
open Lx

/-- The kind of the last one; 0: there is none. -/
def lastK (l : List Tok) : Int := (l.getLast?.map (·.1)).getD 0
theorem lastK_snoc (l : List Tok) (x : Tok) : lastK (l ++ [x]) = x.1 := by simp [lastK]
theorem right_append : ∀ (a : List Tok) (p : Int) (b : List Tok), right p (a ++ b) = (right p a && right (if a = [] then p else lastK a) b) := by
  intro a
  induction a with
  | nil => intro p b; simp [right]
  | cons x r ih =>
    intro p b
    rw [List.cons_append, right, right, ih, Bool.and_assoc]
    congr 1
    congr 1
    by_cases hr : r = []
    · subst hr; simp [lastK]
    · rw [if_neg hr, if_neg (by simp)]
      congr 1
      unfold lastK
      rw [List.getLast?_cons_of_ne_nil hr]
theorem right_snoc (a : List Tok) (x : Tok) : right 0 (a ++ [x]) = (right 0 a && okItem (lastK a) x) := by
  rw [right_append]
  congr 1
  simp only [right, Bool.and_true]
  by_cases h : a = []
  · subst h; rfl
  · rw [if_neg h]

theorem noKey_nil {s : Bytes} (h : noKey s = false) : s ≠ [] := by
  intro e; subst e; simp [noKey] at h
theorem key_flat {l : List Tok} (h : noKey (Mx.flatOf l) = false) : key (Mx.flatOf l) = true := by
  unfold key
  rw [h]
  simp [Mx.flatOf, Mx.sqz_idem]

theorem right_word {out : List Tok} (h : right 0 out = true) (s : Bytes) : right 0 (word out s) = true := by
  unfold word
  split
  · rename_i y hl
    have hne : out ≠ [] := by intro e; subst e; simp at hl
    have e : out = out.dropLast ++ [(1, y)] := by
      have h1 := List.dropLast_concat_getLast hne
      rw [List.getLast?_eq_some_getLast hne] at hl
      injection hl with hl
      rw [← hl]; exact h1.symm
    rw [e, right_snoc] at h
    rw [right_snoc]
    rw [Bool.and_eq_true] at h ⊢
    refine ⟨h.1, ?_⟩
    have h2 := h.2
    simp [okItem] at h2 ⊢
    exact ⟨fun hy => absurd hy h2.1, h2.2⟩
  · rename_i hl
    split
    · exact h
    · rename_i hs
      rw [right_snoc, h, Bool.true_and]
      have hk : lastK out ≠ 1 := by
        intro e
        unfold lastK at e
        cases hg : out.getLast? with
        | none => rw [hg] at e; simp at e
        | some x =>
          rw [hg] at e
          simp at e
          obtain ⟨a, y⟩ := x
          simp at e
          subst e
          exact hl y hg
      simp [okItem, hs, hk]

theorem right_parse : ∀ (n : Nat) (l out notes : List Tok), right 0 out = true → right 0 (parse n l out notes).1 = true := by
  intro n
  induction n with
  | zero => intro l out notes h; exact h
  | succ n ih =>
    intro l out notes h
    cases l with
    | nil => exact h
    | cons t r =>
      rw [parse]
      split
      · exact ih _ _ _ (right_word h _)
      · split
        · rename_i h1 h23
          refine ih _ _ _ ?_
          rw [right_snoc, h, Bool.true_and]
          rcases h23 with e | e <;> rw [e] <;> simp [okItem]
        · split
          · split
            · exact ih _ _ _ h
            · rename_i hk0
              have hk := kindOf_le t.2
              split
              · rename_i h13
                refine ih _ _ _ ?_
                rw [right_snoc, h, Bool.true_and]
                simp [okItem]; omega
              · rename_i h13
                split
                · exact ih _ _ _ h
                · split
                  · exact ih _ _ _ h
                  · rename_i x c _ hno
                    refine ih _ _ _ ?_
                    have hno2 : noKey (Mx.flatOf (x.headD [])) = false := by simpa using hno
                    have hke := key_flat hno2
                    rw [right_snoc, h, Bool.true_and]
                    generalize Mx.flatOf (x.headD []) = f at hke ⊢
                    generalize kindOf t.2 = kd at hk hk0 h13 ⊢
                    simp [okItem, hke]; omega
          · exact ih _ _ _ h
theorem right_parsed (l : List Tok) : right 0 (parsed l).1 = true := right_parse _ _ _ _ rfl

theorem shown_cons (x : Tok) (r : List Tok) : shown (x :: r) = showOne x ++ shown r := rfl
theorem args_shown (f : Bytes) (r : List Tok) : Mx.args 1 ((5, []) :: (1, f) :: (6, []) :: r) = some ([[(1, f)]], 3) := by
  have hg : Mx.group ((5, []) :: (1, f) :: (6, []) :: r) = some 3 := by
    simp [Mx.group, Mx.close, Mx.step]
  unfold Mx.args
  rw [show Mx.spaces ((5, []) :: (1, f) :: (6, []) :: r) = 0 from rfl, List.drop_zero, hg]
  simp [Mx.args]

theorem parse_shown : ∀ (k : List Tok) (out : List Tok) (n : Nat), right (lastK out) k = true → (shown k).length ≤ n → parse n (shown k) out [] = (out ++ k, []) := by
  intro k
  induction k with
  | nil =>
    intro out n _ _
    rw [show shown [] = [] from rfl, List.append_nil]
    cases n <;> rfl
  | cons x r ih =>
    intro out n h hn
    obtain ⟨z, s⟩ := x
    rw [right, Bool.and_eq_true] at h
    obtain ⟨hok, hr⟩ := h
    have hstep : ∀ (y : Tok), y = (z, s) → right (lastK (out ++ [y])) r = true := fun y hy => by rw [hy, lastK_snoc]; exact hr
    rw [shown_cons] at hn ⊢
    have happ : ∀ y : Tok, y = (z, s) → (out ++ [y]) ++ r = out ++ (z, s) :: r := fun y hy => by rw [hy]; simp
    by_cases h1 : z = 1
    · subst h1
      have hso : showOne (1, s) = [(1, s)] := rfl
      rw [hso] at hn ⊢
      simp [okItem] at hok
      rw [List.cons_append, List.nil_append, parse_cons n _ _ _ _ (by simpa using hn), if_pos rfl]
      have hw : word out s = out ++ [(1, s)] := by
        unfold word
        split
        · rename_i y hl
          exfalso
          apply hok.2
          unfold lastK
          rw [hl]; rfl
        · rw [if_neg hok.1]
      rw [hw, ih _ n (hstep _ rfl) (by simp at hn; omega), happ _ rfl]
    · by_cases h23 : z = 2 ∨ z = 3
      · have hso : showOne (z, s) = [(z, [])] := by
          unfold showOne
          rw [if_neg (by simpa using h1), if_pos (by simpa using h23)]
        have hs : s = [] := by
          simp only [okItem, Bool.and_eq_true] at hok
          have := hok.2
          rcases h23 with rfl | rfl <;> simpa using this
        subst hs
        rw [hso] at hn ⊢
        rw [List.cons_append, List.nil_append, parse_cons n _ _ _ _ (by simpa using hn), if_neg (by simpa using h1), if_pos (by simpa using h23)]
        rw [ih _ n (hstep _ rfl) (by simp at hn; omega), happ _ rfl]
      · have hz : 4 ≤ z ∧ z ≤ 16 := by
          simp only [okItem, Bool.and_eq_true, decide_eq_true_eq] at hok
          omega
        obtain ⟨m, rfl⟩ : ∃ m : Nat, z = (m : Int) := ⟨z.toNat, by omega⟩
        have hkn := kindOf_name m (by omega) (by omega)
        by_cases h13 : m ≤ 13
        · have hso : showOne ((m : Int), s) = [(4, nameOf m), (5, []), (1, s), (6, [])] := by
            unfold showOne
            rw [if_neg (by simpa using h1), if_neg (by simpa using h23), if_pos (by simp only; omega)]
            rfl
          have hkey : key s = true := by
            simp only [okItem, Bool.and_eq_true] at hok
            have := hok.1.2
            simp only [Bool.or_eq_true, Bool.not_eq_true', Bool.and_eq_false_iff, decide_eq_false_iff_not] at this
            rcases this with h | h
            · omega
            · exact h
          have hno : noKey s = false ∧ Mx.sqz s = s := by
            simp only [key, Bool.and_eq_true, Bool.not_eq_true', beq_iff_eq] at hkey
            exact hkey
          rw [hso] at hn ⊢
          simp only [List.cons_append, List.nil_append]
          rw [parse_cons n _ _ _ _ (by simp at hn ⊢; omega), if_neg (by simp), if_neg (by simp), if_pos rfl, if_neg (by simp only [hkn]; omega), if_neg (by simp only [hkn]; omega)]
          rw [args_shown]
          simp only [List.headD_cons, flatOf_one, hno.2, hno.1, hkn, Bool.false_eq_true, if_false, List.drop_succ_cons, List.drop_zero]
          rw [ih _ n (hstep _ rfl) (by simp at hn; omega), happ _ rfl]
        · have hso : showOne ((m : Int), s) = [(4, nameOf m)] := by
            unfold showOne
            rw [if_neg (by simpa using h1), if_neg (by simpa using h23), if_neg (by simp only; omega), if_pos (by simp only; omega)]
            rfl
          have hs : s = [] := by
            simp only [okItem, Bool.and_eq_true] at hok
            have := hok.2
            simp only [Bool.or_eq_true, Bool.not_eq_true', Bool.or_eq_false_iff, decide_eq_false_iff_not, beq_iff_eq] at this
            rcases this with h | h
            · omega
            · exact h
          subst hs
          rw [hso] at hn ⊢
          rw [List.cons_append, List.nil_append, parse_cons n _ _ _ _ (by simpa using hn), if_neg (by simp), if_neg (by simp), if_pos rfl, if_neg (by simp only [hkn]; omega), if_pos (by simp only [hkn]; omega)]
          simp only [hkn]
          rw [ih _ n (hstep _ rfl) (by simp at hn; omega), happ _ rfl]
theorem parsed_shown {k : List Tok} (h : right 0 k = true) : parsed (shown k) = (k, []) := parse_shown k [] _ h (Nat.le_refl _)
/-- Right items, and they alone. -/
theorem right_iff (k : List Tok) : ((parsed (shown k)).1 == k && decide ((parsed (shown k)).2.length = 0)) = right 0 k := by
  cases h : right 0 k
  · rw [Bool.and_eq_false_iff]
    left
    cases he : ((parsed (shown k)).1 == k)
    · rfl
    · have := right_parsed (shown k)
      rw [eq_of_beq he, h] at this
      cases this
  · rw [parsed_shown h]; simp

end Go.Proofs.Ytcdclkgfgieppaa.It
