
/- Flat texts, said on lists: a flat text's is itself; two lists' with a blank between. No program in sight. No condition. -/
import Derived.Test.YtcdclkgfgieppaaMacFlatP
namespace Go.Proofs.Ytcdclkgfgieppaa.Mx
open Lx

theorem stp_from (x : Bytes) (p : Bool) (c : UInt8) : stp (x, p) c = (x ++ (stp ([], p) c).1, (stp ([], p) c).2) := by
  unfold stp
  by_cases hc : c = 32
  · cases p <;> simp [hc]
  · simp [hc]
theorem fold_from (B : Bytes) : ∀ (x : Bytes) (p : Bool), B.foldl stp (x, p) = (x ++ (B.foldl stp ([], p)).1, (B.foldl stp ([], p)).2) := by
  induction B with
  | nil => intro x p; simp
  | cons c r ih =>
    intro x p
    rw [List.foldl_cons, List.foldl_cons, stp_from x p c]
    generalize stp ([], p) c = y
    obtain ⟨y1, y2⟩ := y
    rw [ih (x ++ y1) y2, ih y1 y2]
    simp
theorem st_idem (s : Bytes) : st (st s).1 = st s := by
  refine revCases (motive := fun s => st (st s).1 = st s) rfl (fun a c ih => ?_) s
  rw [st_snoc]
  generalize st a = x at ih ⊢
  obtain ⟨o, p⟩ := x
  unfold stp
  by_cases hc : c = 32
  · simp only [if_pos hc]
    cases p
    · simp only [Bool.false_eq_true, if_false]
      rw [st_snoc]
      have ih : st o = (o, false) := ih
      rw [ih]; simp [stp]
    · simp only [if_true]; exact ih
  · simp only [if_neg hc]
    rw [st_snoc]
    have ih : st o = (o, p) := ih
    rw [ih]; simp [stp, hc]
theorem st_head (s : Bytes) : (st s).1.head? ≠ some 32 := by
  refine revCases (motive := fun s => (st s).1.head? ≠ some 32) (by simp [st]) (fun a c ih => ?_) s
  rw [st_snoc]
  have hf := st_flag a
  generalize st a = x at ih hf ⊢
  obtain ⟨o, p⟩ := x
  unfold stp
  by_cases hc : c = 32
  · simp only [if_pos hc]
    cases p
    · simp only [Bool.false_eq_true, if_false]
      have : o ≠ [] := by intro h; have := hf.2 (.inl h); simp at this
      obtain ⟨d, r, rfl⟩ := List.exists_cons_of_ne_nil this
      simpa using ih
    · simp only [if_true]; exact ih
  · simp only [if_neg hc]
    cases o with
    | nil => simpa using hc
    | cons d r => simpa using ih

/-- What a squeezed text is: nothing, or what neither begins nor ends with a blank. -/
theorem sqz_ends (s : Bytes) : (sqz s).head? ≠ some 32 ∧ (sqz s).getLast? ≠ some 32 ∧ st (sqz s) = (sqz s, decide (sqz s = [])) ∧ (sqz s = [] ↔ (st s).1 = []) := by
  have hh := st_head s
  have hi := st_idem s
  have hf := st_flag s
  unfold sqz
  generalize st s = x at hh hi hf
  obtain ⟨o, p⟩ := x
  simp only at hh hi hf ⊢
  by_cases hl : o.getLast? = some 32
  · obtain ⟨o', c, rfl⟩ : ∃ o' c, o = o' ++ [c] := by
      have hne : o ≠ [] := by rintro rfl; simp at hl
      exact ⟨o.dropLast, o.getLast hne, (List.dropLast_concat_getLast hne).symm⟩
    have hc : c = 32 := by simpa using hl
    subst hc
    have ht : trim (o' ++ [32]) = o' := by rw [trim, if_pos hl, List.dropLast_concat]
    rw [ht]
    have hne : o' ≠ [] := by rintro rfl; simp at hh
    rw [st_snoc] at hi
    have hf' := st_flag o'
    have hle := st_le o'
    generalize hy : st o' = y at hi hf' hle
    obtain ⟨q, r⟩ := y
    unfold stp at hi
    simp only [if_true] at hi
    cases r
    · simp only [Bool.false_eq_true, if_false, Prod.mk.injEq, List.append_cancel_right_eq] at hi
      obtain ⟨rfl, _⟩ := hi
      have hnl : ¬ q.getLast? = some 32 := fun e => by have := hf'.2 (.inr e); simp at this
      refine ⟨?_, hnl, by simp [hne], ⟨fun h => absurd h hne, fun h => by simp at h⟩⟩
      obtain ⟨d, t, rfl⟩ := List.exists_cons_of_ne_nil hne
      simpa using hh
    · simp only [if_true, Prod.mk.injEq] at hi
      have := congrArg List.length hi.1
      simp at this hle
      omega
  · have ht : trim o = o := by rw [trim, if_neg hl]
    rw [ht]
    refine ⟨hh, hl, ?_, Iff.rfl⟩
    rw [hi]
    congr 1
    rw [Bool.eq_iff_iff, hf]
    simp [hl]
theorem sqz_idem (s : Bytes) : sqz (sqz s) = sqz s := by
  have h := sqz_ends s
  show trim (st (sqz s)).1 = sqz s
  rw [h.2.2.1, trim, if_neg h.2.1]
theorem trim_append (x y : Bytes) (hy : y ≠ []) : trim (x ++ y) = x ++ trim y := by
  unfold trim
  have e : (x ++ y).getLast? = y.getLast? := by rw [List.getLast?_append, List.getLast?_eq_some_getLast hy]; rfl
  rw [e]
  split
  · rw [List.dropLast_append_of_ne_nil hy]
  · rfl
/-- Two texts with a blank between. -/
theorem sqz_two (A B : Bytes) : sqz (A ++ [32] ++ B) = if sqz A = [] ∨ sqz B = [] then sqz A ++ sqz B else sqz A ++ [32] ++ sqz B := by
  have hA := sqz_ends A
  have hB := sqz_ends B
  have e : st (A ++ [32]) = (if sqz A = [] then [] else sqz A ++ [32], true) := by
    rw [st_snoc]
    have hf := st_flag A
    have hz : sqz A = trim (st A).1 := rfl
    have h0 := hA.2.2.2
    generalize st A = x at hf hz h0
    obtain ⟨o, p⟩ := x
    simp only at hf hz h0
    unfold stp
    simp only [if_true]
    cases p
    · have hn : ¬ (o = [] ∨ o.getLast? = some 32) := fun h => by have := hf.2 h; simp at this
      have ht : sqz A = o := by rw [hz, trim, if_neg (fun h => hn (.inr h))]
      rw [ht, if_neg (fun h => hn (.inl h))]
      simp
    · simp only [if_true]
      rcases hf.1 rfl with h | h
      · subst h; rw [if_pos (h0.2 rfl)]
      · have hne : o ≠ [] := by rintro rfl; simp at h
        have ho : o = o.dropLast ++ [32] := by
          have := List.dropLast_concat_getLast hne
          rw [List.getLast?_eq_some_getLast hne] at h
          injection h with h
          rw [h] at this; exact this.symm
        have ht : sqz A = o.dropLast := by rw [hz, trim, if_pos h]
        rw [if_neg (fun h2 => hne (h0.1 h2)), ht, ← ho]
  show trim (st (A ++ [32] ++ B)).1 = _
  rw [st_append, e, fold_from]
  have hb : (B.foldl stp ([], true)).1 = (st B).1 := rfl
  rw [hb]
  have hzB : sqz B = trim (st B).1 := rfl
  by_cases h1 : sqz A = []
  · rw [if_pos h1, if_pos (.inl h1), h1, hzB]; rfl
  · rw [if_neg h1]
    by_cases h2 : sqz B = []
    · rw [if_pos (.inr h2), h2, hB.2.2.2.1 h2, List.append_nil, List.append_nil, trim, if_pos (last_snoc _ _), List.dropLast_concat]
    · rw [if_neg (fun h => h.elim h1 h2), trim_append _ _ (fun h => h2 (hB.2.2.2.2 h)), ← hzB]
theorem bare_append (a b : List Tok) : bare (a ++ b) = bare a ++ bare b := by simp [bare]
theorem flat_two (a b : List Tok) : flatOf (a ++ [(2, [])] ++ b) = if flatOf a = [] ∨ flatOf b = [] then flatOf a ++ flatOf b else flatOf a ++ [32] ++ flatOf b := by
  unfold flatOf
  rw [bare_append, bare_append]
  exact sqz_two _ _
theorem flat_word (l : List Tok) : flatOf [(1, flatOf l)] = flatOf l := by
  have : bare [(1, flatOf l)] = flatOf l := by simp [bare]
  show sqz (bare [(1, flatOf l)]) = flatOf l
  rw [this]
  exact sqz_idem _
theorem bare_le {m : Nat} {l : List Tok} (h : ∀ t ∈ l, t.2.length ≤ m) : (bare l).length ≤ l.length * (m + 1) := by
  induction l with
  | nil => simp [bare]
  | cons t r ih =>
    have h1 := h t (by simp)
    have h2 := ih fun x hx => h x (by simp [hx])
    have e : bare (t :: r) = (if t.1 = 1 then t.2 else if t.1 = 2 ∨ t.1 = 3 then [32] else []) ++ bare r := by simp [bare]
    rw [e, List.length_append, List.length_cons, Nat.succ_mul]
    have : (if t.1 = 1 then t.2 else if t.1 = 2 ∨ t.1 = 3 then [32] else []).length ≤ m + 1 := by
      split
      · omega
      · split <;> simp
    omega
theorem flat_le {m : Nat} {l : List Tok} (h : ∀ t ∈ l, t.2.length ≤ m) : (flatOf l).length ≤ l.length * (m + 1) := Nat.le_trans (sqz_le _) (bare_le h)

end Go.Proofs.Ytcdclkgfgieppaa.Mx
