
/- Flat texts, said on lists: blanks that are squeezed, words that are joined. No program in sight. No condition. -/
import Derived.Test.YtkpdhpbnbpjceaaMacPure
import Derived.Lib.Join
import Derived.Lib.Strings
namespace Go.Proofs.Ytkpdhpbnbpjceaa.Mx
open Lx

/-- One byte more: what is put out, and whether a blank would be dropped. -/
def stp (x : Bytes × Bool) (c : UInt8) : Bytes × Bool := if c = 32 then (if x.2 then x else (x.1 ++ [32], true)) else (x.1 ++ [c], false)
def st (s : Bytes) : Bytes × Bool := s.foldl stp ([], true)
def sqz (s : Bytes) : Bytes := trim (st s).1
def flatOf (l : List Tok) : Bytes := sqz (bare l)

theorem st_append (a b : Bytes) : st (a ++ b) = b.foldl stp (st a) := by simp [st]
theorem st_snoc (a : Bytes) (c : UInt8) : st (a ++ [c]) = stp (st a) c := by simp [st]
theorem st_congr {a b : Bytes} (h : st a = st b) (c : Bytes) : st (a ++ c) = st (b ++ c) := by rw [st_append, st_append, h]
theorem st_blank2 (a : Bytes) : st (a ++ [32] ++ [32]) = st (a ++ [32]) := by
  rw [st_snoc, st_snoc]
  cases h : (st a).2 <;> simp [stp, h]

theorem last_snoc (a : Bytes) (c : UInt8) : (a ++ [c]).getLast? = some c := by simp

theorem revCases {motive : Bytes → Prop} (nil : motive []) (snoc : ∀ a c, motive a → motive (a ++ [c])) (s : Bytes) : motive s := by
  have : ∀ n (s : Bytes), s.length = n → motive s := by
    intro n
    induction n with
    | zero => intro s h; rw [List.eq_nil_of_length_eq_zero h]; exact nil
    | succ n ih =>
      intro s h
      have hne : s ≠ [] := by rintro rfl; simp at h
      rw [← List.dropLast_concat_getLast hne]
      exact snoc _ _ (ih _ (by simp [h]))
  exact this _ s rfl

/-- Whether a blank would be dropped, told from what was put out. -/
theorem st_flag (s : Bytes) : (st s).2 = true ↔ (st s).1 = [] ∨ (st s).1.getLast? = some 32 := by
  refine revCases (motive := fun s => (st s).2 = true ↔ (st s).1 = [] ∨ (st s).1.getLast? = some 32) (by simp [st]) (fun a c ih => ?_) s
  rw [st_snoc]
  unfold stp
  by_cases hc : c = 32
  · rw [if_pos hc]
    cases h : (st a).2
    · simp
    · simp only [if_true]; exact ih
  · rw [if_neg hc]
    simp [hc]
/-- The same, told from what was read. -/
theorem st_flag2 (a : Bytes) (c : UInt8) : (st (a ++ [c])).2 = decide (c = 32) := by
  rw [st_snoc]
  unfold stp
  by_cases hc : c = 32
  · rw [if_pos hc]
    cases h : (st a).2 <;> simp [hc, h]
  · rw [if_neg hc]; simp [hc]
theorem st_le (s : Bytes) : (st s).1.length ≤ s.length := by
  refine revCases (motive := fun s => (st s).1.length ≤ s.length) (by simp [st]) (fun a c ih => ?_) s
  rw [st_snoc]
  unfold stp
  split
  · split
    · simp; omega
    · simp; omega
  · simp; omega
theorem sqz_le (s : Bytes) : (sqz s).length ≤ s.length := by
  have := st_le s
  unfold sqz trim
  split
  · simp; omega
  · exact this

/-- A blank at the end makes no difference. -/
theorem sqz_blank (s : Bytes) : sqz (s ++ [32]) = sqz s := by
  unfold sqz
  rw [st_snoc]
  unfold stp
  rw [if_pos rfl]
  cases h : (st s).2
  · have hn : ¬ ((st s).1 = [] ∨ (st s).1.getLast? = some 32) := fun e => by rw [(st_flag s).2 e] at h; cases h
    simp only [Bool.false_eq_true, if_false]
    rw [trim, if_pos (last_snoc _ _), List.dropLast_concat, trim, if_neg (fun e => hn (.inr e))]
  · simp
theorem sqz_st {a b : Bytes} (h : st a = st b) : sqz a = sqz b := by unfold sqz; rw [h]

/-! ### the program's words -/
/-- One token more: words, and whether the last one may grow. -/
def wstep (x : List Bytes × Bool) (t : Tok) : List Bytes × Bool :=
  if t.1 = 2 ∨ t.1 = 3 then (x.1, false) else if t.1 = 1 then (if x.2 then (x.1.dropLast ++ [x.1.getLastD [] ++ t.2], true) else (x.1 ++ [t.2], true)) else x
def words (l : List Tok) : List Bytes × Bool := l.foldl wstep ([], false)
theorem words_snoc (l : List Tok) (t : Tok) : words (l ++ [t]) = wstep (words l) t := by simp [words]
theorem bare_snoc (l : List Tok) (t : Tok) : bare (l ++ [t]) = bare l ++ (if t.1 = 1 then t.2 else if t.1 = 2 ∨ t.1 = 3 then [32] else []) := by simp [bare]

theorem join_snoc (ws : List Bytes) (x : Bytes) (h : ws ≠ []) : Lib.join (ws ++ [x]) [32] = Lib.join ws [32] ++ [32] ++ x := by
  match ws, h with
  | w :: r, _ => rw [List.cons_append, Lib.join_cons, Lib.join_cons]; simp [Lib.joinTail]
theorem join_grow (ws : List Bytes) (y x : Bytes) : Lib.join (ws ++ [y ++ x]) [32] = Lib.join (ws ++ [y]) [32] ++ x := by
  cases ws with
  | nil => simp [Lib.join_one]
  | cons w r => rw [List.cons_append, List.cons_append, Lib.join_cons, Lib.join_cons]; simp [Lib.joinTail]

theorem revTok {motive : List Tok → Prop} (nil : motive []) (snoc : ∀ a c, motive a → motive (a ++ [c])) (s : List Tok) : motive s := by
  have : ∀ n (s : List Tok), s.length = n → motive s := by
    intro n
    induction n with
    | zero => intro s h; rw [List.eq_nil_of_length_eq_zero h]; exact nil
    | succ n ih =>
      intro s h
      have hne : s ≠ [] := by rintro rfl; simp at h
      rw [← List.dropLast_concat_getLast hne]
      exact snoc _ _ (ih _ (by simp [h]))
  exact this _ s rfl

/-- What holds between the joined words and the bare text. -/
theorem words_bare (l : List Tok) : ((words l).2 = true → (words l).1 ≠ [] ∧ st (Lib.join (words l).1 [32]) = st (bare l)) ∧ ((words l).2 = false → st (Lib.join (words l).1 [32] ++ [32]) = st (bare l)) := by
  refine revTok (motive := fun l => ((words l).2 = true → (words l).1 ≠ [] ∧ st (Lib.join (words l).1 [32]) = st (bare l)) ∧ ((words l).2 = false → st (Lib.join (words l).1 [32] ++ [32]) = st (bare l))) (by constructor <;> simp [words, bare, st, Lib.join_nil, stp]) (fun a t ih => ?_) l
  rw [words_snoc, bare_snoc]
  unfold wstep
  by_cases h23 : t.1 = 2 ∨ t.1 = 3
  · rw [if_pos h23]
    have h1 : ¬ t.1 = 1 := by omega
    simp only [if_neg h1, if_pos h23]
    refine ⟨fun h => (Bool.noConfusion h), fun _ => ?_⟩
    cases ho : (words a).2
    · rw [← st_congr (ih.2 ho) [32], st_blank2]
    · exact st_congr (ih.1 ho).2 [32]
  · rw [if_neg h23]
    by_cases h1 : t.1 = 1
    · simp only [if_pos h1]
      cases ho : (words a).2
      · simp only [Bool.false_eq_true, if_false]
        refine ⟨fun _ => ⟨by simp, ?_⟩, fun h => (Bool.noConfusion h)⟩
        rw [← st_congr (ih.2 ho) t.2]
        by_cases hw : (words a).1 = []
        · rw [hw, List.nil_append, Lib.join_one, Lib.join_nil, List.nil_append, st_append]
          have e : st [32] = st [] := by simp [st, stp]
          rw [e]; rfl
        · rw [join_snoc _ _ hw]
      · simp only [if_true]
        refine ⟨fun _ => ⟨by simp, ?_⟩, fun h => (Bool.noConfusion h)⟩
        have h2 := ih.1 ho
        rw [join_grow, ← st_congr h2.2 t.2]
        congr 3
        rw [List.getLastD_eq_getLast?, List.getLast?_eq_some_getLast h2.1, Option.getD_some, List.dropLast_concat_getLast]
    · simp only [if_neg h1, if_neg h23, List.append_nil]
      exact ih
/-- The program's flat text is the document's. -/
theorem words_flat (l : List Tok) : sqz (Lib.join (words l).1 [32]) = flatOf l := by
  unfold flatOf
  cases h : (words l).2
  · rw [← sqz_blank, sqz_st ((words_bare l).2 h)]
  · exact sqz_st ((words_bare l).1 h).2

end Go.Proofs.Ytkpdhpbnbpjceaa.Mx
