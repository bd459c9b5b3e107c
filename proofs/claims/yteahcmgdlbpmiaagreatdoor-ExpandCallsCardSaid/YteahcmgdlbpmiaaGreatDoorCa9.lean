/- Walks and plain laws, 9: More laws of tokens, on lists of bytes: texts with an empty line between them; a word of letters; one blank or another. No program in sight. No condition. Groups that have as many Opens as Closes, said on lists. No program in sight. No condition. Expansions, step by step, on lists: texts of letters and blanks, of no backslash; what definitions and calls come to. No condition. What 'ExpandPlain' and 'ExpandCalls' expand, on lists. No condition. How much an expansion puts out, reads and notes. No condition. Maps of files: how many, how long, in order. No condition. 'ExpandBounds', walked: it answers true at every input. No condition. The reference's 'word' and 'Lex', walked. -/
import Derived.Test.YteahcmgdlbpmiaaGreatDoorCa8
import Derived.Deep.DeepCutAuto
import Derived.Deep.CutBlock
namespace Go.Proofs.YteahcmgdlbpmiaaGreatDoor.Lx

/-! ### a word of letters -/
theorem letter_plain {c : UInt8} (h : letter c = true) : special c = false := by
  cases hc : special c with
  | false => rfl
  | true => rw [special_not_letter hc] at h; cases h

theorem safe_letters {w : Bytes} (h : w.all letter = true) : safe w = w := by
  induction w with
  | nil => rfl
  | cons c w ih =>
    simp only [List.all_cons, Bool.and_eq_true] at h
    have e : safe (c :: w) = (if special c then [92, c] else [c]) ++ safe w := rfl
    rw [e, letter_plain h.1, ih h.2]; rfl

theorem lex_word {w : Bytes} (h : w.all letter = true) (hw : w ≠ []) : lex w = [(1, w)] := by
  have := lex_text (l := [(1, w)]) (by simp [right, rightF, may, joins, hw, gaps])
  have e : text [(1, w)] = w := by simp [text, textOf, safe_letters h]
  rwa [e] at this
theorem lex_command {w : Bytes} (h : w.all letter = true) (hw : w ≠ []) : lex (92 :: w) = [(4, w)] := by
  have := lex_text (l := [(4, w)]) (by simp only [right, rightF, may, joins, gaps]; simp [h, hw])
  have e : text [(4, w)] = 92 :: w := by simp [text, textOf]
  rwa [e] at this
theorem lex_braces {w : Bytes} (h : w.all letter = true) (hw : w ≠ []) : lex (123 :: w ++ [32, 125]) = [(5, []), (1, w), (2, []), (6, [])] := by
  have := lex_text (l := [(5, []), (1, w), (2, []), (6, [])]) (by simp [right, rightF, may, joins, hw, gaps])
  have e : text [(5, []), (1, w), (2, []), (6, [])] = 123 :: w ++ [32, 125] := by simp [text, textOf, safe_letters h]
  rwa [e] at this

/-! ### one blank or another -/
def flat (f : Bytes) (s : Bytes) : Bytes := s.flatMap fun c => if c == 9 then f else [c]
theorem flat_cons (f : Bytes) (c : UInt8) (s : Bytes) : flat f (c :: s) = (if c == 9 then f else [c]) ++ flat f s := rfl
theorem flat_tab (f s : Bytes) : flat f (9 :: s) = f ++ flat f s := rfl
theorem flat_other {f : Bytes} {c : UInt8} {s : Bytes} (h : c ≠ 9) : flat f (c :: s) = c :: flat f s := by simp [flat_cons, h]

/-- What stands for a tab: a blank, or two. -/
def Blanks (f : Bytes) : Prop := f = [32] ∨ f = [32, 32]

theorem flat_head {f : Bytes} (hf : Blanks f) (s : Bytes) : letter ((flat f s).headD 0) = letter (s.headD 0) ∧ digit ((flat f s).headD 0) = digit (s.headD 0) := by
  cases s with
  | nil => exact ⟨rfl, rfl⟩
  | cons c s =>
    by_cases h : c = 9
    · subst h
      rcases hf with rfl | rfl <;> exact ⟨rfl, rfl⟩
    · rw [flat_other h]; exact ⟨rfl, rfl⟩

theorem flat_kind {f : Bytes} (hf : Blanks f) (s : Bytes) : kind (flat f s) = kind s := by
  cases s with
  | nil => rfl
  | cons c s =>
    by_cases h : c = 9
    · subst h
      rcases hf with rfl | rfl <;> rfl
    · have := flat_head hf s
      rw [flat_other h, kind_cons, kind_cons, this.1, this.2]

theorem flat_gap {f : Bytes} (hf : Blanks f) (s : Bytes) : ∀ (b : Bool) (n : Nat), gap b n (flat f s) = ((gap b n s).1, flat f (gap b n s).2) := by
  induction s with
  | nil => intro b n; cases b <;> rfl
  | cons c s ih =>
    intro b n
    by_cases h : c = 9
    · subst h
      rw [flat_tab]
      cases b
      · rcases hf with rfl | rfl
        · exact ih false n
        · exact ih false n
      · rcases hf with rfl | rfl
        · exact ih true n
        · exact ih true n
    · rw [flat_other h]
      cases b
      · unfold gap
        split
        · exact ih false _
        · split
          · exact ih true n
          · rw [flat_other h]
      · unfold gap
        split
        · exact ih false n
        · exact ih true n

theorem flat_word {f : Bytes} (hf : Blanks f) (s : Bytes) (h92 : (92 : UInt8) ∉ s) : word (flat f s) = ((word s).1, flat f (word s).2) := by
  induction s with
  | nil => rfl
  | cons c s ih =>
    have hk := flat_kind hf (c :: s)
    by_cases h1 : kind (c :: s) = 1
    · have h9 : c ≠ 9 := by rintro rfl; simp [kind] at h1
      have hc : c ≠ 92 := by rintro rfl; simp at h92
      rw [flat_other h9] at hk ⊢
      rw [word_one (hk.trans h1) (.inl hc), word_one h1 (.inl hc), ih (by simp at h92; exact h92.2)]
    · rw [word_stop h1]
      cases he : flat f (c :: s) with
      | nil => rfl
      | cons d t => rw [word_stop (by rw [← he, hk]; exact h1)]

theorem flat_ne {f : Bytes} (hf : Blanks f) {s : Bytes} (h : s ≠ []) : flat f s ≠ [] := by
  cases s with
  | nil => exact absurd rfl h
  | cons c s =>
    by_cases h9 : c = 9
    · subst h9
      rcases hf with rfl | rfl <;> simp [flat_tab]
    · simp [flat_other h9]

theorem flat_one {f : Bytes} (hf : Blanks f) (s : Bytes) (hs : s ≠ []) (h92 : (92 : UInt8) ∉ s) : one (flat f s) = ((one s).1, flat f (one s).2) := by
  cases s with
  | nil => exact absurd rfl hs
  | cons c s =>
    have hk := flat_kind hf (c :: s)
    rcases kind_cases c s with h | h | h | h | h | h
    · rw [one_k2 (hk.trans h), one_k2 h, flat_gap hf]
    · obtain ⟨rfl, _⟩ := kind_four h
      simp at h92
    · have h9 : c ≠ 9 := by rintro rfl; simp [kind] at h
      rw [flat_other h9] at hk ⊢
      rw [one_k5 (hk.trans h), one_k5 h]
    · have h9 : c ≠ 9 := by rintro rfl; simp [kind] at h
      rw [flat_other h9] at hk ⊢
      rw [one_k6 (hk.trans h), one_k6 h]
    · have h9 : c ≠ 9 := by rintro rfl; simp [kind] at h
      obtain ⟨_, hr, hd⟩ := kind_seven h
      rw [flat_other h9] at hk ⊢
      rw [one_k7 (hk.trans h), one_k7 h]
      cases s with
      | nil => exact absurd rfl hr
      | cons d s =>
        have h9 : d ≠ 9 := by rintro rfl; simp [digit] at hd
        rw [flat_other h9]; rfl
    · rw [one_k1 (hk.trans h), one_k1 h, flat_word hf _ h92]

theorem word_in (s : Bytes) : ∃ p, s = p ++ (word s).2 := by
  induction s using word.induct with
  | case1 => exact ⟨[], rfl⟩
  | case2 c h => rw [word, if_pos h]; exact ⟨[c], rfl⟩
  | case3 c h => rw [word, if_neg h]; exact ⟨[], rfl⟩
  | case4 c d r h h2 ih => rw [word, if_pos h, if_pos h2]; obtain ⟨p, hp⟩ := ih; exact ⟨c :: d :: p, by simp only [List.cons_append]; rw [← hp]⟩
  | case5 c d r h h2 ih => rw [word, if_pos h, if_neg h2]; obtain ⟨p, hp⟩ := ih; exact ⟨c :: p, by simp only [List.cons_append]; rw [← hp]⟩
  | case6 c d r h => rw [word, if_neg h]; exact ⟨[], rfl⟩
theorem gap_in (s : Bytes) : ∀ (b : Bool) (n : Nat), ∃ p, s = p ++ (gap b n s).2 := by
  induction s with
  | nil => intro b n; cases b <;> exact ⟨[], rfl⟩
  | cons c s ih =>
    intro b n
    cases b
    · unfold gap
      split
      · obtain ⟨p, hp⟩ := ih false (if c == 10 then n + 1 else n); exact ⟨c :: p, by rw [List.cons_append, ← hp]⟩
      · split
        · obtain ⟨p, hp⟩ := ih true n; exact ⟨c :: p, by rw [List.cons_append, ← hp]⟩
        · exact ⟨[], rfl⟩
    · unfold gap
      split
      · obtain ⟨p, hp⟩ := ih false n; exact ⟨c :: p, by rw [List.cons_append, ← hp]⟩
      · obtain ⟨p, hp⟩ := ih true n; exact ⟨c :: p, by rw [List.cons_append, ← hp]⟩

/-- What is left is an end of the text. -/
theorem one_in (c : UInt8) (r : Bytes) : ∃ p, c :: r = p ++ (one (c :: r)).2 := by
  rcases kind_cases c r with h | h | h | h | h | h
  · rw [one_k2 h]; exact gap_in _ _ _
  · rw [one_k4 h]; exact ⟨c :: r.takeWhile letter, by simp [List.takeWhile_append_dropWhile]⟩
  · rw [one_k5 h]; exact ⟨[c], rfl⟩
  · rw [one_k6 h]; exact ⟨[c], rfl⟩
  · rw [one_k7 h]; exact ⟨c :: r.take 1, by cases r <;> rfl⟩
  · rw [one_k1 h]; exact word_in _

/-- ANOTHER BLANK MAKES NO DIFFERENCE. -/
theorem lex_flatF {f : Bytes} (hf : Blanks f) (n : Nat) : ∀ s : Bytes, s.length ≤ n → (92 : UInt8) ∉ s → lex (flat f s) = lex s := by
  induction n with
  | zero => intro s h _; cases s with
    | nil => rfl
    | cons c r => simp at h
  | succ n ih =>
    intro s h h92
    cases s with
    | nil => rfl
    | cons c r =>
      have hlt := one_lt c r
      obtain ⟨p, hp⟩ := one_in c r
      rw [lex_ne (flat_ne hf (by simp)), flat_one hf _ (by simp) h92, lex_cons, ih _ (by simp at h; omega) (by rw [hp] at h92; simp at h92; exact h92.2)]
theorem lex_flat {f : Bytes} (hf : Blanks f) {s : Bytes} (h92 : (92 : UInt8) ∉ s) : lex (flat f s) = lex s := lex_flatF hf s.length s (Nat.le_refl _) h92

/-! ### two texts with an empty line between them -/
/-- An empty line, and a text that begins with no blank. -/
def Apart (X : Bytes) : Prop := ∃ t, X = 10 :: 10 :: t ∧ kind t ≠ 2

theorem Apart.two {X : Bytes} (h : Apart X) : kind X = 2 := by obtain ⟨t, rfl, _⟩ := h; rfl
theorem Apart.letter {X : Bytes} (h : Apart X) : letter (X.headD 0) = false := by obtain ⟨t, rfl, _⟩ := h; rfl

theorem app_head {X : Bytes} (h : Apart X) (r : Bytes) : letter ((r ++ X).headD 0) = letter (r.headD 0) ∧ digit ((r ++ X).headD 0) = digit (r.headD 0) := by
  cases r with
  | nil => obtain ⟨t, rfl, _⟩ := h; exact ⟨rfl, rfl⟩
  | cons c r => exact ⟨rfl, rfl⟩
theorem app_kind {X : Bytes} (h : Apart X) (c : UInt8) (r : Bytes) : kind (c :: r ++ X) = kind (c :: r) := by
  have := app_head h r
  rw [List.cons_append, kind_cons, kind_cons, this.1, this.2]

theorem app_gap (X s : Bytes) : ∀ (b : Bool) (n : Nat), (gap b n s).2 ≠ [] → gap b n (s ++ X) = ((gap b n s).1, (gap b n s).2 ++ X) := by
  induction s with
  | nil => intro b n h; cases b <;> exact absurd rfl h
  | cons c s ih =>
    intro b n h
    rw [List.cons_append]
    cases b
    · unfold gap at h ⊢
      split
      · rename_i h1; rw [if_pos h1] at h; exact ih _ _ h
      · rename_i h1
        rw [if_neg h1] at h
        split
        · rename_i h2; rw [if_pos h2] at h; exact ih _ _ h
        · rfl
    · unfold gap at h ⊢
      split
      · rename_i h1; rw [if_pos h1] at h; exact ih _ _ h
      · rename_i h1; rw [if_neg h1] at h; exact ih _ _ h

theorem app_word {X : Bytes} (hX : Apart X) (s : Bytes) (hl : s.getLast? ≠ some 92) : word (s ++ X) = ((word s).1, (word s).2 ++ X) := by
  induction s using word.induct with
  | case1 =>
    have e : word ([] ++ X) = ([], X) := by
      obtain ⟨t, rfl, _⟩ := hX
      exact word_stop (by simp [kind])
    rw [e]; rfl
  | case2 c h =>
    have hc : c ≠ 92 := by rintro rfl; simp at hl
    have e : word X = ([], X) := by
      obtain ⟨t, rfl, _⟩ := hX
      exact word_stop (by simp [kind])
    have hk := (app_kind hX c []).trans h
    have e2 : word ([c] ++ X) = (c :: (word X).1, (word X).2) := word_one hk (.inl hc)
    rw [e2, e, word, if_pos h]; rfl
  | case3 c h =>
    have hk : kind ([c] ++ X) ≠ 1 := by rw [app_kind hX c []]; exact h
    have e2 : word ([c] ++ X) = ([], c :: X) := word_stop hk
    rw [e2, word, if_neg h]; rfl
  | case4 c d r h h2 ih =>
    have h3 : c = 92 := by simpa using h2
    subst h3
    have hk := (app_kind hX 92 (d :: r)).trans h
    have hr : r.getLast? ≠ some 92 := by
      cases r with
      | nil => simp
      | cons a r => simpa [List.getLast?_cons_cons] using hl
    have e2 : word (92 :: d :: r ++ X) = (d :: (word (r ++ X)).1, (word (r ++ X)).2) := word_esc hk
    rw [e2, ih hr, word, if_pos h, if_pos h2]
  | case5 c d r h h2 ih =>
    have hc : c ≠ 92 := by simpa using h2
    have hk := (app_kind hX c (d :: r)).trans h
    have hr : (d :: r).getLast? ≠ some 92 := by simpa [List.getLast?_cons_cons] using hl
    have e2 : word (c :: (d :: r) ++ X) = (c :: (word (d :: r ++ X)).1, (word (d :: r ++ X)).2) := word_one hk (.inl hc)
    rw [e2, ih hr, word, if_pos h, if_neg h2]
  | case6 c d r h =>
    have hk : kind (c :: (d :: r) ++ X) ≠ 1 := by rw [app_kind hX]; exact h
    have e2 : word (c :: (d :: r) ++ X) = ([], c :: (d :: r ++ X)) := word_stop hk
    rw [e2, word, if_neg h]; rfl

theorem app_takeWhile {X : Bytes} {p : UInt8 → Bool} (hX : p (X.headD 0) = false) (r : Bytes) : (r ++ X).takeWhile p = r.takeWhile p ∧ (r ++ X).dropWhile p = r.dropWhile p ++ X := by
  induction r with
  | nil =>
    cases X with
    | nil => exact ⟨rfl, rfl⟩
    | cons c X =>
      have : p c = false := hX
      simp [this]
  | cons c r ih =>
    rw [List.cons_append, List.takeWhile_cons, List.takeWhile_cons, List.dropWhile_cons, List.dropWhile_cons]
    split
    · exact ⟨by rw [ih.1], ih.2⟩
    · exact ⟨rfl, rfl⟩

theorem app_one {X : Bytes} (hX : Apart X) (c : UInt8) (r : Bytes) (hl : (c :: r).getLast? ≠ some 92) (hg : kind (c :: r) = 2 → (gap false 0 (c :: r)).2 ≠ []) :
    one (c :: r ++ X) = ((one (c :: r)).1, (one (c :: r)).2 ++ X) := by
  have hk := app_kind hX c r
  rcases kind_cases c r with h | h | h | h | h | h
  · rw [one_k2 (hk.trans h), one_k2 h, app_gap X _ _ _ (hg h)]
  · have := app_takeWhile hX.letter r
    have e : one (c :: r ++ X) = ((4, (r ++ X).takeWhile letter), (r ++ X).dropWhile letter) := one_k4 (hk.trans h)
    rw [e, one_k4 h, this.1, this.2]
  · have e : one (c :: r ++ X) = ((5, []), r ++ X) := one_k5 (hk.trans h)
    rw [e, one_k5 h]
  · have e : one (c :: r ++ X) = ((6, []), r ++ X) := one_k6 (hk.trans h)
    rw [e, one_k6 h]
  · obtain ⟨_, hr, _⟩ := kind_seven h
    have e : one (c :: r ++ X) = ((7, (r ++ X).take 1), (r ++ X).drop 1) := one_k7 (hk.trans h)
    rw [e, one_k7 h]
    cases r with
    | nil => exact absurd rfl hr
    | cons d r => rfl
  · rw [one_k1 (hk.trans h), one_k1 h, app_word hX _ hl]

theorem last_in {p q : Bytes} (h : (p ++ q).getLast? ≠ some 92) : q.getLast? ≠ some 92 := by
  intro e
  apply h
  rw [List.getLast?_append, e]; rfl

theorem lex_par {t : Bytes} (ht : kind t ≠ 2) : lex (10 :: 10 :: t) = (3, []) :: lex t := by
  have hk : kind (10 :: 10 :: t) = 2 := rfl
  have e : gap false 0 (10 :: 10 :: t) = gap false 2 t := rfl
  rw [lex_cons, one_k2 hk, e, gap_stop ht]; rfl

/-- AN EMPTY LINE BETWEEN TWO TEXTS IS A TOKEN OF ITS OWN. -/
theorem lex_joinsF {t : Bytes} (ht : kind t ≠ 2) (n : Nat) : ∀ s : Bytes, s.length ≤ n → s ≠ [] → s.getLast? ≠ some 92 → (∀ x, (lex s).getLast? = some x → gaps x.1 = false) →
    lex (s ++ 10 :: 10 :: t) = lex s ++ (3, []) :: lex t := by
  have hX : Apart (10 :: 10 :: t) := ⟨t, rfl, ht⟩
  induction n with
  | zero => intro s h hs _ _; cases s with
    | nil => exact absurd rfl hs
    | cons c r => simp at h
  | succ n ih =>
    intro s h hs hl hg
    cases s with
    | nil => exact absurd rfl hs
    | cons c r =>
      have hlt := one_lt c r
      obtain ⟨p, hp⟩ := one_in c r
      have hone := app_one hX c r hl (fun hk he => by
        have e := one_k2 hk
        have := hg (one (c :: r)).1 (by rw [lex_cons, e, he]; rfl)
        rw [e] at this
        rcases gapKind_cases (gap false 0 (c :: r)).1 with e2 | e2 <;> simp [e2, gaps] at this)
      rw [lex_ne (s := c :: r ++ 10 :: 10 :: t) (by simp), hone, lex_cons]
      by_cases he : (one (c :: r)).2 = []
      · rw [he, List.nil_append, lex_par ht]; rfl
      · rw [ih _ (by simp at h; omega) he (last_in (hp ▸ hl)) (fun x hx => hg x (by
          rw [lex_cons, List.getLast?_cons, hx]; rfl))]
        rfl

theorem lex_joins {s t : Bytes} (hs : s ≠ []) (ht : kind t ≠ 2) (hl : s.getLast? ≠ some 92) (hg : ∀ x, (lex s).getLast? = some x → gaps x.1 = false) : lex (s ++ 10 :: 10 :: t) = lex s ++ (3, []) :: lex t :=
  lex_joinsF ht s.length s (Nat.le_refl _) hs hl hg

/-- The first token is a gap where a blank or a remark stands first. -/
theorem lex_first {t : Bytes} (ht : t ≠ []) : (kind t = 2) = (gaps (((lex t).headD (0, [])).1) = true) := by
  cases t with
  | nil => exact absurd rfl ht
  | cons c r =>
    rw [lex_cons]
    show _ = (gaps (one (c :: r)).1.1 = true)
    rcases kind_cases c r with h | h | h | h | h | h
    · rw [one_k2 h, h]; rcases gapKind_cases (gap false 0 (c :: r)).1 with e | e <;> simp [e, gaps]
    · rw [one_k4 h, h]; simp [gaps]
    · rw [one_k5 h, h]; simp [gaps]
    · rw [one_k6 h, h]; simp [gaps]
    · rw [one_k7 h, h]; simp [gaps]
    · rw [one_k1 h, h]; simp [gaps]

end Go.Proofs.YteahcmgdlbpmiaaGreatDoor.Lx

namespace Go.Proofs.YteahcmgdlbpmiaaGreatDoor.Mx
open Lx

/-- How deep one is behind a token, if not out. -/
def stepB (d : Nat) (t : Tok) : Option Nat := if t.1 = 5 then some (d + 1) else if t.1 = 6 then (if d = 0 then none else some (d - 1)) else some d
/-- How deep one is behind these, if never out. -/
def bal : Nat → List Tok → Option Nat
  | d, [] => some d
  | d, t :: r => (stepB d t).bind fun e => bal e r
theorem bal_append (a b : List Tok) : ∀ d, bal d (a ++ b) = (bal d a).bind fun e => bal e b := by
  induction a with
  | nil => intro d; rfl
  | cons t r ih =>
    intro d
    rw [List.cons_append, bal, bal, Option.bind_assoc]
    congr 1
    funext e
    exact ih e
theorem bal_snoc (a : List Tok) (t : Tok) (d : Nat) : bal d (a ++ [t]) = (bal d a).bind fun e => stepB e t := by
  rw [bal_append]
  congr 1
  funext e
  simp [bal]
theorem step_B {d x : Nat} {t : Tok} (h : stepB d t = some x) : step (d + 1) t = x + 1 := by
  unfold stepB at h
  unfold step
  split at h
  · rename_i h5; injection h with h; rw [if_pos h5]; omega
  · rename_i h5
    rw [if_neg h5]
    split at h
    · rename_i h6
      rw [if_pos h6]
      split at h
      · simp at h
      · injection h with h; omega
    · rename_i h6; injection h with h; rw [if_neg h6]; omega
theorem close_bal (l : List Tok) : ∀ (d e : Nat) (r : List Tok), bal d l = some e → close (d + 1) (l ++ r) = (close (e + 1) r).map (· + l.length) := by
  induction l with
  | nil => intro d e r h; simp [bal] at h; subst h; simp
  | cons t l ih =>
    intro d e r h
    rw [bal] at h
    obtain ⟨x, hx, hb⟩ := Option.bind_eq_some_iff.1 h
    rw [List.cons_append, close, step_B hx, if_neg (by omega), ih x e r hb, Option.map_map]
    congr 1
/-- Within a group. -/
def wrap (i : Nat) (l : List Tok) : List Tok := (5, []) :: (l ++ (6, []) :: (if i % 2 = 0 then [(2, [])] else []))
theorem group_wrap (i : Nat) (l r : List Tok) (h : bal 0 l = some 0) : group (wrap i l ++ r) = some (l.length + 2) := by
  have e : wrap i l ++ r = (5, []) :: (l ++ ((6, []) :: ((if i % 2 = 0 then [(2, [])] else []) ++ r))) := by simp [wrap]
  rw [e, group, if_pos rfl, close]
  have h1 : step 0 ((5, []) : Tok) = 1 := rfl
  have h2 : step 1 ((6, []) : Tok) = 0 := rfl
  rw [h1, if_neg (by decide), close_bal l 0 0 _ h, close]
  rw [show step (0 + 1) ((6, []) : Tok) = 0 from h2, if_pos rfl]
  simp; omega
def cat : Nat → List (List Tok) → List Tok
  | _, [] => []
  | i, x :: r => wrap i x ++ cat (i + 1) r
theorem cat_snoc (ws : List (List Tok)) (x : List Tok) : ∀ i, cat i (ws ++ [x]) = cat i ws ++ wrap (i + ws.length) x := by
  induction ws with
  | nil => intro i; simp [cat]
  | cons y r ih => intro i; rw [List.cons_append, cat, cat, ih, List.append_assoc, List.length_cons, show i + 1 + r.length = i + (r.length + 1) by omega]
theorem spaces_pre {pre r : List Tok} (hp : pre = [] ∨ pre = [(2, [])]) (h : r = [] ∨ ∃ i x q, r = wrap i x ++ q) : spaces (pre ++ r) = pre.length := by
  have h0 : spaces r = 0 := by
    rcases h with rfl | ⟨i, x, q, rfl⟩
    · rfl
    · rw [wrap, List.cons_append, spaces, if_neg (by decide)]
  rcases hp with rfl | rfl
  · exact h0
  · rw [List.cons_append, List.nil_append, spaces, if_pos rfl, h0]; rfl
theorem cat_is (i : Nat) (ws : List (List Tok)) : cat i ws = [] ∨ ∃ j x q, cat i ws = wrap j x ++ q := by
  cases ws with
  | nil => exact .inl rfl
  | cons x r => exact .inr ⟨i, x, _, rfl⟩

/-- So many groups, one behind the other, are told as they were. -/
theorem args_cat (ws : List (List Tok)) : ∀ (i : Nat) (pre : List Tok), (pre = [] ∨ pre = [(2, [])]) → (∀ x ∈ ws, bal 0 x = some 0) →
    ∃ u, args ws.length (pre ++ cat i ws) = some (ws, u) ∧ u ≤ (pre ++ cat i ws).length ∧ (pre ++ cat i ws).length ≤ u + 1 ∧ args 1 ((pre ++ cat i ws).drop u) = none := by
  induction ws with
  | nil =>
    intro i pre hp _
    refine ⟨0, by simp [args], by simp, by rcases hp with rfl | rfl <;> simp [cat], ?_⟩
    have hs : spaces (pre ++ cat i []) = pre.length := spaces_pre hp (.inl rfl)
    rw [List.drop_zero, args, hs]
    have : group ((pre ++ cat i []).drop pre.length) = none := by simp [cat, group]
    rw [this]
  | cons x r ih =>
    intro i pre hp hb
    have hs : spaces (pre ++ cat i (x :: r)) = pre.length := spaces_pre hp (cat_is i (x :: r))
    have hg : group ((pre ++ cat i (x :: r)).drop pre.length) = some (x.length + 2) := by
      rw [List.drop_left]; exact group_wrap i x _ (hb x (by simp))
    obtain ⟨pre', hp', hpe⟩ : ∃ pre', (pre' = [] ∨ pre' = [(2, [])]) ∧ pre' = (if i % 2 = 0 then [((2, []) : Tok)] else []) := by
      by_cases h : i % 2 = 0
      · exact ⟨_, .inr (if_pos h), rfl⟩
      · exact ⟨_, .inl (if_neg h), rfl⟩
    have hcat : pre ++ cat i (x :: r) = pre ++ ((5, []) :: x ++ [(6, [])]) ++ (pre' ++ cat (i + 1) r) := by
      rw [cat, wrap, hpe]; simp
    have hl : (pre ++ ((5, []) :: x ++ [((6, []) : Tok)])).length = pre.length + (x.length + 2) := by simp
    have hd : (pre ++ cat i (x :: r)).drop (pre.length + (x.length + 2)) = pre' ++ cat (i + 1) r := by
      rw [hcat, ← hl, List.drop_left]
    have hel : ((pre ++ cat i (x :: r)).drop (pre.length + 1)).take (x.length + 2 - 2) = x := by
      have : pre ++ cat i (x :: r) = (pre ++ [(5, [])]) ++ (x ++ ([(6, [])] ++ (pre' ++ cat (i + 1) r))) := by rw [hcat]; simp
      rw [this, show pre.length + 1 = (pre ++ [((5, []) : Tok)]).length by simp, List.drop_left, Nat.add_sub_cancel, List.take_left]
    obtain ⟨u, h1, h2, h3, h4⟩ := ih (i + 1) pre' hp' fun y hy => hb y (by simp [hy])
    have ht : (pre ++ cat i (x :: r)).length = pre.length + (x.length + 2) + (pre' ++ cat (i + 1) r).length := by rw [hcat, List.length_append, hl]
    refine ⟨pre.length + (x.length + 2) + u, ?_, by omega, by omega, ?_⟩
    · rw [List.length_cons, args, hs, hg]
      simp only [hd, h1, Option.map_some, hel]
    · rw [← List.drop_drop, hd]; exact h4

end Go.Proofs.YteahcmgdlbpmiaaGreatDoor.Mx

namespace Go.Proofs.YteahcmgdlbpmiaaGreatDoor
namespace Lx
/-! ### texts of letters and blanks -/
structure Plain (s : List UInt8) : Prop where
  all : ∀ c ∈ s, letter c = true ∨ c = 32
  last : ∀ c, s.getLast? = some c → letter c = true
theorem Plain.nil : Plain [] := ⟨by simp, by simp⟩
theorem Plain.part {p q : List UInt8} (h : Plain (p ++ q)) : Plain q := by
  refine ⟨fun c hc => h.all c (List.mem_append_right _ hc), fun c hc => h.last c ?_⟩
  rw [List.getLast?_append, hc]
  rfl
theorem Plain.tail {c : UInt8} {q : List UInt8} (h : Plain (c :: q)) : Plain q := Plain.part (p := [c]) h
theorem word_stop0 {X : List UInt8} (hX : kind X ≠ 1) : word X = ([], X) := by
  cases X with
  | nil => rfl
  | cons c r => exact word_stop hX
theorem kind_letter {c : UInt8} {r : List UInt8} (h : letter c = true) : kind (c :: r) = 1 := kind_plain (letter_plain h)
theorem kind_blank (r : List UInt8) : kind (32 :: r) = 2 := rfl
theorem word_plain {X : List UInt8} (hX : kind X ≠ 1) : ∀ {s : List UInt8}, Plain s → word (s ++ X) = ((word s).1, (word s).2 ++ X)
  | [], _ => by rw [List.nil_append, word_stop0 hX]; rfl
  | c :: r, h => by
    rcases h.all c (by simp) with hc | rfl
    · have hn : c ≠ 92 := plain_ne (letter_plain hc)
      have ih := word_plain hX h.tail
      rw [List.cons_append, word_one (kind_letter hc) (.inl hn), word_one (kind_letter hc) (.inl hn), ih]
    · rw [List.cons_append, word_stop (by rw [kind_blank]; decide), word_stop (by rw [kind_blank]; decide)]
      rfl
theorem gap_plain : ∀ {s : List UInt8} (n : Nat), Plain s → s ≠ [] → (gap false n s).2 ≠ []
  | [], _, _, h => absurd rfl h
  | c :: r, n, h, _ => by
    rcases h.all c (by simp) with hc | rfl
    · rw [gap_stop (by rw [kind_letter hc]; decide)]
      simp
    · have hr : r ≠ [] := by
        rintro rfl
        have := h.last 32 rfl
        exact absurd this (by decide)
      have e : gap false n (32 :: r) = gap false n r := rfl
      rw [e]
      exact gap_plain n h.tail hr
theorem lex_frontF {X : List UInt8} (hX : kind X ≠ 1) (n : Nat) : ∀ s : List UInt8, s.length ≤ n → Plain s → lex (s ++ X) = lex s ++ lex X ∧ ∀ t ∈ lex s, t.1 = 1 ∨ t.1 = 2 ∨ t.1 = 3 := by
  induction n with
  | zero =>
    intro s hs _
    obtain rfl : s = [] := List.eq_nil_of_length_eq_zero (by omega)
    exact ⟨rfl, fun t ht => by rw [lex_nil] at ht; cases ht⟩
  | succ n ih =>
    intro s hs h
    cases s with
    | nil => exact ⟨rfl, fun t ht => by rw [lex_nil] at ht; cases ht⟩
    | cons c r =>
      have hl := one_lt c r
      simp only [List.length_cons] at hs
      obtain ⟨p, hp⟩ := one_in c r
      have hq : Plain (one (c :: r)).2 := by rw [hp] at h; exact h.part
      obtain ⟨i1, i2⟩ := ih _ (by omega) hq
      have key : one (c :: r ++ X) = ((one (c :: r)).1, (one (c :: r)).2 ++ X) ∧ ((one (c :: r)).1.1 = 1 ∨ (one (c :: r)).1.1 = 2 ∨ (one (c :: r)).1.1 = 3) := by
        rcases h.all c (by simp) with hc | rfl
        · have k1 : kind (c :: r) = 1 := kind_letter hc
          have k2 : kind (c :: r ++ X) = 1 := kind_letter hc
          rw [one_k1 k1, one_k1 k2, word_plain hX h]
          exact ⟨rfl, .inl rfl⟩
        · have k1 : kind (32 :: r) = 2 := rfl
          have k2 : kind (32 :: r ++ X) = 2 := rfl
          rw [one_k2 k1, one_k2 k2, app_gap X (32 :: r) false 0 (gap_plain 0 h (by simp))]
          exact ⟨rfl, .inr (gapKind_cases _)⟩
      rw [lex_cons]
      constructor
      · have e : lex (c :: r ++ X) = (one (c :: r ++ X)).1 :: lex (one (c :: r ++ X)).2 := lex_cons c (r ++ X)
        rw [e, key.1]
        simp only
        rw [i1]
        rfl
      · intro t ht
        rcases List.mem_cons.1 ht with rfl | ht
        · exact key.2
        · exact i2 t ht
theorem lex_front {s X : List UInt8} (h : Plain s) (hX : kind X ≠ 1) : lex (s ++ X) = lex s ++ lex X := (lex_frontF hX _ s (Nat.le_refl _) h).1
theorem lex_kinds {s : List UInt8} (h : Plain s) : ∀ t ∈ lex s, t.1 = 1 ∨ t.1 = 2 ∨ t.1 = 3 := (lex_frontF (X := []) (by decide) _ s (Nat.le_refl _) h).2
theorem lex_next {c : UInt8} {r q : List UInt8} {t : Tok} (h : one (c :: r) = (t, q)) : lex (c :: r) = t :: lex q := by rw [lex_cons, h]
theorem lex_blank {s : List UInt8} {c : UInt8} {r : List UInt8} (hs : s = c :: r) (hc : letter c = true) : lex (32 :: s) = (2, []) :: lex s := by
  refine lex_next ?_
  rw [one_k2 (kind_blank s)]
  have e : gap false 0 (32 :: s) = gap false 0 s := rfl
  have k : kind s ≠ 2 := by rw [hs, kind_letter hc]; decide
  rw [e, gap_stop k]
  rfl
/-- A text without a backslash bears no command. -/
theorem lex_no4 (n : Nat) : ∀ s : List UInt8, s.length ≤ n → (92 : UInt8) ∉ s → ∀ t ∈ lex s, t.1 ≠ 4 := by
  induction n with
  | zero =>
    intro s hs _
    obtain rfl : s = [] := List.eq_nil_of_length_eq_zero (by omega)
    intro t ht
    rw [lex_nil] at ht
    cases ht
  | succ n ih =>
    intro s hs h
    cases s with
    | nil => intro t ht; rw [lex_nil] at ht; cases ht
    | cons c r =>
      have hl := one_lt c r
      simp only [List.length_cons] at hs
      intro t ht
      rw [lex_cons] at ht
      rcases List.mem_cons.1 ht with rfl | ht
      · rcases kind_cases c r with k | k | k | k | k | k
        · rw [one_k2 k]; rcases gapKind_cases (gap false 0 (c :: r)).1 with e | e <;> simp only [e] <;> decide
        · obtain ⟨rfl, _⟩ := kind_four k
          exact absurd (by simp) h
        · rw [one_k5 k]; exact (by decide : (5 : Int) ≠ 4)
        · rw [one_k6 k]; exact (by decide : (6 : Int) ≠ 4)
        · rw [one_k7 k]; exact (by decide : (7 : Int) ≠ 4)
        · rw [one_k1 k]; exact (by decide : (1 : Int) ≠ 4)
      · obtain ⟨p, hp⟩ := one_in c r
        exact ih _ (by omega) (fun h9 => h (by rw [hp]; exact List.mem_append_right _ h9)) t ht
end Lx
namespace Ex
open Lx

/-! ### step by step -/
def Goes (fs : List Fi.F) (most : Nat) (a b : St) : Prop := ∃ k, ∀ n, run fs most (k + n) a = run fs most n b
theorem Goes.refl (fs : List Fi.F) (most : Nat) (a : St) : Goes fs most a a := ⟨0, fun n => by rw [Nat.zero_add]⟩
theorem Goes.trans {fs : List Fi.F} {most : Nat} {a b c : St} (h : Goes fs most a b) (k : Goes fs most b c) : Goes fs most a c := by
  obtain ⟨i, hi⟩ := h
  obtain ⟨j, hj⟩ := k
  exact ⟨i + j, fun n => by rw [Nat.add_assoc, hi, hj]⟩
theorem goes_step {fs : List Fi.F} {most : Nat} {a b : St} {t : Tok} {r : List Tok} (hi : a.inn = t :: r) (hs : step fs most { a with inn := r } t = (b, true)) : Goes fs most a b :=
  ⟨1, fun n => by rw [Nat.add_comm, run, hi]; simp only; rw [hs]; rfl⟩
theorem goes_put {fs : List Fi.F} {most : Nat} {a : St} {t : Tok} {r : List Tok} (hi : a.inn = t :: r) (ht : t.1 ≠ 4) (hl : a.outL.length < most) : Goes fs most a { a with inn := r, outL := a.outL ++ [t] } := by
  refine goes_step hi ?_
  unfold step
  rw [if_neg ht]
  unfold put
  rw [if_neg (show ¬ most ≤ a.outL.length by omega)]
theorem goes_puts {fs : List Fi.F} {most : Nat} : ∀ (l : List Tok) (a : St) (r : List Tok), a.inn = l ++ r → (∀ t ∈ l, t.1 ≠ 4) → a.outL.length + l.length ≤ most → Goes fs most a { a with inn := r, outL := a.outL ++ l }
  | [], a, r, hi, _, _ => by
    have e : ({ a with inn := r, outL := a.outL ++ [] } : St) = a := by
      rw [List.append_nil]
      have : a.inn = r := hi
      rw [← this]
    rw [e]
    exact Goes.refl _ _ _
  | t :: l, a, r, hi, ht, hl => by
    simp only [List.length_cons] at hl
    refine (goes_put (t := t) (r := l ++ r) hi (ht t (by simp)) (by omega)).trans ?_
    have h := goes_puts (fs := fs) (most := most) l { a with inn := l ++ r, outL := a.outL ++ [t] } r rfl (fun x hx => ht x (by simp [hx])) (by simp only [List.length_append, List.length_singleton]; omega)
    have e : (a.outL ++ [t]) ++ l = a.outL ++ t :: l := by simp
    simp only [e] at h
    exact h
theorem run_end {fs : List Fi.F} {most : Nat} {a : St} (h : a.inn = []) : ∀ n, run fs most n a = a
  | 0 => rfl
  | n + 1 => by rw [run, h]
theorem expand_goes {fs : List Fi.F} {main : List UInt8} {fuel most T : Nat} {b : St} (hft : ∀ f ∈ fs, f.2.length ≤ T) (h : Goes fs most (start fs main fuel) b) (hb : b.inn = []) : expand fs main fuel most = b := by
  obtain ⟨k, hk⟩ := h
  rw [expand_run hft (Nat.le_add_left _ k), hk]
  exact run_end hb _
theorem expand_stops {fs : List Fi.F} {main : List UInt8} {fuel most T : Nat} {a b : St} {t : Tok} {r : List Tok} (hft : ∀ f ∈ fs, f.2.length ≤ T) (h : Goes fs most (start fs main fuel) a) (hi : a.inn = t :: r) (hs : step fs most { a with inn := r } t = (b, false)) : expand fs main fuel most = b := by
  obtain ⟨k, hk⟩ := h
  have hn : mu (most + (start fs main fuel).inn.length) (start fs main fuel) ≤ k + (mu (most + (start fs main fuel).inn.length) (start fs main fuel) + 1) := by omega
  rw [expand_run hft hn, hk, run, hi]
  simp only
  rw [hs]
  rfl

/-! ### groups -/
theorem args_zero (l : List Tok) : Mx.args 0 l = some ([], 0) := rfl
theorem args_wrap {x : List Tok} (h : Mx.bal 0 x = some 0) (n : Nat) (r : List Tok) : Mx.args (n + 1) ((5, []) :: (x ++ (6, []) :: r)) = (Mx.args n r).map fun y => (x :: y.1, x.length + 2 + y.2) := by
  have hg : Mx.group ((5, []) :: (x ++ (6, []) :: r)) = some (x.length + 2) := by
    rw [Mx.group, if_pos rfl, Mx.close]
    have h1 : Mx.step 0 ((5, []) : Tok) = 1 := rfl
    have h2 : Mx.step 1 ((6, []) : Tok) = 0 := rfl
    rw [h1, if_neg (by decide), Mx.close_bal x 0 0 _ h, Mx.close]
    rw [show Mx.step (0 + 1) ((6, []) : Tok) = 0 from h2, if_pos rfl]
    simp; omega
  have hs : Mx.spaces ((5, []) :: (x ++ (6, []) :: r)) = 0 := rfl
  rw [Mx.args, hs]
  simp only [List.drop_zero, Nat.zero_add]
  rw [hg]
  have hd : ((5, []) :: (x ++ (6, []) :: r)).drop (x.length + 2) = r := by
    rw [show x.length + 2 = (x.length + 1) + 1 from rfl, List.drop_succ_cons]
    simp [List.drop_append]
  have ht : (((5, []) :: (x ++ (6, []) :: r)).drop 1).take (x.length + 2 - 2) = x := by simp
  simp only
  rw [hd, ht]
theorem args_gap (n : Nat) (r : List Tok) : Mx.args (n + 1) ((2, []) :: r) = (Mx.args (n + 1) r).map fun y => (y.1, y.2 + 1) := by
  have hs : Mx.spaces ((2, []) :: r) = Mx.spaces r + 1 := rfl
  rw [Mx.args, Mx.args, hs, List.drop_succ_cons]
  cases hg : Mx.group (r.drop (Mx.spaces r)) with
  | none => rfl
  | some g =>
    simp only
    rw [show Mx.spaces r + 1 + g = Mx.spaces r + g + 1 by omega, List.drop_succ_cons, List.drop_succ_cons, Option.map_map]
    congr 1
    funext y
    simp only [Function.comp]
    congr 1
    omega
theorem gr_args {l : List Tok} {n k : Nat} {x : List (List Tok)} {tq : Nat} (hn : n ≤ 9) (h : Mx.args n l = some (x, tq)) (hw : (x.take k).all (fun g => (wordOf g).2) = true) : gr l (n : Int) k = some (x, (x.take k).map (fun g => (wordOf g).1), l.drop tq) := by
  have e : argsAt l 0 (n : Int) = (x, (tq : Int), 0) := by
    unfold argsAt
    rw [if_neg (by omega)]
    simp only [Int.toNat_natCast, Int.toNat_zero, List.drop_zero]
    rw [h]
    simp [ares]
  unfold gr
  rw [e]
  simp only
  rw [if_pos ⟨trivial, hw⟩]
  simp
theorem bal_plain : ∀ {l : List Tok}, (∀ t ∈ l, t.1 = 1 ∨ t.1 = 2 ∨ t.1 = 3) → ∀ d, Mx.bal d l = some d
  | [], _, d => rfl
  | t :: l, h, d => by
    have ht := h t (by simp)
    have e : Mx.stepB d t = some d := by
      unfold Mx.stepB
      rw [if_neg (by omega), if_neg (by omega)]
    rw [Mx.bal, e]
    exact bal_plain (fun x hx => h x (by simp [hx])) d
theorem fill_plain {l : List Tok} (h : ∀ t ∈ l, t.1 = 1 ∨ t.1 = 2 ∨ t.1 = 3) (ls : List (List Tok)) : Mx.fill ls l = l := by
  unfold Mx.fill
  induction l with
  | nil => rfl
  | cons t l ih =>
    have ht := h t (by simp)
    rw [List.flatMap_cons, ih (fun x hx => h x (by simp [hx]))]
    unfold Mx.fillOne
    rw [if_neg (by omega)]
    rfl
theorem no4_plain {l : List Tok} (h : ∀ t ∈ l, t.1 = 1 ∨ t.1 = 2 ∨ t.1 = 3) : ∀ t ∈ l, t.1 ≠ 4 := fun t ht => by have := h t ht; omega
end Ex
end Go.Proofs.YteahcmgdlbpmiaaGreatDoor

namespace Go.Proofs.YteahcmgdlbpmiaaGreatDoor
namespace Ex
open Lx

theorem seg_p (X : List UInt8) : lex (92 :: 100 :: 101 :: 102 :: 123 :: 110 :: 101 :: 118 :: 101 :: 114 :: 125 :: 123 :: 50 :: 125 :: 123 :: 35 :: 49 :: 32 :: 120 :: 32 :: 35 :: 50 :: 125 :: X) = (4, sDef) :: (5, []) :: (1, [110, 101, 118, 101, 114]) :: (6, []) :: (5, []) :: (1, [50]) :: (6, []) :: (5, []) :: (7, [49]) :: (2, []) :: (1, [120]) :: (2, []) :: (7, [50]) :: (6, []) :: lex X := by
  rw [lex_next (show one (92 :: 100 :: 101 :: 102 :: 123 :: 110 :: 101 :: 118 :: 101 :: 114 :: 125 :: 123 :: 50 :: 125 :: 123 :: 35 :: 49 :: 32 :: 120 :: 32 :: 35 :: 50 :: 125 :: X) = ((4, sDef), 123 :: 110 :: 101 :: 118 :: 101 :: 114 :: 125 :: 123 :: 50 :: 125 :: 123 :: 35 :: 49 :: 32 :: 120 :: 32 :: 35 :: 50 :: 125 :: X) from rfl)]
  rw [lex_next (show one (123 :: 110 :: 101 :: 118 :: 101 :: 114 :: 125 :: 123 :: 50 :: 125 :: 123 :: 35 :: 49 :: 32 :: 120 :: 32 :: 35 :: 50 :: 125 :: X) = ((5, []), 110 :: 101 :: 118 :: 101 :: 114 :: 125 :: 123 :: 50 :: 125 :: 123 :: 35 :: 49 :: 32 :: 120 :: 32 :: 35 :: 50 :: 125 :: X) from rfl)]
  rw [lex_next (show one (110 :: 101 :: 118 :: 101 :: 114 :: 125 :: 123 :: 50 :: 125 :: 123 :: 35 :: 49 :: 32 :: 120 :: 32 :: 35 :: 50 :: 125 :: X) = ((1, [110, 101, 118, 101, 114]), 125 :: 123 :: 50 :: 125 :: 123 :: 35 :: 49 :: 32 :: 120 :: 32 :: 35 :: 50 :: 125 :: X) from rfl)]
  rw [lex_next (show one (125 :: 123 :: 50 :: 125 :: 123 :: 35 :: 49 :: 32 :: 120 :: 32 :: 35 :: 50 :: 125 :: X) = ((6, []), 123 :: 50 :: 125 :: 123 :: 35 :: 49 :: 32 :: 120 :: 32 :: 35 :: 50 :: 125 :: X) from rfl)]
  rw [lex_next (show one (123 :: 50 :: 125 :: 123 :: 35 :: 49 :: 32 :: 120 :: 32 :: 35 :: 50 :: 125 :: X) = ((5, []), 50 :: 125 :: 123 :: 35 :: 49 :: 32 :: 120 :: 32 :: 35 :: 50 :: 125 :: X) from rfl)]
  rw [lex_next (show one (50 :: 125 :: 123 :: 35 :: 49 :: 32 :: 120 :: 32 :: 35 :: 50 :: 125 :: X) = ((1, [50]), 125 :: 123 :: 35 :: 49 :: 32 :: 120 :: 32 :: 35 :: 50 :: 125 :: X) from rfl)]
  rw [lex_next (show one (125 :: 123 :: 35 :: 49 :: 32 :: 120 :: 32 :: 35 :: 50 :: 125 :: X) = ((6, []), 123 :: 35 :: 49 :: 32 :: 120 :: 32 :: 35 :: 50 :: 125 :: X) from rfl)]
  rw [lex_next (show one (123 :: 35 :: 49 :: 32 :: 120 :: 32 :: 35 :: 50 :: 125 :: X) = ((5, []), 35 :: 49 :: 32 :: 120 :: 32 :: 35 :: 50 :: 125 :: X) from rfl)]
  rw [lex_next (show one (35 :: 49 :: 32 :: 120 :: 32 :: 35 :: 50 :: 125 :: X) = ((7, [49]), 32 :: 120 :: 32 :: 35 :: 50 :: 125 :: X) from rfl)]
  rw [lex_next (show one (32 :: 120 :: 32 :: 35 :: 50 :: 125 :: X) = ((2, []), 120 :: 32 :: 35 :: 50 :: 125 :: X) from rfl)]
  rw [lex_next (show one (120 :: 32 :: 35 :: 50 :: 125 :: X) = ((1, [120]), 32 :: 35 :: 50 :: 125 :: X) from rfl)]
  rw [lex_next (show one (32 :: 35 :: 50 :: 125 :: X) = ((2, []), 35 :: 50 :: 125 :: X) from rfl)]
  rw [lex_next (show one (35 :: 50 :: 125 :: X) = ((7, [50]), 125 :: X) from rfl)]
  rw [lex_next (show one (125 :: X) = ((6, []), X) from rfl)]
theorem seg_a1 (X : List UInt8) : lex (92 :: 100 :: 101 :: 102 :: 123 :: 112 :: 97 :: 105 :: 114 :: 125 :: 123 :: 50 :: 125 :: 123 :: 35 :: 50 :: 32 :: 35 :: 49 :: 125 :: 92 :: 112 :: 97 :: 105 :: 114 :: 123 :: X) = (4, sDef) :: (5, []) :: (1, [112, 97, 105, 114]) :: (6, []) :: (5, []) :: (1, [50]) :: (6, []) :: (5, []) :: (7, [50]) :: (2, []) :: (7, [49]) :: (6, []) :: (4, [112, 97, 105, 114]) :: (5, []) :: lex X := by
  rw [lex_next (show one (92 :: 100 :: 101 :: 102 :: 123 :: 112 :: 97 :: 105 :: 114 :: 125 :: 123 :: 50 :: 125 :: 123 :: 35 :: 50 :: 32 :: 35 :: 49 :: 125 :: 92 :: 112 :: 97 :: 105 :: 114 :: 123 :: X) = ((4, sDef), 123 :: 112 :: 97 :: 105 :: 114 :: 125 :: 123 :: 50 :: 125 :: 123 :: 35 :: 50 :: 32 :: 35 :: 49 :: 125 :: 92 :: 112 :: 97 :: 105 :: 114 :: 123 :: X) from rfl)]
  rw [lex_next (show one (123 :: 112 :: 97 :: 105 :: 114 :: 125 :: 123 :: 50 :: 125 :: 123 :: 35 :: 50 :: 32 :: 35 :: 49 :: 125 :: 92 :: 112 :: 97 :: 105 :: 114 :: 123 :: X) = ((5, []), 112 :: 97 :: 105 :: 114 :: 125 :: 123 :: 50 :: 125 :: 123 :: 35 :: 50 :: 32 :: 35 :: 49 :: 125 :: 92 :: 112 :: 97 :: 105 :: 114 :: 123 :: X) from rfl)]
  rw [lex_next (show one (112 :: 97 :: 105 :: 114 :: 125 :: 123 :: 50 :: 125 :: 123 :: 35 :: 50 :: 32 :: 35 :: 49 :: 125 :: 92 :: 112 :: 97 :: 105 :: 114 :: 123 :: X) = ((1, [112, 97, 105, 114]), 125 :: 123 :: 50 :: 125 :: 123 :: 35 :: 50 :: 32 :: 35 :: 49 :: 125 :: 92 :: 112 :: 97 :: 105 :: 114 :: 123 :: X) from rfl)]
  rw [lex_next (show one (125 :: 123 :: 50 :: 125 :: 123 :: 35 :: 50 :: 32 :: 35 :: 49 :: 125 :: 92 :: 112 :: 97 :: 105 :: 114 :: 123 :: X) = ((6, []), 123 :: 50 :: 125 :: 123 :: 35 :: 50 :: 32 :: 35 :: 49 :: 125 :: 92 :: 112 :: 97 :: 105 :: 114 :: 123 :: X) from rfl)]
  rw [lex_next (show one (123 :: 50 :: 125 :: 123 :: 35 :: 50 :: 32 :: 35 :: 49 :: 125 :: 92 :: 112 :: 97 :: 105 :: 114 :: 123 :: X) = ((5, []), 50 :: 125 :: 123 :: 35 :: 50 :: 32 :: 35 :: 49 :: 125 :: 92 :: 112 :: 97 :: 105 :: 114 :: 123 :: X) from rfl)]
  rw [lex_next (show one (50 :: 125 :: 123 :: 35 :: 50 :: 32 :: 35 :: 49 :: 125 :: 92 :: 112 :: 97 :: 105 :: 114 :: 123 :: X) = ((1, [50]), 125 :: 123 :: 35 :: 50 :: 32 :: 35 :: 49 :: 125 :: 92 :: 112 :: 97 :: 105 :: 114 :: 123 :: X) from rfl)]
  rw [lex_next (show one (125 :: 123 :: 35 :: 50 :: 32 :: 35 :: 49 :: 125 :: 92 :: 112 :: 97 :: 105 :: 114 :: 123 :: X) = ((6, []), 123 :: 35 :: 50 :: 32 :: 35 :: 49 :: 125 :: 92 :: 112 :: 97 :: 105 :: 114 :: 123 :: X) from rfl)]
  rw [lex_next (show one (123 :: 35 :: 50 :: 32 :: 35 :: 49 :: 125 :: 92 :: 112 :: 97 :: 105 :: 114 :: 123 :: X) = ((5, []), 35 :: 50 :: 32 :: 35 :: 49 :: 125 :: 92 :: 112 :: 97 :: 105 :: 114 :: 123 :: X) from rfl)]
  rw [lex_next (show one (35 :: 50 :: 32 :: 35 :: 49 :: 125 :: 92 :: 112 :: 97 :: 105 :: 114 :: 123 :: X) = ((7, [50]), 32 :: 35 :: 49 :: 125 :: 92 :: 112 :: 97 :: 105 :: 114 :: 123 :: X) from rfl)]
  rw [lex_next (show one (32 :: 35 :: 49 :: 125 :: 92 :: 112 :: 97 :: 105 :: 114 :: 123 :: X) = ((2, []), 35 :: 49 :: 125 :: 92 :: 112 :: 97 :: 105 :: 114 :: 123 :: X) from rfl)]
  rw [lex_next (show one (35 :: 49 :: 125 :: 92 :: 112 :: 97 :: 105 :: 114 :: 123 :: X) = ((7, [49]), 125 :: 92 :: 112 :: 97 :: 105 :: 114 :: 123 :: X) from rfl)]
  rw [lex_next (show one (125 :: 92 :: 112 :: 97 :: 105 :: 114 :: 123 :: X) = ((6, []), 92 :: 112 :: 97 :: 105 :: 114 :: 123 :: X) from rfl)]
  rw [lex_next (show one (92 :: 112 :: 97 :: 105 :: 114 :: 123 :: X) = ((4, [112, 97, 105, 114]), 123 :: X) from rfl)]
  rw [lex_next (show one (123 :: X) = ((5, []), X) from rfl)]
theorem seg_a2 (X : List UInt8) : lex (125 :: 32 :: 123 :: X) = (6, []) :: (2, []) :: (5, []) :: lex X := by
  rw [lex_next (show one (125 :: 32 :: 123 :: X) = ((6, []), 32 :: 123 :: X) from rfl)]
  rw [lex_next (show one (32 :: 123 :: X) = ((2, []), 123 :: X) from rfl)]
  rw [lex_next (show one (123 :: X) = ((5, []), X) from rfl)]
theorem seg_b1 (X : List UInt8) : lex (92 :: 100 :: 101 :: 102 :: 123 :: 105 :: 110 :: 125 :: 123 :: 48 :: 125 :: 123 :: 92 :: 111 :: 117 :: 116 :: 125 :: 92 :: 100 :: 101 :: 102 :: 123 :: 111 :: 117 :: 116 :: 125 :: 123 :: 48 :: 125 :: 123 :: X) = (4, sDef) :: (5, []) :: (1, [105, 110]) :: (6, []) :: (5, []) :: (1, [48]) :: (6, []) :: (5, []) :: (4, [111, 117, 116]) :: (6, []) :: (4, sDef) :: (5, []) :: (1, [111, 117, 116]) :: (6, []) :: (5, []) :: (1, [48]) :: (6, []) :: (5, []) :: lex X := by
  rw [lex_next (show one (92 :: 100 :: 101 :: 102 :: 123 :: 105 :: 110 :: 125 :: 123 :: 48 :: 125 :: 123 :: 92 :: 111 :: 117 :: 116 :: 125 :: 92 :: 100 :: 101 :: 102 :: 123 :: 111 :: 117 :: 116 :: 125 :: 123 :: 48 :: 125 :: 123 :: X) = ((4, sDef), 123 :: 105 :: 110 :: 125 :: 123 :: 48 :: 125 :: 123 :: 92 :: 111 :: 117 :: 116 :: 125 :: 92 :: 100 :: 101 :: 102 :: 123 :: 111 :: 117 :: 116 :: 125 :: 123 :: 48 :: 125 :: 123 :: X) from rfl)]
  rw [lex_next (show one (123 :: 105 :: 110 :: 125 :: 123 :: 48 :: 125 :: 123 :: 92 :: 111 :: 117 :: 116 :: 125 :: 92 :: 100 :: 101 :: 102 :: 123 :: 111 :: 117 :: 116 :: 125 :: 123 :: 48 :: 125 :: 123 :: X) = ((5, []), 105 :: 110 :: 125 :: 123 :: 48 :: 125 :: 123 :: 92 :: 111 :: 117 :: 116 :: 125 :: 92 :: 100 :: 101 :: 102 :: 123 :: 111 :: 117 :: 116 :: 125 :: 123 :: 48 :: 125 :: 123 :: X) from rfl)]
  rw [lex_next (show one (105 :: 110 :: 125 :: 123 :: 48 :: 125 :: 123 :: 92 :: 111 :: 117 :: 116 :: 125 :: 92 :: 100 :: 101 :: 102 :: 123 :: 111 :: 117 :: 116 :: 125 :: 123 :: 48 :: 125 :: 123 :: X) = ((1, [105, 110]), 125 :: 123 :: 48 :: 125 :: 123 :: 92 :: 111 :: 117 :: 116 :: 125 :: 92 :: 100 :: 101 :: 102 :: 123 :: 111 :: 117 :: 116 :: 125 :: 123 :: 48 :: 125 :: 123 :: X) from rfl)]
  rw [lex_next (show one (125 :: 123 :: 48 :: 125 :: 123 :: 92 :: 111 :: 117 :: 116 :: 125 :: 92 :: 100 :: 101 :: 102 :: 123 :: 111 :: 117 :: 116 :: 125 :: 123 :: 48 :: 125 :: 123 :: X) = ((6, []), 123 :: 48 :: 125 :: 123 :: 92 :: 111 :: 117 :: 116 :: 125 :: 92 :: 100 :: 101 :: 102 :: 123 :: 111 :: 117 :: 116 :: 125 :: 123 :: 48 :: 125 :: 123 :: X) from rfl)]
  rw [lex_next (show one (123 :: 48 :: 125 :: 123 :: 92 :: 111 :: 117 :: 116 :: 125 :: 92 :: 100 :: 101 :: 102 :: 123 :: 111 :: 117 :: 116 :: 125 :: 123 :: 48 :: 125 :: 123 :: X) = ((5, []), 48 :: 125 :: 123 :: 92 :: 111 :: 117 :: 116 :: 125 :: 92 :: 100 :: 101 :: 102 :: 123 :: 111 :: 117 :: 116 :: 125 :: 123 :: 48 :: 125 :: 123 :: X) from rfl)]
  rw [lex_next (show one (48 :: 125 :: 123 :: 92 :: 111 :: 117 :: 116 :: 125 :: 92 :: 100 :: 101 :: 102 :: 123 :: 111 :: 117 :: 116 :: 125 :: 123 :: 48 :: 125 :: 123 :: X) = ((1, [48]), 125 :: 123 :: 92 :: 111 :: 117 :: 116 :: 125 :: 92 :: 100 :: 101 :: 102 :: 123 :: 111 :: 117 :: 116 :: 125 :: 123 :: 48 :: 125 :: 123 :: X) from rfl)]
  rw [lex_next (show one (125 :: 123 :: 92 :: 111 :: 117 :: 116 :: 125 :: 92 :: 100 :: 101 :: 102 :: 123 :: 111 :: 117 :: 116 :: 125 :: 123 :: 48 :: 125 :: 123 :: X) = ((6, []), 123 :: 92 :: 111 :: 117 :: 116 :: 125 :: 92 :: 100 :: 101 :: 102 :: 123 :: 111 :: 117 :: 116 :: 125 :: 123 :: 48 :: 125 :: 123 :: X) from rfl)]
  rw [lex_next (show one (123 :: 92 :: 111 :: 117 :: 116 :: 125 :: 92 :: 100 :: 101 :: 102 :: 123 :: 111 :: 117 :: 116 :: 125 :: 123 :: 48 :: 125 :: 123 :: X) = ((5, []), 92 :: 111 :: 117 :: 116 :: 125 :: 92 :: 100 :: 101 :: 102 :: 123 :: 111 :: 117 :: 116 :: 125 :: 123 :: 48 :: 125 :: 123 :: X) from rfl)]
  rw [lex_next (show one (92 :: 111 :: 117 :: 116 :: 125 :: 92 :: 100 :: 101 :: 102 :: 123 :: 111 :: 117 :: 116 :: 125 :: 123 :: 48 :: 125 :: 123 :: X) = ((4, [111, 117, 116]), 125 :: 92 :: 100 :: 101 :: 102 :: 123 :: 111 :: 117 :: 116 :: 125 :: 123 :: 48 :: 125 :: 123 :: X) from rfl)]
  rw [lex_next (show one (125 :: 92 :: 100 :: 101 :: 102 :: 123 :: 111 :: 117 :: 116 :: 125 :: 123 :: 48 :: 125 :: 123 :: X) = ((6, []), 92 :: 100 :: 101 :: 102 :: 123 :: 111 :: 117 :: 116 :: 125 :: 123 :: 48 :: 125 :: 123 :: X) from rfl)]
  rw [lex_next (show one (92 :: 100 :: 101 :: 102 :: 123 :: 111 :: 117 :: 116 :: 125 :: 123 :: 48 :: 125 :: 123 :: X) = ((4, sDef), 123 :: 111 :: 117 :: 116 :: 125 :: 123 :: 48 :: 125 :: 123 :: X) from rfl)]
  rw [lex_next (show one (123 :: 111 :: 117 :: 116 :: 125 :: 123 :: 48 :: 125 :: 123 :: X) = ((5, []), 111 :: 117 :: 116 :: 125 :: 123 :: 48 :: 125 :: 123 :: X) from rfl)]
  rw [lex_next (show one (111 :: 117 :: 116 :: 125 :: 123 :: 48 :: 125 :: 123 :: X) = ((1, [111, 117, 116]), 125 :: 123 :: 48 :: 125 :: 123 :: X) from rfl)]
  rw [lex_next (show one (125 :: 123 :: 48 :: 125 :: 123 :: X) = ((6, []), 123 :: 48 :: 125 :: 123 :: X) from rfl)]
  rw [lex_next (show one (123 :: 48 :: 125 :: 123 :: X) = ((5, []), 48 :: 125 :: 123 :: X) from rfl)]
  rw [lex_next (show one (48 :: 125 :: 123 :: X) = ((1, [48]), 125 :: 123 :: X) from rfl)]
  rw [lex_next (show one (125 :: 123 :: X) = ((6, []), 123 :: X) from rfl)]
  rw [lex_next (show one (123 :: X) = ((5, []), X) from rfl)]
theorem seg_b2 (X : List UInt8) : lex (125 :: 92 :: 105 :: 110 :: 123 :: 125 :: 92 :: 100 :: 101 :: 102 :: 123 :: 111 :: 117 :: 116 :: 125 :: 123 :: 48 :: 125 :: 123 :: X) = (6, []) :: (4, [105, 110]) :: (5, []) :: (6, []) :: (4, sDef) :: (5, []) :: (1, [111, 117, 116]) :: (6, []) :: (5, []) :: (1, [48]) :: (6, []) :: (5, []) :: lex X := by
  rw [lex_next (show one (125 :: 92 :: 105 :: 110 :: 123 :: 125 :: 92 :: 100 :: 101 :: 102 :: 123 :: 111 :: 117 :: 116 :: 125 :: 123 :: 48 :: 125 :: 123 :: X) = ((6, []), 92 :: 105 :: 110 :: 123 :: 125 :: 92 :: 100 :: 101 :: 102 :: 123 :: 111 :: 117 :: 116 :: 125 :: 123 :: 48 :: 125 :: 123 :: X) from rfl)]
  rw [lex_next (show one (92 :: 105 :: 110 :: 123 :: 125 :: 92 :: 100 :: 101 :: 102 :: 123 :: 111 :: 117 :: 116 :: 125 :: 123 :: 48 :: 125 :: 123 :: X) = ((4, [105, 110]), 123 :: 125 :: 92 :: 100 :: 101 :: 102 :: 123 :: 111 :: 117 :: 116 :: 125 :: 123 :: 48 :: 125 :: 123 :: X) from rfl)]
  rw [lex_next (show one (123 :: 125 :: 92 :: 100 :: 101 :: 102 :: 123 :: 111 :: 117 :: 116 :: 125 :: 123 :: 48 :: 125 :: 123 :: X) = ((5, []), 125 :: 92 :: 100 :: 101 :: 102 :: 123 :: 111 :: 117 :: 116 :: 125 :: 123 :: 48 :: 125 :: 123 :: X) from rfl)]
  rw [lex_next (show one (125 :: 92 :: 100 :: 101 :: 102 :: 123 :: 111 :: 117 :: 116 :: 125 :: 123 :: 48 :: 125 :: 123 :: X) = ((6, []), 92 :: 100 :: 101 :: 102 :: 123 :: 111 :: 117 :: 116 :: 125 :: 123 :: 48 :: 125 :: 123 :: X) from rfl)]
  rw [lex_next (show one (92 :: 100 :: 101 :: 102 :: 123 :: 111 :: 117 :: 116 :: 125 :: 123 :: 48 :: 125 :: 123 :: X) = ((4, sDef), 123 :: 111 :: 117 :: 116 :: 125 :: 123 :: 48 :: 125 :: 123 :: X) from rfl)]
  rw [lex_next (show one (123 :: 111 :: 117 :: 116 :: 125 :: 123 :: 48 :: 125 :: 123 :: X) = ((5, []), 111 :: 117 :: 116 :: 125 :: 123 :: 48 :: 125 :: 123 :: X) from rfl)]
  rw [lex_next (show one (111 :: 117 :: 116 :: 125 :: 123 :: 48 :: 125 :: 123 :: X) = ((1, [111, 117, 116]), 125 :: 123 :: 48 :: 125 :: 123 :: X) from rfl)]
  rw [lex_next (show one (125 :: 123 :: 48 :: 125 :: 123 :: X) = ((6, []), 123 :: 48 :: 125 :: 123 :: X) from rfl)]
  rw [lex_next (show one (123 :: 48 :: 125 :: 123 :: X) = ((5, []), 48 :: 125 :: 123 :: X) from rfl)]
  rw [lex_next (show one (48 :: 125 :: 123 :: X) = ((1, [48]), 125 :: 123 :: X) from rfl)]
  rw [lex_next (show one (125 :: 123 :: X) = ((6, []), 123 :: X) from rfl)]
  rw [lex_next (show one (123 :: X) = ((5, []), X) from rfl)]
theorem seg_b3 : lex (125 :: 92 :: 105 :: 110 :: []) = (6, []) :: (4, [105, 110]) :: [] := by
  rw [lex_next (show one (125 :: 92 :: 105 :: 110 :: []) = ((6, []), 92 :: 105 :: 110 :: []) from rfl)]
  rw [lex_next (show one (92 :: 105 :: 110 :: []) = ((4, [105, 110]), []) from rfl)]
  rfl
theorem seg_c1 (X : List UInt8) : lex (92 :: 100 :: 101 :: 102 :: 123 :: 111 :: 110 :: 101 :: 125 :: 123 :: 48 :: 125 :: 123 :: X) = (4, sDef) :: (5, []) :: (1, [111, 110, 101]) :: (6, []) :: (5, []) :: (1, [48]) :: (6, []) :: (5, []) :: lex X := by
  rw [lex_next (show one (92 :: 100 :: 101 :: 102 :: 123 :: 111 :: 110 :: 101 :: 125 :: 123 :: 48 :: 125 :: 123 :: X) = ((4, sDef), 123 :: 111 :: 110 :: 101 :: 125 :: 123 :: 48 :: 125 :: 123 :: X) from rfl)]
  rw [lex_next (show one (123 :: 111 :: 110 :: 101 :: 125 :: 123 :: 48 :: 125 :: 123 :: X) = ((5, []), 111 :: 110 :: 101 :: 125 :: 123 :: 48 :: 125 :: 123 :: X) from rfl)]
  rw [lex_next (show one (111 :: 110 :: 101 :: 125 :: 123 :: 48 :: 125 :: 123 :: X) = ((1, [111, 110, 101]), 125 :: 123 :: 48 :: 125 :: 123 :: X) from rfl)]
  rw [lex_next (show one (125 :: 123 :: 48 :: 125 :: 123 :: X) = ((6, []), 123 :: 48 :: 125 :: 123 :: X) from rfl)]
  rw [lex_next (show one (123 :: 48 :: 125 :: 123 :: X) = ((5, []), 48 :: 125 :: 123 :: X) from rfl)]
  rw [lex_next (show one (48 :: 125 :: 123 :: X) = ((1, [48]), 125 :: 123 :: X) from rfl)]
  rw [lex_next (show one (125 :: 123 :: X) = ((6, []), 123 :: X) from rfl)]
  rw [lex_next (show one (123 :: X) = ((5, []), X) from rfl)]
theorem seg_c2 : lex (125 :: 92 :: 117 :: 110 :: 100 :: 101 :: 102 :: 123 :: 111 :: 110 :: 101 :: 125 :: 92 :: 111 :: 110 :: 101 :: []) = (6, []) :: (4, sUndef) :: (5, []) :: (1, [111, 110, 101]) :: (6, []) :: (4, [111, 110, 101]) :: [] := by
  rw [lex_next (show one (125 :: 92 :: 117 :: 110 :: 100 :: 101 :: 102 :: 123 :: 111 :: 110 :: 101 :: 125 :: 92 :: 111 :: 110 :: 101 :: []) = ((6, []), 92 :: 117 :: 110 :: 100 :: 101 :: 102 :: 123 :: 111 :: 110 :: 101 :: 125 :: 92 :: 111 :: 110 :: 101 :: []) from rfl)]
  rw [lex_next (show one (92 :: 117 :: 110 :: 100 :: 101 :: 102 :: 123 :: 111 :: 110 :: 101 :: 125 :: 92 :: 111 :: 110 :: 101 :: []) = ((4, sUndef), 123 :: 111 :: 110 :: 101 :: 125 :: 92 :: 111 :: 110 :: 101 :: []) from rfl)]
  rw [lex_next (show one (123 :: 111 :: 110 :: 101 :: 125 :: 92 :: 111 :: 110 :: 101 :: []) = ((5, []), 111 :: 110 :: 101 :: 125 :: 92 :: 111 :: 110 :: 101 :: []) from rfl)]
  rw [lex_next (show one (111 :: 110 :: 101 :: 125 :: 92 :: 111 :: 110 :: 101 :: []) = ((1, [111, 110, 101]), 125 :: 92 :: 111 :: 110 :: 101 :: []) from rfl)]
  rw [lex_next (show one (125 :: 92 :: 111 :: 110 :: 101 :: []) = ((6, []), 92 :: 111 :: 110 :: 101 :: []) from rfl)]
  rw [lex_next (show one (92 :: 111 :: 110 :: 101 :: []) = ((4, [111, 110, 101]), []) from rfl)]
  rfl
theorem seg_end : lex (125 :: []) = (6, []) :: [] := by
  rw [lex_next (show one (125 :: []) = ((6, []), []) from rfl)]
  rfl
theorem seg_oc (X : List UInt8) : lex (123 :: 125 :: X) = (5, []) :: (6, []) :: lex X := by
  rw [lex_next (show one (123 :: 125 :: X) = ((5, []), 125 :: X) from rfl)]
  rw [lex_next (show one (125 :: X) = ((6, []), X) from rfl)]

abbrev textP (t : List UInt8) : List UInt8 := [92, 100, 101, 102, 123, 110, 101, 118, 101, 114, 125, 123, 50, 125, 123, 35, 49, 32, 120, 32, 35, 50, 125] ++ t
theorem start_one (s : List UInt8) (fuel : Nat) : start [([109], s)] [109] fuel = ⟨lex s, [], fuel, [], [[109]], [], 0⟩ := rfl
theorem one_len (s : List UInt8) : ∀ f ∈ [(([109] : List UInt8), s)], f.2.length ≤ s.length := fun f hf => by rw [List.mem_singleton.1 hf]; exact Nat.le_refl _
/-- A text without a backslash is put out as its tokens are. -/
theorem plain_fits {t : List UInt8} (h : (92 : UInt8) ∉ t) (hl : (lex t).length ≤ 100) : expand [([109], t)] [109] 3 100 = ⟨[], [], 3, lex t, [[109]], [], 0⟩ := by
  refine expand_goes (one_len t) ?_ rfl
  rw [start_one]
  exact goes_puts (lex t) ⟨lex t, [], 3, [], [[109]], [], 0⟩ [] (by simp) (lex_no4 _ t (Nat.le_refl _) h) (by simpa using hl)
theorem plain_big {t : List UInt8} (h : (92 : UInt8) ∉ t) (hl : 100 < (lex t).length) : (expand [([109], t)] [109] 3 100).outL.length = 100 ∧ (expand [([109], t)] [109] 3 100).notes.length = 1 := by
  have h4 := lex_no4 _ t (Nat.le_refl _) h
  have hg : Goes [([109], t)] 100 (start [([109], t)] [109] 3) ⟨(lex t).drop 100, [], 3, (lex t).take 100, [[109]], [], 0⟩ := by
    rw [start_one]
    have h9 := goes_puts (fs := [([109], t)]) (most := 100) ((lex t).take 100) ⟨lex t, [], 3, [], [[109]], [], 0⟩ ((lex t).drop 100) (by simp) (fun x hx => h4 x (List.mem_of_mem_take hx)) (by simp only [List.length_take, List.length_nil]; omega)
    simpa using h9
  obtain ⟨x, r, hx⟩ : ∃ x r, (lex t).drop 100 = x :: r := by
    cases hd : (lex t).drop 100 with
    | nil => have := congrArg List.length hd; rw [List.length_drop, List.length_nil] at this; omega
    | cons x r => exact ⟨x, r, rfl⟩
  have hx4 : x.1 ≠ 4 := h4 x (List.mem_of_mem_drop (by rw [hx]; simp))
  have hlen : ((lex t).take 100).length = 100 := by rw [List.length_take]; omega
  have hs : step [([109], t)] 100 { (⟨(lex t).drop 100, [], 3, (lex t).take 100, [[109]], [], 0⟩ : St) with inn := r } x = (note ⟨r, [], 3, (lex t).take 100, [[109]], [], 0⟩ 3 [], false) := by
    unfold step
    rw [if_neg hx4]
    unfold put
    simp only
    rw [hlen, if_pos (Nat.le_refl _)]
  rw [expand_stops (one_len t) hg hx hs]
  exact ⟨hlen, rfl⟩
/-- What a definition does: three groups. -/
theorem def_step {fs : List Fi.F} {most : Nat} {st : St} {name d : List UInt8} {x : List Tok} {r : List Tok} (hi : st.inn = (4, sDef) :: (5, []) :: (1, name) :: (6, []) :: (5, []) :: (1, d) :: (6, []) :: (5, []) :: (x ++ (6, []) :: r)) (hx : Mx.bal 0 x = some 0) (hd : okd d = true) {ms : List Mac} (hm : putM st.macs (name, digit d, x) = (ms, 0)) :
    Goes fs most st { st with inn := r, macs := ms } := by
  refine goes_step hi ?_
  have ha : Mx.args 3 ((5, []) :: (1, name) :: (6, []) :: (5, []) :: (1, d) :: (6, []) :: (5, []) :: (x ++ (6, []) :: r)) = some ([[(1, name)], [(1, d)], x], x.length + 8) := by
    rw [show ((5, []) :: (1, name) :: (6, []) :: (5, []) :: (1, d) :: (6, []) :: (5, []) :: (x ++ (6, []) :: r) : List Tok) = (5, []) :: ([(1, name)] ++ (6, []) :: ((5, []) :: ([(1, d)] ++ (6, []) :: ((5, []) :: (x ++ (6, []) :: r))))) from rfl]
    rw [args_wrap (bal_plain (by simp) 0), args_wrap (bal_plain (by simp) 0), args_wrap hx, args_zero]
    simp; omega
  have hg := gr_args (k := 2) (by decide) ha (by simp [wordOf])
  have hdr : ((5, []) :: (1, name) :: (6, []) :: (5, []) :: (1, d) :: (6, []) :: (5, []) :: (x ++ (6, []) :: r) : List Tok).drop (x.length + 8) = r := by
    rw [show x.length + 8 = x.length + 1 + 1 + 1 + 1 + 1 + 1 + 1 + 1 from rfl]
    simp only [List.drop_succ_cons]
    simp [List.drop_append]
  rw [hdr] at hg
  have hw : ([[(1, name)], [(1, d)], x].take 2).map (fun g => (wordOf g).1) = [name, d] := by simp [wordOf]
  rw [hw] at hg
  have hc : cmd fs most { st with inn := (5, []) :: (1, name) :: (6, []) :: (5, []) :: (1, d) :: (6, []) :: (5, []) :: (x ++ (6, []) :: r) } sDef = some { st with inn := r, macs := ms } := by
    unfold cmd
    rw [if_pos rfl]
    unfold doDef
    simp only
    rw [show ((3 : Nat) : Int) = 3 from rfl] at hg
    rw [hg]
    simp only [List.getD_cons_zero, List.getD_cons_succ]
    rw [if_pos hd, hm]
    simp
  unfold step
  rw [if_pos rfl]
  simp only
  rw [hc]
/-- What the call of a macro does. -/
theorem call_step {fs : List Fi.F} {most : Nat} {st : St} {s : List UInt8} {q r : List Tok} {m : Mac} {n : Nat} {x : List (List Tok)} {tq : Nat} (hi : st.inn = (4, s) :: q) (h1 : s ≠ sDef) (h2 : s ≠ sUndef) (h3 : s ≠ sIfdef) (h4 : s ≠ sInc) (hm : getM st.macs s = (m, true)) (hn : m.2.1 = (n : Int)) (hn9 : n ≤ 9)
    (ha : Mx.args n q = some (x, tq)) (hr : q.drop tq = r) (hf : st.fuel ≠ 0) (hl : (Mx.fill x m.2.2).length + r.length ≤ most) :
    Goes fs most st { st with inn := Mx.fill x m.2.2 ++ r, fuel := st.fuel - 1, used := st.used + 1 } := by
  refine goes_step hi ?_
  have hg := gr_args (k := 0) hn9 ha (by simp)
  rw [hr] at hg
  have hc : cmd fs most { st with inn := q } s = some { st with inn := Mx.fill x m.2.2 ++ r, fuel := st.fuel - 1, used := st.used + 1 } := by
    unfold cmd
    rw [if_neg h1, if_neg h2, if_neg h3, if_neg h4]
    simp only
    rw [hm, if_pos rfl]
    unfold doCall
    simp only
    rw [hn, hg]
    simp only
    rw [if_neg hf]
    unfold come burnt
    simp only
    rw [if_neg (by omega)]
  unfold step
  rw [if_pos rfl]
  simp only
  rw [hc]

theorem lex_textP (t : List UInt8) : lex (textP t) = (4, sDef) :: (5, []) :: (1, [110, 101, 118, 101, 114]) :: (6, []) :: (5, []) :: (1, [50]) :: (6, []) :: (5, []) :: (7, [49]) :: (2, []) :: (1, [120]) :: (2, []) :: (7, [50]) :: (6, []) :: lex t := seg_p t
theorem plain_def {t : List UInt8} (h : (92 : UInt8) ∉ t) (hl : (lex t).length ≤ 100) : expand [([109], textP t)] [109] 3 100 = ⟨[], [([110, 101, 118, 101, 114], 2, [(7, [49]), (2, []), (1, [120]), (2, []), (7, [50])])], 3, lex t, [[109]], [], 0⟩ := by
  refine expand_goes (one_len _) ?_ rfl
  rw [start_one, lex_textP]
  refine (def_step (st := ⟨_, [], 3, [], [[109]], [], 0⟩) (name := [110, 101, 118, 101, 114]) (d := [50]) (x := [(7, [49]), (2, []), (1, [120]), (2, []), (7, [50])]) (r := lex t) rfl (by decide +kernel) (by decide +kernel) (ms := [([110, 101, 118, 101, 114], 2, [(7, [49]), (2, []), (1, [120]), (2, []), (7, [50])])]) rfl).trans ?_
  exact goes_puts (lex t) ⟨lex t, _, 3, [], [[109]], [], 0⟩ [] (by simp) (lex_no4 _ t (Nat.le_refl _) h) (by simpa using hl)


/-! ### calls -/
theorem kind_brace (X : List UInt8) : kind (125 :: X) ≠ 1 := by show (6 : Int) ≠ 1; decide
abbrev textA (s t : List UInt8) : List UInt8 := [92, 100, 101, 102, 123, 112, 97, 105, 114, 125, 123, 50, 125, 123, 35, 50, 32, 35, 49, 125, 92, 112, 97, 105, 114, 123] ++ (s ++ ([125, 32, 123] ++ (t ++ [125])))
abbrev textB (s t : List UInt8) : List UInt8 := [92, 100, 101, 102, 123, 105, 110, 125, 123, 48, 125, 123, 92, 111, 117, 116, 125, 92, 100, 101, 102, 123, 111, 117, 116, 125, 123, 48, 125, 123] ++ (s ++ ([125, 92, 105, 110, 123, 125, 92, 100, 101, 102, 123, 111, 117, 116, 125, 123, 48, 125, 123] ++ (t ++ [125, 92, 105, 110])))
abbrev textC (s : List UInt8) : List UInt8 := [92, 100, 101, 102, 123, 111, 110, 101, 125, 123, 48, 125, 123] ++ (s ++ [125, 92, 117, 110, 100, 101, 102, 123, 111, 110, 101, 125, 92, 111, 110, 101])
theorem lex_textA {s t : List UInt8} (hs : Plain s) (ht : Plain t) : lex (textA s t) = (4, sDef) :: (5, []) :: (1, [112, 97, 105, 114]) :: (6, []) :: (5, []) :: (1, [50]) :: (6, []) :: (5, []) :: (7, [50]) :: (2, []) :: (7, [49]) :: (6, []) :: (4, [112, 97, 105, 114]) :: (5, []) :: (lex s ++ (6, []) :: (2, []) :: (5, []) :: (lex t ++ [(6, [])])) := by
  rw [show textA s t = 92 :: 100 :: 101 :: 102 :: 123 :: 112 :: 97 :: 105 :: 114 :: 125 :: 123 :: 50 :: 125 :: 123 :: 35 :: 50 :: 32 :: 35 :: 49 :: 125 :: 92 :: 112 :: 97 :: 105 :: 114 :: 123 :: (s ++ (125 :: 32 :: 123 :: (t ++ [125]))) from rfl, seg_a1, lex_front hs (kind_brace _), seg_a2, lex_front ht (kind_brace _), seg_end]
theorem lex_textB {s t : List UInt8} (hs : Plain s) (ht : Plain t) : lex (textB s t) = (4, sDef) :: (5, []) :: (1, [105, 110]) :: (6, []) :: (5, []) :: (1, [48]) :: (6, []) :: (5, []) :: (4, [111, 117, 116]) :: (6, []) :: (4, sDef) :: (5, []) :: (1, [111, 117, 116]) :: (6, []) :: (5, []) :: (1, [48]) :: (6, []) :: (5, []) :: (lex s ++ (6, []) :: (4, [105, 110]) :: (5, []) :: (6, []) :: (4, sDef) :: (5, []) :: (1, [111, 117, 116]) :: (6, []) :: (5, []) :: (1, [48]) :: (6, []) :: (5, []) :: (lex t ++ [(6, []), (4, [105, 110])])) := by
  rw [show textB s t = 92 :: 100 :: 101 :: 102 :: 123 :: 105 :: 110 :: 125 :: 123 :: 48 :: 125 :: 123 :: 92 :: 111 :: 117 :: 116 :: 125 :: 92 :: 100 :: 101 :: 102 :: 123 :: 111 :: 117 :: 116 :: 125 :: 123 :: 48 :: 125 :: 123 :: (s ++ (125 :: 92 :: 105 :: 110 :: 123 :: 125 :: 92 :: 100 :: 101 :: 102 :: 123 :: 111 :: 117 :: 116 :: 125 :: 123 :: 48 :: 125 :: 123 :: (t ++ [125, 92, 105, 110]))) from rfl, seg_b1, lex_front hs (kind_brace _), seg_b2, lex_front ht (kind_brace _), seg_b3]
theorem lex_textC {s : List UInt8} (hs : Plain s) : lex (textC s) = (4, sDef) :: (5, []) :: (1, [111, 110, 101]) :: (6, []) :: (5, []) :: (1, [48]) :: (6, []) :: (5, []) :: (lex s ++ [(6, []), (4, sUndef), (5, []), (1, [111, 110, 101]), (6, []), (4, [111, 110, 101])]) := by
  rw [show textC s = 92 :: 100 :: 101 :: 102 :: 123 :: 111 :: 110 :: 101 :: 125 :: 123 :: 48 :: 125 :: 123 :: (s ++ [125, 92, 117, 110, 100, 101, 102, 123, 111, 110, 101, 125, 92, 111, 110, 101]) from rfl, seg_c1, lex_front hs (kind_brace _), seg_c2]

theorem call_a {s t : List UInt8} (hs : Plain s) (ht : Plain t) (hls : s.length ≤ 32) (hlt : t.length ≤ 32) : ∃ ms, expand [([109], textA s t)] [109] 9 100 = ⟨[], ms, 8, lex t ++ (2, []) :: lex s, [[109]], [], 1⟩ := by
  have ks := lex_kinds hs
  have kt := lex_kinds ht
  have ls := lex_len s
  have lt := lex_len t
  refine ⟨[([112, 97, 105, 114], 2, [(7, [50]), (2, []), (7, [49])])], expand_goes (one_len _) ?_ rfl⟩
  rw [start_one, lex_textA hs ht]
  refine (def_step (st := ⟨_, [], 9, [], [[109]], [], 0⟩) (name := [112, 97, 105, 114]) (d := [50]) (x := [(7, [50]), (2, []), (7, [49])]) (r := (4, [112, 97, 105, 114]) :: (5, []) :: (lex s ++ (6, []) :: (2, []) :: (5, []) :: (lex t ++ [(6, [])]))) rfl (by decide +kernel) (by decide +kernel) (ms := [([112, 97, 105, 114], 2, [(7, [50]), (2, []), (7, [49])])]) rfl).trans ?_
  have ha : Mx.args 2 ((5, []) :: (lex s ++ (6, []) :: (2, []) :: (5, []) :: (lex t ++ [(6, [])]))) = some ([lex s, lex t], (lex s).length + (lex t).length + 5) := by
    rw [args_wrap (bal_plain ks 0), args_gap, args_wrap (bal_plain kt 0), args_zero]
    simp; omega
  have hf : Mx.fill [lex s, lex t] [(7, [50]), (2, []), (7, [49])] = lex t ++ (2, []) :: lex s := by
    have e : Mx.fill [lex s, lex t] [(7, [50]), (2, []), (7, [49])] = lex t ++ ([(2, [])] ++ (lex s ++ [])) := rfl
    rw [e]; simp
  refine (call_step (st := ⟨_, [([112, 97, 105, 114], 2, [(7, [50]), (2, []), (7, [49])])], 9, [], [[109]], [], 0⟩) (s := [112, 97, 105, 114]) (m := ([112, 97, 105, 114], 2, [(7, [50]), (2, []), (7, [49])])) (n := 2) (r := []) rfl (by decide) (by decide) (by decide) (by decide) rfl rfl (by decide) ha ?_ (by simp) ?_).trans ?_
  · rw [List.drop_eq_nil_iff]; simp; omega
  · rw [hf]; simp; omega
  · rw [hf, List.append_nil]
    refine goes_puts (lex t ++ (2, []) :: lex s) ⟨lex t ++ (2, []) :: lex s, _, 8, [], [[109]], [], 1⟩ [] (by simp) (fun x hx => ?_) (by simp; omega)
    rcases List.mem_append.1 hx with hx | hx
    · exact no4_plain kt x hx
    · rcases List.mem_cons.1 hx with rfl | hx
      · exact (by decide : (2 : Int) ≠ 4)
      · exact no4_plain ks x hx
theorem lex_ts {s t : List UInt8} {c : UInt8} {r : List UInt8} (ht : Plain t) (hs : s = c :: r) (hc : letter c = true) : lex (t ++ 32 :: s) = lex t ++ (2, []) :: lex s := by
  rw [lex_front ht (by rw [kind_blank]; decide), lex_blank hs hc]
theorem lex_st {s t : List UInt8} (hs : Plain s) : lex (s ++ 123 :: 125 :: t) = lex s ++ (5, []) :: (6, []) :: lex t := by
  rw [lex_front hs (by show (5 : Int) ≠ 1; decide), seg_oc]

theorem putM_new (x : List Tok) : putM [] ([105, 110], 0, x) = ([([105, 110], 0, x)], 0) := rfl
theorem putM_two (x y : List Tok) : putM [([105, 110], 0, x)] ([111, 117, 116], 0, y) = ([([105, 110], 0, x), ([111, 117, 116], 0, y)], 0) := rfl
theorem putM_again (x y z : List Tok) : putM [([105, 110], 0, x), ([111, 117, 116], 0, y)] ([111, 117, 116], 0, z) = ([([105, 110], 0, x), ([111, 117, 116], 0, z)], 0) := rfl
theorem args_none (q : List Tok) : Mx.args 0 q = some ([], 0) := rfl
theorem call_b {s t : List UInt8} (hs : Plain s) (ht : Plain t) (hls : s.length ≤ 32) (hlt : t.length ≤ 32) : ∃ ms, expand [([109], textB s t)] [109] 9 100 = ⟨[], ms, 5, lex s ++ (5, []) :: (6, []) :: lex t, [[109]], [], 4⟩ := by
  have ks := lex_kinds hs
  have kt := lex_kinds ht
  have ls := lex_len s
  have lt := lex_len t
  refine ⟨[([105, 110], 0, [(4, [111, 117, 116])]), ([111, 117, 116], 0, lex t)], expand_goes (one_len _) ?_ rfl⟩
  rw [start_one, lex_textB hs ht]
  refine (def_step (st := ⟨_, [], 9, [], [[109]], [], 0⟩) (name := [105, 110]) (d := [48]) (x := [(4, [111, 117, 116])]) rfl (by decide +kernel) (by decide +kernel) (ms := [([105, 110], 0, [(4, [111, 117, 116])])]) (putM_new _)).trans ?_
  refine (def_step (st := ⟨_, [([105, 110], 0, [(4, [111, 117, 116])])], 9, [], [[109]], [], 0⟩) (name := [111, 117, 116]) (d := [48]) (x := lex s) (r := (4, [105, 110]) :: (5, []) :: (6, []) :: (4, sDef) :: (5, []) :: (1, [111, 117, 116]) :: (6, []) :: (5, []) :: (1, [48]) :: (6, []) :: (5, []) :: (lex t ++ (6, []) :: [(4, [105, 110])])) (by simp [sDef]) (bal_plain ks 0) (by decide +kernel) (ms := [([105, 110], 0, [(4, [111, 117, 116])]), ([111, 117, 116], 0, lex s)]) (putM_two _ _)).trans ?_
  refine (call_step (st := ⟨_, [([105, 110], 0, [(4, [111, 117, 116])]), ([111, 117, 116], 0, lex s)], 9, [], [[109]], [], 0⟩) (s := [105, 110]) (m := ([105, 110], 0, [(4, [111, 117, 116])])) (n := 0) (r := (5, []) :: (6, []) :: (4, sDef) :: (5, []) :: (1, [111, 117, 116]) :: (6, []) :: (5, []) :: (1, [48]) :: (6, []) :: (5, []) :: (lex t ++ (6, []) :: [(4, [105, 110])])) rfl (by decide) (by decide) (by decide) (by decide) rfl rfl (by decide) (args_none _) rfl (by simp) (by simp [Mx.fill, Mx.fillOne]; omega)).trans ?_
  refine (call_step (st := ⟨_, [([105, 110], 0, [(4, [111, 117, 116])]), ([111, 117, 116], 0, lex s)], 8, [], [[109]], [], 1⟩) (s := [111, 117, 116]) (m := ([111, 117, 116], 0, lex s)) (n := 0) (r := (5, []) :: (6, []) :: (4, sDef) :: (5, []) :: (1, [111, 117, 116]) :: (6, []) :: (5, []) :: (1, [48]) :: (6, []) :: (5, []) :: (lex t ++ (6, []) :: [(4, [105, 110])])) rfl (by decide) (by decide) (by decide) (by decide) rfl rfl (by decide) (args_none _) rfl (by simp) (by rw [fill_plain ks]; simp; omega)).trans ?_
  rw [fill_plain ks]

  refine (goes_puts (lex s ++ [(5, []), (6, [])]) ⟨_, _, 7, [], [[109]], [], 2⟩ ((4, sDef) :: (5, []) :: (1, [111, 117, 116]) :: (6, []) :: (5, []) :: (1, [48]) :: (6, []) :: (5, []) :: (lex t ++ (6, []) :: [(4, [105, 110])])) (by simp) (fun x hx => ?_) (by simp; omega)).trans ?_
  · rcases List.mem_append.1 hx with hx | hx
    · exact no4_plain ks x hx
    · simp at hx
      rcases hx with rfl | rfl <;> decide
  refine (def_step (st := ⟨_, [([105, 110], 0, [(4, [111, 117, 116])]), ([111, 117, 116], 0, lex s)], 7, _, [[109]], [], 2⟩) (name := [111, 117, 116]) (d := [48]) (x := lex t) (r := [(4, [105, 110])]) rfl (bal_plain kt 0) (by decide +kernel) (ms := [([105, 110], 0, [(4, [111, 117, 116])]), ([111, 117, 116], 0, lex t)]) (putM_again _ _ _)).trans ?_
  refine (call_step (st := ⟨_, [([105, 110], 0, [(4, [111, 117, 116])]), ([111, 117, 116], 0, lex t)], 7, _, [[109]], [], 2⟩) (s := [105, 110]) (m := ([105, 110], 0, [(4, [111, 117, 116])])) (n := 0) (r := []) rfl (by decide) (by decide) (by decide) (by decide) rfl rfl (by decide) (args_none _) rfl (by simp) (by simp [Mx.fill, Mx.fillOne])).trans ?_
  refine (call_step (st := ⟨_, [([105, 110], 0, [(4, [111, 117, 116])]), ([111, 117, 116], 0, lex t)], 6, _, [[109]], [], 3⟩) (s := [111, 117, 116]) (m := ([111, 117, 116], 0, lex t)) (n := 0) (r := []) rfl (by decide) (by decide) (by decide) (by decide) rfl rfl (by decide) (args_none _) rfl (by simp) (by rw [fill_plain kt]; simp; omega)).trans ?_
  rw [fill_plain kt, List.append_nil]
  have h9 := goes_puts (fs := [([109], textB s t)]) (most := 100) (lex t) ⟨lex t, [([105, 110], 0, [(4, [111, 117, 116])]), ([111, 117, 116], 0, lex t)], 5, [] ++ (lex s ++ [(5, []), (6, [])]), [[109]], [], 4⟩ [] (by simp) (no4_plain kt) (by simp; omega)
  have e : [] ++ (lex s ++ [(5, []), (6, [])]) ++ lex t = lex s ++ (5, []) :: (6, []) :: lex t := by simp
  simp only [e] at h9
  exact h9

theorem call_c {s : List UInt8} (hs : Plain s) : expand [([109], textC s)] [109] 9 100 = ⟨[], [], 9, [(4, [111, 110, 101])], [[109]], [], 0⟩ := by
  have ks := lex_kinds hs
  refine expand_goes (one_len _) ?_ rfl
  rw [start_one, lex_textC hs]
  refine (def_step (st := ⟨_, [], 9, [], [[109]], [], 0⟩) (name := [111, 110, 101]) (d := [48]) (x := lex s) (r := [(4, sUndef), (5, []), (1, [111, 110, 101]), (6, []), (4, [111, 110, 101])]) rfl (bal_plain ks 0) (by decide +kernel) (ms := [([111, 110, 101], 0, lex s)]) rfl).trans ?_
  refine (goes_step (a := ⟨_, [([111, 110, 101], 0, lex s)], 9, [], [[109]], [], 0⟩) (b := ⟨[(4, [111, 110, 101])], [], 9, [], [[109]], [], 0⟩) rfl rfl).trans ?_
  exact goes_step (a := ⟨_, [], 9, [], [[109]], [], 0⟩) (b := ⟨[], [], 9, [(4, [111, 110, 101])], [[109]], [], 0⟩) rfl rfl
end Ex
end Go.Proofs.YteahcmgdlbpmiaaGreatDoor

namespace Go.Proofs.YteahcmgdlbpmiaaGreatDoor
namespace Ex
theorem run_keeps {fs : List Fi.F} {most B T : Nat} (hmB : most ≤ B) (hfs : ∀ f ∈ fs, f.2.length ≤ T) : ∀ (n : Nat) (st : St), Ok most B T st → Ok most B T (run fs most n st) ∧ (run fs most n st).notes.length ≤ st.notes.length + n
  | 0, st, h => ⟨h, Nat.le_refl _⟩
  | n + 1, st, h => by
    rw [run]
    cases hi : st.inn with
    | nil => exact ⟨h, Nat.le_add_right _ _⟩
    | cons t r =>
      obtain ⟨_, h2, _, h4⟩ := lt_next (fs := fs) h hmB hfs hi
      simp only
      split
      · obtain ⟨k1, k2⟩ := run_keeps hmB hfs n _ h2
        exact ⟨k1, by omega⟩
      · exact ⟨h2, by omega⟩
theorem start_len {fs : List Fi.F} {main : List UInt8} {fuel T : Nat} (hft : ∀ f ∈ fs, f.2.length ≤ T) : (start fs main fuel).inn.length ≤ T ∧ (start fs main fuel).notes.length ≤ 1 := by
  unfold start
  split
  · refine ⟨?_, by simp [ask, zero]⟩
    refine Nat.le_trans (lex_len _) ?_
    unfold Fi.get
    cases hc : fs.find? fun f => f.1 == main with
    | none => exact Nat.zero_le _
    | some f => exact hft f (List.mem_of_find?_eq_some hc)
  · exact ⟨by simp [ask, zero, note], by simp [ask, zero, note]⟩
end Ex
theorem small_expand {fs : List Fl} {main : List UInt8} {fuel most : Nat} (hft : ∀ f ∈ fs, f.2.length ≤ 1000) (hfu : fuel ≤ 100) (hmo : most ≤ 1000) : Small (Ex.expand fs main fuel most) := by
  obtain ⟨s1, s2⟩ := Ex.start_len (main := main) (fuel := fuel) hft
  obtain ⟨h1, h2⟩ := Ex.run_keeps (Nat.le_add_right most (Ex.start fs main fuel).inn.length) hft (Ex.mu (most + (Ex.start fs main fuel).inn.length) (Ex.start fs main fuel)) (Ex.start fs main fuel) (Ex.ok_start9 hft)
  have hm : Ex.mu (most + (Ex.start fs main fuel).inn.length) (Ex.start fs main fuel) ≤ 300000 := by
    unfold Ex.mu
    rw [(Ex.start_keeps fs main fuel).1]
    have : fuel * (most + (Ex.start fs main fuel).inn.length + 1) ≤ 100 * 2001 := Nat.mul_le_mul hfu (by omega)
    omega
  refine ⟨Nat.le_trans h1.out (by omega), Nat.le_trans h1.rln (by decide), ?_⟩
  unfold Ex.expand
  omega
end Go.Proofs.YteahcmgdlbpmiaaGreatDoor

namespace Go.Proofs.YteahcmgdlbpmiaaGreatDoor

theorem put_texts {l : List Fl} {f : Fl} {b : Nat} (hl : ∀ g ∈ l, g.2.length ≤ b) (hf : f.2.length ≤ b) : ∀ g ∈ (Fi.put l f).1, g.2.length ≤ b := by
  unfold Fi.put
  split
  · intro g hg; cases hg
  · split
    · intro g hg; cases hg
    · intro g hg
      have hg : g ∈ Fi.putL l f := hg
      unfold Fi.putL at hg
      split at hg
      · rcases List.mem_or_eq_of_mem_set hg with h | rfl
        · exact hl g h
        · exact hf
      · rcases List.mem_append.1 hg with h | h
        · exact hl g (List.mem_of_mem_take h)
        · rcases List.mem_cons.1 h with rfl | h
          · exact hf
          · exact hl g (List.mem_of_mem_drop h)
theorem mapF_keeps (m b : Nat) : ∀ (l out : List Fl), Fi.Ord out → (∀ g ∈ out, g.2.length ≤ b) → Fi.Ord (Fi.mapF m b out l) ∧ (∀ g ∈ Fi.mapF m b out l, g.2.length ≤ b) ∧ (Fi.mapF m b out l).length ≤ out.length + l.length := by
  intro l
  induction l with
  | nil => intro out h1 h2; exact ⟨h1, h2, Nat.le_refl _⟩
  | cons f r ih =>
    intro out h1 h2
    rw [map_step]
    split
    · have h3 := ih _ (ord_put h1 (f.1, f.2.take b)) (put_texts h2 (by simp only [List.length_take]; omega))
      have := put_len out (f.1, f.2.take b)
      exact ⟨h3.1, h3.2.1, by have := h3.2.2; rw [List.length_cons]; omega⟩
    · have h3 := ih _ h1 h2
      exact ⟨h3.1, h3.2.1, by have := h3.2.2; rw [List.length_cons]; omega⟩
/-- A map of at most six files with texts of at most two hundred bytes. -/
theorem map_keeps (l : List Fl) (m b : Nat) : Fi.Ord (Fi.map l m b) ∧ (∀ g ∈ Fi.map l m b, g.2.length ≤ b) ∧ (Fi.map l m b).length ≤ m := by
  have h := mapF_keeps m b (l.take m) [] ord_nil (by intro g hg; cases hg)
  refine ⟨h.1, h.2.1, ?_⟩
  have := h.2.2
  rw [List.length_take] at this
  unfold Fi.map
  simp only [List.length_nil] at this
  omega
end Go.Proofs.YteahcmgdlbpmiaaGreatDoor

namespace Go.Proofs.YteahcmgdlbpmiaaGreatDoor
open Go.RowKit

theorem sameO_plus (E : Ex.St) : sameO E (Ex.plus E) = true := by simp [sameO, Ex.plus]
/-- A box that holds an expansion, ever after. -/
theorem box9 {w1 V : World} {a b c d : Value} {E : Ex.St} (hV : V = w1.alloc (.cells #[a, b, c, d] 31)) (h : RdO w1 (.agg #[a, b, c, d]) E) {W' : World} (hb : Below V.heap.size V W') :
    (W'.cell? ⟨w1.heap.size, 0, none⟩ = some a ∧ W'.cell? ⟨w1.heap.size, 1, none⟩ = some b ∧ W'.cell? ⟨w1.heap.size, 2, none⟩ = some c ∧ W'.cell? ⟨w1.heap.size, 3, none⟩ = some d) ∧ RdO W' (.agg #[a, b, c, d]) E := by
  have hv : Below w1.heap.size w1 V := by rw [hV]; exact (Below.refl _ _).alloc (Nat.le_refl _) _
  have r : Ro V w1.heap.size 31 [a, b, c, d] := by rw [hV]; exact heap_alloc_new w1 _
  have r9 := r.kw (Kw.of_below hb) (by have := r.lt; omega)
  exact ⟨⟨r9.cell (i := 0) rfl, r9.cell (i := 1) rfl, r9.cell (i := 2) rfl, r9.cell (i := 3) rfl⟩, h.below' (hv.trans (hb.mono hv.size))⟩

set_option maxRecDepth 20000 in
set_option maxHeartbeats 8000000 in
/-- 'ExpandBounds'. -/
theorem expandBounds_any (v0 : Value) (l : List Fl) (main : List UInt8) (y z : Int) (w : World) (hl : Rf w v0 l) (hs : ∀ f ∈ l, f.1.length ≤ 9223372036854775807 ∧ f.2.length ≤ 9223372036854775807) (hy : 0 ≤ y ∧ y ≤ 255) (hz : 0 ≤ z ∧ z ≤ 255) (hgl : Gl w) (hw0 : 0 < w.heap.size) :
    Calls Tryz.prog 5 #[v0, .string (S main), .agg #[.int .u8 y, .int .u8 z]] w fun e w' => e = .returned (.bool true) ∧ Below w.heap.size w w' := by
  obtain ⟨y, rfl⟩ := Int.eq_ofNat_of_zero_le hy.1
  obtain ⟨z, rfl⟩ := Int.eq_ofNat_of_zero_le hz.1
  obtain ⟨fu, hfu⟩ : ∃ fu, fu = y % 41 := ⟨_, rfl⟩
  have hfl : fu ≤ 40 := by omega
  have hzl : z ≤ 255 := by omega
  have hrem : (y : Int) % 41 = (fu : Int) := by omega
  obtain ⟨m, hm⟩ : ∃ m, m = Fi.map l 6 200 := ⟨_, rfl⟩
  obtain ⟨hm1, hm2, hm3⟩ := map_keeps l 6 200
  rw [← hm] at hm1 hm2 hm3
  obtain ⟨W0, hW0⟩ : ∃ W0, W0 = w.alloc (.cells #[.int .u8 (y : Int), .int .u8 (z : Int)] 49) := ⟨_, rfl⟩
  have b0 : Below w.heap.size w W0 := by rw [hW0]; exact (Below.refl _ _).alloc (Nat.le_refl _) _
  have HF := Lib.hid (files8_any v0 l W0 (hl.below' b0) hs)
  rw [← hm] at HF
  have HW0 := Lib.hid hW0
  have HM := Lib.hid hm
  clear hW0 hm
  obtain ⟨a0, c0, rfl⟩ := hl.shape
  go_enter Tryz.func5, Tryz.ntmps5
  go_upto_region 1 with fail
  rw [← HW0.out]
  go_upto_region 2 with (go_at_call 9; (with_reducible refine HF.out.mono ?_); rintro e w1 ⟨vm, rfl, om, b1⟩; obtain ⟨am, cm, rfl⟩ := own_shape om; have HOM := Lib.hid om; have HB1 := Lib.hid b1; clear om b1)
  have r0 : Ro W0 w.heap.size 49 [.int .u8 (y : Int), .int .u8 (z : Int)] := by rw [HW0.out]; exact heap_alloc_new w _
  have r1 := r0.kw (Kw.of_below HB1.out) (by have := r0.lt; omega)
  have c0 : ∀ k, (w1.drewN k).cell? ⟨w.heap.size, 0, none⟩ = some (.int .u8 (y : Int)) := fun _ => r1.cell (i := 0) rfl
  have c1 : ∀ k, (w1.drewN k).cell? ⟨w.heap.size, 1, none⟩ = some (.int .u8 (z : Int)) := fun _ => r1.cell (i := 1) rfl
  have HB01 := Lib.hid (b0.trans (HB1.out.mono b0.size))
  clear r0 r1 b0
  obtain ⟨E1, hE1⟩ : ∃ E, E = Ex.expand m main fu z := ⟨_, rfl⟩
  obtain ⟨E2, hE2⟩ : ∃ E, E = Ex.expand m main (fu + 1) (z + 45) := ⟨_, rfl⟩
  have HX : Hid (∀ (f q : Nat) (zf zm : Int), f ≤ 100 → q ≤ 1000 → zf = (f : Int) → zm = (q : Int) → ∀ W, Below w1.heap.size w1 W → Calls Tryz.prog 11 #[.slice am m.length cm, .string (S main), .int .i64 zf, .int .i64 zm] W fun e w' => ∃ o, e = .returned (.tuple #[o, .int .i64 0]) ∧ RdO w' o (Ex.expand m main f q) ∧ Below W.heap.size W w') := Lib.hid fun f q zf zm hf hq ef em W hb =>
    (exp9_any (.slice am m.length cm) m main f q W ((rf_own HOM.out).below' hb) hm1 (by omega) (fun g hg => by have := hm2 g hg; omega) hf hq (hgl.below hw0 (HB01.out.trans (hb.mono HB01.out.size))) (Nat.lt_of_lt_of_le hw0 (Nat.le_trans HB01.out.size hb.size)) ef em).mono fun e w' ⟨o, q1, q2, q3, _⟩ => ⟨o, q1, q2, q3⟩
  have H1 := Lib.hid fun W hb => HX.out fu z (fu : Int) (z : Int) (by omega) (by omega) rfl rfl W hb
  have H2 := Lib.hid fun W hb => HX.out (fu + 1) (z + 45) ((fu : Int) + 1) ((z : Int) + 45) (by omega) (by omega) (by omega) (by omega) W hb
  rw [← hE1] at H1
  rw [← hE2] at H2
  have HE1 := Lib.hid hE1
  have HE2 := Lib.hid hE2
  clear hE1 hE2 HX hm1 hm3 hfu
  go_quiet (fail)
  rw [hrem]
  clear hrem c0 c1
  have arm := True.intro
  go_upto_region 4 with (go_at_call 11; (with_reducible refine (H1.out _ (below_drewN (Below.refl w1.heap.size w1) nq)).mono ?_); rintro e w2 ⟨o, rfl, ro, b2⟩; obtain ⟨vL, vR, vN, rfl, h1, h2, h3⟩ := ro; obtain ⟨aL, cL, rfl⟩ := h1.shape; obtain ⟨aR, cR, rfl⟩ := Rd.shape h2; obtain ⟨aN, cN, rfl⟩ := h3.shape; have HH := Lib.hid (show RdO w2 (.agg #[.slice aL E1.outL.length cL, .slice aR E1.reads.length cR, .slice aN E1.notes.length cN, .int .i64 (E1.used : Int)]) E1 from ⟨_, _, _, rfl, h1, h2, h3⟩); have HB2 := Lib.hid b2; clear h1 h2 h3 b2)
  clear arm
  obtain ⟨nL, hnL⟩ : ∃ n, n = E1.outL.length := ⟨_, rfl⟩
  obtain ⟨nR, hnR⟩ : ∃ n, n = E1.reads.length := ⟨_, rfl⟩
  obtain ⟨nN, hnN⟩ : ∃ n, n = E1.notes.length := ⟨_, rfl⟩
  obtain ⟨nU, hnU⟩ : ∃ n, n = E1.used := ⟨_, rfl⟩
  rw [← hnL, ← hnR, ← hnN, ← hnU] at HH ⊢
  obtain ⟨V1, hV1⟩ : ∃ V, V = w2.alloc (.cells #[.slice aL nL cL, .slice aR nR cR, .slice aN nN cN, .int .i64 (nU : Int)] 31) := ⟨_, rfl⟩
  rw [← hV1]
  have HX1 : Hid (∀ W', Below V1.heap.size V1 W' → (W'.cell? ⟨w2.heap.size, 0, none⟩ = some (.slice aL nL cL) ∧ W'.cell? ⟨w2.heap.size, 1, none⟩ = some (.slice aR nR cR) ∧ W'.cell? ⟨w2.heap.size, 2, none⟩ = some (.slice aN nN cN) ∧ W'.cell? ⟨w2.heap.size, 3, none⟩ = some (.int .i64 (nU : Int))) ∧ RdO W' (.agg #[.slice aL nL cL, .slice aR nR cR, .slice aN nN cN, .int .i64 (nU : Int)]) E1) := Lib.hid fun W' hb => box9 hV1 HH.out hb
  have bq : Below w1.heap.size w1 (w1.drewN nq) := below_drewN (Below.refl w1.heap.size w1) nq
  have HBA : Hid (Below w1.heap.size w1 V1) := Lib.hid (by
    have h9 := bq.trans (HB2.out.mono bq.size)
    rw [hV1]
    exact h9.alloc h9.size _)
  have HLE : Hid (nU ≤ fu ∧ nL ≤ z) := Lib.hid ⟨by rw [hnU, HE1.out]; exact Ex.used_le m main fu z, by rw [hnL, HE1.out]; exact Ex.outL_le m main fu z⟩
  have HNS : Hid (nN = E1.notes.length ∧ nL = E1.outL.length ∧ nR = E1.reads.length) := Lib.hid ⟨hnN, hnL, hnR⟩
  clear hnL hnR hnN hnU hV1 bq H1
  go_upto_region 5 with (go_at_call 11; (with_reducible refine (H2.out _ HBA.out).mono ?_); rintro e w3 ⟨o, rfl, ro, b3⟩; obtain ⟨vL, vR, vN, rfl, h1, h2, h3⟩ := ro; obtain ⟨bL, dL, rfl⟩ := h1.shape; obtain ⟨bR, dR, rfl⟩ := Rd.shape h2; obtain ⟨bN, dN, rfl⟩ := h3.shape; have HH2 := Lib.hid (show RdO w3 (.agg #[.slice bL E2.outL.length dL, .slice bR E2.reads.length dR, .slice bN E2.notes.length dN, .int .i64 (E2.used : Int)]) E2 from ⟨_, _, _, rfl, h1, h2, h3⟩); have HB3 := Lib.hid b3; clear h1 h2 h3 b3)
  obtain ⟨mL, hmL⟩ : ∃ n, n = E2.outL.length := ⟨_, rfl⟩
  obtain ⟨mR, hmR⟩ : ∃ n, n = E2.reads.length := ⟨_, rfl⟩
  obtain ⟨mN, hmN⟩ : ∃ n, n = E2.notes.length := ⟨_, rfl⟩
  obtain ⟨mU, hmU⟩ : ∃ n, n = E2.used := ⟨_, rfl⟩
  rw [← hmL, ← hmR, ← hmN, ← hmU] at HH2 ⊢
  obtain ⟨V2, hV2⟩ : ∃ V, V = w3.alloc (.cells #[.slice bL mL dL, .slice bR mR dR, .slice bN mN dN, .int .i64 (mU : Int)] 31) := ⟨_, rfl⟩
  rw [← hV2]
  have HX2 : Hid (∀ W', Below V2.heap.size V2 W' → (W'.cell? ⟨w3.heap.size, 0, none⟩ = some (.slice bL mL dL) ∧ W'.cell? ⟨w3.heap.size, 1, none⟩ = some (.slice bR mR dR) ∧ W'.cell? ⟨w3.heap.size, 2, none⟩ = some (.slice bN mN dN) ∧ W'.cell? ⟨w3.heap.size, 3, none⟩ = some (.int .i64 (mU : Int))) ∧ RdO W' (.agg #[.slice bL mL dL, .slice bR mR dR, .slice bN mN dN, .int .i64 (mU : Int)]) E2) := Lib.hid fun W' hb => box9 hV2 HH2.out hb
  have HBV : Hid (Below V1.heap.size V1 V2) := Lib.hid (by
    rw [hV2]
    exact HB3.out.alloc HB3.out.size _)
  have HC : Hid (∀ W', Below V2.heap.size V2 W' → ((W'.cell? ⟨w2.heap.size, 0, none⟩ = some (.slice aL nL cL) ∧ W'.cell? ⟨w2.heap.size, 1, none⟩ = some (.slice aR nR cR) ∧ W'.cell? ⟨w2.heap.size, 2, none⟩ = some (.slice aN nN cN) ∧ W'.cell? ⟨w2.heap.size, 3, none⟩ = some (.int .i64 (nU : Int))) ∧
      (W'.cell? ⟨w3.heap.size, 0, none⟩ = some (.slice bL mL dL) ∧ W'.cell? ⟨w3.heap.size, 1, none⟩ = some (.slice bR mR dR) ∧ W'.cell? ⟨w3.heap.size, 2, none⟩ = some (.slice bN mN dN) ∧ W'.cell? ⟨w3.heap.size, 3, none⟩ = some (.int .i64 (mU : Int)))) ∧
      RdO W' (.agg #[.slice aL nL cL, .slice aR nR cR, .slice aN nN cN, .int .i64 (nU : Int)]) E1 ∧ RdO W' (.agg #[.slice bL mL dL, .slice bR mR dR, .slice bN mN dN, .int .i64 (mU : Int)]) E2) := Lib.hid fun W' hb => by
    have h1 := HX1.out W' (HBV.out.trans (hb.mono HBV.out.size))
    have h2 := HX2.out W' hb
    exact ⟨⟨h1.1, h2.1⟩, h1.2, h2.2⟩
  have HBW : Hid (Below w.heap.size w V2) := Lib.hid ((HB01.out.trans (HBA.out.mono HB01.out.size)).trans (HBV.out.mono (Nat.le_trans HB01.out.size HBA.out.size)))
  clear hmL hmR hmN hmU hV2 H2 HX1 HX2
  have g1 : (nU : Int) ≤ (fu : Int) := by have := HLE.out.1; omega
  have g2 : (nL : Int) ≤ (z : Int) := by have := HLE.out.2; omega
  obtain ⟨⟨⟨c0, c1, c2, c3⟩, d0, d1, d2, d3⟩, _⟩ := HC.out V2 (Below.refl _ _)
  go_upto_region 7 with fail
  have HFX : Hid (∀ W', Below V2.heap.size V2 W' → Calls Tryz.prog 15 #[] W' fun e w' => e = .returned (.bool true) ∧ Below W'.heap.size W' w') := Lib.hid fun W' hb => exFixed_any W' (hgl.below hw0 (HBW.out.trans (hb.mono HBW.out.size))) (Nat.lt_of_lt_of_le hw0 (Nat.le_trans HBW.out.size hb.size))
  rcases Nat.eq_zero_or_pos nN with h0 | h0
  · have hnil : E1.notes = [] := List.eq_nil_of_length_eq_zero (by rw [← HNS.out.1]; exact h0)
    have HSM : Hid (∀ W o1 o2, RdO W o1 E1 → RdO W o2 E2 → Calls Tryz.prog 13 #[o1, o2] W fun e w' => e = .returned (.bool true) ∧ Below W.heap.size W w') := Lib.hid fun W o1 o2 k1 k2 => by
      have e1 := HE1.out
      have e2 := HE2.out
      have e3 : E2 = Ex.plus E1 := by rw [e2, e1]; exact Ex.expand_more hm2 (by rw [← e1]; exact hnil)
      have h9 := same8_any o1 o2 E1 E2 W k1 k2 (by rw [e1]; exact small_expand (fun g hg => by have := hm2 g hg; omega) (by omega) (by omega)) (by rw [e2]; exact small_expand (fun g hg => by have := hm2 g hg; omega) (by omega) (by omega))
      rw [e3, sameO_plus] at h9
      exact h9
    have HR1 : Hid (∀ W', Below V2.heap.size V2 W' → Calls Tryz.prog 14 #[.agg #[.slice aL nL cL, .slice aR nR cR, .slice aN nN cN, .int .i64 (nU : Int)]] W' fun e w' => ∃ o, e = .returned o ∧ RdO w' o E1 ∧ Below W'.heap.size W' w') := Lib.hid fun W' hb => ref8_any _ E1 W' (HC.out W' hb).2.1 (by rw [← HNS.out.2.1]; omega)
    have HR2 : Hid (∀ W', Below V2.heap.size V2 W' → Calls Tryz.prog 14 #[.agg #[.slice bL mL dL, .slice bR mR dR, .slice bN mN dN, .int .i64 (mU : Int)]] W' fun e w' => ∃ o, e = .returned o ∧ RdO w' o E2 ∧ Below W'.heap.size W' w') := Lib.hid fun W' hb => ref8_any _ E2 W' (HC.out W' hb).2.2 (by have := Ex.outL_le m main (fu + 1) (z + 45); rw [← HE2.out] at this; omega)
    have bd : Below V2.heap.size V2 V2.drew := below_drewN (Below.refl V2.heap.size V2) 1
    subst h0
    clear hnil hm2
    go_region_held3 (fun w' => ((w'.cell? ⟨w2.heap.size, 0, none⟩ = some (.slice aL nL cL) ∧ w'.cell? ⟨w2.heap.size, 1, none⟩ = some (.slice aR nR cR) ∧ w'.cell? ⟨w2.heap.size, 2, none⟩ = some (.slice aN 0 cN) ∧ w'.cell? ⟨w2.heap.size, 3, none⟩ = some (.int .i64 (nU : Int))) ∧
      (w'.cell? ⟨w3.heap.size, 0, none⟩ = some (.slice bL mL dL) ∧ w'.cell? ⟨w3.heap.size, 1, none⟩ = some (.slice bR mR dR) ∧ w'.cell? ⟨w3.heap.size, 2, none⟩ = some (.slice bN mN dN) ∧ w'.cell? ⟨w3.heap.size, 3, none⟩ = some (.int .i64 (mU : Int)))))
      (first
        | exact (HC.out _ (Below.refl _ _)).1
        | exact (HC.out _ bd).1
        | exact (HC.out _ bd4).1
        | exact (HC.out _ bd5).1
        | exact (HC.out _ bd6).1
        | go_keep
        | fail)
      (first
        | (go_at_call 14; (with_reducible refine (HR1.out _ bd).mono ?_); rintro e w4 ⟨o1, rfl, ro1, b4⟩; have bd4 := bd.trans (b4.mono bd.size))
        | (go_at_call 14; (with_reducible refine (HR2.out _ bd4).mono ?_); rintro e w5 ⟨o2, rfl, ro2, b5⟩; have bd5 := bd4.trans (b5.mono bd4.size); have ro9 := ro1.below' b5)
        | (go_at_call 13; (with_reducible refine (HSM.out _ _ _ ro9 ro2).mono ?_); rintro e w6 ⟨rfl, b6⟩; have bd6 := bd5.trans (b6.mono bd5.size))
        | fail)
    go_wp2_with (go_at_call 15; (with_reducible refine (HFX.out _ bd6).mono ?_); rintro e w7 ⟨rfl, b7⟩)
    go_ret
    exact ⟨rfl, HBW.out.trans ((bd6.trans (b7.mono bd6.size)).mono HBW.out.size)⟩
  · have g9 : ((nN : Int) == 0) = false := by rw [beq_eq_false_iff_ne]; omega
    have bd : ∀ k, Below V2.heap.size V2 (V2.drewN k) := fun k => below_drewN (Below.refl V2.heap.size V2) k
    have c2q : ∀ k, (V2.drewN k).cell? ⟨w2.heap.size, 2, none⟩ = some (.slice aN nN cN) := fun _ => c2
    clear hm2
    go_quiet (fail)
    go_wp2_with (go_at_call 15; (with_reducible refine (HFX.out _ (bd _)).mono ?_); rintro e w7 ⟨rfl, b7⟩)
    go_ret
    exact ⟨rfl, HBW.out.trans (((bd _).trans (b7.mono (bd _).size)).mono HBW.out.size)⟩
end Go.Proofs.YteahcmgdlbpmiaaGreatDoor

namespace Go.Proofs.YteahcmgdlbpmiaaGreatDoor
open Go.RowKit

set_option maxHeartbeats 400000 in
/-- The reference's 'word'. -/
theorem refWord_any (l : List UInt8) (k : Nat) (hk : k < l.length) (hl : l.length ≤ 1000000000000) (w : World) :
    Calls Tryz.prog 38 #[.string (S l), .int .i64 (k : Int)] w fun e w' =>
      ∃ e1 : Nat, e = .returned (.tuple #[.agg #[.int .i64 1, .string (S (Lx.word (l.drop k)).1)], .int .i64 e1]) ∧ e1 ≤ l.length ∧ l.drop e1 = (Lx.word (l.drop k)).2 ∧ Below w.heap.size w w' := by
  go_enter Tryz.func38, Tryz.ntmps38
  go_wp2_with fail
  go_loop [1, 6] (fun i v => ∃ (j : Nat) (acc : List UInt8), k ≤ j ∧ j ≤ l.length ∧ acc.length ≤ j ∧ i = .int .i64 j ∧ v = .string (S acc) ∧ Hid (acc ++ (Lx.word (l.drop j)).1 = (Lx.word (l.drop k)).1 ∧ (Lx.word (l.drop j)).2 = (Lx.word (l.drop k)).2)) (fun i _ => l.length - (intOf i).toNat)
  case atStart => exact ⟨k, [], by omega, by omega, by simp, rfl, rfl, by simp [Hid]⟩
  case round =>
    obtain ⟨j, acc, hkj, hj, hacc, rfl, rfl, HG⟩ := hrel
    by_cases hlt : j < l.length
    · have HC : Hid (l.drop j = l[j] :: l.drop (j + 1)) := drop_at hlt
      by_cases hk1 : Lx.kind (l.drop j) = 1
      · by_cases hesc : l[j] = 92 ∧ j + 1 < l.length
        · obtain ⟨h92, hj1⟩ := hesc
          have hrel : Hid ((acc ++ [l[j + 1]]) ++ (Lx.word (l.drop (j + 1 + 1))).1 = (Lx.word (l.drop k)).1 ∧ (Lx.word (l.drop (j + 1 + 1))).2 = (Lx.word (l.drop k)).2) := by
            have h := HG.out
            have hk1' := hk1
            rw [HC.out, drop_at hj1, h92] at h hk1'
            rw [Lx.word_esc hk1'] at h
            exact ⟨by rw [← h.1]; simp, h.2⟩
          go_wp2_with (first | (go_at_call 37; (with_reducible refine (refKind_any _ _ (by omega) hl _).mono ?_); rintro e w' ⟨rfl, rfl⟩) | fail)
          go_round
          case rel => exact ⟨j + 1 + 1, acc ++ [l[j + 1]], by omega, by omega, by simp; omega, by go_num, by simp [go_sem], hrel⟩
          case measure => simp [intOf]; omega
        · have hrel : Hid ((acc ++ [l[j]]) ++ (Lx.word (l.drop (j + 1))).1 = (Lx.word (l.drop k)).1 ∧ (Lx.word (l.drop (j + 1))).2 = (Lx.word (l.drop k)).2) := by
            have h := HG.out
            have hk1' := hk1
            rw [HC.out] at h hk1'
            rw [Lx.word_one hk1' (by
              by_cases h92 : l[j] = 92
              · exact .inr (List.drop_eq_nil_of_le (by have h := hesc; simp only [h92, true_and] at h; omega))
              · exact .inl h92)] at h
            exact ⟨by rw [← h.1]; simp, h.2⟩
          have HE := Lib.hid hesc
          clear hesc
          by_cases h92 : l[j] = 92
          · have hj1 : ¬ (j : Int) + 1 < (l.length : Int) := fun h => HE.out ⟨h92, by omega⟩
            go_wp2_with (first | (go_at_call 37; (with_reducible refine (refKind_any _ _ (by omega) hl _).mono ?_); rintro e w' ⟨rfl, rfl⟩) | fail)
            go_round
            case rel => exact ⟨j + 1, acc ++ [l[j]], by omega, by omega, by simp; omega, by go_num, by simp [go_sem, h92], hrel⟩
            case measure => simp [intOf]; omega
          · have h92' : (l[j] == 92) = false := by simpa using h92
            clear h92
            go_wp2_with (first | (go_at_call 37; (with_reducible refine (refKind_any _ _ (by omega) hl _).mono ?_); rintro e w' ⟨rfl, rfl⟩) | fail)
            go_round
            case rel => exact ⟨j + 1, acc ++ [l[j]], by omega, by omega, by simp; omega, by go_num, by simp [go_sem], hrel⟩
            case measure => simp [intOf]; omega
      · have hk1' : (Lx.kind (l.drop j) == 1) = false := by simpa using hk1
        have hx : Lx.word (l.drop j) = ([], l.drop j) := by
          rw [HC.out] at hk1 ⊢; exact Lx.word_stop hk1
        have HX : Hid (acc = (Lx.word (l.drop k)).1 ∧ l.drop j = (Lx.word (l.drop k)).2) := by
          have h := HG.out; rw [hx] at h; exact ⟨by simpa using h.1, h.2⟩
        clear hk1 hx
        go_wp2_with (first | (go_at_call 37; (with_reducible refine (refKind_any _ _ (by omega) hl _).mono ?_); rintro e w' ⟨rfl, rfl⟩) | fail)
        refine bodyPost_ret (v := .tuple #[.agg #[.int .i64 1, .string (S acc)], .int .i64 j]) (by simp [results, Tryz.results38, go_sem]) rfl ⟨j, by rw [HX.out.1], hj, HX.out.2, ?_⟩
        exact (Below.refl _ _).alloc (Nat.le_refl _) _
    · obtain rfl : j = l.length := by omega
      have HX : Hid (acc = (Lx.word (l.drop k)).1 ∧ [] = (Lx.word (l.drop k)).2) := by
        have h := HG.out; rw [List.drop_length] at h; exact ⟨by simpa [Lx.word] using h.1, h.2⟩
      go_wp2_with fail
      refine bodyPost_ret (v := .tuple #[.agg #[.int .i64 1, .string (S acc)], .int .i64 l.length]) (by simp [results, Tryz.results38, go_sem]) rfl ⟨l.length, by rw [HX.out.1], hj, by rw [← HX.out.2, List.drop_length], ?_⟩
      exact (Below.refl _ _).alloc (Nat.le_refl _) _

/-- A round's world: the token in a block of its own. -/
def TokAt (W : World) (g : Nat) (t : Lx.Tok) : Prop := W.heap[g]? = some (.cells #[.int .i64 t.1, .string (S t.2)] 83 (0, 0))

set_option maxHeartbeats 800000 in
/-- The reference's 'Lex'. -/
theorem refLex_any (l : List UInt8) (hl : l.length ≤ 1000000000) (w : World) :
    Calls Tryz.prog 21 #[.string (S l)] w fun e w' =>
      ∃ v', e = .returned v' ∧ w'.ownsRow w.heap.size 83 2 v' (Lx.lex l).length (tcs (Lx.lex l)) ∧ Below w.heap.size w w' := by
  go_enter Tryz.func21, Tryz.ntmps21
  go_wp2_with fail
  go_loopw [3, 4] (fun v i wr => ∃ (j : Nat) (acc : List Lx.Tok), j ≤ l.length ∧ acc.length ≤ j ∧ i = .int .i64 j ∧ wr.ownsRow w.heap.size 83 2 v acc.length (tcs acc) ∧ Hid (acc ++ Lx.lex (l.drop j) = Lx.lex l) ∧ Below w.heap.size w wr) (fun _ i _ => l.length - (intOf i).toNat)
  case atStart => exact ⟨0, [], by omega, by simp, rfl, World.ownsRow_made w #[] 0 (Nat.le_refl _) (by decide) rfl, rfl, (Below.refl _ _).alloc (Nat.le_refl _) _⟩
  case round =>
    obtain ⟨j, acc, hj, hacc, rfl, hown, HG, hbw⟩ := hrel
    have hsz := hbw.size
    by_cases hlt : j < l.length
    · have hlen1 : (Lx.one (l.drop j)).2.length ≤ (l.drop (j + 1)).length := by have := Lx.one_lt l[j] (l.drop (j + 1)); rwa [← drop_at hlt] at this
      have hlex : Lx.lex (l.drop j) = (Lx.one (l.drop j)).1 :: Lx.lex (Lx.one (l.drop j)).2 := Lx.lex_ne (by rw [drop_at hlt]; exact List.cons_ne_nil _ _)
      have HLEN := Lib.hid hlen1
      have HLEX := Lib.hid hlex
      clear hlen1 hlex
      go_upto_block 2 with (first | (go_at_call 37; (with_reducible refine (refKind_any _ _ (by omega) (by omega) _).mono ?_); rintro e w' ⟨rfl, rfl⟩) | fail)
      go_cut [7] (fun u W => ∃ e1 : Nat, u = .int .i64 e1 ∧ e1 ≤ l.length ∧ Hid (l.drop e1 = (Lx.one (l.drop j)).2) ∧ TokAt W wr.heap.size (Lx.one (l.drop j)).1 ∧ Below wr.heap.size wr W)
      case first =>
        have hkc : Lx.kind (l.drop j) = 2 ∨ Lx.kind (l.drop j) = 4 ∨ Lx.kind (l.drop j) = 5 ∨ Lx.kind (l.drop j) = 6 ∨ Lx.kind (l.drop j) = 7 ∨ Lx.kind (l.drop j) = 1 := by rw [drop_at hlt]; exact Lx.kind_cases _ _
        have HC : Hid (l.drop j = l[j] :: l.drop (j + 1)) := drop_at hlt
        have hg : ∀ (W : World), Below (wr.alloc (.cells #[.int .i64 (Lx.kind (l.drop j)), .string (S [])] 83)).heap.size (wr.alloc (.cells #[.int .i64 (Lx.kind (l.drop j)), .string (S [])] 83)) W → Hid (W.heap[wr.heap.size]? = some (.cells #[.int .i64 (Lx.kind (l.drop j)), .string (S [])] 83 (0, 0)) ∧ Below wr.heap.size wr W) := fun W h =>
          ⟨(h.block _ (by simp)).trans (heap_alloc_new _ _), ((Below.refl _ _).alloc (Nat.le_refl _) _).trans (h.mono (by simp))⟩
        have HGW := Lib.hid hg
        clear hg
        rcases hkc with hk | hk | hk | hk | hk | hk
        · have t1 : (Lx.kind (l.drop j) == 1) = false := by rw [hk]; rfl
          have t2 : (Lx.kind (l.drop j) == 2) = true := by rw [hk]; rfl
          have HO := Lib.hid (Lx.one_k2 hk)
          clear hk
          go_wp2_with (first | (go_at_call 39; (with_reducible refine (refGap_any _ _ hlt (by omega) _).mono ?_); rintro e w1 ⟨e1, rfl, he1, hd1, hb1⟩; have HW := HGW.out _ hb1; have q0 := pair_cell0 HW.out.1; have q1 := pair_cell1 HW.out.1; have f0 := pair_free HW.out.1 0; have f1 := pair_free HW.out.1 1; have HD1 := Lib.hid hd1; clear hd1 hb1) | fail)
          go_meet
          exact ⟨e1, rfl, he1, by show _ = _; rw [HO.out]; exact HD1.out, by show _ = _; rw [HO.out]; exact pair_set HW.out.1 _ _, below_setCell2 HW.out.2 (Nat.le_refl _) _ _ _ _⟩
        · have t1 : (Lx.kind (l.drop j) == 1) = false := by rw [hk]; rfl
          have t2 : (Lx.kind (l.drop j) == 2) = false := by rw [hk]; rfl
          have t4 : (Lx.kind (l.drop j) == 4) = true := by rw [hk]; rfl
          have HKK := Lib.hid hk
          have HO : Hid (Lx.one (l.drop j) = ((4, (l.drop (j + 1)).takeWhile Lx.letter), (l.drop (j + 1)).dropWhile Lx.letter)) := by
            show _ = _
            rw [HC.out] at hk ⊢; exact Lx.one_k4 hk
          clear hk
          go_wp2_with fail
          go_loop [7] (fun i => ∃ m : Nat, j + 1 ≤ m ∧ m ≤ l.length ∧ i = .int .i64 m ∧ Hid ((l.drop (j + 1)).takeWhile Lx.letter = (l.take m).drop (j + 1) ++ (l.drop m).takeWhile Lx.letter ∧ (l.drop (j + 1)).dropWhile Lx.letter = (l.drop m).dropWhile Lx.letter)) (fun i => l.length - (intOf i).toNat)
          case atStart => exact ⟨j + 1, by omega, by omega, by go_num, ⟨by rw [take_drop_self]; rfl, rfl⟩⟩
          case round =>
            obtain ⟨m, hjm, hm, rfl, HM⟩ := hrel
            by_cases hml : m < l.length
            · have hmi : (m : Int) < (l.length : Int) := by omega
              by_cases hlet : Lx.letter l[m] = true
              · go_wp2_with (first | (go_at_call 40; (with_reducible refine (refLetter_any _ _).mono ?_); rintro e w' ⟨rfl, rfl⟩) | fail)
                go_round
                case rel =>
                  refine ⟨m + 1, by omega, by omega, by go_num, ?_⟩
                  have h := HM.out
                  rw [drop_at hml, List.takeWhile_cons_of_pos hlet, List.dropWhile_cons_of_pos hlet] at h
                  exact ⟨by rw [h.1, take_drop_snoc hml hjm]; simp, h.2⟩
                case measure => simp [intOf]; omega
              · have hlet' : Lx.letter l[m] = false := by simpa using hlet
                have HX : Hid ((l.drop (j + 1)).takeWhile Lx.letter = (l.take m).drop (j + 1) ∧ (l.drop (j + 1)).dropWhile Lx.letter = l.drop m) := by
                  have h := HM.out
                  rw [drop_at hml, List.takeWhile_cons_of_neg hlet, List.dropWhile_cons_of_neg hlet] at h
                  exact ⟨by rw [h.1]; simp, by rw [h.2, drop_at hml]⟩
                clear hlet
                go_wp2_with (first | (go_at_call 40; (with_reducible refine (refLetter_any _ _).mono ?_); rintro e w' ⟨rfl, rfl⟩) | fail)
                go_meet
                exact ⟨m, rfl, hm, by show _ = _; rw [HO.out]; exact HX.out.2.symm, by show _ = _; rw [HO.out, heap_alloc_new, HKK.out, HX.out.1], (Below.refl _ _).alloc (Nat.le_refl _) _⟩
            · obtain rfl : m = l.length := by omega
              have HX : Hid ((l.drop (j + 1)).takeWhile Lx.letter = (l.take l.length).drop (j + 1) ∧ (l.drop (j + 1)).dropWhile Lx.letter = []) := by
                have h := HM.out
                rw [List.drop_length] at h
                exact ⟨by rw [h.1]; simp, h.2⟩
              go_wp2_with fail
              go_meet
              exact ⟨l.length, rfl, hm, by show _ = _; rw [HO.out, HX.out.2, List.drop_length], by show _ = _; rw [HO.out, heap_alloc_new, HKK.out, HX.out.1]; simp, (Below.refl _ _).alloc (Nat.le_refl _) _⟩
        · have t1 : (Lx.kind (l.drop j) == 1) = false := by rw [hk]; rfl
          have t2 : (Lx.kind (l.drop j) == 2) = false := by rw [hk]; rfl
          have t4 : (Lx.kind (l.drop j) == 4) = false := by rw [hk]; rfl
          have t7 : (Lx.kind (l.drop j) == 7) = false := by rw [hk]; rfl
          have HKK := Lib.hid hk
          have HO : Hid (Lx.one (l.drop j) = ((5, []), l.drop (j + 1))) := by
            show _ = _
            rw [HC.out] at hk ⊢; exact Lx.one_k5 hk
          clear hk
          go_wp2_with fail
          go_meet
          exact ⟨j + 1, by go_num, by omega, by show _ = _; rw [HO.out], by show _ = _; rw [HO.out, heap_alloc_new, HKK.out], (Below.refl _ _).alloc (Nat.le_refl _) _⟩
        · have t1 : (Lx.kind (l.drop j) == 1) = false := by rw [hk]; rfl
          have t2 : (Lx.kind (l.drop j) == 2) = false := by rw [hk]; rfl
          have t4 : (Lx.kind (l.drop j) == 4) = false := by rw [hk]; rfl
          have t7 : (Lx.kind (l.drop j) == 7) = false := by rw [hk]; rfl
          have HKK := Lib.hid hk
          have HO : Hid (Lx.one (l.drop j) = ((6, []), l.drop (j + 1))) := by
            show _ = _
            rw [HC.out] at hk ⊢; exact Lx.one_k6 hk
          clear hk
          go_wp2_with fail
          go_meet
          exact ⟨j + 1, by go_num, by omega, by show _ = _; rw [HO.out], by show _ = _; rw [HO.out, heap_alloc_new, HKK.out], (Below.refl _ _).alloc (Nat.le_refl _) _⟩
        · have t1 : (Lx.kind (l.drop j) == 1) = false := by rw [hk]; rfl
          have t2 : (Lx.kind (l.drop j) == 2) = false := by rw [hk]; rfl
          have t4 : (Lx.kind (l.drop j) == 4) = false := by rw [hk]; rfl
          have t7 : (Lx.kind (l.drop j) == 7) = true := by rw [hk]; rfl
          have HKK := Lib.hid hk
          have hj2 : j + 1 < l.length := by
            have h7 := hk
            rw [HC.out] at h7
            have := (Lx.kind_seven h7).2.1
            rcases Nat.lt_or_ge (j + 1) l.length with h | h
            · exact h
            · exact absurd (List.drop_eq_nil_of_le h) this
          have HO : Hid (Lx.one (l.drop j) = ((7, [l[j + 1]]), l.drop (j + 1 + 1))) := by
            show _ = _
            rw [HC.out] at hk ⊢; rw [Lx.one_k7 hk, drop_at hj2]; first | done | rfl
          clear hk
          go_wp2_with fail
          go_meet
          exact ⟨j + 1 + 1, by go_num, by omega, by show _ = _; rw [HO.out], by show _ = _; rw [HO.out, heap_alloc_new, HKK.out], (Below.refl _ _).alloc (Nat.le_refl _) _⟩
        · have t1 : (Lx.kind (l.drop j) == 1) = true := by rw [hk]; rfl
          have HO := Lib.hid (Lx.one_k1 hk)
          clear hk
          go_wp2_with (first | (go_at_call 38; (with_reducible refine (refWord_any _ _ hlt (by omega) _).mono ?_); rintro e w1 ⟨e1, rfl, he1, hd1, hb1⟩; have HW := HGW.out _ hb1; have q0 := pair_cell0 HW.out.1; have q1 := pair_cell1 HW.out.1; have f0 := pair_free HW.out.1 0; have f1 := pair_free HW.out.1 1; have HD1 := Lib.hid hd1; clear hd1 hb1) | fail)
          go_meet
          exact ⟨e1, rfl, he1, by show _ = _; rw [HO.out]; exact HD1.out, by show _ = _; rw [HO.out]; exact pair_set HW.out.1 _ _, below_setCell2 HW.out.2 (Nat.le_refl _) _ _ _ _⟩
      case rest =>
        obtain ⟨e1, rfl, he1, HD, HT, hb1⟩ := hcut
        have q0 : wc.cell? ⟨wr.heap.size, 0, none⟩ = some (.int .i64 (Lx.one (l.drop j)).1.1) := by simp [World.cell?, show wc.heap[wr.heap.size]? = _ from HT]
        have q1 : wc.cell? ⟨wr.heap.size, 1, none⟩ = some (.string (S (Lx.one (l.drop j)).1.2)) := by simp [World.cell?, show wc.heap[wr.heap.size]? = _ from HT]
        have hown1 := own_below hown (own_under hown) hb1
        have hsz1 := hb1.size
        have hj1 : j < e1 := by
          have h1 := HLEN.out; rw [← HD.out] at h1; simp at h1; omega
        go_wp2_with (at_builtin; refine wp_app tyRef rfl _ _ rfl w.heap.size hown1 rfl rfl (by simp) rfl tc_one (by omega) (by omega) (by omega) ?_; intro v2 w2 hown2 hb2 _)
        go_roundw
        case rel => exact ⟨e1, acc ++ [(Lx.one (l.drop j)).1], he1, by simp; omega, rfl, by rw [tcs_snoc, List.length_append]; exact hown2, by show _ = _; rw [← HG.out, HLEX.out, HD.out]; simp, (hbw.trans (hb1.mono hsz)).trans hb2⟩
        case measure => simp [intOf]; omega
    · obtain rfl : j = l.length := by omega
      have hx : acc = Lx.lex l := by rw [← HG.out, List.drop_length, Lx.lex_nil, List.append_nil]
      subst hx
      go_wp2_with fail
      go_ret
      exact ⟨_, rfl, hown, hbw⟩

end Go.Proofs.YteahcmgdlbpmiaaGreatDoor
