/- Walks and plain laws, 9: More laws of tokens, on lists of bytes: texts with an empty line between them; a word of letters; one blank or another. No program in sight. No condition. Expansions of a text that includes nothing do not depend on files; one that includes such a one alone. No condition. How much an expansion puts out, reads and notes. No condition. Maps of files: how many, how long, in order. No condition. 'ExpandBounds', walked: it answers true at every input. No condition. 'ExpandInclude', walked: it answers true at every input. No condition. -/
import Derived.Test.YteahcmgdlbpmiaaGreatDoorIn8
namespace Go.Proofs.YteahcmgdlbpmiaaGreatDoor.Lx

/-! ### a word of letters -/
theorem letter_plain {c : UInt8} (h : letter c = true) : special c = false := by
  cases hc : special c with
  | false => rfl
  | true => rw [special_not_letter hc] at h; cases h

theorem safe_letters {w : Bytes} (h : w.all letter = true) : safe w = w := by
  induction w with
  | nil => rfl
  | cons c w ih =>
    simp only [List.all_cons, Bool.and_eq_true] at h
    have e : safe (c :: w) = (if special c then [92, c] else [c]) ++ safe w := rfl
    rw [e, letter_plain h.1, ih h.2]; rfl

theorem lex_word {w : Bytes} (h : w.all letter = true) (hw : w ≠ []) : lex w = [(1, w)] := by
  have := lex_text (l := [(1, w)]) (by simp [right, rightF, may, joins, hw, gaps])
  have e : text [(1, w)] = w := by simp [text, textOf, safe_letters h]
  rwa [e] at this
theorem lex_command {w : Bytes} (h : w.all letter = true) (hw : w ≠ []) : lex (92 :: w) = [(4, w)] := by
  have := lex_text (l := [(4, w)]) (by simp only [right, rightF, may, joins, gaps]; simp [h, hw])
  have e : text [(4, w)] = 92 :: w := by simp [text, textOf]
  rwa [e] at this
theorem lex_braces {w : Bytes} (h : w.all letter = true) (hw : w ≠ []) : lex (123 :: w ++ [32, 125]) = [(5, []), (1, w), (2, []), (6, [])] := by
  have := lex_text (l := [(5, []), (1, w), (2, []), (6, [])]) (by simp [right, rightF, may, joins, hw, gaps])
  have e : text [(5, []), (1, w), (2, []), (6, [])] = 123 :: w ++ [32, 125] := by simp [text, textOf, safe_letters h]
  rwa [e] at this

/-! ### one blank or another -/
def flat (f : Bytes) (s : Bytes) : Bytes := s.flatMap fun c => if c == 9 then f else [c]
theorem flat_cons (f : Bytes) (c : UInt8) (s : Bytes) : flat f (c :: s) = (if c == 9 then f else [c]) ++ flat f s := rfl
theorem flat_tab (f s : Bytes) : flat f (9 :: s) = f ++ flat f s := rfl
theorem flat_other {f : Bytes} {c : UInt8} {s : Bytes} (h : c ≠ 9) : flat f (c :: s) = c :: flat f s := by simp [flat_cons, h]

/-- What stands for a tab: a blank, or two. -/
def Blanks (f : Bytes) : Prop := f = [32] ∨ f = [32, 32]

theorem flat_head {f : Bytes} (hf : Blanks f) (s : Bytes) : letter ((flat f s).headD 0) = letter (s.headD 0) ∧ digit ((flat f s).headD 0) = digit (s.headD 0) := by
  cases s with
  | nil => exact ⟨rfl, rfl⟩
  | cons c s =>
    by_cases h : c = 9
    · subst h
      rcases hf with rfl | rfl <;> exact ⟨rfl, rfl⟩
    · rw [flat_other h]; exact ⟨rfl, rfl⟩

theorem flat_kind {f : Bytes} (hf : Blanks f) (s : Bytes) : kind (flat f s) = kind s := by
  cases s with
  | nil => rfl
  | cons c s =>
    by_cases h : c = 9
    · subst h
      rcases hf with rfl | rfl <;> rfl
    · have := flat_head hf s
      rw [flat_other h, kind_cons, kind_cons, this.1, this.2]

theorem flat_gap {f : Bytes} (hf : Blanks f) (s : Bytes) : ∀ (b : Bool) (n : Nat), gap b n (flat f s) = ((gap b n s).1, flat f (gap b n s).2) := by
  induction s with
  | nil => intro b n; cases b <;> rfl
  | cons c s ih =>
    intro b n
    by_cases h : c = 9
    · subst h
      rw [flat_tab]
      cases b
      · rcases hf with rfl | rfl
        · exact ih false n
        · exact ih false n
      · rcases hf with rfl | rfl
        · exact ih true n
        · exact ih true n
    · rw [flat_other h]
      cases b
      · unfold gap
        split
        · exact ih false _
        · split
          · exact ih true n
          · rw [flat_other h]
      · unfold gap
        split
        · exact ih false n
        · exact ih true n

theorem flat_word {f : Bytes} (hf : Blanks f) (s : Bytes) (h92 : (92 : UInt8) ∉ s) : word (flat f s) = ((word s).1, flat f (word s).2) := by
  induction s with
  | nil => rfl
  | cons c s ih =>
    have hk := flat_kind hf (c :: s)
    by_cases h1 : kind (c :: s) = 1
    · have h9 : c ≠ 9 := by rintro rfl; simp [kind] at h1
      have hc : c ≠ 92 := by rintro rfl; simp at h92
      rw [flat_other h9] at hk ⊢
      rw [word_one (hk.trans h1) (.inl hc), word_one h1 (.inl hc), ih (by simp at h92; exact h92.2)]
    · rw [word_stop h1]
      cases he : flat f (c :: s) with
      | nil => rfl
      | cons d t => rw [word_stop (by rw [← he, hk]; exact h1)]

theorem flat_ne {f : Bytes} (hf : Blanks f) {s : Bytes} (h : s ≠ []) : flat f s ≠ [] := by
  cases s with
  | nil => exact absurd rfl h
  | cons c s =>
    by_cases h9 : c = 9
    · subst h9
      rcases hf with rfl | rfl <;> simp [flat_tab]
    · simp [flat_other h9]

theorem flat_one {f : Bytes} (hf : Blanks f) (s : Bytes) (hs : s ≠ []) (h92 : (92 : UInt8) ∉ s) : one (flat f s) = ((one s).1, flat f (one s).2) := by
  cases s with
  | nil => exact absurd rfl hs
  | cons c s =>
    have hk := flat_kind hf (c :: s)
    rcases kind_cases c s with h | h | h | h | h | h
    · rw [one_k2 (hk.trans h), one_k2 h, flat_gap hf]
    · obtain ⟨rfl, _⟩ := kind_four h
      simp at h92
    · have h9 : c ≠ 9 := by rintro rfl; simp [kind] at h
      rw [flat_other h9] at hk ⊢
      rw [one_k5 (hk.trans h), one_k5 h]
    · have h9 : c ≠ 9 := by rintro rfl; simp [kind] at h
      rw [flat_other h9] at hk ⊢
      rw [one_k6 (hk.trans h), one_k6 h]
    · have h9 : c ≠ 9 := by rintro rfl; simp [kind] at h
      obtain ⟨_, hr, hd⟩ := kind_seven h
      rw [flat_other h9] at hk ⊢
      rw [one_k7 (hk.trans h), one_k7 h]
      cases s with
      | nil => exact absurd rfl hr
      | cons d s =>
        have h9 : d ≠ 9 := by rintro rfl; simp [digit] at hd
        rw [flat_other h9]; rfl
    · rw [one_k1 (hk.trans h), one_k1 h, flat_word hf _ h92]

theorem word_in (s : Bytes) : ∃ p, s = p ++ (word s).2 := by
  induction s using word.induct with
  | case1 => exact ⟨[], rfl⟩
  | case2 c h => rw [word, if_pos h]; exact ⟨[c], rfl⟩
  | case3 c h => rw [word, if_neg h]; exact ⟨[], rfl⟩
  | case4 c d r h h2 ih => rw [word, if_pos h, if_pos h2]; obtain ⟨p, hp⟩ := ih; exact ⟨c :: d :: p, by simp only [List.cons_append]; rw [← hp]⟩
  | case5 c d r h h2 ih => rw [word, if_pos h, if_neg h2]; obtain ⟨p, hp⟩ := ih; exact ⟨c :: p, by simp only [List.cons_append]; rw [← hp]⟩
  | case6 c d r h => rw [word, if_neg h]; exact ⟨[], rfl⟩
theorem gap_in (s : Bytes) : ∀ (b : Bool) (n : Nat), ∃ p, s = p ++ (gap b n s).2 := by
  induction s with
  | nil => intro b n; cases b <;> exact ⟨[], rfl⟩
  | cons c s ih =>
    intro b n
    cases b
    · unfold gap
      split
      · obtain ⟨p, hp⟩ := ih false (if c == 10 then n + 1 else n); exact ⟨c :: p, by rw [List.cons_append, ← hp]⟩
      · split
        · obtain ⟨p, hp⟩ := ih true n; exact ⟨c :: p, by rw [List.cons_append, ← hp]⟩
        · exact ⟨[], rfl⟩
    · unfold gap
      split
      · obtain ⟨p, hp⟩ := ih false n; exact ⟨c :: p, by rw [List.cons_append, ← hp]⟩
      · obtain ⟨p, hp⟩ := ih true n; exact ⟨c :: p, by rw [List.cons_append, ← hp]⟩

/-- What is left is an end of the text. -/
theorem one_in (c : UInt8) (r : Bytes) : ∃ p, c :: r = p ++ (one (c :: r)).2 := by
  rcases kind_cases c r with h | h | h | h | h | h
  · rw [one_k2 h]; exact gap_in _ _ _
  · rw [one_k4 h]; exact ⟨c :: r.takeWhile letter, by simp [List.takeWhile_append_dropWhile]⟩
  · rw [one_k5 h]; exact ⟨[c], rfl⟩
  · rw [one_k6 h]; exact ⟨[c], rfl⟩
  · rw [one_k7 h]; exact ⟨c :: r.take 1, by cases r <;> rfl⟩
  · rw [one_k1 h]; exact word_in _

/-- ANOTHER BLANK MAKES NO DIFFERENCE. -/
theorem lex_flatF {f : Bytes} (hf : Blanks f) (n : Nat) : ∀ s : Bytes, s.length ≤ n → (92 : UInt8) ∉ s → lex (flat f s) = lex s := by
  induction n with
  | zero => intro s h _; cases s with
    | nil => rfl
    | cons c r => simp at h
  | succ n ih =>
    intro s h h92
    cases s with
    | nil => rfl
    | cons c r =>
      have hlt := one_lt c r
      obtain ⟨p, hp⟩ := one_in c r
      rw [lex_ne (flat_ne hf (by simp)), flat_one hf _ (by simp) h92, lex_cons, ih _ (by simp at h; omega) (by rw [hp] at h92; simp at h92; exact h92.2)]
theorem lex_flat {f : Bytes} (hf : Blanks f) {s : Bytes} (h92 : (92 : UInt8) ∉ s) : lex (flat f s) = lex s := lex_flatF hf s.length s (Nat.le_refl _) h92

/-! ### two texts with an empty line between them -/
/-- An empty line, and a text that begins with no blank. -/
def Apart (X : Bytes) : Prop := ∃ t, X = 10 :: 10 :: t ∧ kind t ≠ 2

theorem Apart.two {X : Bytes} (h : Apart X) : kind X = 2 := by obtain ⟨t, rfl, _⟩ := h; rfl
theorem Apart.letter {X : Bytes} (h : Apart X) : letter (X.headD 0) = false := by obtain ⟨t, rfl, _⟩ := h; rfl

theorem app_head {X : Bytes} (h : Apart X) (r : Bytes) : letter ((r ++ X).headD 0) = letter (r.headD 0) ∧ digit ((r ++ X).headD 0) = digit (r.headD 0) := by
  cases r with
  | nil => obtain ⟨t, rfl, _⟩ := h; exact ⟨rfl, rfl⟩
  | cons c r => exact ⟨rfl, rfl⟩
theorem app_kind {X : Bytes} (h : Apart X) (c : UInt8) (r : Bytes) : kind (c :: r ++ X) = kind (c :: r) := by
  have := app_head h r
  rw [List.cons_append, kind_cons, kind_cons, this.1, this.2]

theorem app_gap (X s : Bytes) : ∀ (b : Bool) (n : Nat), (gap b n s).2 ≠ [] → gap b n (s ++ X) = ((gap b n s).1, (gap b n s).2 ++ X) := by
  induction s with
  | nil => intro b n h; cases b <;> exact absurd rfl h
  | cons c s ih =>
    intro b n h
    rw [List.cons_append]
    cases b
    · unfold gap at h ⊢
      split
      · rename_i h1; rw [if_pos h1] at h; exact ih _ _ h
      · rename_i h1
        rw [if_neg h1] at h
        split
        · rename_i h2; rw [if_pos h2] at h; exact ih _ _ h
        · rfl
    · unfold gap at h ⊢
      split
      · rename_i h1; rw [if_pos h1] at h; exact ih _ _ h
      · rename_i h1; rw [if_neg h1] at h; exact ih _ _ h

theorem app_word {X : Bytes} (hX : Apart X) (s : Bytes) (hl : s.getLast? ≠ some 92) : word (s ++ X) = ((word s).1, (word s).2 ++ X) := by
  induction s using word.induct with
  | case1 =>
    have e : word ([] ++ X) = ([], X) := by
      obtain ⟨t, rfl, _⟩ := hX
      exact word_stop (by simp [kind])
    rw [e]; rfl
  | case2 c h =>
    have hc : c ≠ 92 := by rintro rfl; simp at hl
    have e : word X = ([], X) := by
      obtain ⟨t, rfl, _⟩ := hX
      exact word_stop (by simp [kind])
    have hk := (app_kind hX c []).trans h
    have e2 : word ([c] ++ X) = (c :: (word X).1, (word X).2) := word_one hk (.inl hc)
    rw [e2, e, word, if_pos h]; rfl
  | case3 c h =>
    have hk : kind ([c] ++ X) ≠ 1 := by rw [app_kind hX c []]; exact h
    have e2 : word ([c] ++ X) = ([], c :: X) := word_stop hk
    rw [e2, word, if_neg h]; rfl
  | case4 c d r h h2 ih =>
    have h3 : c = 92 := by simpa using h2
    subst h3
    have hk := (app_kind hX 92 (d :: r)).trans h
    have hr : r.getLast? ≠ some 92 := by
      cases r with
      | nil => simp
      | cons a r => simpa [List.getLast?_cons_cons] using hl
    have e2 : word (92 :: d :: r ++ X) = (d :: (word (r ++ X)).1, (word (r ++ X)).2) := word_esc hk
    rw [e2, ih hr, word, if_pos h, if_pos h2]
  | case5 c d r h h2 ih =>
    have hc : c ≠ 92 := by simpa using h2
    have hk := (app_kind hX c (d :: r)).trans h
    have hr : (d :: r).getLast? ≠ some 92 := by simpa [List.getLast?_cons_cons] using hl
    have e2 : word (c :: (d :: r) ++ X) = (c :: (word (d :: r ++ X)).1, (word (d :: r ++ X)).2) := word_one hk (.inl hc)
    rw [e2, ih hr, word, if_pos h, if_neg h2]
  | case6 c d r h =>
    have hk : kind (c :: (d :: r) ++ X) ≠ 1 := by rw [app_kind hX]; exact h
    have e2 : word (c :: (d :: r) ++ X) = ([], c :: (d :: r ++ X)) := word_stop hk
    rw [e2, word, if_neg h]; rfl

theorem app_takeWhile {X : Bytes} {p : UInt8 → Bool} (hX : p (X.headD 0) = false) (r : Bytes) : (r ++ X).takeWhile p = r.takeWhile p ∧ (r ++ X).dropWhile p = r.dropWhile p ++ X := by
  induction r with
  | nil =>
    cases X with
    | nil => exact ⟨rfl, rfl⟩
    | cons c X =>
      have : p c = false := hX
      simp [this]
  | cons c r ih =>
    rw [List.cons_append, List.takeWhile_cons, List.takeWhile_cons, List.dropWhile_cons, List.dropWhile_cons]
    split
    · exact ⟨by rw [ih.1], ih.2⟩
    · exact ⟨rfl, rfl⟩

theorem app_one {X : Bytes} (hX : Apart X) (c : UInt8) (r : Bytes) (hl : (c :: r).getLast? ≠ some 92) (hg : kind (c :: r) = 2 → (gap false 0 (c :: r)).2 ≠ []) :
    one (c :: r ++ X) = ((one (c :: r)).1, (one (c :: r)).2 ++ X) := by
  have hk := app_kind hX c r
  rcases kind_cases c r with h | h | h | h | h | h
  · rw [one_k2 (hk.trans h), one_k2 h, app_gap X _ _ _ (hg h)]
  · have := app_takeWhile hX.letter r
    have e : one (c :: r ++ X) = ((4, (r ++ X).takeWhile letter), (r ++ X).dropWhile letter) := one_k4 (hk.trans h)
    rw [e, one_k4 h, this.1, this.2]
  · have e : one (c :: r ++ X) = ((5, []), r ++ X) := one_k5 (hk.trans h)
    rw [e, one_k5 h]
  · have e : one (c :: r ++ X) = ((6, []), r ++ X) := one_k6 (hk.trans h)
    rw [e, one_k6 h]
  · obtain ⟨_, hr, _⟩ := kind_seven h
    have e : one (c :: r ++ X) = ((7, (r ++ X).take 1), (r ++ X).drop 1) := one_k7 (hk.trans h)
    rw [e, one_k7 h]
    cases r with
    | nil => exact absurd rfl hr
    | cons d r => rfl
  · rw [one_k1 (hk.trans h), one_k1 h, app_word hX _ hl]

theorem last_in {p q : Bytes} (h : (p ++ q).getLast? ≠ some 92) : q.getLast? ≠ some 92 := by
  intro e
  apply h
  rw [List.getLast?_append, e]; rfl

theorem lex_par {t : Bytes} (ht : kind t ≠ 2) : lex (10 :: 10 :: t) = (3, []) :: lex t := by
  have hk : kind (10 :: 10 :: t) = 2 := rfl
  have e : gap false 0 (10 :: 10 :: t) = gap false 2 t := rfl
  rw [lex_cons, one_k2 hk, e, gap_stop ht]; rfl

/-- AN EMPTY LINE BETWEEN TWO TEXTS IS A TOKEN OF ITS OWN. -/
theorem lex_joinsF {t : Bytes} (ht : kind t ≠ 2) (n : Nat) : ∀ s : Bytes, s.length ≤ n → s ≠ [] → s.getLast? ≠ some 92 → (∀ x, (lex s).getLast? = some x → gaps x.1 = false) →
    lex (s ++ 10 :: 10 :: t) = lex s ++ (3, []) :: lex t := by
  have hX : Apart (10 :: 10 :: t) := ⟨t, rfl, ht⟩
  induction n with
  | zero => intro s h hs _ _; cases s with
    | nil => exact absurd rfl hs
    | cons c r => simp at h
  | succ n ih =>
    intro s h hs hl hg
    cases s with
    | nil => exact absurd rfl hs
    | cons c r =>
      have hlt := one_lt c r
      obtain ⟨p, hp⟩ := one_in c r
      have hone := app_one hX c r hl (fun hk he => by
        have e := one_k2 hk
        have := hg (one (c :: r)).1 (by rw [lex_cons, e, he]; rfl)
        rw [e] at this
        rcases gapKind_cases (gap false 0 (c :: r)).1 with e2 | e2 <;> simp [e2, gaps] at this)
      rw [lex_ne (s := c :: r ++ 10 :: 10 :: t) (by simp), hone, lex_cons]
      by_cases he : (one (c :: r)).2 = []
      · rw [he, List.nil_append, lex_par ht]; rfl
      · rw [ih _ (by simp at h; omega) he (last_in (hp ▸ hl)) (fun x hx => hg x (by
          rw [lex_cons, List.getLast?_cons, hx]; rfl))]
        rfl

theorem lex_joins {s t : Bytes} (hs : s ≠ []) (ht : kind t ≠ 2) (hl : s.getLast? ≠ some 92) (hg : ∀ x, (lex s).getLast? = some x → gaps x.1 = false) : lex (s ++ 10 :: 10 :: t) = lex s ++ (3, []) :: lex t :=
  lex_joinsF ht s.length s (Nat.le_refl _) hs hl hg

/-- The first token is a gap where a blank or a remark stands first. -/
theorem lex_first {t : Bytes} (ht : t ≠ []) : (kind t = 2) = (gaps (((lex t).headD (0, [])).1) = true) := by
  cases t with
  | nil => exact absurd rfl ht
  | cons c r =>
    rw [lex_cons]
    show _ = (gaps (one (c :: r)).1.1 = true)
    rcases kind_cases c r with h | h | h | h | h | h
    · rw [one_k2 h, h]; rcases gapKind_cases (gap false 0 (c :: r)).1 with e | e <;> simp [e, gaps]
    · rw [one_k4 h, h]; simp [gaps]
    · rw [one_k5 h, h]; simp [gaps]
    · rw [one_k6 h, h]; simp [gaps]
    · rw [one_k7 h, h]; simp [gaps]
    · rw [one_k1 h, h]; simp [gaps]

end Go.Proofs.YteahcmgdlbpmiaaGreatDoor.Lx

namespace Go.Proofs.YteahcmgdlbpmiaaGreatDoor
namespace Ex
open Lx

def NoInc (l : List Tok) : Prop := ∀ t ∈ l, ¬ (t.1 = 4 ∧ t.2 = sInc)
structure Ni (st : St) : Prop where
  inn : NoInc st.inn
  mac : ∀ m ∈ st.macs, NoInc m.2.2
theorem NoInc.drop {l : List Tok} (h : NoInc l) (n : Nat) : NoInc (l.drop n) := fun t ht => h t (List.mem_of_mem_drop ht)
theorem Ni.with {st : St} (h : Ni st) {r : List Tok} (hr : NoInc r) : Ni { st with inn := r } := ⟨hr, h.mac⟩
theorem Ni.note {st : St} (h : Ni st) (e : Int) (s : List UInt8) : Ni (note st e s) := ⟨h.inn, h.mac⟩
theorem Ni.burnt {st : St} (h : Ni st) : Ni (burnt st) := ⟨h.inn, h.mac⟩
theorem NoInc.append {a b : List Tok} (ha : NoInc a) (hb : NoInc b) : NoInc (a ++ b) := fun t ht => (List.mem_append.1 ht).elim (ha t) (hb t)
theorem Ni.come {st : St} (h : Ni st) (most : Nat) (name : List UInt8) {l : List Tok} (hl : NoInc l) : Ni (come most st name l) := by
  unfold Ex.come
  split
  · exact h.note _ _
  · exact h.with (hl.append h.inn)
theorem putM_fst {l : List Mac} {f : Mac} (h : (putM l f).2 = 0) : (putM l f).1 = putL l f := by
  unfold putM at h ⊢
  split at h
  · cases h
  · rename_i h1
    rw [if_neg h1]
    split at h
    · cases h
    · rename_i h2
      rw [if_neg h2]
      split at h
      · cases h
      · rename_i h3
        rw [if_neg h3]
theorem noInc_getD {x : List (List Tok)} {n : Nat} (h : ∀ g ∈ x, NoInc g) : NoInc (x.getD n []) := getD_in (P := NoInc) (fun t ht => by cases ht) h
theorem ni_def {st : St} (h : Ni st) : Ni (doDef st) := by
  unfold doDef
  cases hg : gr st.inn 3 2 with
  | none => exact h.note _ _
  | some y =>
    obtain ⟨x, ws, r⟩ := y
    obtain ⟨tq, rfl, _, _, hin, _⟩ := gr_some hg
    have hr := h.inn.drop tq
    have hx : ∀ g ∈ x, NoInc g := fun g hg t ht => h.inn t ((hin g hg).2 t ht)
    simp only
    split
    · split
      · rename_i h0
        refine ⟨hr, fun m hm => ?_⟩
        have hm : m ∈ (putM st.macs (ws.getD 0 [], digit (ws.getD 1 []), x.getD 2 [])).1 := hm
        rw [putM_fst h0] at hm
        rcases mem_putL9 hm with rfl | hm
        · exact noInc_getD hx
        · exact h.mac m hm
      · exact (h.with hr).note _ _
    · exact h.note _ _
theorem ni_undef {st : St} (h : Ni st) : Ni (doUndef st) := by
  unfold doUndef
  cases hg : gr st.inn 1 1 with
  | none => exact h.note _ _
  | some y =>
    obtain ⟨x, ws, r⟩ := y
    obtain ⟨tq, rfl, _⟩ := gr_some hg
    exact ⟨h.inn.drop tq, fun m hm => h.mac m (List.mem_filter.1 hm).1⟩
theorem ni_ifdef {st : St} (h : Ni st) : Ni (doIfdef st) := by
  unfold doIfdef
  cases hg : gr st.inn 3 1 with
  | none => exact h.note _ _
  | some y =>
    obtain ⟨x, ws, r⟩ := y
    obtain ⟨tq, rfl, _, _, hin, _⟩ := gr_some hg
    have hx : ∀ g ∈ x, NoInc g := fun g hg t ht => h.inn t ((hin g hg).2 t ht)
    refine h.with (NoInc.append ?_ (h.inn.drop tq))
    split
    · exact noInc_getD hx
    · exact noInc_getD hx
theorem ni_call {st : St} (h : Ni st) (most : Nat) {m : Mac} (hm : m ∈ st.macs) : Ni (doCall most st m) := by
  unfold doCall
  cases hg : gr st.inn m.2.1 0 with
  | none => exact h.note _ _
  | some y =>
    obtain ⟨x, ws, r⟩ := y
    obtain ⟨tq, rfl, _, _, hin, _⟩ := gr_some hg
    have hr := h.inn.drop tq
    simp only
    split
    · exact (h.with hr).note _ _
    · refine (h.with hr).burnt.come _ _ fun t ht => ?_
      rcases fill_mem ht with ht | ⟨g, hg, ht⟩
      · exact h.mac m hm t ht
      · exact h.inn t ((hin g hg).2 t ht)
theorem ni_step {st : St} (h : Ni st) (fs : List Fi.F) (most : Nat) {t : Tok} (ht : ¬ (t.1 = 4 ∧ t.2 = sInc)) : Ni (step fs most st t).1 := by
  have hp : Ni (put most st t).1 := by
    unfold put
    split
    · exact h.note _ _
    · exact ⟨h.inn, h.mac⟩
  unfold step
  split
  · rename_i h4
    have h5 : ¬ t.2 = sInc := fun e => ht ⟨h4, e⟩
    unfold cmd
    split
    · rename_i st' hc
      split at hc
      · injection hc with hc; subst hc; exact ni_def h
      · split at hc
        · injection hc with hc; subst hc; exact ni_undef h
        · split at hc
          · injection hc with hc; subst hc; exact ni_ifdef h
          · split at hc
            · rename_i hg
              injection hc with hc; subst hc; exact ni_call h _ (getM_mem hg).1
            · cases hc
    · exact hp
  · exact hp

/-- With other reads, and one more used. -/
def else9 (b : St) (r : List (List UInt8)) : St := { b with reads := r, used := b.used + 1 }
theorem def_else (a : St) (r : List (List UInt8)) : doDef (else9 a r) = else9 (doDef a) r := by
  unfold doDef
  show (match gr a.inn 3 2 with | none => _ | some (x, ws, r) => _) = _
  cases gr a.inn 3 2 with
  | none => rfl
  | some y =>
    obtain ⟨x, ws, q⟩ := y
    show (if _ then (if (putM a.macs _).2 = 0 then _ else _) else _) = else9 (if _ then (if (putM a.macs _).2 = 0 then _ else _) else _) r
    split
    · split
      · rfl
      · rfl
    · rfl
theorem undef_else (a : St) (r : List (List UInt8)) : doUndef (else9 a r) = else9 (doUndef a) r := by
  unfold doUndef
  show (match gr a.inn 1 1 with | none => _ | some (x, ws, r) => _) = _
  cases gr a.inn 1 1 with
  | none => rfl
  | some y => obtain ⟨x, ws, q⟩ := y; rfl
theorem ifdef_else (a : St) (r : List (List UInt8)) : doIfdef (else9 a r) = else9 (doIfdef a) r := by
  unfold doIfdef
  show (match gr a.inn 3 1 with | none => _ | some (x, ws, r) => _) = _
  cases gr a.inn 3 1 with
  | none => rfl
  | some y => obtain ⟨x, ws, q⟩ := y; rfl
theorem come_else (most : Nat) (a : St) (r : List (List UInt8)) (name : List UInt8) (l : List Tok) : come most (else9 a r) name l = else9 (come most a name l) r := by
  unfold come
  show (if most < l.length + a.inn.length then _ else _) = _
  split <;> rfl
theorem call_else (most : Nat) (a : St) (r : List (List UInt8)) (m : Mac) : doCall most (else9 a r) m = else9 (doCall most a m) r := by
  unfold doCall
  show (match gr a.inn m.2.1 0 with | none => _ | some (x, ws, r) => _) = _
  cases gr a.inn m.2.1 0 with
  | none => rfl
  | some y =>
    obtain ⟨x, ws, q⟩ := y
    show (if a.fuel = 0 then _ else _) = else9 (if a.fuel = 0 then _ else _) r
    split
    · rfl
    · exact come_else most (Ex.burnt { a with inn := q }) r _ _
theorem put_else (most : Nat) (a : St) (r : List (List UInt8)) (t : Tok) : put most (else9 a r) t = (else9 (put most a t).1 r, (put most a t).2) := by
  unfold put
  show (if most ≤ a.outL.length then _ else _) = _
  split <;> rfl
theorem step_else (fs fs' : List Fi.F) (most : Nat) (a : St) (r : List (List UInt8)) {t : Tok} (ht : ¬ (t.1 = 4 ∧ t.2 = sInc)) : step fs' most (else9 a r) t = (else9 (step fs most a t).1 r, (step fs most a t).2) := by
  unfold step
  by_cases h4 : t.1 = 4
  · have h5 : ¬ t.2 = sInc := fun e => ht ⟨h4, e⟩
    rw [if_pos h4, if_pos h4]
    have hc : cmd fs' most (else9 a r) t.2 = (cmd fs most a t.2).map fun b => else9 b r := by
      unfold cmd
      rw [if_neg h5, if_neg h5]
      show (if _ then _ else if _ then _ else if _ then _ else if (getM a.macs t.2).2 = true then some (doCall most (else9 a r) (getM a.macs t.2).1) else none) = _
      split
      · exact congrArg some (def_else a r)
      · split
        · exact congrArg some (undef_else a r)
        · split
          · exact congrArg some (ifdef_else a r)
          · split
            · exact congrArg some (call_else most a r _)
            · rfl
    rw [hc]
    cases cmd fs most a t.2 with
    | none => exact put_else most a r t
    | some b => rfl
  · rw [if_neg h4, if_neg h4]
    exact put_else most a r t
theorem run_else (fs fs' : List Fi.F) (most : Nat) (r : List (List UInt8)) : ∀ (n : Nat) (a : St), Ni a → run fs' most n (else9 a r) = else9 (run fs most n a) r
  | 0, _, _ => rfl
  | n + 1, a, h => by
    rw [run, run]
    show (match a.inn with | [] => else9 a r | t :: q => _) = _
    cases hi : a.inn with
    | nil => rfl
    | cons t q =>
      have hn := h.inn
      rw [hi] at hn
      have ht : ¬ (t.1 = 4 ∧ t.2 = sInc) := hn t (by simp)
      have hq : NoInc q := fun x hx => hn x (by simp [hx])
      have e : step fs' most { else9 a r with inn := q } t = (else9 (step fs most { a with inn := q } t).1 r, (step fs most { a with inn := q } t).2) := step_else fs fs' most { a with inn := q } r ht
      simp only
      rw [e]
      simp only
      split
      · exact run_else fs fs' most r n _ (ni_step (h.with hq) fs most ht)
      · rfl

/-! ### what a text's tokens ask for -/
theorem lex_inc (n : Nat) : ∀ s : List UInt8, s.length ≤ n → (4, sInc) ∈ lex s → ∃ p q, s = p ++ [92, 105, 110, 99] ++ q := by
  induction n with
  | zero =>
    intro s hs h
    obtain rfl : s = [] := List.eq_nil_of_length_eq_zero (by omega)
    rw [lex_nil] at h
    cases h
  | succ n ih =>
    intro s hs h
    cases s with
    | nil => rw [lex_nil] at h; cases h
    | cons c r =>
      rw [lex_cons] at h
      rcases List.mem_cons.1 h with h1 | h1
      · rcases kind_cases c r with k | k | k | k | k | k
        · rw [one_k2 k] at h1
          have := congrArg Prod.fst h1
          simp only at this
          unfold gapKind at this
          split at this <;> cases this
        · rw [one_k4 k] at h1
          obtain ⟨rfl, _, _⟩ := kind_four k
          have h2 : sInc = r.takeWhile letter := congrArg Prod.snd h1
          have h3 : r = r.takeWhile letter ++ r.dropWhile letter := (List.takeWhile_append_dropWhile).symm
          rw [← h2] at h3
          obtain ⟨q, hq⟩ : ∃ q, q = r.dropWhile letter := ⟨_, rfl⟩
          rw [← hq] at h3
          refine ⟨[], [108, 117, 100, 101] ++ q, ?_⟩
          rw [h3]
          simp [sInc]
        · rw [one_k5 k] at h1; cases h1
        · rw [one_k6 k] at h1; cases h1
        · rw [one_k7 k] at h1
          have := congrArg Prod.fst h1
          cases this
        · rw [one_k1 k] at h1
          have := congrArg Prod.fst h1
          cases this
      · have hl := one_lt c r
        simp only [List.length_cons] at hs
        obtain ⟨p, q, hp⟩ := ih _ (by omega) h1
        obtain ⟨x, hx⟩ := one_in c r
        exact ⟨x ++ p, q, by rw [hx, hp]; simp⟩
theorem noInc_lex {s : List UInt8} (h : ∀ p q, s ≠ p ++ [92, 105, 110, 99] ++ q) : NoInc (lex s) := fun t ht ⟨h1, h2⟩ => by
  obtain ⟨a, b⟩ := t
  simp only at h1 h2
  subst h1 h2
  obtain ⟨p, q, e⟩ := lex_inc _ s (Nat.le_refl _) ht
  exact h p q e

/-- The text of the document that includes another one alone. -/
abbrev incB : List UInt8 := [92, 105, 110, 99, 108, 117, 100, 101, 123, 98, 125]
theorem inc_start (s : List UInt8) (n : Nat) : start [([98], s), ([109], incB)] [109] (n + 1) = ⟨[(4, sInc), (5, []), (1, [98]), (6, [])], [], n + 1, [], [[109]], [], 0⟩ := by
  have h1 : Fi.get [([98], s), ([109], incB)] [109] = (incB, true) := rfl
  have h2 : lex incB = [(4, sInc), (5, []), (1, [98]), (6, [])] := by decide +kernel
  unfold start
  rw [h1]
  simp only [if_true]
  rw [h2]
  rfl
theorem inc_step (s : List UInt8) (n : Nat) (hs : s.length ≤ 400) : step [([98], s), ([109], incB)] 400 ⟨[(5, []), (1, [98]), (6, [])], [], n + 1, [], [[109]], [], 0⟩ (4, sInc) = (⟨lex s, [], n, [], [[109], [98]], [], 1⟩, true) := by
  have hg : gr [(5, []), (1, [98]), (6, [])] 1 1 = some ([[(1, [98])]], [[98]], []) := rfl
  have h1 : Fi.get [([98], s), ([109], incB)] [98] = (s, true) := rfl
  have h2 : Fi.okName [98] = true := by decide +kernel
  have h3 : cmd [([98], s), ([109], incB)] 400 ⟨[(5, []), (1, [98]), (6, [])], [], n + 1, [], [[109]], [], 0⟩ sInc = some (doInclude [([98], s), ([109], incB)] 400 ⟨[(5, []), (1, [98]), (6, [])], [], n + 1, [], [[109]], [], 0⟩) := rfl
  have h4 : doInclude [([98], s), ([109], incB)] 400 ⟨[(5, []), (1, [98]), (6, [])], [], n + 1, [], [[109]], [], 0⟩ = ⟨lex s, [], n, [], [[109], [98]], [], 1⟩ := by
    unfold doInclude
    simp only
    rw [hg]
    show incl _ 400 ⟨[], [], n + 1, [], [[109]], [], 0⟩ [98] = _
    unfold incl
    rw [h2, h1]
    have hl := lex_len s
    rw [if_neg (by decide), if_neg (by simp), if_neg (by simp), if_neg (by simp)]
    unfold come
    show (if 400 < (lex s).length + 0 then _ else _) = _
    rw [if_neg (by omega)]
    show St.mk (lex s ++ []) [] (n + 1 - 1) [] _ [] 1 = _
    rw [List.append_nil]
    rfl
  unfold step
  rw [if_pos rfl]
  simp only
  rw [h3, h4]
theorem b_start (s : List UInt8) (n : Nat) : start [([98], s)] [98] n = ⟨lex s, [], n, [], [[98]], [], 0⟩ := rfl
/-- A document that includes another one alone is what that one is. -/
theorem expand_inc {s : List UInt8} (h : ∀ p q, s ≠ p ++ [92, 105, 110, 99] ++ q) (hs : s.length ≤ 400) (n : Nat) :
    expand [([98], s), ([109], incB)] [109] (n + 1) 400 = else9 (expand [([98], s)] [98] n 400) [[109], [98]] := by
  have hft : ∀ f ∈ [(([98] : List UInt8), s), ([109], incB)], f.2.length ≤ 400 := by
    intro f hf
    simp at hf
    rcases hf with rfl | rfl
    · exact hs
    · decide
  have hft' : ∀ f ∈ [(([98] : List UInt8), s)], f.2.length ≤ 400 := fun f hf => hft f (by simp at hf ⊢; exact .inl hf)
  obtain ⟨k, hk1, hk2⟩ : ∃ k, mu (400 + (start [([98], s), ([109], incB)] [109] (n + 1)).inn.length) (start [([98], s), ([109], incB)] [109] (n + 1)) ≤ k + 1 ∧ mu (400 + (start [([98], s)] [98] n).inn.length) (start [([98], s)] [98] n) ≤ k :=
    ⟨_, Nat.le_trans (Nat.le_max_left _ _) (Nat.le_succ _), Nat.le_max_right _ _⟩
  rw [expand_run hft hk1, expand_run hft' hk2, inc_start, run]
  simp only
  rw [inc_step s n hs]
  simp only [if_true]
  rw [b_start]
  exact run_else [([98], s)] _ 400 [[109], [98]] k ⟨lex s, [], n, [], [[98]], [], 0⟩ ⟨noInc_lex h, fun m hm => by cases hm⟩
theorem notes_else (b : St) (r : List (List UInt8)) : (else9 b r).outL = b.outL ∧ (else9 b r).notes = b.notes ∧ (else9 b r).used = b.used + 1 ∧ (else9 b r).reads = r := ⟨rfl, rfl, rfl, rfl⟩
end Ex
end Go.Proofs.YteahcmgdlbpmiaaGreatDoor

namespace Go.Proofs.YteahcmgdlbpmiaaGreatDoor
namespace Ex
theorem run_keeps {fs : List Fi.F} {most B T : Nat} (hmB : most ≤ B) (hfs : ∀ f ∈ fs, f.2.length ≤ T) : ∀ (n : Nat) (st : St), Ok most B T st → Ok most B T (run fs most n st) ∧ (run fs most n st).notes.length ≤ st.notes.length + n
  | 0, st, h => ⟨h, Nat.le_refl _⟩
  | n + 1, st, h => by
    rw [run]
    cases hi : st.inn with
    | nil => exact ⟨h, Nat.le_add_right _ _⟩
    | cons t r =>
      obtain ⟨_, h2, _, h4⟩ := lt_next (fs := fs) h hmB hfs hi
      simp only
      split
      · obtain ⟨k1, k2⟩ := run_keeps hmB hfs n _ h2
        exact ⟨k1, by omega⟩
      · exact ⟨h2, by omega⟩
theorem start_len {fs : List Fi.F} {main : List UInt8} {fuel T : Nat} (hft : ∀ f ∈ fs, f.2.length ≤ T) : (start fs main fuel).inn.length ≤ T ∧ (start fs main fuel).notes.length ≤ 1 := by
  unfold start
  split
  · refine ⟨?_, by simp [ask, zero]⟩
    refine Nat.le_trans (lex_len _) ?_
    unfold Fi.get
    cases hc : fs.find? fun f => f.1 == main with
    | none => exact Nat.zero_le _
    | some f => exact hft f (List.mem_of_find?_eq_some hc)
  · exact ⟨by simp [ask, zero, note], by simp [ask, zero, note]⟩
end Ex
theorem small_expand {fs : List Fl} {main : List UInt8} {fuel most : Nat} (hft : ∀ f ∈ fs, f.2.length ≤ 1000) (hfu : fuel ≤ 100) (hmo : most ≤ 1000) : Small (Ex.expand fs main fuel most) := by
  obtain ⟨s1, s2⟩ := Ex.start_len (main := main) (fuel := fuel) hft
  obtain ⟨h1, h2⟩ := Ex.run_keeps (Nat.le_add_right most (Ex.start fs main fuel).inn.length) hft (Ex.mu (most + (Ex.start fs main fuel).inn.length) (Ex.start fs main fuel)) (Ex.start fs main fuel) (Ex.ok_start9 hft)
  have hm : Ex.mu (most + (Ex.start fs main fuel).inn.length) (Ex.start fs main fuel) ≤ 300000 := by
    unfold Ex.mu
    rw [(Ex.start_keeps fs main fuel).1]
    have : fuel * (most + (Ex.start fs main fuel).inn.length + 1) ≤ 100 * 2001 := Nat.mul_le_mul hfu (by omega)
    omega
  refine ⟨Nat.le_trans h1.out (by omega), Nat.le_trans h1.rln (by decide), ?_⟩
  unfold Ex.expand
  omega
end Go.Proofs.YteahcmgdlbpmiaaGreatDoor

namespace Go.Proofs.YteahcmgdlbpmiaaGreatDoor

theorem put_texts {l : List Fl} {f : Fl} {b : Nat} (hl : ∀ g ∈ l, g.2.length ≤ b) (hf : f.2.length ≤ b) : ∀ g ∈ (Fi.put l f).1, g.2.length ≤ b := by
  unfold Fi.put
  split
  · intro g hg; cases hg
  · split
    · intro g hg; cases hg
    · intro g hg
      have hg : g ∈ Fi.putL l f := hg
      unfold Fi.putL at hg
      split at hg
      · rcases List.mem_or_eq_of_mem_set hg with h | rfl
        · exact hl g h
        · exact hf
      · rcases List.mem_append.1 hg with h | h
        · exact hl g (List.mem_of_mem_take h)
        · rcases List.mem_cons.1 h with rfl | h
          · exact hf
          · exact hl g (List.mem_of_mem_drop h)
theorem mapF_keeps (m b : Nat) : ∀ (l out : List Fl), Fi.Ord out → (∀ g ∈ out, g.2.length ≤ b) → Fi.Ord (Fi.mapF m b out l) ∧ (∀ g ∈ Fi.mapF m b out l, g.2.length ≤ b) ∧ (Fi.mapF m b out l).length ≤ out.length + l.length := by
  intro l
  induction l with
  | nil => intro out h1 h2; exact ⟨h1, h2, Nat.le_refl _⟩
  | cons f r ih =>
    intro out h1 h2
    rw [map_step]
    split
    · have h3 := ih _ (ord_put h1 (f.1, f.2.take b)) (put_texts h2 (by simp only [List.length_take]; omega))
      have := put_len out (f.1, f.2.take b)
      exact ⟨h3.1, h3.2.1, by have := h3.2.2; rw [List.length_cons]; omega⟩
    · have h3 := ih _ h1 h2
      exact ⟨h3.1, h3.2.1, by have := h3.2.2; rw [List.length_cons]; omega⟩
/-- A map of at most six files with texts of at most two hundred bytes. -/
theorem map_keeps (l : List Fl) (m b : Nat) : Fi.Ord (Fi.map l m b) ∧ (∀ g ∈ Fi.map l m b, g.2.length ≤ b) ∧ (Fi.map l m b).length ≤ m := by
  have h := mapF_keeps m b (l.take m) [] ord_nil (by intro g hg; cases hg)
  refine ⟨h.1, h.2.1, ?_⟩
  have := h.2.2
  rw [List.length_take] at this
  unfold Fi.map
  simp only [List.length_nil] at this
  omega
end Go.Proofs.YteahcmgdlbpmiaaGreatDoor

namespace Go.Proofs.YteahcmgdlbpmiaaGreatDoor
open Go.RowKit

theorem sameO_plus (E : Ex.St) : sameO E (Ex.plus E) = true := by simp [sameO, Ex.plus]
/-- A box that holds an expansion, ever after. -/
theorem box9 {w1 V : World} {a b c d : Value} {E : Ex.St} (hV : V = w1.alloc (.cells #[a, b, c, d] 31)) (h : RdO w1 (.agg #[a, b, c, d]) E) {W' : World} (hb : Below V.heap.size V W') :
    (W'.cell? ⟨w1.heap.size, 0, none⟩ = some a ∧ W'.cell? ⟨w1.heap.size, 1, none⟩ = some b ∧ W'.cell? ⟨w1.heap.size, 2, none⟩ = some c ∧ W'.cell? ⟨w1.heap.size, 3, none⟩ = some d) ∧ RdO W' (.agg #[a, b, c, d]) E := by
  have hv : Below w1.heap.size w1 V := by rw [hV]; exact (Below.refl _ _).alloc (Nat.le_refl _) _
  have r : Ro V w1.heap.size 31 [a, b, c, d] := by rw [hV]; exact heap_alloc_new w1 _
  have r9 := r.kw (Kw.of_below hb) (by have := r.lt; omega)
  exact ⟨⟨r9.cell (i := 0) rfl, r9.cell (i := 1) rfl, r9.cell (i := 2) rfl, r9.cell (i := 3) rfl⟩, h.below' (hv.trans (hb.mono hv.size))⟩

set_option maxRecDepth 20000 in
set_option maxHeartbeats 8000000 in
/-- 'ExpandBounds'. -/
theorem expandBounds_any (v0 : Value) (l : List Fl) (main : List UInt8) (y z : Int) (w : World) (hl : Rf w v0 l) (hs : ∀ f ∈ l, f.1.length ≤ 9223372036854775807 ∧ f.2.length ≤ 9223372036854775807) (hy : 0 ≤ y ∧ y ≤ 255) (hz : 0 ≤ z ∧ z ≤ 255) (hgl : Gl w) (hw0 : 0 < w.heap.size) :
    Calls Tryz.prog 5 #[v0, .string (S main), .agg #[.int .u8 y, .int .u8 z]] w fun e w' => e = .returned (.bool true) ∧ Below w.heap.size w w' := by
  obtain ⟨y, rfl⟩ := Int.eq_ofNat_of_zero_le hy.1
  obtain ⟨z, rfl⟩ := Int.eq_ofNat_of_zero_le hz.1
  obtain ⟨fu, hfu⟩ : ∃ fu, fu = y % 41 := ⟨_, rfl⟩
  have hfl : fu ≤ 40 := by omega
  have hzl : z ≤ 255 := by omega
  have hrem : (y : Int) % 41 = (fu : Int) := by omega
  obtain ⟨m, hm⟩ : ∃ m, m = Fi.map l 6 200 := ⟨_, rfl⟩
  obtain ⟨hm1, hm2, hm3⟩ := map_keeps l 6 200
  rw [← hm] at hm1 hm2 hm3
  obtain ⟨W0, hW0⟩ : ∃ W0, W0 = w.alloc (.cells #[.int .u8 (y : Int), .int .u8 (z : Int)] 49) := ⟨_, rfl⟩
  have b0 : Below w.heap.size w W0 := by rw [hW0]; exact (Below.refl _ _).alloc (Nat.le_refl _) _
  have HF := Lib.hid (files8_any v0 l W0 (hl.below' b0) hs)
  rw [← hm] at HF
  have HW0 := Lib.hid hW0
  have HM := Lib.hid hm
  clear hW0 hm
  obtain ⟨a0, c0, rfl⟩ := hl.shape
  go_enter Tryz.func5, Tryz.ntmps5
  go_upto_region 1 with fail
  rw [← HW0.out]
  go_upto_region 2 with (go_at_call 9; (with_reducible refine HF.out.mono ?_); rintro e w1 ⟨vm, rfl, om, b1⟩; obtain ⟨am, cm, rfl⟩ := own_shape om; have HOM := Lib.hid om; have HB1 := Lib.hid b1; clear om b1)
  have r0 : Ro W0 w.heap.size 49 [.int .u8 (y : Int), .int .u8 (z : Int)] := by rw [HW0.out]; exact heap_alloc_new w _
  have r1 := r0.kw (Kw.of_below HB1.out) (by have := r0.lt; omega)
  have c0 : ∀ k, (w1.drewN k).cell? ⟨w.heap.size, 0, none⟩ = some (.int .u8 (y : Int)) := fun _ => r1.cell (i := 0) rfl
  have c1 : ∀ k, (w1.drewN k).cell? ⟨w.heap.size, 1, none⟩ = some (.int .u8 (z : Int)) := fun _ => r1.cell (i := 1) rfl
  have HB01 := Lib.hid (b0.trans (HB1.out.mono b0.size))
  clear r0 r1 b0
  obtain ⟨E1, hE1⟩ : ∃ E, E = Ex.expand m main fu z := ⟨_, rfl⟩
  obtain ⟨E2, hE2⟩ : ∃ E, E = Ex.expand m main (fu + 1) (z + 45) := ⟨_, rfl⟩
  have HX : Hid (∀ (f q : Nat) (zf zm : Int), f ≤ 100 → q ≤ 1000 → zf = (f : Int) → zm = (q : Int) → ∀ W, Below w1.heap.size w1 W → Calls Tryz.prog 11 #[.slice am m.length cm, .string (S main), .int .i64 zf, .int .i64 zm] W fun e w' => ∃ o, e = .returned (.tuple #[o, .int .i64 0]) ∧ RdO w' o (Ex.expand m main f q) ∧ Below W.heap.size W w') := Lib.hid fun f q zf zm hf hq ef em W hb =>
    (exp9_any (.slice am m.length cm) m main f q W ((rf_own HOM.out).below' hb) hm1 (by omega) (fun g hg => by have := hm2 g hg; omega) hf hq (hgl.below hw0 (HB01.out.trans (hb.mono HB01.out.size))) (Nat.lt_of_lt_of_le hw0 (Nat.le_trans HB01.out.size hb.size)) ef em).mono fun e w' ⟨o, q1, q2, q3, _⟩ => ⟨o, q1, q2, q3⟩
  have H1 := Lib.hid fun W hb => HX.out fu z (fu : Int) (z : Int) (by omega) (by omega) rfl rfl W hb
  have H2 := Lib.hid fun W hb => HX.out (fu + 1) (z + 45) ((fu : Int) + 1) ((z : Int) + 45) (by omega) (by omega) (by omega) (by omega) W hb
  rw [← hE1] at H1
  rw [← hE2] at H2
  have HE1 := Lib.hid hE1
  have HE2 := Lib.hid hE2
  clear hE1 hE2 HX hm1 hm3 hfu
  go_quiet (fail)
  rw [hrem]
  clear hrem c0 c1
  have arm := True.intro
  go_upto_region 4 with (go_at_call 11; (with_reducible refine (H1.out _ (below_drewN (Below.refl w1.heap.size w1) nq)).mono ?_); rintro e w2 ⟨o, rfl, ro, b2⟩; obtain ⟨vL, vR, vN, rfl, h1, h2, h3⟩ := ro; obtain ⟨aL, cL, rfl⟩ := h1.shape; obtain ⟨aR, cR, rfl⟩ := Rd.shape h2; obtain ⟨aN, cN, rfl⟩ := h3.shape; have HH := Lib.hid (show RdO w2 (.agg #[.slice aL E1.outL.length cL, .slice aR E1.reads.length cR, .slice aN E1.notes.length cN, .int .i64 (E1.used : Int)]) E1 from ⟨_, _, _, rfl, h1, h2, h3⟩); have HB2 := Lib.hid b2; clear h1 h2 h3 b2)
  clear arm
  obtain ⟨nL, hnL⟩ : ∃ n, n = E1.outL.length := ⟨_, rfl⟩
  obtain ⟨nR, hnR⟩ : ∃ n, n = E1.reads.length := ⟨_, rfl⟩
  obtain ⟨nN, hnN⟩ : ∃ n, n = E1.notes.length := ⟨_, rfl⟩
  obtain ⟨nU, hnU⟩ : ∃ n, n = E1.used := ⟨_, rfl⟩
  rw [← hnL, ← hnR, ← hnN, ← hnU] at HH ⊢
  obtain ⟨V1, hV1⟩ : ∃ V, V = w2.alloc (.cells #[.slice aL nL cL, .slice aR nR cR, .slice aN nN cN, .int .i64 (nU : Int)] 31) := ⟨_, rfl⟩
  rw [← hV1]
  have HX1 : Hid (∀ W', Below V1.heap.size V1 W' → (W'.cell? ⟨w2.heap.size, 0, none⟩ = some (.slice aL nL cL) ∧ W'.cell? ⟨w2.heap.size, 1, none⟩ = some (.slice aR nR cR) ∧ W'.cell? ⟨w2.heap.size, 2, none⟩ = some (.slice aN nN cN) ∧ W'.cell? ⟨w2.heap.size, 3, none⟩ = some (.int .i64 (nU : Int))) ∧ RdO W' (.agg #[.slice aL nL cL, .slice aR nR cR, .slice aN nN cN, .int .i64 (nU : Int)]) E1) := Lib.hid fun W' hb => box9 hV1 HH.out hb
  have bq : Below w1.heap.size w1 (w1.drewN nq) := below_drewN (Below.refl w1.heap.size w1) nq
  have HBA : Hid (Below w1.heap.size w1 V1) := Lib.hid (by
    have h9 := bq.trans (HB2.out.mono bq.size)
    rw [hV1]
    exact h9.alloc h9.size _)
  have HLE : Hid (nU ≤ fu ∧ nL ≤ z) := Lib.hid ⟨by rw [hnU, HE1.out]; exact Ex.used_le m main fu z, by rw [hnL, HE1.out]; exact Ex.outL_le m main fu z⟩
  have HNS : Hid (nN = E1.notes.length ∧ nL = E1.outL.length ∧ nR = E1.reads.length) := Lib.hid ⟨hnN, hnL, hnR⟩
  clear hnL hnR hnN hnU hV1 bq H1
  go_upto_region 5 with (go_at_call 11; (with_reducible refine (H2.out _ HBA.out).mono ?_); rintro e w3 ⟨o, rfl, ro, b3⟩; obtain ⟨vL, vR, vN, rfl, h1, h2, h3⟩ := ro; obtain ⟨bL, dL, rfl⟩ := h1.shape; obtain ⟨bR, dR, rfl⟩ := Rd.shape h2; obtain ⟨bN, dN, rfl⟩ := h3.shape; have HH2 := Lib.hid (show RdO w3 (.agg #[.slice bL E2.outL.length dL, .slice bR E2.reads.length dR, .slice bN E2.notes.length dN, .int .i64 (E2.used : Int)]) E2 from ⟨_, _, _, rfl, h1, h2, h3⟩); have HB3 := Lib.hid b3; clear h1 h2 h3 b3)
  obtain ⟨mL, hmL⟩ : ∃ n, n = E2.outL.length := ⟨_, rfl⟩
  obtain ⟨mR, hmR⟩ : ∃ n, n = E2.reads.length := ⟨_, rfl⟩
  obtain ⟨mN, hmN⟩ : ∃ n, n = E2.notes.length := ⟨_, rfl⟩
  obtain ⟨mU, hmU⟩ : ∃ n, n = E2.used := ⟨_, rfl⟩
  rw [← hmL, ← hmR, ← hmN, ← hmU] at HH2 ⊢
  obtain ⟨V2, hV2⟩ : ∃ V, V = w3.alloc (.cells #[.slice bL mL dL, .slice bR mR dR, .slice bN mN dN, .int .i64 (mU : Int)] 31) := ⟨_, rfl⟩
  rw [← hV2]
  have HX2 : Hid (∀ W', Below V2.heap.size V2 W' → (W'.cell? ⟨w3.heap.size, 0, none⟩ = some (.slice bL mL dL) ∧ W'.cell? ⟨w3.heap.size, 1, none⟩ = some (.slice bR mR dR) ∧ W'.cell? ⟨w3.heap.size, 2, none⟩ = some (.slice bN mN dN) ∧ W'.cell? ⟨w3.heap.size, 3, none⟩ = some (.int .i64 (mU : Int))) ∧ RdO W' (.agg #[.slice bL mL dL, .slice bR mR dR, .slice bN mN dN, .int .i64 (mU : Int)]) E2) := Lib.hid fun W' hb => box9 hV2 HH2.out hb
  have HBV : Hid (Below V1.heap.size V1 V2) := Lib.hid (by
    rw [hV2]
    exact HB3.out.alloc HB3.out.size _)
  have HC : Hid (∀ W', Below V2.heap.size V2 W' → ((W'.cell? ⟨w2.heap.size, 0, none⟩ = some (.slice aL nL cL) ∧ W'.cell? ⟨w2.heap.size, 1, none⟩ = some (.slice aR nR cR) ∧ W'.cell? ⟨w2.heap.size, 2, none⟩ = some (.slice aN nN cN) ∧ W'.cell? ⟨w2.heap.size, 3, none⟩ = some (.int .i64 (nU : Int))) ∧
      (W'.cell? ⟨w3.heap.size, 0, none⟩ = some (.slice bL mL dL) ∧ W'.cell? ⟨w3.heap.size, 1, none⟩ = some (.slice bR mR dR) ∧ W'.cell? ⟨w3.heap.size, 2, none⟩ = some (.slice bN mN dN) ∧ W'.cell? ⟨w3.heap.size, 3, none⟩ = some (.int .i64 (mU : Int)))) ∧
      RdO W' (.agg #[.slice aL nL cL, .slice aR nR cR, .slice aN nN cN, .int .i64 (nU : Int)]) E1 ∧ RdO W' (.agg #[.slice bL mL dL, .slice bR mR dR, .slice bN mN dN, .int .i64 (mU : Int)]) E2) := Lib.hid fun W' hb => by
    have h1 := HX1.out W' (HBV.out.trans (hb.mono HBV.out.size))
    have h2 := HX2.out W' hb
    exact ⟨⟨h1.1, h2.1⟩, h1.2, h2.2⟩
  have HBW : Hid (Below w.heap.size w V2) := Lib.hid ((HB01.out.trans (HBA.out.mono HB01.out.size)).trans (HBV.out.mono (Nat.le_trans HB01.out.size HBA.out.size)))
  clear hmL hmR hmN hmU hV2 H2 HX1 HX2
  have g1 : (nU : Int) ≤ (fu : Int) := by have := HLE.out.1; omega
  have g2 : (nL : Int) ≤ (z : Int) := by have := HLE.out.2; omega
  obtain ⟨⟨⟨c0, c1, c2, c3⟩, d0, d1, d2, d3⟩, _⟩ := HC.out V2 (Below.refl _ _)
  go_upto_region 7 with fail
  have HFX : Hid (∀ W', Below V2.heap.size V2 W' → Calls Tryz.prog 15 #[] W' fun e w' => e = .returned (.bool true) ∧ Below W'.heap.size W' w') := Lib.hid fun W' hb => exFixed_any W' (hgl.below hw0 (HBW.out.trans (hb.mono HBW.out.size))) (Nat.lt_of_lt_of_le hw0 (Nat.le_trans HBW.out.size hb.size))
  rcases Nat.eq_zero_or_pos nN with h0 | h0
  · have hnil : E1.notes = [] := List.eq_nil_of_length_eq_zero (by rw [← HNS.out.1]; exact h0)
    have HSM : Hid (∀ W o1 o2, RdO W o1 E1 → RdO W o2 E2 → Calls Tryz.prog 13 #[o1, o2] W fun e w' => e = .returned (.bool true) ∧ Below W.heap.size W w') := Lib.hid fun W o1 o2 k1 k2 => by
      have e1 := HE1.out
      have e2 := HE2.out
      have e3 : E2 = Ex.plus E1 := by rw [e2, e1]; exact Ex.expand_more hm2 (by rw [← e1]; exact hnil)
      have h9 := same8_any o1 o2 E1 E2 W k1 k2 (by rw [e1]; exact small_expand (fun g hg => by have := hm2 g hg; omega) (by omega) (by omega)) (by rw [e2]; exact small_expand (fun g hg => by have := hm2 g hg; omega) (by omega) (by omega))
      rw [e3, sameO_plus] at h9
      exact h9
    have HR1 : Hid (∀ W', Below V2.heap.size V2 W' → Calls Tryz.prog 14 #[.agg #[.slice aL nL cL, .slice aR nR cR, .slice aN nN cN, .int .i64 (nU : Int)]] W' fun e w' => ∃ o, e = .returned o ∧ RdO w' o E1 ∧ Below W'.heap.size W' w') := Lib.hid fun W' hb => ref8_any _ E1 W' (HC.out W' hb).2.1 (by rw [← HNS.out.2.1]; omega)
    have HR2 : Hid (∀ W', Below V2.heap.size V2 W' → Calls Tryz.prog 14 #[.agg #[.slice bL mL dL, .slice bR mR dR, .slice bN mN dN, .int .i64 (mU : Int)]] W' fun e w' => ∃ o, e = .returned o ∧ RdO w' o E2 ∧ Below W'.heap.size W' w') := Lib.hid fun W' hb => ref8_any _ E2 W' (HC.out W' hb).2.2 (by have := Ex.outL_le m main (fu + 1) (z + 45); rw [← HE2.out] at this; omega)
    have bd : Below V2.heap.size V2 V2.drew := below_drewN (Below.refl V2.heap.size V2) 1
    subst h0
    clear hnil hm2
    go_region_held3 (fun w' => ((w'.cell? ⟨w2.heap.size, 0, none⟩ = some (.slice aL nL cL) ∧ w'.cell? ⟨w2.heap.size, 1, none⟩ = some (.slice aR nR cR) ∧ w'.cell? ⟨w2.heap.size, 2, none⟩ = some (.slice aN 0 cN) ∧ w'.cell? ⟨w2.heap.size, 3, none⟩ = some (.int .i64 (nU : Int))) ∧
      (w'.cell? ⟨w3.heap.size, 0, none⟩ = some (.slice bL mL dL) ∧ w'.cell? ⟨w3.heap.size, 1, none⟩ = some (.slice bR mR dR) ∧ w'.cell? ⟨w3.heap.size, 2, none⟩ = some (.slice bN mN dN) ∧ w'.cell? ⟨w3.heap.size, 3, none⟩ = some (.int .i64 (mU : Int)))))
      (first
        | exact (HC.out _ (Below.refl _ _)).1
        | exact (HC.out _ bd).1
        | exact (HC.out _ bd4).1
        | exact (HC.out _ bd5).1
        | exact (HC.out _ bd6).1
        | go_keep
        | fail)
      (first
        | (go_at_call 14; (with_reducible refine (HR1.out _ bd).mono ?_); rintro e w4 ⟨o1, rfl, ro1, b4⟩; have bd4 := bd.trans (b4.mono bd.size))
        | (go_at_call 14; (with_reducible refine (HR2.out _ bd4).mono ?_); rintro e w5 ⟨o2, rfl, ro2, b5⟩; have bd5 := bd4.trans (b5.mono bd4.size); have ro9 := ro1.below' b5)
        | (go_at_call 13; (with_reducible refine (HSM.out _ _ _ ro9 ro2).mono ?_); rintro e w6 ⟨rfl, b6⟩; have bd6 := bd5.trans (b6.mono bd5.size))
        | fail)
    go_wp2_with (go_at_call 15; (with_reducible refine (HFX.out _ bd6).mono ?_); rintro e w7 ⟨rfl, b7⟩)
    go_ret
    exact ⟨rfl, HBW.out.trans ((bd6.trans (b7.mono bd6.size)).mono HBW.out.size)⟩
  · have g9 : ((nN : Int) == 0) = false := by rw [beq_eq_false_iff_ne]; omega
    have bd : ∀ k, Below V2.heap.size V2 (V2.drewN k) := fun k => below_drewN (Below.refl V2.heap.size V2) k
    have c2q : ∀ k, (V2.drewN k).cell? ⟨w2.heap.size, 2, none⟩ = some (.slice aN nN cN) := fun _ => c2
    clear hm2
    go_quiet (fail)
    go_wp2_with (go_at_call 15; (with_reducible refine (HFX.out _ (bd _)).mono ?_); rintro e w7 ⟨rfl, b7⟩)
    go_ret
    exact ⟨rfl, HBW.out.trans (((bd _).trans (b7.mono (bd _).size)).mono HBW.out.size)⟩
end Go.Proofs.YteahcmgdlbpmiaaGreatDoor

namespace Go.Proofs.YteahcmgdlbpmiaaGreatDoor
open Go.RowKit

theorem take_minI {α : Type} (l : List α) (n : Nat) : l.take (min (l.length : Int) (n : Int)).toNat = l.take n := by
  have e : (min (l.length : Int) (n : Int)).toNat = min l.length n := by omega
  rw [e]
  by_cases h : l.length ≤ n
  · rw [Nat.min_eq_left h, List.take_length, List.take_of_length_le h]
  · rw [Nat.min_eq_right (by omega)]
theorem rf_two (w : World) (n s n2 s2 : List UInt8) : Rf (w.alloc (.cells #[.string (S n), .string (S s), .string (S n2), .string (S s2)] 45)) (.slice (some ⟨w.heap.size, 0, none⟩) 2 2) [(n, s), (n2, s2)] := by
  refine ⟨rfl, .inr ⟨w.heap.size, 0, 2, rfl, fun _ => by simp, fun j u hj => ?_, Nat.le_refl _⟩⟩
  rw [Nat.zero_add, row_cell (heap_alloc_new w _)]
  simpa [fcs, fc] using hj
/-- No piece of it is this one. -/
theorem no_inc {s : List UInt8} (h : ∀ i, i + 4 ≤ s.length → (s.drop i).take 4 ≠ [92, 105, 110, 99]) : ∀ p q, s ≠ p ++ [92, 105, 110, 99] ++ q := by
  rintro p q rfl
  refine h p.length (by simp) ?_
  rw [List.append_assoc, List.drop_left]
  rfl

set_option maxRecDepth 20000 in
set_option maxHeartbeats 8000000 in
/-- 'ExpandInclude'. -/
theorem expandInclude_any (s : List UInt8) (z : Int) (w : World) (hs : s.length ≤ 9223372036854775807) (hz : 0 ≤ z ∧ z ≤ 255) (hgl : Gl w) (hw0 : 0 < w.heap.size) :
    Calls Tryz.prog 8 #[.string (S s), .int .u8 z] w fun e w' => e = .returned (.bool true) ∧ Below w.heap.size w w' := by
  obtain ⟨z, rfl⟩ := Int.eq_ofNat_of_zero_le hz.1
  obtain ⟨fu, hfu⟩ : ∃ fu, fu = z % 41 := ⟨_, rfl⟩
  have hfl : fu ≤ 40 := by omega
  have hrem : (z : Int) % 41 = (fu : Int) := by omega
  have HFX : Hid (∀ W, Below w.heap.size w W → Calls Tryz.prog 15 #[] W fun e w' => e = .returned (.bool true) ∧ Below W.heap.size W w') := Lib.hid fun W hb => exFixed_any W (hgl.below hw0 hb) (Nat.lt_of_lt_of_le hw0 hb.size)
  have hm := take_minI s 150
  simp only [Int.cast_ofNat_Int] at hm
  clear hfu
  go_enter Tryz.func8, Tryz.ntmps8
  simp only [S_lit]
  go_upto_region 2 with fail
  have hsl : (s.take 150).length ≤ 150 := by simp; omega
  generalize s.take 150 = t at hsl hm ⊢
  clear hm hs
  go_wp2_with fail
  go_loopw [5] (fun i wr => ∃ k : Nat, k ≤ t.length ∧ i = .int .i64 k ∧ Hid (∀ i, i < k → (t.drop i).take 4 ≠ [92, 105, 110, 99]) ∧ wr = w) (fun i _ => t.length - (intOf i).toNat)
  case atStart => exact ⟨0, Nat.zero_le _, rfl, Lib.hid fun i hi => by omega, rfl⟩
  case round =>
    obtain ⟨k, hk, rfl, HK, rfl⟩ := hrel
    by_cases hlt : k + 4 ≤ t.length
    · have hq : (((t.drop k).take 4) == [92, 105, 110, 99]) = true ∨ (((t.drop k).take 4) == [92, 105, 110, 99]) = false := by cases ((t.drop k).take 4) == [92, 105, 110, 99] <;> simp
      have hcut : (t.take (k + 4)).drop k = (t.drop k).take 4 := by rw [List.drop_take, Nat.add_sub_cancel_left]
      rcases hq with hq | hq
      · go_wp2_with fail
        (with_reducible refine (HFX.out _ (Below.refl _ _)).mono ?_); rintro e w9 ⟨rfl, b9⟩
        go_wp2_with fail
        go_ret
        exact ⟨rfl, b9⟩
      · have HK2 : Hid (∀ i, i < k + 1 → (t.drop i).take 4 ≠ [92, 105, 110, 99]) := Lib.hid fun i hi => by
          by_cases h9 : i < k
          · exact HK.out i h9
          · obtain rfl : i = k := by omega
            intro e
            rw [e] at hq
            cases hq
        go_wp2_with fail
        go_roundw
        case rel => exact ⟨k + 1, by omega, by go_num, HK2, trivial⟩
        case measure => simp [intOf]; omega
    · have hni := no_inc (s := t) fun i hi => HK.out i (by omega)
      obtain ⟨E2, hE2⟩ : ∃ E, E = Ex.expand [([98], t)] [98] fu 400 := ⟨_, rfl⟩
      have e1 : Ex.expand [([98], t), ([109], Ex.incB)] [109] (fu + 1) 400 = Ex.else9 E2 [[109], [98]] := by rw [hE2]; exact Ex.expand_inc hni (by omega) fu
      have hsm : Small E2 := by rw [hE2]; exact small_expand (fun f hf => by rw [List.mem_singleton.1 hf]; show t.length ≤ 1000; omega) (by omega) (by omega)
      have H1 : Hid (Calls Tryz.prog 11 #[.slice (some ⟨wr.heap.size, 0, none⟩) 2 2, .string (S [109]), .int .i64 ((fu : Int) + 1), .int .i64 400] (wr.alloc (.cells #[.string (S [98]), .string (S t), .string (S [109]), .string (S [92, 105, 110, 99, 108, 117, 100, 101, 123, 98, 125])] 45)) fun e w' => ∃ o, e = .returned (.tuple #[o, .int .i64 0]) ∧ RdO w' o (Ex.else9 E2 [[109], [98]]) ∧ Below wr.heap.size wr w') := Lib.hid (by
        have ba : Below wr.heap.size wr (wr.alloc (.cells #[.string (S [98]), .string (S t), .string (S [109]), .string (S [92, 105, 110, 99, 108, 117, 100, 101, 123, 98, 125])] 45)) := (Below.refl _ _).alloc (Nat.le_refl _) _
        have h9 := exp9_any (.slice (some ⟨wr.heap.size, 0, none⟩) 2 2) [([98], t), ([109], Ex.incB)] [109] (fu + 1) 400 _ (rf_two wr [98] t [109] Ex.incB) (by show List.Pairwise (fun a b => Lib.compareBytes a b < 0) ([[98], [109]] : List (List UInt8)); decide +kernel) (by simp) (fun f hf => by
          simp at hf
          rcases hf with rfl | rfl
          · show t.length ≤ 1000; omega
          · show Ex.incB.length ≤ 1000; decide) (by omega) (by decide) (hgl.below hw0 ba) (Nat.lt_of_lt_of_le hw0 ba.size) (zf := (fu : Int) + 1) (zm := 400) (by omega) rfl
        rw [e1] at h9
        exact h9.mono fun e w' ⟨o, a1, a2, a3, _⟩ => ⟨o, a1, a2, ba.trans (a3.mono ba.size)⟩)
      have H2 : Hid (∀ W, Below wr.heap.size wr W → Calls Tryz.prog 11 #[.slice (some ⟨W.heap.size, 0, none⟩) 1 1, .string (S [98]), .int .i64 (fu : Int), .int .i64 400] (W.alloc (.cells #[.string (S [98]), .string (S t)] 45)) fun e w' => ∃ o, e = .returned (.tuple #[o, .int .i64 0]) ∧ RdO w' o E2 ∧ Below W.heap.size W w') := Lib.hid fun W hb => by
        have ba : Below W.heap.size W (W.alloc (.cells #[.string (S [98]), .string (S t)] 45)) := (Below.refl _ _).alloc (Nat.le_refl _) _
        have hba := hb.trans (ba.mono hb.size)
        have h9 := exp9_any (.slice (some ⟨W.heap.size, 0, none⟩) 1 1) [([98], t)] [98] fu 400 _ (rf_one W [98] t) (by unfold Fi.Ord Sorted; exact List.pairwise_singleton _ _) (by simp) (fun f hf => by rw [List.mem_singleton.1 hf]; show t.length ≤ 1000; omega) (by omega) (by decide) (hgl.below hw0 hba) (Nat.lt_of_lt_of_le hw0 hba.size) (zf := (fu : Int)) (zm := 400) rfl rfl
        rw [← hE2] at h9
        exact h9.mono fun e w' ⟨o, a1, a2, a3, _⟩ => ⟨o, a1, a2, ba.trans (a3.mono ba.size)⟩
      have hus : E2.used ≤ fu := by rw [hE2]; exact Ex.used_le _ _ fu 400
      clear hni e1 hE2 HK hgl hw0
      obtain ⟨lo, hlo⟩ : ∃ lo, E2.outL = lo := ⟨_, rfl⟩
      obtain ⟨ln, hln⟩ : ∃ ln, E2.notes = ln := ⟨_, rfl⟩
      obtain ⟨lr, hlr⟩ : ∃ lr, E2.reads = lr := ⟨_, rfl⟩
      obtain ⟨nU, hnU⟩ : ∃ n, E2.used = n := ⟨_, rfl⟩
      obtain ⟨nL, hnL⟩ : ∃ n, lo.length = n := ⟨_, rfl⟩
      obtain ⟨nN, hnN⟩ : ∃ n, ln.length = n := ⟨_, rfl⟩
      obtain ⟨mR, hmR⟩ : ∃ n, lr.length = n := ⟨_, rfl⟩
      have HSM : Hid (lo.length ≤ 1000000 ∧ ln.length ≤ 1000000) := Lib.hid ⟨by rw [← hlo]; exact hsm.1, by rw [← hln]; exact hsm.2.2⟩
      have hnU9 : nU ≤ fu := by rw [← hnU]; exact hus
      clear hsm hus
      go_upto_region 8 with fail
      rw [hrem]
      clear hrem
      go_upto_region 9 with (go_at_call 11; (with_reducible refine H1.out.mono ?_); rintro e w1 ⟨o, rfl, ro, b1⟩; obtain ⟨aL, cL, aR, cR, aN, cN, rfl, hA1⟩ := shape9 ro (u := nU + 1) (lr := [[109], [98]]) (nR := 2) hlo (by rw [← hnU]; rfl) hln rfl hnL rfl hnN; obtain ⟨gR, oR, rfl, _⟩ := Rx.at (hA1 w1 (Below.refl _ _)).2.1 (i := 1) (by decide); have HA1 := Lib.hid hA1; clear hA1 ro)
      obtain ⟨zU, hzU⟩ : ∃ z : Int, z = (nU : Int) + 1 := ⟨_, rfl⟩
      have hw2 : wrap64 ((nU : Int) + 1) = zU := by rw [Go.IntWalk.wrap64_in _ (by omega), hzU]
      have hw1 : IntKind.i64.wrap ((nU : Int) + 1) = zU := by rw [Go.IntWalk.i64_left]; exact hw2
      have hbb : (zU == zU) = true := beq_self_eq_true zU
      rw [← hzU]
      clear hzU hnU9
      obtain ⟨V1, hV1⟩ : ∃ V, V = w1.alloc (.cells #[(.slice aL nL cL), (.slice (some ⟨gR, oR, none⟩) 2 cR), (.slice aN nN cN), (.int .i64 zU)] 31) := ⟨_, rfl⟩
      rw [← hV1]
      have hv1 : Below w1.heap.size w1 V1 := by rw [hV1]; exact (Below.refl _ _).alloc (Nat.le_refl _) _
      have HRO1 : Hid (Ro V1 w1.heap.size 31 [(.slice aL nL cL), (.slice (some ⟨gR, oR, none⟩) 2 cR), (.slice aN nN cN), (.int .i64 zU)]) := Lib.hid (by rw [hV1]; exact heap_alloc_new w1 _)
      have HB1 : Hid (Below wr.heap.size wr V1) := Lib.hid (b1.trans (hv1.mono b1.size))
      have HV1 := Lib.hid hv1
      clear hV1 hv1 b1 H1
      go_upto_region 10 with (go_at_call 11; (with_reducible refine (H2.out V1 HB1.out).mono ?_); rintro e w2 ⟨o, rfl, ro, b2⟩; obtain ⟨bL, dL, bR, dR, bN, dN, rfl, hA2⟩ := shape9 ro hlo hnU hln hlr hnL hmR hnN; have HA2 := Lib.hid hA2; clear hA2 ro)
      obtain ⟨V2, hV2⟩ : ∃ V, V = w2.alloc (.cells #[(.slice bL nL dL), (.slice bR mR dR), (.slice bN nN dN), (.int .i64 (nU : Int))] 31) := ⟨_, rfl⟩
      rw [← hV2]
      have hv2 : Below w2.heap.size w2 V2 := by rw [hV2]; exact (Below.refl _ _).alloc (Nat.le_refl _) _
      have HRO2 : Hid (Ro V2 w2.heap.size 31 [(.slice bL nL dL), (.slice bR mR dR), (.slice bN nN dN), (.int .i64 (nU : Int))]) := Lib.hid (by rw [hV2]; exact heap_alloc_new w2 _)
      have HB12 : Hid (Below V1.heap.size V1 V2) := Lib.hid (b2.trans (hv2.mono b2.size))
      have HV2 := Lib.hid hv2
      have HBW : Hid (Below wr.heap.size wr V2) := Lib.hid (HB1.out.trans (HB12.out.mono HB1.out.size))
      clear hV2 hv2 b2 H2
      have HP : Hid (∀ W, Below V2.heap.size V2 W → Rt W (.slice aL nL cL) lo ∧ Rt W (.slice aN nN cN) ln ∧ Rt W (.slice bL nL dL) lo ∧ Rt W (.slice bN nN dN) ln) := Lib.hid fun W hb => by
        have h2 := HB12.out.trans (hb.mono HB12.out.size)
        have k1 := HA1.out W (HV1.out.trans (h2.mono HV1.out.size))
        have k2 := HA2.out W (HV2.out.trans (hb.mono HV2.out.size))
        exact ⟨k1.1, k1.2.2, k2.1, k2.2.2⟩
      have HC : Hid (∀ W, Below V2.heap.size V2 W → ((W.cell? ⟨w1.heap.size, 0, none⟩ = some (.slice aL nL cL) ∧ W.cell? ⟨w1.heap.size, 1, none⟩ = some (.slice (some ⟨gR, oR, none⟩) 2 cR) ∧ W.cell? ⟨w1.heap.size, 2, none⟩ = some (.slice aN nN cN) ∧ W.cell? ⟨w1.heap.size, 3, none⟩ = some (.int .i64 zU)) ∧ (W.cell? ⟨w2.heap.size, 0, none⟩ = some (.slice bL nL dL) ∧ W.cell? ⟨w2.heap.size, 1, none⟩ = some (.slice bR mR dR) ∧ W.cell? ⟨w2.heap.size, 2, none⟩ = some (.slice bN nN dN) ∧ W.cell? ⟨w2.heap.size, 3, none⟩ = some (.int .i64 (nU : Int)))) ∧ W.cell? ⟨gR, oR + 1, none⟩ = some (.string (S [98]))) := Lib.hid fun W hb => by
        have h2 := HB12.out.trans (hb.mono HB12.out.size)
        have r1 := (HRO1.out.kw (Kw.of_below h2) (by have := HRO1.out.lt; omega))
        have r2 := (HRO2.out.kw (Kw.of_below hb) (by have := HRO2.out.lt; omega))
        obtain ⟨g, o, hg, hc⟩ := Rx.at (HA1.out W (HV1.out.trans (h2.mono HV1.out.size))).2.1 (i := 1) (by decide)
        cases hg
        exact ⟨⟨⟨r1.cell (i := 0) rfl, r1.cell (i := 1) rfl, r1.cell (i := 2) rfl, r1.cell (i := 3) rfl⟩, r2.cell (i := 0) rfl, r2.cell (i := 1) rfl, r2.cell (i := 2) rfl, r2.cell (i := 3) rfl⟩, hc⟩
      have HR1 : Hid (∀ W, Below V2.heap.size V2 W → Calls Tryz.prog 20 #[.slice aL nL cL] W fun e w' => ∃ v', e = .returned v' ∧ Rt w' v' lo ∧ Below W.heap.size W w') := Lib.hid fun W hb => (refs_any _ lo W (HP.out W hb).1 (by have := HSM.out.1; omega)).mono fun e w' ⟨v', x1, x2, x3⟩ => ⟨v', x1, own_rd x2, x3⟩
      have HR2 : Hid (∀ W, Below V2.heap.size V2 W → Calls Tryz.prog 20 #[.slice bL nL dL] W fun e w' => ∃ v', e = .returned v' ∧ Rt w' v' lo ∧ Below W.heap.size W w') := Lib.hid fun W hb => (refs_any _ lo W (HP.out W hb).2.2.1 (by have := HSM.out.1; omega)).mono fun e w' ⟨v', x1, x2, x3⟩ => ⟨v', x1, own_rd x2, x3⟩
      have HS : Hid (∀ W a b, Rt W a lo → Rt W b lo → Calls Tryz.prog 19 #[a, b] W fun e w' => e = .returned (.bool true) ∧ Below W.heap.size W w') := Lib.hid fun W a b ha hb => by
        have h9 := same_any a b lo lo W ha hb (by have := HSM.out.1; omega) (by have := HSM.out.1; omega)
        rw [beq_self_eq_true] at h9
        exact h9
      have HNT : Hid (∀ W, Below V2.heap.size V2 W → Calls Tryz.prog 22 #[.slice aN nN cN, .slice bN nN dN] W fun e w' => e = .returned (.bool true) ∧ Below W.heap.size W w') := Lib.hid fun W hb => by
        have h9 := notes_any _ _ ln ln W (HP.out W hb).2.1 (HP.out W hb).2.2.2 (by have := HSM.out.2; omega) (by have := HSM.out.2; omega)
        rw [beq_self_eq_true] at h9
        exact h9
      have bd : Below V2.heap.size V2 V2.drew := below_drewN (Below.refl V2.heap.size V2) 1
      clear hlo hln hlr hnL hnN hmR hnU
      go_region_held3 (fun w' => ((w'.cell? ⟨w1.heap.size, 0, none⟩ = some (.slice aL nL cL) ∧ w'.cell? ⟨w1.heap.size, 1, none⟩ = some (.slice (some ⟨gR, oR, none⟩) 2 cR) ∧ w'.cell? ⟨w1.heap.size, 2, none⟩ = some (.slice aN nN cN) ∧ w'.cell? ⟨w1.heap.size, 3, none⟩ = some (.int .i64 zU)) ∧ (w'.cell? ⟨w2.heap.size, 0, none⟩ = some (.slice bL nL dL) ∧ w'.cell? ⟨w2.heap.size, 1, none⟩ = some (.slice bR mR dR) ∧ w'.cell? ⟨w2.heap.size, 2, none⟩ = some (.slice bN nN dN) ∧ w'.cell? ⟨w2.heap.size, 3, none⟩ = some (.int .i64 (nU : Int)))) ∧ w'.cell? ⟨gR, oR + 1, none⟩ = some (.string (S [98])))
        (first
          | exact HC.out _ (Below.refl _ _)
          | exact HC.out _ bd
          | exact HC.out _ g3
          | exact HC.out _ g4
          | exact HC.out _ g5
          | exact HC.out _ g6
          | exact HC.out _ g7
          | go_keep
          | fail)
        (first
          | (go_at_call 20; (with_reducible refine (HR1.out _ bd).mono ?_); rintro e w3 ⟨p1, rfl, x1, b3⟩; have g3 := bd.trans (b3.mono bd.size))
          | (go_at_call 20; (with_reducible refine (HR2.out _ g3).mono ?_); rintro e w4 ⟨p2, rfl, x2, b4⟩; have g4 := g3.trans (b4.mono g3.size); have x1 := x1.below' b4)
          | (go_at_call 19; (with_reducible refine (HS.out _ _ _ x1 x2).mono ?_); rintro e w5 ⟨rfl, b5⟩; have g5 := g4.trans (b5.mono g4.size))
          | (go_at_call 22; (with_reducible refine (HNT.out _ g5).mono ?_); rintro e w6 ⟨rfl, b6⟩; have g6 := g5.trans (b6.mono g5.size))
          | (go_at_call 15; (with_reducible refine (HFX.out _ (HBW.out.trans (g6.mono HBW.out.size))).mono ?_); rintro e w7 ⟨rfl, b7⟩; have g7 := g6.trans (b7.mono g6.size))
          | fail)
      go_wp2_with fail
      (try simp only [Exit.inBlock, Exit.then])
      go_ret
      exact ⟨rfl, HBW.out.trans (g7.mono HBW.out.size)⟩
end Go.Proofs.YteahcmgdlbpmiaaGreatDoor
