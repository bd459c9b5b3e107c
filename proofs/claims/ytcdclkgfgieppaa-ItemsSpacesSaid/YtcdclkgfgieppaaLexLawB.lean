
/- More laws of tokens, on lists of bytes: texts with an empty line between them; a word of letters; one blank or another. No program in sight. No condition. -/
import Derived.Test.YtcdclkgfgieppaaLexLaw
namespace Go.Proofs.Ytcdclkgfgieppaa.Lx

/-! ### a word of letters -/
theorem letter_plain {c : UInt8} (h : letter c = true) : special c = false := by
  cases hc : special c with
  | false => rfl
  | true => rw [special_not_letter hc] at h; cases h

theorem safe_letters {w : Bytes} (h : w.all letter = true) : safe w = w := by
  induction w with
  | nil => rfl
  | cons c w ih =>
    simp only [List.all_cons, Bool.and_eq_true] at h
    have e : safe (c :: w) = (if special c then [92, c] else [c]) ++ safe w := rfl
    rw [e, letter_plain h.1, ih h.2]; rfl

theorem lex_word {w : Bytes} (h : w.all letter = true) (hw : w ≠ []) : lex w = [(1, w)] := by
  have := lex_text (l := [(1, w)]) (by simp [right, rightF, may, joins, hw, gaps])
  have e : text [(1, w)] = w := by simp [text, textOf, safe_letters h]
  rwa [e] at this
theorem lex_command {w : Bytes} (h : w.all letter = true) (hw : w ≠ []) : lex (92 :: w) = [(4, w)] := by
  have := lex_text (l := [(4, w)]) (by simp only [right, rightF, may, joins, gaps]; simp [h, hw])
  have e : text [(4, w)] = 92 :: w := by simp [text, textOf]
  rwa [e] at this
theorem lex_braces {w : Bytes} (h : w.all letter = true) (hw : w ≠ []) : lex (123 :: w ++ [32, 125]) = [(5, []), (1, w), (2, []), (6, [])] := by
  have := lex_text (l := [(5, []), (1, w), (2, []), (6, [])]) (by simp [right, rightF, may, joins, hw, gaps])
  have e : text [(5, []), (1, w), (2, []), (6, [])] = 123 :: w ++ [32, 125] := by simp [text, textOf, safe_letters h]
  rwa [e] at this

/-! ### one blank or another -/
def flat (f : Bytes) (s : Bytes) : Bytes := s.flatMap fun c => if c == 9 then f else [c]
theorem flat_cons (f : Bytes) (c : UInt8) (s : Bytes) : flat f (c :: s) = (if c == 9 then f else [c]) ++ flat f s := rfl
theorem flat_tab (f s : Bytes) : flat f (9 :: s) = f ++ flat f s := rfl
theorem flat_other {f : Bytes} {c : UInt8} {s : Bytes} (h : c ≠ 9) : flat f (c :: s) = c :: flat f s := by simp [flat_cons, h]

/-- What stands for a tab: a blank, or two. -/
def Blanks (f : Bytes) : Prop := f = [32] ∨ f = [32, 32]

theorem flat_head {f : Bytes} (hf : Blanks f) (s : Bytes) : letter ((flat f s).headD 0) = letter (s.headD 0) ∧ digit ((flat f s).headD 0) = digit (s.headD 0) := by
  cases s with
  | nil => exact ⟨rfl, rfl⟩
  | cons c s =>
    by_cases h : c = 9
    · subst h
      rcases hf with rfl | rfl <;> exact ⟨rfl, rfl⟩
    · rw [flat_other h]; exact ⟨rfl, rfl⟩

theorem flat_kind {f : Bytes} (hf : Blanks f) (s : Bytes) : kind (flat f s) = kind s := by
  cases s with
  | nil => rfl
  | cons c s =>
    by_cases h : c = 9
    · subst h
      rcases hf with rfl | rfl <;> rfl
    · have := flat_head hf s
      rw [flat_other h, kind_cons, kind_cons, this.1, this.2]

theorem flat_gap {f : Bytes} (hf : Blanks f) (s : Bytes) : ∀ (b : Bool) (n : Nat), gap b n (flat f s) = ((gap b n s).1, flat f (gap b n s).2) := by
  induction s with
  | nil => intro b n; cases b <;> rfl
  | cons c s ih =>
    intro b n
    by_cases h : c = 9
    · subst h
      rw [flat_tab]
      cases b
      · rcases hf with rfl | rfl
        · exact ih false n
        · exact ih false n
      · rcases hf with rfl | rfl
        · exact ih true n
        · exact ih true n
    · rw [flat_other h]
      cases b
      · unfold gap
        split
        · exact ih false _
        · split
          · exact ih true n
          · rw [flat_other h]
      · unfold gap
        split
        · exact ih false n
        · exact ih true n

theorem flat_word {f : Bytes} (hf : Blanks f) (s : Bytes) (h92 : (92 : UInt8) ∉ s) : word (flat f s) = ((word s).1, flat f (word s).2) := by
  induction s with
  | nil => rfl
  | cons c s ih =>
    have hk := flat_kind hf (c :: s)
    by_cases h1 : kind (c :: s) = 1
    · have h9 : c ≠ 9 := by rintro rfl; simp [kind] at h1
      have hc : c ≠ 92 := by rintro rfl; simp at h92
      rw [flat_other h9] at hk ⊢
      rw [word_one (hk.trans h1) (.inl hc), word_one h1 (.inl hc), ih (by simp at h92; exact h92.2)]
    · rw [word_stop h1]
      cases he : flat f (c :: s) with
      | nil => rfl
      | cons d t => rw [word_stop (by rw [← he, hk]; exact h1)]

theorem flat_ne {f : Bytes} (hf : Blanks f) {s : Bytes} (h : s ≠ []) : flat f s ≠ [] := by
  cases s with
  | nil => exact absurd rfl h
  | cons c s =>
    by_cases h9 : c = 9
    · subst h9
      rcases hf with rfl | rfl <;> simp [flat_tab]
    · simp [flat_other h9]

theorem flat_one {f : Bytes} (hf : Blanks f) (s : Bytes) (hs : s ≠ []) (h92 : (92 : UInt8) ∉ s) : one (flat f s) = ((one s).1, flat f (one s).2) := by
  cases s with
  | nil => exact absurd rfl hs
  | cons c s =>
    have hk := flat_kind hf (c :: s)
    rcases kind_cases c s with h | h | h | h | h | h
    · rw [one_k2 (hk.trans h), one_k2 h, flat_gap hf]
    · obtain ⟨rfl, _⟩ := kind_four h
      simp at h92
    · have h9 : c ≠ 9 := by rintro rfl; simp [kind] at h
      rw [flat_other h9] at hk ⊢
      rw [one_k5 (hk.trans h), one_k5 h]
    · have h9 : c ≠ 9 := by rintro rfl; simp [kind] at h
      rw [flat_other h9] at hk ⊢
      rw [one_k6 (hk.trans h), one_k6 h]
    · have h9 : c ≠ 9 := by rintro rfl; simp [kind] at h
      obtain ⟨_, hr, hd⟩ := kind_seven h
      rw [flat_other h9] at hk ⊢
      rw [one_k7 (hk.trans h), one_k7 h]
      cases s with
      | nil => exact absurd rfl hr
      | cons d s =>
        have h9 : d ≠ 9 := by rintro rfl; simp [digit] at hd
        rw [flat_other h9]; rfl
    · rw [one_k1 (hk.trans h), one_k1 h, flat_word hf _ h92]

theorem word_in (s : Bytes) : ∃ p, s = p ++ (word s).2 := by
  induction s using word.induct with
  | case1 => exact ⟨[], rfl⟩
  | case2 c h => rw [word, if_pos h]; exact ⟨[c], rfl⟩
  | case3 c h => rw [word, if_neg h]; exact ⟨[], rfl⟩
  | case4 c d r h h2 ih => rw [word, if_pos h, if_pos h2]; obtain ⟨p, hp⟩ := ih; exact ⟨c :: d :: p, by simp only [List.cons_append]; rw [← hp]⟩
  | case5 c d r h h2 ih => rw [word, if_pos h, if_neg h2]; obtain ⟨p, hp⟩ := ih; exact ⟨c :: p, by simp only [List.cons_append]; rw [← hp]⟩
  | case6 c d r h => rw [word, if_neg h]; exact ⟨[], rfl⟩
theorem gap_in (s : Bytes) : ∀ (b : Bool) (n : Nat), ∃ p, s = p ++ (gap b n s).2 := by
  induction s with
  | nil => intro b n; cases b <;> exact ⟨[], rfl⟩
  | cons c s ih =>
    intro b n
    cases b
    · unfold gap
      split
      · obtain ⟨p, hp⟩ := ih false (if c == 10 then n + 1 else n); exact ⟨c :: p, by rw [List.cons_append, ← hp]⟩
      · split
        · obtain ⟨p, hp⟩ := ih true n; exact ⟨c :: p, by rw [List.cons_append, ← hp]⟩
        · exact ⟨[], rfl⟩
    · unfold gap
      split
      · obtain ⟨p, hp⟩ := ih false n; exact ⟨c :: p, by rw [List.cons_append, ← hp]⟩
      · obtain ⟨p, hp⟩ := ih true n; exact ⟨c :: p, by rw [List.cons_append, ← hp]⟩

/-- What is left is an end of the text. -/
theorem one_in (c : UInt8) (r : Bytes) : ∃ p, c :: r = p ++ (one (c :: r)).2 := by
  rcases kind_cases c r with h | h | h | h | h | h
  · rw [one_k2 h]; exact gap_in _ _ _
  · rw [one_k4 h]; exact ⟨c :: r.takeWhile letter, by simp [List.takeWhile_append_dropWhile]⟩
  · rw [one_k5 h]; exact ⟨[c], rfl⟩
  · rw [one_k6 h]; exact ⟨[c], rfl⟩
  · rw [one_k7 h]; exact ⟨c :: r.take 1, by cases r <;> rfl⟩
  · rw [one_k1 h]; exact word_in _

/-- ANOTHER BLANK MAKES NO DIFFERENCE. -/
theorem lex_flatF {f : Bytes} (hf : Blanks f) (n : Nat) : ∀ s : Bytes, s.length ≤ n → (92 : UInt8) ∉ s → lex (flat f s) = lex s := by
  induction n with
  | zero => intro s h _; cases s with
    | nil => rfl
    | cons c r => simp at h
  | succ n ih =>
    intro s h h92
    cases s with
    | nil => rfl
    | cons c r =>
      have hlt := one_lt c r
      obtain ⟨p, hp⟩ := one_in c r
      rw [lex_ne (flat_ne hf (by simp)), flat_one hf _ (by simp) h92, lex_cons, ih _ (by simp at h; omega) (by rw [hp] at h92; simp at h92; exact h92.2)]
theorem lex_flat {f : Bytes} (hf : Blanks f) {s : Bytes} (h92 : (92 : UInt8) ∉ s) : lex (flat f s) = lex s := lex_flatF hf s.length s (Nat.le_refl _) h92

/-! ### two texts with an empty line between them -/
/-- An empty line, and a text that begins with no blank. -/
def Apart (X : Bytes) : Prop := ∃ t, X = 10 :: 10 :: t ∧ kind t ≠ 2

theorem Apart.two {X : Bytes} (h : Apart X) : kind X = 2 := by obtain ⟨t, rfl, _⟩ := h; rfl
theorem Apart.letter {X : Bytes} (h : Apart X) : letter (X.headD 0) = false := by obtain ⟨t, rfl, _⟩ := h; rfl

theorem app_head {X : Bytes} (h : Apart X) (r : Bytes) : letter ((r ++ X).headD 0) = letter (r.headD 0) ∧ digit ((r ++ X).headD 0) = digit (r.headD 0) := by
  cases r with
  | nil => obtain ⟨t, rfl, _⟩ := h; exact ⟨rfl, rfl⟩
  | cons c r => exact ⟨rfl, rfl⟩
theorem app_kind {X : Bytes} (h : Apart X) (c : UInt8) (r : Bytes) : kind (c :: r ++ X) = kind (c :: r) := by
  have := app_head h r
  rw [List.cons_append, kind_cons, kind_cons, this.1, this.2]

theorem app_gap (X s : Bytes) : ∀ (b : Bool) (n : Nat), (gap b n s).2 ≠ [] → gap b n (s ++ X) = ((gap b n s).1, (gap b n s).2 ++ X) := by
  induction s with
  | nil => intro b n h; cases b <;> exact absurd rfl h
  | cons c s ih =>
    intro b n h
    rw [List.cons_append]
    cases b
    · unfold gap at h ⊢
      split
      · rename_i h1; rw [if_pos h1] at h; exact ih _ _ h
      · rename_i h1
        rw [if_neg h1] at h
        split
        · rename_i h2; rw [if_pos h2] at h; exact ih _ _ h
        · rfl
    · unfold gap at h ⊢
      split
      · rename_i h1; rw [if_pos h1] at h; exact ih _ _ h
      · rename_i h1; rw [if_neg h1] at h; exact ih _ _ h

theorem app_word {X : Bytes} (hX : Apart X) (s : Bytes) (hl : s.getLast? ≠ some 92) : word (s ++ X) = ((word s).1, (word s).2 ++ X) := by
  induction s using word.induct with
  | case1 =>
    have e : word ([] ++ X) = ([], X) := by
      obtain ⟨t, rfl, _⟩ := hX
      exact word_stop (by simp [kind])
    rw [e]; rfl
  | case2 c h =>
    have hc : c ≠ 92 := by rintro rfl; simp at hl
    have e : word X = ([], X) := by
      obtain ⟨t, rfl, _⟩ := hX
      exact word_stop (by simp [kind])
    have hk := (app_kind hX c []).trans h
    have e2 : word ([c] ++ X) = (c :: (word X).1, (word X).2) := word_one hk (.inl hc)
    rw [e2, e, word, if_pos h]; rfl
  | case3 c h =>
    have hk : kind ([c] ++ X) ≠ 1 := by rw [app_kind hX c []]; exact h
    have e2 : word ([c] ++ X) = ([], c :: X) := word_stop hk
    rw [e2, word, if_neg h]; rfl
  | case4 c d r h h2 ih =>
    have h3 : c = 92 := by simpa using h2
    subst h3
    have hk := (app_kind hX 92 (d :: r)).trans h
    have hr : r.getLast? ≠ some 92 := by
      cases r with
      | nil => simp
      | cons a r => simpa [List.getLast?_cons_cons] using hl
    have e2 : word (92 :: d :: r ++ X) = (d :: (word (r ++ X)).1, (word (r ++ X)).2) := word_esc hk
    rw [e2, ih hr, word, if_pos h, if_pos h2]
  | case5 c d r h h2 ih =>
    have hc : c ≠ 92 := by simpa using h2
    have hk := (app_kind hX c (d :: r)).trans h
    have hr : (d :: r).getLast? ≠ some 92 := by simpa [List.getLast?_cons_cons] using hl
    have e2 : word (c :: (d :: r) ++ X) = (c :: (word (d :: r ++ X)).1, (word (d :: r ++ X)).2) := word_one hk (.inl hc)
    rw [e2, ih hr, word, if_pos h, if_neg h2]
  | case6 c d r h =>
    have hk : kind (c :: (d :: r) ++ X) ≠ 1 := by rw [app_kind hX]; exact h
    have e2 : word (c :: (d :: r) ++ X) = ([], c :: (d :: r ++ X)) := word_stop hk
    rw [e2, word, if_neg h]; rfl

theorem app_takeWhile {X : Bytes} {p : UInt8 → Bool} (hX : p (X.headD 0) = false) (r : Bytes) : (r ++ X).takeWhile p = r.takeWhile p ∧ (r ++ X).dropWhile p = r.dropWhile p ++ X := by
  induction r with
  | nil =>
    cases X with
    | nil => exact ⟨rfl, rfl⟩
    | cons c X =>
      have : p c = false := hX
      simp [this]
  | cons c r ih =>
    rw [List.cons_append, List.takeWhile_cons, List.takeWhile_cons, List.dropWhile_cons, List.dropWhile_cons]
    split
    · exact ⟨by rw [ih.1], ih.2⟩
    · exact ⟨rfl, rfl⟩

theorem app_one {X : Bytes} (hX : Apart X) (c : UInt8) (r : Bytes) (hl : (c :: r).getLast? ≠ some 92) (hg : kind (c :: r) = 2 → (gap false 0 (c :: r)).2 ≠ []) :
    one (c :: r ++ X) = ((one (c :: r)).1, (one (c :: r)).2 ++ X) := by
  have hk := app_kind hX c r
  rcases kind_cases c r with h | h | h | h | h | h
  · rw [one_k2 (hk.trans h), one_k2 h, app_gap X _ _ _ (hg h)]
  · have := app_takeWhile hX.letter r
    have e : one (c :: r ++ X) = ((4, (r ++ X).takeWhile letter), (r ++ X).dropWhile letter) := one_k4 (hk.trans h)
    rw [e, one_k4 h, this.1, this.2]
  · have e : one (c :: r ++ X) = ((5, []), r ++ X) := one_k5 (hk.trans h)
    rw [e, one_k5 h]
  · have e : one (c :: r ++ X) = ((6, []), r ++ X) := one_k6 (hk.trans h)
    rw [e, one_k6 h]
  · obtain ⟨_, hr, _⟩ := kind_seven h
    have e : one (c :: r ++ X) = ((7, (r ++ X).take 1), (r ++ X).drop 1) := one_k7 (hk.trans h)
    rw [e, one_k7 h]
    cases r with
    | nil => exact absurd rfl hr
    | cons d r => rfl
  · rw [one_k1 (hk.trans h), one_k1 h, app_word hX _ hl]

theorem last_in {p q : Bytes} (h : (p ++ q).getLast? ≠ some 92) : q.getLast? ≠ some 92 := by
  intro e
  apply h
  rw [List.getLast?_append, e]; rfl

theorem lex_par {t : Bytes} (ht : kind t ≠ 2) : lex (10 :: 10 :: t) = (3, []) :: lex t := by
  have hk : kind (10 :: 10 :: t) = 2 := rfl
  have e : gap false 0 (10 :: 10 :: t) = gap false 2 t := rfl
  rw [lex_cons, one_k2 hk, e, gap_stop ht]; rfl

/-- AN EMPTY LINE BETWEEN TWO TEXTS IS A TOKEN OF ITS OWN. -/
theorem lex_joinsF {t : Bytes} (ht : kind t ≠ 2) (n : Nat) : ∀ s : Bytes, s.length ≤ n → s ≠ [] → s.getLast? ≠ some 92 → (∀ x, (lex s).getLast? = some x → gaps x.1 = false) →
    lex (s ++ 10 :: 10 :: t) = lex s ++ (3, []) :: lex t := by
  have hX : Apart (10 :: 10 :: t) := ⟨t, rfl, ht⟩
  induction n with
  | zero => intro s h hs _ _; cases s with
    | nil => exact absurd rfl hs
    | cons c r => simp at h
  | succ n ih =>
    intro s h hs hl hg
    cases s with
    | nil => exact absurd rfl hs
    | cons c r =>
      have hlt := one_lt c r
      obtain ⟨p, hp⟩ := one_in c r
      have hone := app_one hX c r hl (fun hk he => by
        have e := one_k2 hk
        have := hg (one (c :: r)).1 (by rw [lex_cons, e, he]; rfl)
        rw [e] at this
        rcases gapKind_cases (gap false 0 (c :: r)).1 with e2 | e2 <;> simp [e2, gaps] at this)
      rw [lex_ne (s := c :: r ++ 10 :: 10 :: t) (by simp), hone, lex_cons]
      by_cases he : (one (c :: r)).2 = []
      · rw [he, List.nil_append, lex_par ht]; rfl
      · rw [ih _ (by simp at h; omega) he (last_in (hp ▸ hl)) (fun x hx => hg x (by
          rw [lex_cons, List.getLast?_cons, hx]; rfl))]
        rfl

theorem lex_joins {s t : Bytes} (hs : s ≠ []) (ht : kind t ≠ 2) (hl : s.getLast? ≠ some 92) (hg : ∀ x, (lex s).getLast? = some x → gaps x.1 = false) : lex (s ++ 10 :: 10 :: t) = lex s ++ (3, []) :: lex t :=
  lex_joinsF ht s.length s (Nat.le_refl _) hs hl hg

/-- The first token is a gap where a blank or a remark stands first. -/
theorem lex_first {t : Bytes} (ht : t ≠ []) : (kind t = 2) = (gaps (((lex t).headD (0, [])).1) = true) := by
  cases t with
  | nil => exact absurd rfl ht
  | cons c r =>
    rw [lex_cons]
    show _ = (gaps (one (c :: r)).1.1 = true)
    rcases kind_cases c r with h | h | h | h | h | h
    · rw [one_k2 h, h]; rcases gapKind_cases (gap false 0 (c :: r)).1 with e | e <;> simp [e, gaps]
    · rw [one_k4 h, h]; simp [gaps]
    · rw [one_k5 h, h]; simp [gaps]
    · rw [one_k6 h, h]; simp [gaps]
    · rw [one_k7 h, h]; simp [gaps]
    · rw [one_k1 h, h]; simp [gaps]

end Go.Proofs.Ytcdclkgfgieppaa.Lx
