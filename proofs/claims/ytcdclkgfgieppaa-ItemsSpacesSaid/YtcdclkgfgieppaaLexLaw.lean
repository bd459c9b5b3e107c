
/- The laws of tokens, on lists of bytes: the tokens of any text are right; right tokens are those of their text. No program in sight. No condition. -/
import Derived.Test.YtcdclkgfgieppaaLexPure
namespace Go.Proofs.Ytcdclkgfgieppaa.Lx

/-! ### what begins the text of a token -/
theorem special_not_letter {c : UInt8} (h : special c = true) : letter c = false := by
  simp only [special, blank, Bool.or_eq_true, beq_iff_eq] at h
  rcases h with (((((((h | h) | h) | h) | h) | h) | h) | h) <;> subst h <;> rfl

theorem kind_esc {c : UInt8} {r : Bytes} (h : special c = true) : kind (92 :: c :: r) = 1 := by
  have := special_not_letter h
  simp [kind, this]

theorem kind_plain {c : UInt8} {r : Bytes} (h : special c = false) : kind (c :: r) = 1 := by
  simp only [special, Bool.or_eq_false_iff] at h
  obtain ⟨⟨⟨⟨⟨h1, h2⟩, h3⟩, h4⟩, h5⟩, h6⟩ := h
  simp [kind, h1, h2, h3, h4, h5, h6]

theorem plain_ne {c : UInt8} (h : special c = false) : c ≠ 92 := by
  rintro rfl
  simp [special] at h

theorem kind_safe {w r : Bytes} (h : w ≠ []) : kind (safe w ++ r) = 1 := by
  cases w with
  | nil => exact absurd rfl h
  | cons c w =>
    by_cases hc : special c = true
    · simp [safe, hc, kind_esc]
    · have hc : special c = false := by simpa using hc
      simp [safe, hc, kind_plain]

/-- A word's text is read back as that word. -/
theorem word_safe (w r : Bytes) (hr : kind r ≠ 1) : word (safe w ++ r) = (w, r) := by
  induction w with
  | nil =>
    cases r with
    | nil => rfl
    | cons c r => exact word_stop hr
  | cons c w ih =>
    by_cases hc : special c = true
    · have e : safe (c :: w) ++ r = 92 :: c :: (safe w ++ r) := by simp [safe, hc]
      rw [e, word_esc (kind_esc hc), ih]
    · have hc : special c = false := by simpa using hc
      have e : safe (c :: w) ++ r = c :: (safe w ++ r) := by simp [safe, hc]
      rw [e, word_one (kind_plain hc) (.inl (plain_ne hc)), ih]

theorem gap_stop {n : Nat} {r : Bytes} (h : kind r ≠ 2) : gap false n r = (n, r) := by
  cases r with
  | nil => rfl
  | cons c r =>
    have := mt kind_two.2 h
    simp only [Bool.or_eq_true, not_or, Bool.not_eq_true] at this
    simp [gap, this.1, this.2]

theorem gap_out (b : Bool) (n : Nat) (r : Bytes) : kind (gap b n r).2 ≠ 2 := by
  induction r generalizing b n with
  | nil => cases b <;> simp [gap, kind]
  | cons c r ih =>
    cases b with
    | true => unfold gap; split <;> exact ih _ _
    | false =>
      unfold gap
      split
      · exact ih _ _
      · rename_i h1
        split
        · exact ih _ _
        · rename_i h2
          exact mt kind_two.1 (by simp [h1, h2])

theorem takeWhile_stop {p : UInt8 → Bool} {w r : Bytes} (hw : w.all p = true) (hr : p (r.headD 0) = false ∨ r = []) : (w ++ r).takeWhile p = w ∧ (w ++ r).dropWhile p = r := by
  induction w with
  | nil =>
    cases r with
    | nil => exact ⟨rfl, rfl⟩
    | cons c r =>
      have : p c = false := by simpa using hr
      simp [this]
  | cons c w ih =>
    simp only [List.all_cons, Bool.and_eq_true] at hw
    have := ih hw.2
    simp [hw.1, this.1, this.2]

/-- Where a token's text begins, its kind is seen. -/
theorem kind_text {t : Tok} {r : Bytes} (h : may t = true) : kind (textOf t ++ r) = if t.1 = 3 then 2 else t.1 := by
  obtain ⟨k, s⟩ := t
  simp only [may] at h
  split at h
  · rename_i hk; subst hk
    have : s ≠ [] := by rintro rfl; simp at h
    simp [textOf, kind_safe this]
  split at h
  · rename_i hk; subst hk
    simp only [Bool.and_eq_true] at h
    cases s with
    | nil => simp at h
    | cons c s =>
      have : letter c = true := by simpa using (by simpa using h.1 : letter c = true ∧ _).1
      simp [textOf, kind, this]
  split at h
  · rename_i hk; subst hk
    split at h
    · simp [textOf, kind, h]
    · cases h
  · simp only [Bool.and_eq_true, Bool.or_eq_true, beq_iff_eq] at h
    rcases h.1 with ((h | h) | h) | h <;> subst h <;> rfl

theorem head_safe {w r : Bytes} (hw : w ≠ []) (h : letter (w.headD 0) = false) : letter ((safe w ++ r).headD 0) = false := by
  cases w with
  | nil => exact absurd rfl hw
  | cons c w =>
    by_cases hc : special c = true
    · simp [safe, hc, letter]
    · have hc : special c = false := by simpa using hc
      simpa [safe, hc] using h

theorem head_text {t : Tok} {r : Bytes} (h : may t = true) (h1 : t.1 = 1 → letter (t.2.headD 0) = false) : letter ((textOf t ++ r).headD 0) = false := by
  obtain ⟨k, s⟩ := t
  simp only [may] at h
  split at h
  · rename_i hk; subst hk
    have : s ≠ [] := by rintro rfl; simp at h
    simp only [textOf, if_true]
    exact head_safe this (h1 rfl)
  split at h
  · rename_i hk; subst hk; simp [textOf, letter]
  split at h
  · rename_i hk; subst hk; simp [textOf, letter]
  · simp only [Bool.and_eq_true, Bool.or_eq_true, beq_iff_eq] at h
    rcases h.1 with ((h | h) | h) | h <;> subst h <;> rfl

/-- The first token of a token's text, where what follows could follow. -/
theorem one_text {t : Tok} {r : Bytes} (h : may t = true) (h1 : t.1 = 1 → kind r ≠ 1) (h2 : gaps t.1 = true → kind r ≠ 2) (h4 : t.1 = 4 → letter (r.headD 0) = false) : one (textOf t ++ r) = (t, r) := by
  have hk := kind_text (r := r) h
  obtain ⟨k, s⟩ := t
  have h' := h
  simp only [may] at h'
  split at h'
  · rename_i hk1; subst hk1
    rw [one_k1 (by simpa using hk)]
    have := word_safe s r (h1 rfl)
    simp [textOf, this]
  split at h'
  · rename_i hk1; subst hk1
    simp only [Bool.and_eq_true] at h'
    have e : textOf (4, s) ++ r = 92 :: (s ++ r) := rfl
    rw [e] at hk ⊢
    have := takeWhile_stop (p := letter) h'.1 (.inl (h4 rfl))
    rw [one_k4 (by simpa using hk), this.1, this.2]
  split at h'
  · rename_i hk1; subst hk1
    split at h'
    · rename_i c
      have e : textOf (7, [c]) ++ r = 35 :: c :: r := rfl
      rw [e] at hk ⊢
      rw [one_k7 (by simpa using hk)]
      rfl
    · cases h'
  · simp only [Bool.and_eq_true, Bool.or_eq_true, beq_iff_eq, List.isEmpty_iff] at h'
    obtain ⟨h', rfl⟩ := h'
    rcases h' with ((h' | h') | h') | h' <;> subst h'
    · rw [one_k2 (by simpa using hk)]
      have e : gap false 0 (textOf (2, []) ++ r) = gap false 0 r := rfl
      rw [e, gap_stop (h2 rfl)]; rfl
    · rw [one_k2 (by simpa using hk)]
      have e : gap false 0 (textOf (3, []) ++ r) = gap false 2 r := rfl
      rw [e, gap_stop (h2 rfl)]; rfl
    · have e : textOf (5, []) ++ r = 123 :: r := rfl
      rw [e] at hk ⊢
      exact one_k5 (by simpa using hk)
    · have e : textOf (6, []) ++ r = 125 :: r := rfl
      rw [e] at hk ⊢
      exact one_k6 (by simpa using hk)

theorem text_cons (t : Tok) (l : List Tok) : text (t :: l) = textOf t ++ text l := rfl

theorem textOf_ne {t : Tok} (h : may t = true) (r : Bytes) : textOf t ++ r ≠ [] := by
  intro e
  have hk := kind_text (r := r) h
  rw [e] at hk
  obtain ⟨k, s⟩ := t
  have hk : (0 : Int) = if k = 3 then 2 else k := hk
  split at hk
  · cases hk
  · subst hk
    simp [may] at h

/-- RIGHT TOKENS ARE THOSE OF THEIR TEXT. -/
theorem lex_textF (l : List Tok) : ∀ p, rightF p l = true → lex (text l) = l := by
  induction l with
  | nil => intro p _; rfl
  | cons t r ih =>
    intro p h
    simp only [rightF, Bool.and_eq_true] at h
    obtain ⟨⟨ht, _⟩, hr⟩ := h
    have key : (t.1 = 1 → kind (text r) ≠ 1) ∧ (gaps t.1 = true → kind (text r) ≠ 2) ∧ (t.1 = 4 → letter ((text r).headD 0) = false) := by
      cases r with
      | nil => exact ⟨fun _ => by simp [text, kind], fun _ => by simp [text, kind], fun _ => rfl⟩
      | cons u r =>
        simp only [rightF, Bool.and_eq_true] at hr
        obtain ⟨⟨hu, hj⟩, _⟩ := hr
        rw [text_cons, kind_text hu]
        simp only [joins, Bool.not_eq_true', Bool.or_eq_false_iff] at hj
        obtain ⟨⟨hj1, hj2⟩, hj3⟩ := hj
        refine ⟨fun h1 => ?_, fun h2 => ?_, fun h4 => head_text hu fun h1 => ?_⟩
        · split
          · simp
          · intro h; simp [h1, h] at hj1
        · rw [h2, Bool.true_and] at hj2
          split
          · rename_i h; simp [gaps, h] at hj2
          · intro h; simp [gaps, h] at hj2
        · simpa [h4, h1] using hj3
    rw [text_cons, lex_ne (textOf_ne ht _), one_text ht key.1 key.2.1 key.2.2, ih t hr]

theorem lex_text {l : List Tok} (h : right l = true) : lex (text l) = l := lex_textF l _ h

/-! ### the tokens of any text are right -/
theorem word_out (s : Bytes) : kind (word s).2 ≠ 1 := by
  induction s using word.induct with
  | case1 => simp [word, kind]
  | case2 c h => rw [word, if_pos h]; simp [kind]
  | case3 c h => simp [word, h]
  | case4 c d r h h2 ih => rw [word, if_pos h, if_pos h2]; exact ih
  | case5 c d r h h2 ih => rw [word, if_pos h, if_neg h2]; exact ih
  | case6 c d r h => rw [word, if_neg h]; exact h

theorem kind_one_esc {d : UInt8} {r : Bytes} (h : kind (92 :: d :: r) = 1) : letter d = false := by
  cases hd : letter d with
  | false => rfl
  | true => simp [kind, hd] at h

/-- A word is not empty, and begins with no letter where its text begins with none. -/
theorem word_first {s : Bytes} (h : kind s = 1) : ∃ c w, (word s).1 = c :: w ∧ (letter (s.headD 0) = false → letter c = false) := by
  cases s with
  | nil => simp [kind] at h
  | cons c r =>
    by_cases h2 : c ≠ 92 ∨ r = []
    · rw [word_one h h2]
      exact ⟨c, _, rfl, fun h => h⟩
    · simp only [not_or, Classical.not_not] at h2
      obtain ⟨rfl, h3⟩ := h2
      cases r with
      | nil => exact absurd rfl h3
      | cons d r =>
        rw [word_esc h]
        exact ⟨d, _, rfl, fun _ => kind_one_esc h⟩

theorem dropWhile_head (p : UInt8 → Bool) (hp : p 0 = false) (l : Bytes) : p ((l.dropWhile p).headD 0) = false := by
  induction l with
  | nil => exact hp
  | cons c r ih =>
    rw [List.dropWhile_cons]
    split
    · exact ih
    · rename_i h; simpa using h

theorem gapKind_cases (n : Nat) : gapKind n = 2 ∨ gapKind n = 3 := by unfold gapKind; split <;> simp

theorem rightF_lex (n : Nat) : ∀ (s : Bytes) (p : Tok), s.length ≤ n → (p.1 = 1 → kind s ≠ 1) → (gaps p.1 = true → kind s ≠ 2) → (p.1 = 4 → letter (s.headD 0) = false) → rightF p (lex s) = true := by
  induction n with
  | zero => intro s p h _ _ _; cases s with
    | nil => rfl
    | cons c r => simp at h
  | succ n ih =>
    intro s p h h1 h2 h4
    cases s with
    | nil => rfl
    | cons c r =>
      have hlt := one_lt c r
      have hle : (one (c :: r)).2.length ≤ n := by simp at h; omega
      rw [lex_cons, rightF]
      have key : may (one (c :: r)).1 = true ∧ joins p (one (c :: r)).1 = true ∧ ((one (c :: r)).1.1 = 1 → kind (one (c :: r)).2 ≠ 1) ∧ (gaps (one (c :: r)).1.1 = true → kind (one (c :: r)).2 ≠ 2) ∧ ((one (c :: r)).1.1 = 4 → letter ((one (c :: r)).2.headD 0) = false) := by
        rcases kind_cases c r with hk | hk | hk | hk | hk | hk
        · rw [one_k2 hk]
          have hg : gaps p.1 = false := by
            cases hg : gaps p.1 with
            | false => rfl
            | true => exact absurd hk (h2 hg)
          have ho := gap_out false 0 (c :: r)
          rcases gapKind_cases (gap false 0 (c :: r)).1 with e | e <;> rw [e]
          · exact ⟨rfl, by simp [joins, hg], by simp, fun _ => ho, by simp⟩
          · exact ⟨rfl, by simp [joins, hg], by simp, fun _ => ho, by simp⟩
        · rw [one_k4 hk]
          obtain ⟨_, hr, hl⟩ := kind_four hk
          refine ⟨?_, by simp [joins], by simp, by simp [gaps], fun _ => dropWhile_head letter rfl r⟩
          cases r with
          | nil => exact absurd rfl hr
          | cons d r =>
            have hd : letter d = true := hl
            simp [may, hd]
        · rw [one_k5 hk]
          exact ⟨rfl, by simp [joins, gaps], by simp, by simp [gaps], by simp⟩
        · rw [one_k6 hk]
          exact ⟨rfl, by simp [joins, gaps], by simp, by simp [gaps], by simp⟩
        · rw [one_k7 hk]
          obtain ⟨_, hr, hl⟩ := kind_seven hk
          refine ⟨?_, by simp [joins, gaps], by simp, by simp [gaps], by simp⟩
          cases r with
          | nil => exact absurd rfl hr
          | cons d r => simpa [may] using hl
        · rw [one_k1 hk]
          have hp1 : p.1 ≠ 1 := fun e => h1 e hk
          obtain ⟨c', w, e, hw⟩ := word_first hk
          rw [e]
          refine ⟨by simp [may], ?_, fun _ => word_out _, by simp [gaps], by simp⟩
          by_cases h4p : p.1 = 4
          · have := hw (h4 h4p)
            simp [joins, h4p, this, gaps]
          · simp [joins, hp1, h4p, gaps]
      rw [key.1, key.2.1, ih _ _ hle key.2.2.1 key.2.2.2.1 key.2.2.2.2]
      rfl

/-- THE TOKENS OF ANY TEXT ARE RIGHT. -/
theorem right_lex (s : Bytes) : right (lex s) = true :=
  rightF_lex s.length s _ (Nat.le_refl _) (by simp) (by simp [gaps]) (by simp)

/-- Tokens are right if and only if they are those of their text. -/
theorem right_iff (l : List Tok) : (l == lex (text l)) = right l := by
  cases h : right l with
  | true => rw [lex_text h]; simp
  | false =>
    rw [beq_eq_false_iff_ne]
    intro e
    have := right_lex (text l)
    rw [← e, h] at this
    cases this

theorem lex_back (s : Bytes) : lex (text (lex s)) = lex s := lex_text (right_lex s)

theorem lex_empty (s : Bytes) : ((lex s).length = 0) ↔ s = [] := by
  cases s with
  | nil => simp [lex_nil]
  | cons c r => simp [lex_cons]

end Go.Proofs.Ytcdclkgfgieppaa.Lx
