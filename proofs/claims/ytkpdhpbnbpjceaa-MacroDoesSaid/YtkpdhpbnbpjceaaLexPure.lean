
/- The tokens of a text, said on lists of bytes: what the lexer and its reference both compute. No program in sight. No condition. -/
namespace Go.Proofs.Ytkpdhpbnbpjceaa.Lx

/-- A text: its bytes. -/
abbrev Bytes := List UInt8
/-- A token: its kind, and what it says. -/
abbrev Tok := Int × Bytes

def blank (c : UInt8) : Bool := c == 32 || c == 9 || c == 10
def letter (c : UInt8) : Bool := (decide (97 ≤ c) && decide (c ≤ 122)) || (decide (65 ≤ c) && decide (c ≤ 90))
def digit (c : UInt8) : Bool := decide (49 ≤ c) && decide (c ≤ 57)

/-- What begins here: 2 a gap, 4 a command, 5 and 6 braces, 7 a parameter, 1 a word. -/
def kind : Bytes → Int
  | [] => 0
  | c :: r =>
    if blank c || c == 37 then 2
    else if c == 92 && letter (r.headD 0) then 4
    else if c == 123 then 5
    else if c == 125 then 6
    else if c == 35 && digit (r.headD 0) then 7
    else 1

/-- Does a parameter, a command begin here? -/
def param : Bytes → Bool
  | [] => false
  | c :: r => c == 35 && digit (r.headD 0)
def command : Bytes → Bool
  | [] => false
  | c :: r => c == 92 && letter (r.headD 0)

/-- Blanks and remarks: how many lines end, and what is left. -/
def gap : Bool → Nat → Bytes → Nat × Bytes
  | _, n, [] => (n, [])
  | true, n, c :: r => if c == 10 then gap false n r else gap true n r
  | false, n, c :: r =>
    if blank c then gap false (if c == 10 then n + 1 else n) r
    else if c == 37 then gap true n r
    else (n, c :: r)

/-- A gap's kind. -/
def gapKind (n : Nat) : Int := if 2 ≤ n then 3 else 2

/-- A word: its bytes, and what is left. -/
def word : Bytes → Bytes × Bytes
  | [] => ([], [])
  | [c] => if kind [c] = 1 then ([c], []) else ([], [c])
  | c :: d :: r =>
    if kind (c :: d :: r) = 1 then
      (if c == 92 then (d :: (word r).1, (word r).2) else (c :: (word (d :: r)).1, (word (d :: r)).2))
    else ([], c :: d :: r)

/-- The token that begins here, and what is left. -/
def one : Bytes → Tok × Bytes
  | [] => ((0, []), [])
  | c :: r =>
    if kind (c :: r) = 2 then ((gapKind (gap false 0 (c :: r)).1, []), (gap false 0 (c :: r)).2)
    else if kind (c :: r) = 4 then ((4, r.takeWhile letter), r.dropWhile letter)
    else if kind (c :: r) = 5 then ((5, []), r)
    else if kind (c :: r) = 6 then ((6, []), r)
    else if kind (c :: r) = 7 then ((7, r.take 1), r.drop 1)
    else ((1, (word (c :: r)).1), (word (c :: r)).2)

def lexF : Nat → Bytes → List Tok
  | 0, _ => []
  | _ + 1, [] => []
  | n + 1, c :: r => (one (c :: r)).1 :: lexF n (one (c :: r)).2

/-- The tokens of a text. -/
def lex (s : Bytes) : List Tok := lexF s.length s

def special (c : UInt8) : Bool := blank c || c == 92 || c == 123 || c == 125 || c == 37 || c == 35
def safe (w : Bytes) : Bytes := w.flatMap fun c => if special c then [92, c] else [c]
def textOf (t : Tok) : Bytes :=
  if t.1 = 1 then safe t.2 else if t.1 = 2 then [32] else if t.1 = 3 then [10, 10] else if t.1 = 4 then 92 :: t.2
  else if t.1 = 5 then [123] else if t.1 = 6 then [125] else if t.1 = 7 then 35 :: t.2 else []
/-- A text that has these tokens. -/
def text (l : List Tok) : Bytes := l.flatMap textOf

def may (t : Tok) : Bool :=
  if t.1 = 1 then !t.2.isEmpty
  else if t.1 = 4 then t.2.all letter && !t.2.isEmpty
  else if t.1 = 7 then (match t.2 with | [c] => digit c | _ => false)
  else (t.1 == 2 || t.1 == 3 || t.1 == 5 || t.1 == 6) && t.2.isEmpty
def gaps (k : Int) : Bool := k == 2 || k == 3
/-- May the second one stand behind the first one? -/
def joins (a b : Tok) : Bool := !(a.1 == 1 && b.1 == 1 || gaps a.1 && gaps b.1 || a.1 == 4 && b.1 == 1 && letter (b.2.headD 0))
def rightF : Tok → List Tok → Bool
  | _, [] => true
  | p, t :: r => may t && joins p t && rightF t r
/-- Could a text have these tokens? -/
def right (l : List Tok) : Bool := rightF (0, []) l

/-! ### first facts -/
@[simp] theorem gaps_4 : gaps 4 = false := rfl
@[simp] theorem blank_92 : blank 92 = false := rfl
@[simp] theorem blank_35 : blank 35 = false := rfl
@[simp] theorem blank_37 : blank 37 = false := rfl
@[simp] theorem blank_123 : blank 123 = false := rfl
@[simp] theorem blank_125 : blank 125 = false := rfl
@[simp] theorem blank_32 : blank 32 = true := rfl
@[simp] theorem blank_10 : blank 10 = true := rfl
@[simp] theorem blank_9 : blank 9 = true := rfl
@[simp] theorem letter_0 : letter 0 = false := rfl
@[simp] theorem digit_0 : digit 0 = false := rfl

theorem gap_le (b : Bool) (n : Nat) (l : Bytes) : (gap b n l).2.length ≤ l.length := by
  induction l generalizing b n with
  | nil => cases b <;> simp [gap]
  | cons c r ih =>
    cases b with
    | true => unfold gap; split <;> exact Nat.le_trans (ih _ _) (by simp)
    | false =>
      unfold gap
      split
      · exact Nat.le_trans (ih _ _) (by simp)
      · split
        · exact Nat.le_trans (ih _ _) (by simp)
        · simp

theorem word_le (l : Bytes) : (word l).2.length ≤ l.length := by
  induction l using word.induct with
  | case1 => simp [word]
  | case2 c h => simp [word, h]
  | case3 c h => simp [word, h]
  | case4 c d r h h2 ih => rw [word, if_pos h, if_pos h2]; simp; omega
  | case5 c d r h h2 ih => rw [word, if_pos h, if_neg h2]; simp at ih ⊢; omega
  | case6 c d r h => rw [word, if_neg h]; exact Nat.le_refl _

theorem dropWhile_le (p : UInt8 → Bool) (l : Bytes) : (l.dropWhile p).length ≤ l.length := by
  induction l with
  | nil => simp
  | cons c r ih => rw [List.dropWhile_cons]; split <;> simp <;> omega

theorem word_one {c : UInt8} {r : Bytes} (h : kind (c :: r) = 1) (h2 : c ≠ 92 ∨ r = []) : word (c :: r) = (c :: (word r).1, (word r).2) := by
  cases r with
  | nil => simp [word, h]
  | cons d r =>
    have h3 : (c == 92) = false := by simpa using h2
    rw [word, if_pos h, h3]
    rfl
theorem word_esc {d : UInt8} {r : Bytes} (h : kind (92 :: d :: r) = 1) : word (92 :: d :: r) = (d :: (word r).1, (word r).2) := by
  rw [word, if_pos h]; rfl
theorem word_stop {c : UInt8} {r : Bytes} (h : kind (c :: r) ≠ 1) : word (c :: r) = ([], c :: r) := by
  cases r with
  | nil => simp [word, h]
  | cons d r => rw [word, if_neg h]

theorem one_cons (c : UInt8) (r : Bytes) : one (c :: r) =
    if kind (c :: r) = 2 then ((gapKind (gap false 0 (c :: r)).1, []), (gap false 0 (c :: r)).2)
    else if kind (c :: r) = 4 then ((4, r.takeWhile letter), r.dropWhile letter)
    else if kind (c :: r) = 5 then ((5, []), r)
    else if kind (c :: r) = 6 then ((6, []), r)
    else if kind (c :: r) = 7 then ((7, r.take 1), r.drop 1)
    else ((1, (word (c :: r)).1), (word (c :: r)).2) := rfl

theorem kind_cons (c : UInt8) (r : Bytes) : kind (c :: r) =
    if blank c || c == 37 then 2
    else if c == 92 && letter (r.headD 0) then 4
    else if c == 123 then 5
    else if c == 125 then 6
    else if c == 35 && digit (r.headD 0) then 7
    else 1 := rfl

theorem kind_cases (c : UInt8) (r : Bytes) : kind (c :: r) = 2 ∨ kind (c :: r) = 4 ∨ kind (c :: r) = 5 ∨ kind (c :: r) = 6 ∨ kind (c :: r) = 7 ∨ kind (c :: r) = 1 := by
  rw [kind_cons]; (repeat' split) <;> simp

theorem one_k1 {s : Bytes} (h : kind s = 1) : one s = ((1, (word s).1), (word s).2) := by
  cases s with
  | nil => simp [kind] at h
  | cons c r => rw [one_cons]; simp [h]
theorem one_k2 {s : Bytes} (h : kind s = 2) : one s = ((gapKind (gap false 0 s).1, []), (gap false 0 s).2) := by
  cases s with
  | nil => simp [kind] at h
  | cons c r => rw [one_cons]; simp [h]
theorem one_k4 {c : UInt8} {r : Bytes} (h : kind (c :: r) = 4) : one (c :: r) = ((4, r.takeWhile letter), r.dropWhile letter) := by rw [one_cons]; simp [h]
theorem one_k5 {c : UInt8} {r : Bytes} (h : kind (c :: r) = 5) : one (c :: r) = ((5, []), r) := by rw [one_cons]; simp [h]
theorem one_k6 {c : UInt8} {r : Bytes} (h : kind (c :: r) = 6) : one (c :: r) = ((6, []), r) := by rw [one_cons]; simp [h]
theorem one_k7 {c : UInt8} {r : Bytes} (h : kind (c :: r) = 7) : one (c :: r) = ((7, r.take 1), r.drop 1) := by rw [one_cons]; simp [h]
theorem kind_seven {c : UInt8} {r : Bytes} (h : kind (c :: r) = 7) : c = 35 ∧ r ≠ [] ∧ digit (r.headD 0) = true := by
  rw [kind_cons] at h
  (repeat' split at h) <;> simp at h
  rename_i h1
  rw [Bool.and_eq_true, beq_iff_eq] at h1
  refine ⟨h1.1, ?_, h1.2⟩
  rintro rfl
  simp at h1
theorem kind_four {c : UInt8} {r : Bytes} (h : kind (c :: r) = 4) : c = 92 ∧ r ≠ [] ∧ letter (r.headD 0) = true := by
  rw [kind_cons] at h
  (repeat' split at h) <;> simp at h
  rename_i h1
  rw [Bool.and_eq_true, beq_iff_eq] at h1
  refine ⟨h1.1, ?_, h1.2⟩
  rintro rfl
  simp at h1

theorem kind_two {c : UInt8} {r : Bytes} : kind (c :: r) = 2 ↔ (blank c || c == 37) = true := by
  rw [kind_cons]
  constructor
  · intro h
    split at h
    · assumption
    · (repeat' split at h) <;> simp at h
  · intro h; rw [if_pos h]

theorem one_lt (c : UInt8) (r : Bytes) : (one (c :: r)).2.length ≤ r.length := by
  rw [one_cons]
  by_cases h2 : kind (c :: r) = 2
  · rw [if_pos h2]
    have hk := kind_two.1 h2
    show (gap false 0 (c :: r)).2.length ≤ r.length
    rw [gap]
    by_cases hb : blank c = true
    · rw [if_pos hb]; exact gap_le _ _ _
    · rw [if_neg hb]
      have h37 : (c == 37) = true := by simpa [hb] using hk
      rw [if_pos h37]; exact gap_le _ _ _
  rw [if_neg h2]
  by_cases h4 : kind (c :: r) = 4
  · rw [if_pos h4]; exact dropWhile_le _ _
  rw [if_neg h4]
  by_cases h5 : kind (c :: r) = 5
  · rw [if_pos h5]; exact Nat.le_refl _
  rw [if_neg h5]
  by_cases h6 : kind (c :: r) = 6
  · rw [if_pos h6]; exact Nat.le_refl _
  rw [if_neg h6]
  by_cases h7 : kind (c :: r) = 7
  · rw [if_pos h7]; simp
  rw [if_neg h7]
  have hk : kind (c :: r) = 1 := by rcases kind_cases c r with h | h | h | h | h | h <;> first | exact h | contradiction
  show (word (c :: r)).2.length ≤ r.length
  cases r with
  | nil => simp [word, hk]
  | cons d r =>
    rw [word, if_pos hk]
    split
    · have := word_le r; simp; omega
    · exact word_le (d :: r)

theorem lexF_fuel (n : Nat) : ∀ (m : Nat) (s : Bytes), s.length ≤ n → s.length ≤ m → lexF n s = lexF m s := by
  induction n with
  | zero => intro m s h _; cases s with
    | nil => cases m <;> rfl
    | cons c r => simp at h
  | succ n ih =>
    intro m s h h2
    cases s with
    | nil => cases m <;> rfl
    | cons c r =>
      cases m with
      | zero => simp at h2
      | succ m =>
        have := one_lt c r
        simp only [lexF]
        rw [ih m _ (by simp at h; omega) (by simp at h2; omega)]

theorem lex_nil : lex [] = [] := rfl
theorem lex_cons (c : UInt8) (r : Bytes) : lex (c :: r) = (one (c :: r)).1 :: lex (one (c :: r)).2 := by
  have := one_lt c r
  show lexF (r.length + 1) (c :: r) = _
  rw [lexF, lexF_fuel r.length (one (c :: r)).2.length _ this (Nat.le_refl _)]
  rfl
theorem lex_ne {s : Bytes} (h : s ≠ []) : lex s = (one s).1 :: lex (one s).2 := by
  cases s with
  | nil => exact absurd rfl h
  | cons c r => exact lex_cons c r

end Go.Proofs.Ytkpdhpbnbpjceaa.Lx
