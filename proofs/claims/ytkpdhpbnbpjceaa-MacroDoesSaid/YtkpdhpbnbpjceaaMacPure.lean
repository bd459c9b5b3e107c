
/- Groups of tokens, and flat texts, said on lists: what the macro layer and its reference both compute. No program in sight. No condition. -/
import Derived.Test.YtkpdhpbnbpjceaaLexPure
namespace Go.Proofs.Ytkpdhpbnbpjceaa.Mx
open Lx

/-- How deep one is behind a token. -/
def step (d : Nat) (t : Tok) : Nat := if t.1 = 5 then d + 1 else if t.1 = 6 then d - 1 else d
/-- So many tokens till one is out. -/
def close : Nat → List Tok → Option Nat
  | _, [] => none
  | d, t :: r => if step d t = 0 then some 1 else (close (step d t) r).map (· + 1)
/-- So many tokens are in the group that begins here. -/
def group : List Tok → Option Nat
  | [] => none
  | t :: r => if t.1 = 5 then close 0 (t :: r) else none
/-- 'Group': the place behind it, and what is wrong. -/
def groupAt (l : List Tok) (p : Int) : Int × Int :=
  if p < 0 ∨ (l.length : Int) < p then (0, 1) else match group (l.drop p.toNat) with | some n => (p + n, 0) | none => (0, 10)

theorem close_le (l : List Tok) : ∀ d n, close d l = some n → 0 < n ∧ n ≤ l.length := by
  induction l with
  | nil => intro d n h; simp [close] at h
  | cons t r ih =>
    intro d n h
    rw [close] at h
    split at h
    · simp at h; subst h; simp
    · simp only [Option.map_eq_some_iff] at h
      obtain ⟨m, hm, rfl⟩ := h
      have := ih _ _ hm
      simp; omega

theorem group_le {l : List Tok} {n : Nat} (h : group l = some n) : 2 ≤ n ∧ n ≤ l.length := by
  cases l with
  | nil => simp [group] at h
  | cons t r =>
    rw [group] at h
    split at h
    · rename_i h5
      have h1 := close_le _ _ _ h
      rw [close] at h
      have e : step 0 t = 1 := by simp [step, h5]
      rw [e] at h
      simp only [Nat.one_ne_zero, if_false, Option.map_eq_some_iff] at h
      obtain ⟨m, hm, rfl⟩ := h
      have := close_le _ _ _ hm
      omega
    · simp at h

/-- How many Spaces stand first. -/
def spaces : List Tok → Nat
  | [] => 0
  | t :: r => if t.1 = 2 then spaces r + 1 else 0
theorem spaces_le (l : List Tok) : spaces l ≤ l.length := by
  induction l with
  | nil => simp [spaces]
  | cons t r ih => rw [spaces]; split <;> simp <;> omega

/-- What stands within so many groups, and how many tokens these are. -/
def args : Nat → List Tok → Option (List (List Tok) × Nat)
  | 0, _ => some ([], 0)
  | n + 1, l =>
    match group (l.drop (spaces l)) with
    | none => none
    | some g => (args n (l.drop (spaces l + g))).map fun x => (((l.drop (spaces l + 1)).take (g - 2)) :: x.1, spaces l + g + x.2)

/-! ### flat texts -/
/-- One blank for several; none where nothing stands before. -/
def sq : Bool → Bytes → Bytes
  | _, [] => []
  | p, c :: r => if c = 32 then (if p then sq true r else 32 :: sq true r) else c :: sq false r
/-- Without a blank at its end. -/
def trim (s : Bytes) : Bytes := if s.getLast? = some 32 then s.dropLast else s
def squeeze (s : Bytes) : Bytes := trim (sq true s)
/-- Words, and one blank for each gap. -/
def bare (l : List Tok) : Bytes := l.flatMap fun t => if t.1 = 1 then t.2 else if t.1 = 2 ∨ t.1 = 3 then [32] else []
def flat (l : List Tok) : Bytes := squeeze (bare l)

end Go.Proofs.Ytkpdhpbnbpjceaa.Mx
