
/- Items, said on lists: names of commands, what tokens say, what is shown of items. No program in sight. No condition. -/
import Derived.Test.YtcdclkgfgieppaaMacFlatP
namespace Go.Proofs.Ytcdclkgfgieppaa.It
open Lx

/-- The commands' names, by their kinds from 4 on. -/
def names : List Bytes := [[115, 101, 99, 116, 105, 111, 110],
  [115, 117, 98],
  [108, 97, 98, 101, 108],
  [114, 101, 102],
  [112, 97, 103, 101, 114, 101, 102],
  [99, 105, 116, 101],
  [105, 110, 100, 101, 120],
  [115, 116, 101, 112],
  [118, 97, 108, 117, 101],
  [98, 105, 98],
  [116, 111, 99],
  [112, 114, 105, 110, 116, 105, 110, 100, 101, 120],
  [110, 101, 119, 112, 97, 103, 101]]
/-- A command's kind; 0: it is none. -/
def kindOf (s : Bytes) : Nat := if names.findIdx (· == s) < 13 then names.findIdx (· == s) + 4 else 0
/-- The name of a kind. -/
def nameOf (k : Nat) : Bytes := names.getD (k - 4) []
/-- How many groups a kind has. -/
def grp (k : Nat) : Int := if k ≤ 13 then 1 else 0

theorem kindOf_le (s : Bytes) : kindOf s = 0 ∨ 4 ≤ kindOf s ∧ kindOf s ≤ 16 := by
  unfold kindOf; split <;> omega
theorem kindOf_name : ∀ k, 4 ≤ k → k ≤ 16 → kindOf (nameOf k) = k := by
  intro k h1 h2
  have : ∀ j : Fin 13, kindOf (nameOf (j.val + 4)) = j.val + 4 := by decide +kernel
  have h := this ⟨k - 4, by omega⟩
  rwa [show k - 4 + 4 = k by omega] at h
theorem nameOf_kind (s : Bytes) (h : kindOf s ≠ 0) : nameOf (kindOf s) = s := by
  unfold kindOf at h ⊢
  split at h
  · rename_i hl
    rw [if_pos hl]
    have hl2 : names.findIdx (· == s) < names.length := hl
    have h2 := List.findIdx_getElem (w := hl2)
    unfold nameOf
    rw [Nat.add_sub_cancel, List.getD_eq_getElem?_getD, List.getElem?_eq_getElem hl2]
    simpa using h2
  · omega

/-- A word behind what there is. -/
def word (out : List Tok) (s : Bytes) : List Tok :=
  match out.getLast? with
  | some (1, y) => out.dropLast ++ [(1, y ++ s)]
  | _ => if s = [] then out else out ++ [(1, s)]

/-- Is it no key? -/
def noKey (s : Bytes) : Bool := s == [] || decide (60 < s.length)

/-- What the tokens say behind what there is, and what is noted. -/
def parse : Nat → List Tok → List Tok → List Tok → List Tok × List Tok
  | 0, _, out, notes => (out, notes)
  | _, [], out, notes => (out, notes)
  | n + 1, t :: r, out, notes =>
    if t.1 = 1 then parse n r (word out t.2) notes
    else if t.1 = 2 ∨ t.1 = 3 then parse n r (out ++ [(t.1, [])]) notes
    else if t.1 = 4 then
      if kindOf t.2 = 0 then parse n r out (notes ++ [(11, t.2)])
      else if 13 < kindOf t.2 then parse n r (out ++ [((kindOf t.2 : Int), [])]) notes
      else match Mx.args 1 r with
        | none => parse n r out (notes ++ [(10, t.2)])
        | some (x, c) =>
          if noKey (Mx.flatOf (x.headD [])) then parse n (r.drop c) out (notes ++ [(2, t.2)])
          else parse n (r.drop c) (out ++ [((kindOf t.2 : Int), Mx.flatOf (x.headD []))]) notes
    else parse n r out notes
def parsed (l : List Tok) : List Tok × List Tok := parse l.length l [] []

/-- Fuel beyond the tokens' number is for nothing. -/
theorem parse_fuel : ∀ (n m : Nat) (l out notes : List Tok), l.length ≤ n → l.length ≤ m → parse n l out notes = parse m l out notes := by
  intro n
  induction n with
  | zero =>
    intro m l out notes h1 _
    have : l = [] := List.eq_nil_of_length_eq_zero (by omega)
    subst this
    cases m <;> rfl
  | succ n ih =>
    intro m l out notes h1 h2
    cases l with
    | nil => cases m <;> rfl
    | cons t r =>
      cases m with
      | zero => simp at h2
      | succ m =>
        have g1 : r.length ≤ n := by simpa using h1
        have g2 : r.length ≤ m := by simpa using h2
        have k1 : ∀ c, (r.drop c).length ≤ n := fun c => by rw [List.length_drop]; omega
        have k2 : ∀ c, (r.drop c).length ≤ m := fun c => by rw [List.length_drop]; omega
        simp only [parse]
        repeat' split
        all_goals first | exact ih _ _ _ _ g1 g2 | exact ih _ _ _ _ (k1 _) (k2 _)

/-- Is it a key? -/
def key (s : Bytes) : Bool := !noKey s && Mx.sqz s == s
/-- May an item stand behind one of the kind p? -/
def okItem (p : Int) (x : Tok) : Bool :=
  decide (1 ≤ x.1) && decide (x.1 ≤ 16) && (!(x.1 == 1) || (x.2 != [] && p != 1)) && (!(decide (4 ≤ x.1) && decide (x.1 ≤ 13)) || key x.2) && (!(x.1 == 2 || x.1 == 3 || decide (13 < x.1)) || x.2 == [])
def right : Int → List Tok → Bool
  | _, [] => true
  | p, x :: r => okItem p x && right x.1 r

/-- Tokens that say an item. -/
def showOne (x : Tok) : List Tok :=
  if x.1 = 1 then [(1, x.2)] else if x.1 = 2 ∨ x.1 = 3 then [(x.1, [])]
  else if 4 ≤ x.1 ∧ x.1 ≤ 13 then [(4, nameOf x.1.toNat), (5, []), (1, x.2), (6, [])]
  else if 14 ≤ x.1 ∧ x.1 ≤ 16 then [(4, nameOf x.1.toNat)] else []
def shown (l : List Tok) : List Tok := l.flatMap showOne

end Go.Proofs.Ytcdclkgfgieppaa.It
