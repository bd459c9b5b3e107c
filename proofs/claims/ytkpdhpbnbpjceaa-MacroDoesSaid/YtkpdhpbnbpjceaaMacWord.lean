
/- The macro layer: one word; the program's walk and the reference's. No condition. -/
import Derived.Test.YtkpdhpbnbpjceaaMacSq
namespace Go.Proofs.Ytkpdhpbnbpjceaa
open Go.RowKit

def wordOf (l : List Lx.Tok) : List UInt8 × Bool := match l with | [t] => if t.1 = 1 then (t.2, true) else ([], false) | _ => ([], false)

set_option maxHeartbeats 400000 in
/-- 'Word': of one word alone. -/
theorem macWord_any (v : Value) (l : List Lx.Tok) (w : World) (hl : Rt w v l) :
    Calls Try.prog 18 #[v] w fun e w' => e = .returned (.tuple #[.string (S (wordOf l).1), .bool (wordOf l).2]) ∧ Below w.heap.size w w' := by
  obtain ⟨a0, c0, rfl⟩ := hl.shape
  by_cases h1 : l.length = 1
  · obtain ⟨b1, o1, rfl, c10, c11⟩ := hl.at (i := 0) (by omega)
    obtain ⟨⟨z, s⟩, rfl⟩ := List.length_eq_one_iff.1 h1
    clear hl
    have c10' : w.cell? ⟨b1, o1, none⟩ = some (.int .i64 z) := c10
    have c11' : w.cell? ⟨b1, o1 + 1, none⟩ = some (.string (S s)) := by have := c11; rwa [Nat.zero_mul, Nat.add_zero] at this
    clear c10
    cases hz : (z == 1)
    · have hw : wordOf [(z, s)] = ([], false) := if_neg (by simpa using hz)
      rw [hw]
      clear hw
      go_enter Try.func18, Try.ntmps18
      simp only [S_lit]
      go_wp2_with fail
      (with_reducible refine (of1_any (z, s) 1 _ _ rfl).mono ?_); rintro e w2 ⟨rfl, b2⟩
      go_wp2_with fail
      go_ret2
      exact ⟨rfl, b2⟩
    · have hw : wordOf [(z, s)] = (s, true) := if_pos (by simpa using hz)
      rw [hw]
      clear hw
      go_enter Try.func18, Try.ntmps18
      simp only [S_lit]
      go_wp2_with fail
      (with_reducible refine (of1_any (z, s) 1 _ _ rfl).mono ?_); rintro e w2 ⟨rfl, b2⟩
      have c2 := (b2.block b1 (World.block_lt_of_cell? w _ c11'))
      have c21 := (World.cell?_of_block (a := ⟨b1, o1 + 1, none⟩) c2).trans c11'
      go_wp2_with fail
      go_ret2
      exact ⟨rfl, b2⟩
  · have hw : wordOf l = ([], false) := by
      match l, h1 with
      | [], _ => rfl
      | a :: b :: r, _ => rfl
    rw [hw]
    have hb : ((l.length : Int) != 1) = true := by simp [bne]; omega
    clear hl hw
    go_enter Try.func18, Try.ntmps18
    simp only [S_lit]
    go_wp2_with fail
    go_ret2
    exact ⟨rfl, Below.refl _ _⟩

set_option maxHeartbeats 400000 in
/-- The reference's 'Word'. -/
theorem refWord_one (v : Value) (l : List Lx.Tok) (w : World) (hl : Rt w v l) :
    Calls Try.prog 19 #[v] w fun e w' => e = .returned (.tuple #[.string (S (wordOf l).1), .bool (wordOf l).2]) ∧ w' = w := by
  obtain ⟨a0, c0, rfl⟩ := hl.shape
  by_cases h1 : l.length = 1
  · obtain ⟨b1, o1, rfl, c10, c11⟩ := hl.at (i := 0) (by omega)
    obtain ⟨⟨z, s⟩, rfl⟩ := List.length_eq_one_iff.1 h1
    clear hl
    have c10' : w.cell? ⟨b1, o1, none⟩ = some (.int .i64 z) := c10
    have c11' : w.cell? ⟨b1, o1 + 1, none⟩ = some (.string (S s)) := by have := c11; rwa [Nat.zero_mul, Nat.add_zero] at this
    clear c10
    cases hz : (z != 1)
    · have hw : wordOf [(z, s)] = (s, true) := if_pos (by simpa [bne] using hz)
      rw [hw]
      clear hw
      go_enter Try.func19, Try.ntmps19
      simp only [S_lit]
      go_wp2_with fail
      go_ret2
      exact ⟨rfl, rfl⟩
    · have hw : wordOf [(z, s)] = ([], false) := if_neg (by simpa [bne] using hz)
      rw [hw]
      clear hw
      go_enter Try.func19, Try.ntmps19
      simp only [S_lit]
      go_wp2_with fail
      go_ret2
      exact ⟨rfl, rfl⟩
  · have hw : wordOf l = ([], false) := by
      match l, h1 with
      | [], _ => rfl
      | a :: b :: r, _ => rfl
    rw [hw]
    have hb : ((l.length : Int) != 1) = true := by simp [bne]; omega
    clear hl hw
    go_enter Try.func19, Try.ntmps19
    simp only [S_lit]
    go_wp2_with fail
    go_ret2
    exact ⟨rfl, rfl⟩

end Go.Proofs.Ytkpdhpbnbpjceaa
