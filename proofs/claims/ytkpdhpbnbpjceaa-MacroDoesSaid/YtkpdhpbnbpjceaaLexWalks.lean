
/- What the lexer's functions compute, each walked once: blank, letter, digit, param, command. -/
import Derived.Test.YtkpdhpbnbpjceaaProg
import Derived.Test.YtkpdhpbnbpjceaaKit
import Derived.Test.YtkpdhpbnbpjceaaLexPure
import Derived.BigQuiet
import Derived.Deep.QuietTactic
namespace Go.Proofs.Ytkpdhpbnbpjceaa
open Go.RowKit

def blankI (n : Int) : Bool := n == 32 || n == 9 || n == 10
def letterI (n : Int) : Bool := (decide (97 ≤ n) && decide (n ≤ 122)) || (decide (65 ≤ n) && decide (n ≤ 90))
def digitI (n : Int) : Bool := decide (49 ≤ n) && decide (n ≤ 57)
@[go_sem] theorem blankI_u8 (c : UInt8) : blankI (c.toNat : Int) = Lx.blank c := by simp [blankI, Lx.blank, u8_beq_32, u8_beq_9, u8_beq_10]
@[go_sem] theorem letterI_u8 (c : UInt8) : letterI (c.toNat : Int) = Lx.letter c := by
  rw [Bool.eq_iff_iff]; simp [letterI, Lx.letter, UInt8.le_iff_toNat_le]; omega
@[go_sem] theorem digitI_u8 (c : UInt8) : digitI (c.toNat : Int) = Lx.digit c := by
  rw [Bool.eq_iff_iff]; simp [digitI, Lx.digit, UInt8.le_iff_toNat_le]; omega
@[go_sem] theorem letterI_0 : letterI 0 = false := rfl
@[go_sem] theorem digitI_0 : digitI 0 = false := rfl

set_option maxHeartbeats 400000 in
theorem blank_any (n : Int) (w : World) :
    Calls Try.prog 60 #[.int .u8 n] w fun e w' => e = .returned (.bool (blankI n)) ∧ w = w' := by
  go_enter Try.func60, Try.ntmps60
  go_wp2
  all_goals (go_ret; exact ⟨ret_bool (by simp [blankI, *]), rfl⟩)

set_option maxHeartbeats 400000 in
theorem letter_any (n : Int) (w : World) :
    Calls Try.prog 64 #[.int .u8 n] w fun e w' => e = .returned (.bool (letterI n)) ∧ w = w' := by
  go_enter Try.func64, Try.ntmps64
  go_wp2
  all_goals (go_ret; refine ⟨ret_bool ?_, rfl⟩; rw [Bool.eq_iff_iff]; simp [letterI]; omega)

set_option maxHeartbeats 400000 in
theorem digit_any (n : Int) (w : World) :
    Calls Try.prog 73 #[.int .u8 n] w fun e w' => e = .returned (.bool (digitI n)) ∧ w = w' := by
  go_enter Try.func73, Try.ntmps73
  go_wp2
  all_goals (go_ret; refine ⟨ret_bool ?_, rfl⟩; rw [Bool.eq_iff_iff]; simp [digitI]; omega)

set_option maxHeartbeats 400000 in
theorem param_any (l : List UInt8) (k : Nat) (hk : k < l.length) (hl : l.length ≤ 1000000000000) (w : World) :
    Calls Try.prog 62 #[.string (S l), .int .i64 (k : Int)] w fun e w' => e = .returned (.bool (Lx.param (l.drop k))) ∧ w = w' := by
  go_enter Try.func62, Try.ntmps62
  go_wp2_with (go_at_call 73; (with_reducible refine (digit_any _ _).mono ?_); rintro e w' ⟨rfl, rfl⟩)
  all_goals (go_ret; refine ⟨ret_bool ?_, rfl⟩; rw [drop_at hk])
  · rw [Lx.param, headD_drop (by omega)]; simp [*]
  · rw [Lx.param, headD_drop_ge (by omega)]; simp
  · simp [Lx.param, *]

set_option maxHeartbeats 400000 in
theorem command_any (l : List UInt8) (k : Nat) (hk : k < l.length) (hl : l.length ≤ 1000000000000) (w : World) :
    Calls Try.prog 63 #[.string (S l), .int .i64 (k : Int)] w fun e w' => e = .returned (.bool (Lx.command (l.drop k))) ∧ w = w' := by
  go_enter Try.func63, Try.ntmps63
  go_wp2_with (go_at_call 64; (with_reducible refine (letter_any _ _).mono ?_); rintro e w' ⟨rfl, rfl⟩)
  all_goals (go_ret; refine ⟨ret_bool ?_, rfl⟩; rw [drop_at hk])
  · rw [Lx.command, headD_drop (by omega)]; simp [*]
  · rw [Lx.command, headD_drop_ge (by omega)]; simp
  · simp [Lx.command, *]

end Go.Proofs.Ytkpdhpbnbpjceaa
