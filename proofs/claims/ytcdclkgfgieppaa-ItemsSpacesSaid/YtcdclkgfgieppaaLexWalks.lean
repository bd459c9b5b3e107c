
/- What the lexer's functions compute, each walked once: blank, letter, digit, param, command. -/
import Derived.Test.YtcdclkgfgieppaaProg
import Derived.Test.YtcdclkgfgieppaaKit
import Derived.Test.YtcdclkgfgieppaaLexPure
import Derived.BigQuiet
import Derived.Deep.QuietTactic
namespace Go.Proofs.Ytcdclkgfgieppaa
open Go.RowKit

def blankI (n : Int) : Bool := n == 32 || n == 9 || n == 10
def letterI (n : Int) : Bool := (decide (97 ≤ n) && decide (n ≤ 122)) || (decide (65 ≤ n) && decide (n ≤ 90))
def digitI (n : Int) : Bool := decide (49 ≤ n) && decide (n ≤ 57)
@[go_sem] theorem blankI_u8 (c : UInt8) : blankI (c.toNat : Int) = Lx.blank c := by simp [blankI, Lx.blank, u8_beq_32, u8_beq_9, u8_beq_10]
@[go_sem] theorem letterI_u8 (c : UInt8) : letterI (c.toNat : Int) = Lx.letter c := by
  rw [Bool.eq_iff_iff]; simp [letterI, Lx.letter, UInt8.le_iff_toNat_le]; omega
@[go_sem] theorem digitI_u8 (c : UInt8) : digitI (c.toNat : Int) = Lx.digit c := by
  rw [Bool.eq_iff_iff]; simp [digitI, Lx.digit, UInt8.le_iff_toNat_le]; omega
@[go_sem] theorem letterI_0 : letterI 0 = false := rfl
@[go_sem] theorem digitI_0 : digitI 0 = false := rfl

set_option maxHeartbeats 400000 in
theorem blank_any (n : Int) (w : World) :
    Calls Try.prog 55 #[.int .u8 n] w fun e w' => e = .returned (.bool (blankI n)) ∧ w = w' := by
  go_enter Try.func55, Try.ntmps55
  go_wp2
  all_goals (go_ret; exact ⟨ret_bool (by simp [blankI, *]), rfl⟩)

set_option maxHeartbeats 400000 in
theorem letter_any (n : Int) (w : World) :
    Calls Try.prog 59 #[.int .u8 n] w fun e w' => e = .returned (.bool (letterI n)) ∧ w = w' := by
  go_enter Try.func59, Try.ntmps59
  go_wp2
  all_goals (go_ret; refine ⟨ret_bool ?_, rfl⟩; rw [Bool.eq_iff_iff]; simp [letterI]; omega)

set_option maxHeartbeats 400000 in
theorem digit_any (n : Int) (w : World) :
    Calls Try.prog 68 #[.int .u8 n] w fun e w' => e = .returned (.bool (digitI n)) ∧ w = w' := by
  go_enter Try.func68, Try.ntmps68
  go_wp2
  all_goals (go_ret; refine ⟨ret_bool ?_, rfl⟩; rw [Bool.eq_iff_iff]; simp [digitI]; omega)

set_option maxHeartbeats 400000 in
theorem param_any (l : List UInt8) (k : Nat) (hk : k < l.length) (hl : l.length ≤ 1000000000000) (w : World) :
    Calls Try.prog 57 #[.string (S l), .int .i64 (k : Int)] w fun e w' => e = .returned (.bool (Lx.param (l.drop k))) ∧ w = w' := by
  go_enter Try.func57, Try.ntmps57
  go_wp2_with (go_at_call 68; (with_reducible refine (digit_any _ _).mono ?_); rintro e w' ⟨rfl, rfl⟩)
  all_goals (go_ret; refine ⟨ret_bool ?_, rfl⟩; rw [drop_at hk])
  · rw [Lx.param, headD_drop (by omega)]; simp [*]
  · rw [Lx.param, headD_drop_ge (by omega)]; simp
  · simp [Lx.param, *]

set_option maxHeartbeats 400000 in
theorem command_any (l : List UInt8) (k : Nat) (hk : k < l.length) (hl : l.length ≤ 1000000000000) (w : World) :
    Calls Try.prog 58 #[.string (S l), .int .i64 (k : Int)] w fun e w' => e = .returned (.bool (Lx.command (l.drop k))) ∧ w = w' := by
  go_enter Try.func58, Try.ntmps58
  go_wp2_with (go_at_call 59; (with_reducible refine (letter_any _ _).mono ?_); rintro e w' ⟨rfl, rfl⟩)
  all_goals (go_ret; refine ⟨ret_bool ?_, rfl⟩; rw [drop_at hk])
  · rw [Lx.command, headD_drop (by omega)]; simp [*]
  · rw [Lx.command, headD_drop_ge (by omega)]; simp
  · simp [Lx.command, *]

/-- 'Is a byte one?', in the reference's words. -/
theorem refBlank_any (n : Int) (w : World) :
    Calls Try.prog 61 #[.int .u8 n] w fun e w' => e = .returned (.bool (blankI n)) ∧ w = w' := by
  go_enter Try.func61, Try.ntmps61
  go_wp2
  all_goals (go_ret; exact ⟨ret_bool (by simp [blankI, *]), rfl⟩)

theorem refLetter_any (n : Int) (w : World) :
    Calls Try.prog 43 #[.int .u8 n] w fun e w' => e = .returned (.bool (letterI n)) ∧ w = w' := by
  go_enter Try.func43, Try.ntmps43
  go_wp2
  all_goals (go_ret; refine ⟨ret_bool ?_, rfl⟩; rw [Bool.eq_iff_iff]; simp [letterI]; omega)

theorem refDigit_any (n : Int) (w : World) :
    Calls Try.prog 62 #[.int .u8 n] w fun e w' => e = .returned (.bool (digitI n)) ∧ w = w' := by
  go_enter Try.func62, Try.ntmps62
  go_wp2
  all_goals (go_ret; refine ⟨ret_bool ?_, rfl⟩; rw [Bool.eq_iff_iff]; simp [digitI]; omega)

set_option maxHeartbeats 400000 in
/-- The reference's 'Kind'. -/
theorem refKind_any (l : List UInt8) (k : Nat) (hk : k < l.length) (hl : l.length ≤ 1000000000000) (w : World) :
    Calls Try.prog 40 #[.string (S l), .int .i64 (k : Int)] w fun e w' => e = .returned (.int .i64 (Lx.kind (l.drop k))) ∧ w = w' := by
  go_enter Try.func40, Try.ntmps40
  go_wp2_with (first | (go_at_call 43; (with_reducible refine (refLetter_any _ _).mono ?_); rintro e w' ⟨rfl, rfl⟩) | (go_at_call 61; (with_reducible refine (refBlank_any _ _).mono ?_); rintro e w' ⟨rfl, rfl⟩) | (go_at_call 62; (with_reducible refine (refDigit_any _ _).mono ?_); rintro e w' ⟨rfl, rfl⟩))
  all_goals (go_tidy; go_ret; refine ⟨ret_int ?_, rfl⟩; rw [drop_at hk, Lx.kind_cons])
  all_goals first | rw [headD_drop (by omega)] | rw [headD_drop_ge (by omega)]
  all_goals simp [*]

set_option maxHeartbeats 400000 in
/-- The reference's 'gap': blanks and remarks. -/
theorem refGap_any (l : List UInt8) (k : Nat) (hk : k < l.length) (hl : l.length ≤ 1000000000000) (w : World) :
    Calls Try.prog 42 #[.string (S l), .int .i64 (k : Int)] w fun e w' =>
      ∃ e1 : Nat, e = .returned (.tuple #[.agg #[.int .i64 (Lx.gapKind (Lx.gap false 0 (l.drop k)).1), .string (S [])], .int .i64 e1]) ∧ e1 ≤ l.length ∧ l.drop e1 = (Lx.gap false 0 (l.drop k)).2 ∧ Below w.heap.size w w' := by
  go_enter Try.func42, Try.ntmps42
  go_wp2_with (first | (go_at_call 40; (with_reducible refine (refKind_any _ _ (by omega) hl _).mono ?_); rintro e w' ⟨rfl, rfl⟩) | fail)
  go_loop [1, 6, 7] (fun i n b => ∃ (j m : Nat) (r : Bool), k ≤ j ∧ j ≤ l.length ∧ m ≤ j ∧ i = .int .i64 j ∧ n = .int .i64 m ∧ b = .bool r ∧ Hid (Lx.gap r m (l.drop j) = Lx.gap false 0 (l.drop k))) (fun i _ _ => l.length - (intOf i).toNat)
  case atStart => exact ⟨k, 0, false, by omega, by omega, by omega, rfl, rfl, rfl, rfl⟩
  case round =>
    obtain ⟨j, m, r, hkj, hj, hm, rfl, rfl, rfl, HG⟩ := hrel
    by_cases hlt : j < l.length
    · have hkd : Lx.kind (l.drop j) = 2 ↔ (Lx.blank l[j] || l[j] == 37) = true := by rw [drop_at hlt, Lx.kind_two]
      have HC : Hid (l.drop j = l[j] :: l.drop (j + 1)) := drop_at hlt
      have close : ∀ (m' : Nat) (r' : Bool), m' ≤ j + 1 → Lx.gap r m (l[j] :: l.drop (j + 1)) = Lx.gap r' m' (l.drop (j + 1)) →
          Hid (Lx.gap r' m' (l.drop (j + 1)) = Lx.gap false 0 (l.drop k)) := fun m' r' _ h => by
        show _ = _; rw [← h, ← HC.out]; exact HG.out
      by_cases hin : r = true ∨ (Lx.blank l[j] || l[j] == 37) = true
      · have hm1 : m + 1 ≤ j + 1 := by omega
        have hm0 : m ≤ j + 1 := by omega
        have HI := Lib.hid hin
        have HKD := Lib.hid hkd
        have HCL := Lib.hid close
        clear hin hkd close
        by_cases c10 : l[j] = 10
        · have c37 : (l[j] == 37) = false := by rw [c10]; rfl
          have hk2 : Lx.kind (l.drop j) = 2 := HKD.out.2 (by rw [c10]; rfl)
          cases r
          · go_wp2_with (first | (go_at_call 40; (with_reducible refine (refKind_any _ _ (by omega) hl _).mono ?_); rintro e w' ⟨rfl, rfl⟩) | fail)
            go_round
            case rel => exact ⟨j + 1, m + 1, false, by omega, by omega, by omega, by go_num, by go_num, rfl, HCL.out _ _ hm1 (by rw [c10]; simp [Lx.gap])⟩
            case measure => simp [intOf]; omega
          · go_wp2_with (first | (go_at_call 40; (with_reducible refine (refKind_any _ _ (by omega) hl _).mono ?_); rintro e w' ⟨rfl, rfl⟩) | fail)
            go_round
            case rel => exact ⟨j + 1, m, false, by omega, by omega, by omega, by go_num, rfl, rfl, HCL.out _ _ hm0 (by rw [c10]; simp [Lx.gap])⟩
            case measure => simp [intOf]; omega
        · have c10' : (l[j] == 10) = false := by simpa using c10
          have C10 := Lib.hid c10
          clear c10
          cases r
          · have hk2 : Lx.kind (l.drop j) = 2 := HKD.out.2 (by simpa using HI.out)
            by_cases c37 : l[j] = 37
            · go_wp2_with (first | (go_at_call 40; (with_reducible refine (refKind_any _ _ (by omega) hl _).mono ?_); rintro e w' ⟨rfl, rfl⟩) | fail)
              go_round
              case rel => exact ⟨j + 1, m, true, by omega, by omega, by omega, by go_num, rfl, rfl, HCL.out _ _ hm0 (by rw [c37]; simp [Lx.gap])⟩
              case measure => simp [intOf]; omega
            · have c37' : (l[j] == 37) = false := by simpa using c37
              have hbl : Lx.blank l[j] = true := by have := HI.out; simpa [c37] using this
              clear c37
              go_wp2_with (first | (go_at_call 40; (with_reducible refine (refKind_any _ _ (by omega) hl _).mono ?_); rintro e w' ⟨rfl, rfl⟩) | fail)
              go_round
              case rel => exact ⟨j + 1, m, false, by omega, by omega, by omega, by go_num, rfl, rfl, HCL.out _ _ hm0 (by simp [Lx.gap, hbl, C10.out])⟩
              case measure => simp [intOf]; omega
          · go_wp2_with (first | (go_at_call 40; (with_reducible refine (refKind_any _ _ (by omega) hl _).mono ?_); rintro e w' ⟨rfl, rfl⟩) | fail)
            all_goals (
              go_round
              case rel => exact ⟨j + 1, m, true, by omega, by omega, by omega, by go_num, rfl, rfl, HCL.out _ _ hm0 (by simp [Lx.gap, C10.out])⟩
              case measure => simp [intOf]; omega)
      · have hr : r = false := by cases r <;> simp_all
        subst hr
        have hk2 : (Lx.kind (l.drop j) == 2) = false := by
          rw [beq_eq_false_iff_ne]; exact fun h => hin (.inr (hkd.1 h))
        have hx : Lx.gap false 0 (l.drop k) = (m, l.drop j) := by
          rw [← HG.out, HC.out]
          have : Lx.blank l[j] = false ∧ ¬ l[j] = 37 := by simpa using hin
          simp [Lx.gap, this]
        have HX := Lib.hid hx
        clear hkd hin close hx
        by_cases hm2 : 2 ≤ m
        all_goals (
          go_wp2_with (first | (go_at_call 40; (with_reducible refine (refKind_any _ _ (by omega) hl _).mono ?_); rintro e w' ⟨rfl, rfl⟩) | fail)
          refine bodyPost_ret (v := .tuple #[.agg #[.int .i64 (Lx.gapKind m), .string (S [])], .int .i64 j]) (by simp [results, Try.results42, go_sem, Lx.gapKind, hm2]) rfl ⟨j, by rw [HX.out], hj, by rw [HX.out], ?_⟩
          exact (Below.refl _ _).alloc (Nat.le_refl _) _)
    · obtain rfl : j = l.length := by omega
      have hx : Lx.gap false 0 (l.drop k) = (m, []) := by rw [← HG.out, List.drop_length]; cases r <;> rfl
      have HX := Lib.hid hx
      clear hx
      by_cases hm2 : 2 ≤ m
      all_goals (
        go_wp2
        refine bodyPost_ret (v := .tuple #[.agg #[.int .i64 (Lx.gapKind m), .string (S [])], .int .i64 l.length]) (by simp [results, Try.results42, go_sem, Lx.gapKind, hm2]) rfl ⟨l.length, by rw [HX.out], hj, by rw [HX.out, List.drop_length], ?_⟩
        exact (Below.refl _ _).alloc (Nat.le_refl _) _)

end Go.Proofs.Ytcdclkgfgieppaa
