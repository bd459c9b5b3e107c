
/- Right, of the program and of the reference. No condition. -/
import Derived.Test.YtgpifaedcelnnaaFiName
namespace Go.Proofs.Ytgpifaedcelnnaa
open Go.RowKit

theorem less_is : ∀ (a b : List UInt8), Op.bytesLess a b = decide (Lib.compareBytes a b < 0)
  | [], [] => by simp [Op.bytesLess, Lib.compareBytes]
  | _ :: _, [] => by simp [Op.bytesLess, Lib.compareBytes]
  | [], _ :: _ => by simp [Op.bytesLess, Lib.compareBytes]
  | a :: x, b :: y => by
    rw [Op.bytesLess, less_is x y, Lib.compareBytes]
    by_cases h1 : a < b
    · simp [h1]
    · by_cases h2 : b < a
      · have : ¬ a = b := by rintro rfl; exact h1 h2
        simp [h1, h2, this]
      · have : a = b := by
          apply UInt8.toNat_inj.1
          rw [UInt8.lt_iff_toNat_lt] at h1 h2
          omega
        subst this
        simp

/-- The name ahead of a place. -/
def prevN (l : List Fl) : Nat → Option (List UInt8)
  | 0 => none
  | k + 1 => (l[k]?).map (·.1)
theorem right_step {l : List Fl} {k : Nat} (h : k < l.length) : Fi.rightF (prevN l k) (l.drop k) =
    (Fi.okName l[k].1 && decide (l[k].2.length ≤ 4000) && (match prevN l k with | none => true | some q => decide (Lib.compareBytes q l[k].1 < 0)) && Fi.rightF (prevN l (k + 1)) (l.drop (k + 1))) := by
  have e : prevN l (k + 1) = some l[k].1 := by simp [prevN, List.getElem?_eq_getElem h]
  rw [drop_at h, e]
  cases prevN l k <;> rfl

set_option maxRecDepth 20000 in
set_option maxHeartbeats 4000000 in
/-- 'Right'. -/
theorem fright_any (v : Value) (l : List Fl) (w : World) (hl : Rf w v l) (hlen : l.length ≤ 1000000) (hs : ∀ f ∈ l, f.1.length ≤ 9223372036854775807) :
    Calls Try.prog 19 #[v] w fun e w' => e = .returned (.bool (Fi.right l)) ∧ Below w.heap.size w w' := by
  obtain ⟨a0, c0, rfl⟩ := hl.shape
  have HL := Lib.hid hl
  have HS := Lib.hid hs
  clear hl hs
  go_enter Try.func19, Try.ntmps19
  go_wp2_with fail
  go_loopw [7] (fun i wr => ∃ k : Nat, k ≤ l.length ∧ i = .int .i64 k ∧ Hid (Fi.rightF none l = Fi.rightF (prevN l k) (l.drop k)) ∧ Below w.heap.size w wr) (fun i _ => l.length - (intOf i).toNat)
  case atStart => exact ⟨0, Nat.zero_le _, rfl, Lib.hid rfl, Below.refl _ _⟩
  case round =>
    obtain ⟨k, hk, rfl, HE, hbw⟩ := hrel
    have hsz := hbw.size
    by_cases hlt : k < l.length
    · obtain ⟨b1, o1, rfl, c10, c11⟩ := (HL.out.below' hbw).at hlt
      have hn1 := HS.out _ (List.getElem_mem hlt)
      have HR := Lib.hid (HE.out.trans (right_step hlt))
      obtain ⟨⟨nm, tx⟩, hx⟩ : ∃ x, x = l[k] := ⟨_, rfl⟩
      rw [← hx] at c10 c11 hn1 HR
      simp only at hn1
      clear hx HE
      have HN := Lib.hid (fun w => name_any nm hn1 w)
      obtain ⟨isn, hisn⟩ : ∃ b, b = Fi.okName nm := ⟨_, rfl⟩
      simp only at HR
      rw [← hisn] at HN HR
      clear hisn
      have bX := hbw.alloc hsz (.cells #[.string (S nm), .string (S tx)] 25)
      cases isn
      · have HF := Lib.hid (show Fi.rightF none l = false by rw [HR.out]; rfl)
        clear HR
        go_wp2_with fail
        go_quiet (first | (go_at_call 12; refine Calls.quiet_of_same (HN.out _)) | fail)
        go_wp2_with fail
        go_ret
        exact ⟨ret_bool (by unfold Fi.right; rw [HF.out]; rfl), below_drewN bX _⟩
      · by_cases hbig : 4000 < tx.length
        · have HF := Lib.hid (show Fi.rightF none l = false by rw [HR.out, decide_eq_false (show ¬ tx.length ≤ 4000 by omega)]; rfl)
          have hbi : (4000 : Int) < (tx.length : Int) := by omega
          clear HR
          go_wp2_with fail
          go_quiet (first | (go_at_call 12; refine Calls.quiet_of_same (HN.out _)) | fail)
          go_wp2_with fail
          go_ret
          exact ⟨ret_bool (by unfold Fi.right; rw [HF.out]; rfl), below_drewN bX _⟩
        · have hbi : decide ((4000 : Int) < (tx.length : Int)) = false := by simp; omega
          have hbt : decide (tx.length ≤ 4000) = true := by simp; omega
          rw [hbt] at HR
          cases k with
          | zero =>
            simp only [Nat.zero_mul, Nat.add_zero] at c10 c11
            have HF := Lib.hid (show Fi.rightF none l = Fi.rightF (prevN l 1) (l.drop 1) by rw [HR.out]; rfl)
            clear HR
            go_wp2_with fail
            go_quiet (first | (go_at_call 12; refine Calls.quiet_of_same (HN.out _)) | fail)
            go_wp2_with fail
            go_roundw
            case rel => exact ⟨1, by omega, by go_num, HF, below_drewN bX _⟩
            case measure => simp [intOf]; omega
          | succ m =>
            obtain ⟨b2, o2, e2, d0, _⟩ := ((HL.out.below' hbw).below' ((Below.refl _ wr).alloc (Nat.le_refl _) (.cells #[.string (S nm), .string (S tx)] 25))).at (i := m) (by omega)
            cases e2
            have hpv : prevN l (m + 1) = some l[m].1 := by simp [prevN, List.getElem?_eq_getElem (show m < l.length by omega)]
            rw [hpv] at HR
            obtain ⟨q, hq⟩ : ∃ q, q = l[m].1 := ⟨_, rfl⟩
            rw [← hq] at d0 HR
            clear hq hpv
            have hm0 : (0 : Int) < (m : Int) + 1 := by omega
            have hwr : IntKind.i64.wrap ((m : Int) + 1 - 1) = (m : Int) := (Go.IntWalk.i64_left _).trans ((Go.IntWalk.wrap64_in _ (by omega)).trans (by omega))
            have hwr2 : wrap64 ((m : Int) + 1 - 1) = (m : Int) := (Go.IntWalk.wrap64_in _ (by omega)).trans (by omega)
            have hml : (m : Int) < (l.length : Int) := by omega
            have hm1 : (0 : Int) ≤ (m : Int) := by omega
            cases hless : Op.bytesLess q nm
            · have HF := Lib.hid (show Fi.rightF none l = false by
                rw [less_is] at hless
                rw [HR.out]
                simp only [hless]
                rfl)
              clear HR
              go_wp2_with fail
              go_quiet (first | (go_at_call 12; refine Calls.quiet_of_same (HN.out _)) | fail)
              go_wp2_with fail
              go_ret
              exact ⟨ret_bool (by unfold Fi.right; rw [HF.out]; rfl), below_drewN bX _⟩
            · have HF := Lib.hid (show Fi.rightF none l = Fi.rightF (prevN l (m + 1 + 1)) (l.drop (m + 1 + 1)) by
                rw [less_is] at hless
                rw [HR.out]
                simp only [hless]
                rfl)
              clear HR
              go_wp2_with fail
              go_quiet (first | (go_at_call 12; refine Calls.quiet_of_same (HN.out _)) | fail)
              go_wp2_with fail
              go_roundw
              case rel => exact ⟨m + 1 + 1, by omega, by go_num, HF, below_drewN bX _⟩
              case measure => simp [intOf]; omega
    · obtain rfl : k = l.length := by omega
      have he := HE.out
      rw [List.drop_length, show Fi.rightF (prevN l l.length) [] = true by cases prevN l l.length <;> rfl] at he
      have HF := Lib.hid (show Fi.right l = decide (l.length ≤ 32) by unfold Fi.right; rw [he]; rfl)
      go_wp2_with fail
      go_ret
      exact ⟨ret_bool (by rw [HF.out, decide_eq_decide]; omega), hbw⟩

set_option maxRecDepth 20000 in
set_option maxHeartbeats 4000000 in
/-- 'Right' of the reference. -/
theorem refRight_any (v : Value) (l : List Fl) (w : World) (hl : Rf w v l) (hlen : l.length ≤ 1000000) (hs : ∀ f ∈ l, f.1.length ≤ 9223372036854775807) :
    Calls Try.prog 21 #[v] w fun e w' => e = .returned (.bool (Fi.right l)) ∧ Below w.heap.size w w' := by
  obtain ⟨a0, c0, rfl⟩ := hl.shape
  have HL := Lib.hid hl
  have HS := Lib.hid hs
  clear hl hs
  go_enter Try.func21, Try.ntmps21
  go_wp2_with fail
  go_loopw [3] (fun i wr => ∃ k : Nat, k ≤ l.length ∧ i = .int .i64 k ∧ Hid (Fi.rightF none l = Fi.rightF (prevN l k) (l.drop k)) ∧ Below w.heap.size w wr) (fun i _ => l.length - (intOf i).toNat)
  case atStart => exact ⟨0, Nat.zero_le _, rfl, Lib.hid rfl, Below.refl _ _⟩
  case round =>
    obtain ⟨k, hk, rfl, HE, hbw⟩ := hrel
    have hsz := hbw.size
    by_cases hlt : k < l.length
    · obtain ⟨b1, o1, rfl, c10, c11⟩ := (HL.out.below' hbw).at hlt
      have hn1 := HS.out _ (List.getElem_mem hlt)
      have HR := Lib.hid (HE.out.trans (right_step hlt))
      obtain ⟨⟨nm, tx⟩, hx⟩ : ∃ x, x = l[k] := ⟨_, rfl⟩
      rw [← hx] at c10 c11 hn1 HR
      simp only at hn1
      clear hx HE
      have HN := Lib.hid (fun w => refName_any nm hn1 w)
      obtain ⟨isn, hisn⟩ : ∃ b, b = Fi.okName nm := ⟨_, rfl⟩
      simp only at HR
      rw [← hisn] at HN HR
      clear hisn
      have bX := hbw
      have hkl : (k : Int) < (l.length : Int) := by omega
      have hk0 : (0 : Int) ≤ (k : Int) := by omega
      cases isn
      · have HF := Lib.hid (show Fi.rightF none l = false by rw [HR.out]; rfl)
        clear HR
        go_wp2_with (first | (go_at_call 13; (with_reducible refine (HN.out _).mono ?_); rintro e w' ⟨rfl, rfl⟩) | fail)
        go_ret
        exact ⟨ret_bool (by unfold Fi.right; rw [HF.out]; rfl), bX⟩
      · by_cases hbig : 4000 < tx.length
        · have HF := Lib.hid (show Fi.rightF none l = false by rw [HR.out, decide_eq_false (show ¬ tx.length ≤ 4000 by omega)]; rfl)
          have hbi : (4000 : Int) < (tx.length : Int) := by omega
          clear HR
          go_wp2_with (first | (go_at_call 13; (with_reducible refine (HN.out _).mono ?_); rintro e w' ⟨rfl, rfl⟩) | fail)
          go_ret
          exact ⟨ret_bool (by unfold Fi.right; rw [HF.out]; rfl), bX⟩
        · have hbi : decide ((4000 : Int) < (tx.length : Int)) = false := by simp; omega
          have hbt : decide (tx.length ≤ 4000) = true := by simp; omega
          rw [hbt] at HR
          cases k with
          | zero =>
            simp only [Nat.zero_mul, Nat.add_zero] at c10 c11
            have HF := Lib.hid (show Fi.rightF none l = Fi.rightF (prevN l 1) (l.drop 1) by rw [HR.out]; rfl)
            clear HR
            go_wp2_with (first | (go_at_call 13; (with_reducible refine (HN.out _).mono ?_); rintro e w' ⟨rfl, rfl⟩) | fail)
            go_quiet (fail)
            go_wp2_with fail
            go_roundw
            case rel => exact ⟨1, by omega, by go_num, HF, below_drewN bX _⟩
            case measure => simp [intOf]; omega
          | succ m =>
            obtain ⟨b2, o2, e2, d0, _⟩ := (HL.out.below' hbw).at (i := m) (by omega)
            cases e2
            have hpv : prevN l (m + 1) = some l[m].1 := by simp [prevN, List.getElem?_eq_getElem (show m < l.length by omega)]
            rw [hpv] at HR
            obtain ⟨q, hq⟩ : ∃ q, q = l[m].1 := ⟨_, rfl⟩
            rw [← hq] at d0 HR
            clear hq hpv
            have hm0 : (0 : Int) < (m : Int) + 1 := by omega
            have hwr : IntKind.i64.wrap ((m : Int) + 1 - 1) = (m : Int) := (Go.IntWalk.i64_left _).trans ((Go.IntWalk.wrap64_in _ (by omega)).trans (by omega))
            have hwr2 : wrap64 ((m : Int) + 1 - 1) = (m : Int) := (Go.IntWalk.wrap64_in _ (by omega)).trans (by omega)
            have hml : (m : Int) < (l.length : Int) := by omega
            have hm1 : (0 : Int) ≤ (m : Int) := by omega
            cases hless : Op.bytesLess q nm
            · have HF := Lib.hid (show Fi.rightF none l = false by
                rw [less_is] at hless
                rw [HR.out]
                simp only [hless]
                rfl)
              clear HR
              go_wp2_with (first | (go_at_call 13; (with_reducible refine (HN.out _).mono ?_); rintro e w' ⟨rfl, rfl⟩) | fail)
              go_quiet (fail)
              go_wp2_with fail
              go_ret
              exact ⟨ret_bool (by unfold Fi.right; rw [HF.out]; rfl), below_drewN bX _⟩
            · have HF := Lib.hid (show Fi.rightF none l = Fi.rightF (prevN l (m + 1 + 1)) (l.drop (m + 1 + 1)) by
                rw [less_is] at hless
                rw [HR.out]
                simp only [hless]
                rfl)
              clear HR
              go_wp2_with (first | (go_at_call 13; (with_reducible refine (HN.out _).mono ?_); rintro e w' ⟨rfl, rfl⟩) | fail)
              go_quiet (fail)
              go_wp2_with fail
              go_roundw
              case rel => exact ⟨m + 1 + 1, by omega, by go_num, HF, below_drewN bX _⟩
              case measure => simp [intOf]; omega
    · obtain rfl : k = l.length := by omega
      have he := HE.out
      rw [List.drop_length, show Fi.rightF (prevN l l.length) [] = true by cases prevN l l.length <;> rfl] at he
      have HF := Lib.hid (show Fi.right l = decide (l.length ≤ 32) by unfold Fi.right; rw [he]; rfl)
      go_wp2_with fail
      go_ret
      exact ⟨ret_bool (by rw [HF.out, decide_eq_decide]; omega), hbw⟩

end Go.Proofs.Ytgpifaedcelnnaa
