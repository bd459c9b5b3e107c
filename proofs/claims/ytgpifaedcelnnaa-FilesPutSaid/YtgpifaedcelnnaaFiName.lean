
/- Names of files, of the program and of the reference. No condition. -/
import Derived.Test.YtgpifaedcelnnaaFiMem
namespace Go.Proofs.Ytgpifaedcelnnaa
open Go.RowKit

abbrev signs : List UInt8 := [97, 98, 99, 100, 101, 102, 103, 104, 105, 106, 107, 108, 109, 110, 111, 112, 113, 114, 115, 116, 117, 118, 119, 120, 121, 122, 48, 49, 50, 51, 52, 53, 54, 55, 56, 57, 45, 46]
theorem okC_nat : ∀ n : Fin 256, Fi.okC (UInt8.ofNat n.val) = decide (0 ≤ Lib.indexByte signs (UInt8.ofNat n.val)) := by decide +kernel
theorem okC_is (c : UInt8) : Fi.okC c = decide (0 ≤ Lib.indexByte signs c) := by
  have := okC_nat ⟨c.toNat, c.toNat_lt⟩
  simpa using this
theorem okC_int (c : UInt8) : Fi.okC c = decide (((97 ≤ (c.toNat : Int) ∧ (c.toNat : Int) ≤ 122) ∨ (48 ≤ (c.toNat : Int) ∧ (c.toNat : Int) ≤ 57)) ∨ (c.toNat : Int) = 45 ∨ (c.toNat : Int) = 46) := by
  have h : ∀ n : Fin 256, Fi.okC (UInt8.ofNat n.val) = decide (((97 ≤ n.val ∧ n.val ≤ 122) ∨ (48 ≤ n.val ∧ n.val ≤ 57)) ∨ n.val = 45 ∨ n.val = 46) := by decide +kernel
  have := h ⟨c.toNat, c.toNat_lt⟩
  rw [show UInt8.ofNat c.toNat = c by simp] at this
  rw [this, decide_eq_decide]
  simp only
  omega
theorem okName_bad {s : List UInt8} {k : Nat} (h : k < s.length) (hc : Fi.okC s[k] = false) : Fi.okName s = false := by
  have h2 : s.all Fi.okC = false := by rw [List.all_eq_false]; exact ⟨s[k], List.getElem_mem h, by simp [hc]⟩
  rw [Fi.okName, h2]; rfl
theorem okName_end {s : List UInt8} (h : s.all Fi.okC = true) : Fi.okName s = (decide (1 ≤ s.length) && decide (s.length ≤ 24)) := by rw [Fi.okName, h]; rfl

set_option maxHeartbeats 1600000 in
/-- 'Name'. -/
theorem name_any (s : List UInt8) (hs : s.length ≤ 9223372036854775807) (w : World) :
    Calls Try.prog 12 #[.string (S s)] w fun e w' => e = .returned (.bool (Fi.okName s)) ∧ w' = w := by
  go_enter Try.func12, Try.ntmps12
  simp only [S_lit]
  go_wp2_with fail
  go_loop [6] (fun i => ∃ (k : Nat), k ≤ s.length ∧ i = .int .i64 k ∧ Hid ((s.take k).all Fi.okC = true)) (fun i => s.length - (intOf i).toNat)
  case atStart => exact ⟨0, Nat.zero_le _, rfl, rfl⟩
  case round =>
    obtain ⟨k, hk, rfl, HC⟩ := hrel
    by_cases hlt : k < s.length
    · have hL := okC_is s[k]
      cases hc : Fi.okC s[k]
      · rw [hc] at hL
        have hn : (Lib.indexByte signs s[k]) < 0 := by have := of_decide_eq_false hL.symm; omega
        have HF := Lib.hid (okName_bad hlt hc)
        clear hL hc
        obtain ⟨d, hd⟩ : ∃ d, d = Lib.indexByte signs s[k] := ⟨_, rfl⟩
        rw [← hd] at hn
        have HD := Lib.hid hd
        clear hd
        go_wp2_with fail
        (with_reducible refine (Try.strings_IndexByte _ _ _).mono ?_); rintro e w1 ⟨rfl, rfl⟩
        rw [show Lib.indexByte (S signs).data.toList (s[k].toNat : Int).toNat.toUInt8 = d by rw [HD.out]; simp [S_dataList]]
        go_wp2_with fail
        go_ret
        exact ⟨ret_bool HF.out.symm, rfl⟩
      · rw [hc] at hL
        have hn : ¬ (Lib.indexByte signs s[k]) < 0 := by have := of_decide_eq_true hL.symm; omega
        have HN := Lib.hid (show (s.take (k + 1)).all Fi.okC = true by rw [take_snoc s k hlt, List.all_append, HC.out]; simp [hc])
        clear hL hc
        obtain ⟨d, hd⟩ : ∃ d, d = Lib.indexByte signs s[k] := ⟨_, rfl⟩
        rw [← hd] at hn
        have hn : decide (d < 0) = false := by simpa using hn
        have HD := Lib.hid hd
        clear hd
        go_wp2_with fail
        (with_reducible refine (Try.strings_IndexByte _ _ _).mono ?_); rintro e w1 ⟨rfl, rfl⟩
        rw [show Lib.indexByte (S signs).data.toList (s[k].toNat : Int).toNat.toUInt8 = d by rw [HD.out]; simp [S_dataList]]
        go_wp2_with fail
        go_round
        case rel => exact ⟨k + 1, by omega, by go_num, HN⟩
        case measure => simp [intOf]; omega
    · obtain rfl : k = s.length := by omega
      have HN := Lib.hid (okName_end (s := s) (by have := HC.out; rwa [List.take_length] at this))
      cases h1 : decide ((1 : Int) ≤ (s.length : Int))
      · have HB := Lib.hid (show Fi.okName s = false by
          have : ¬ (1 ≤ s.length) := by have := of_decide_eq_false h1; omega
          rw [HN.out, decide_eq_false this]; rfl)
        go_wp2_with fail
        go_ret
        exact ⟨ret_bool HB.out.symm, rfl⟩
      · cases h2 : decide ((s.length : Int) ≤ 24)
        · go_wp2_with fail
          go_ret
          exact ⟨ret_bool (by rw [HN.out]; simp at h1 h2 ⊢; omega), rfl⟩
        · go_wp2_with fail
          go_ret
          exact ⟨ret_bool (by rw [HN.out]; simp at h1 h2 ⊢; omega), rfl⟩

set_option maxHeartbeats 1600000 in
/-- 'Name' of the reference. -/
theorem refName_any (s : List UInt8) (hs : s.length ≤ 9223372036854775807) (w : World) :
    Calls Try.prog 13 #[.string (S s)] w fun e w' => e = .returned (.bool (Fi.okName s)) ∧ w' = w := by
  go_enter Try.func13, Try.ntmps13
  go_wp2_with fail
  go_loop [3] (fun i => ∃ (k : Nat), k ≤ s.length ∧ i = .int .i64 k ∧ Hid ((s.take k).all Fi.okC = true)) (fun i => s.length - (intOf i).toNat)
  case atStart => exact ⟨0, Nat.zero_le _, rfl, rfl⟩
  case round =>
    obtain ⟨k, hk, rfl, HC⟩ := hrel
    by_cases hlt : k < s.length
    · have hL := okC_int s[k]
      have hbad : Fi.okC s[k] = false → Hid (Fi.okName s = false) := fun h => Lib.hid (okName_bad hlt h)
      have hgood : Fi.okC s[k] = true → Hid ((s.take (k + 1)).all Fi.okC = true) := fun hc => Lib.hid (by rw [take_snoc s k hlt, List.all_append, HC.out]; simp [hc])
      obtain ⟨d, hd⟩ : ∃ d : Int, (s[k].toNat : Int) = d := ⟨_, rfl⟩
      have hx := hd
      rw [hd] at hL
      rcases (by omega : (97 ≤ d ∧ d ≤ 122) ∨ (48 ≤ d ∧ d ≤ 57) ∨ d = 45 ∨ d = 46 ∨ d < 45 ∨ d = 47 ∨ (58 ≤ d ∧ d < 97) ∨ 122 < d) with ⟨h1, h2⟩ | ⟨h1, h2⟩ | rfl | rfl | h1 | rfl | ⟨h1, h2⟩ | h1
      · skip
        have HN := hgood (by rw [hL]; first | decide | (simp only [decide_eq_true_eq]; omega))
        clear hL hbad hgood
        go_wp2_with fail
        go_round
        case rel => exact ⟨k + 1, by omega, by go_num, HN⟩
        case measure => simp [intOf]; omega
      · skip
        have f0 : decide (97 ≤ d) = false := by simp; omega
        have HN := hgood (by rw [hL]; first | decide | (simp only [decide_eq_true_eq]; omega))
        clear hL hbad hgood
        go_wp2_with fail
        go_round
        case rel => exact ⟨k + 1, by omega, by go_num, HN⟩
        case measure => simp [intOf]; omega
      · skip
        have HN := hgood (by rw [hL]; first | decide | (simp only [decide_eq_true_eq]; omega))
        clear hL hbad hgood
        go_wp2_with fail
        go_round
        case rel => exact ⟨k + 1, by omega, by go_num, HN⟩
        case measure => simp [intOf]; omega
      · skip
        have HN := hgood (by rw [hL]; first | decide | (simp only [decide_eq_true_eq]; omega))
        clear hL hbad hgood
        go_wp2_with fail
        go_round
        case rel => exact ⟨k + 1, by omega, by go_num, HN⟩
        case measure => simp [intOf]; omega
      · skip
        have f0 : decide (97 ≤ d) = false := by simp; omega
        have f1 : decide (48 ≤ d) = false := by simp; omega
        have f2 : (d == 45) = false := by simp; omega
        have f3 : (d == 46) = false := by simp; omega
        have HF := hbad (by rw [hL]; first | decide | (simp only [decide_eq_false_iff_not]; omega))
        clear hL hbad hgood
        go_wp2_with fail
        go_ret
        exact ⟨ret_bool HF.out.symm, rfl⟩
      · skip
        have HF := hbad (by rw [hL]; first | decide | (simp only [decide_eq_false_iff_not]; omega))
        clear hL hbad hgood
        go_wp2_with fail
        go_ret
        exact ⟨ret_bool HF.out.symm, rfl⟩
      · have g1 : 48 ≤ d := by omega
        have f0 : decide (97 ≤ d) = false := by simp; omega
        have f1 : decide (d ≤ 57) = false := by simp; omega
        have f2 : (d == 45) = false := by simp; omega
        have f3 : (d == 46) = false := by simp; omega
        have HF := hbad (by rw [hL]; first | decide | (simp only [decide_eq_false_iff_not]; omega))
        clear hL hbad hgood
        go_wp2_with fail
        go_ret
        exact ⟨ret_bool HF.out.symm, rfl⟩
      · have g1 : 48 ≤ d := by omega
        have g2 : 97 ≤ d := by omega
        have f0 : decide (d ≤ 122) = false := by simp; omega
        have f1 : decide (d ≤ 57) = false := by simp; omega
        have f2 : (d == 45) = false := by simp; omega
        have f3 : (d == 46) = false := by simp; omega
        have HF := hbad (by rw [hL]; first | decide | (simp only [decide_eq_false_iff_not]; omega))
        clear hL hbad hgood
        go_wp2_with fail
        go_ret
        exact ⟨ret_bool HF.out.symm, rfl⟩
    · obtain rfl : k = s.length := by omega
      have HN := Lib.hid (okName_end (s := s) (by have := HC.out; rwa [List.take_length] at this))
      cases h1 : decide ((1 : Int) ≤ (s.length : Int))
      · have HB := Lib.hid (show Fi.okName s = false by
          have : ¬ (1 ≤ s.length) := by have := of_decide_eq_false h1; omega
          rw [HN.out, decide_eq_false this]; rfl)
        go_wp2_with fail
        go_ret
        exact ⟨ret_bool HB.out.symm, rfl⟩
      · cases h2 : decide ((s.length : Int) ≤ 24)
        · go_wp2_with fail
          go_ret
          exact ⟨ret_bool (by rw [HN.out]; simp at h1 h2 ⊢; omega), rfl⟩
        · go_wp2_with fail
          go_ret
          exact ⟨ret_bool (by rw [HN.out]; simp at h1 h2 ⊢; omega), rfl⟩

end Go.Proofs.Ytgpifaedcelnnaa
