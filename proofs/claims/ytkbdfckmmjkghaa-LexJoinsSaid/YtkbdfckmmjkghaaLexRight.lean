
/- The reference's 'Right', walked. -/
import Derived.Test.YtkbdfckmmjkghaaLexMay
import Derived.RegionTactic
import Derived.ChangeAlike
namespace Go.Proofs.Ytkbdfckmmjkghaa
open Go.RowKit

/-- The token ahead of a place. -/
def prev (l : List Lx.Tok) (j : Nat) : Lx.Tok := if j = 0 then (0, []) else l.getD (j - 1) (0, [])
theorem prev_succ {l : List Lx.Tok} {j : Nat} (h : j < l.length) : prev l (j + 1) = l[j] := by simp [prev, h]
theorem joins_first (t : Lx.Tok) : Lx.joins (0, []) t = true := by simp [Lx.joins, Lx.gaps]

set_option maxHeartbeats 1600000 in
/-- The reference's 'Right'. -/
theorem refRight_any (v : Value) (l : List Lx.Tok) (w : World) (hl : Rt w v l) (hlen : l.length ≤ 1000000000) (hs : ∀ t ∈ l, t.2.length ≤ 1000000000) :
    Calls Try.prog 17 #[v] w fun e w' => e = .returned (.bool (Lx.right l)) ∧ Below w.heap.size w w' := by
  obtain ⟨a0, c0, rfl⟩ := hl.shape
  go_enter Try.func17, Try.ntmps17
  go_wp2_with fail
  go_loopw [3] (fun i wr => ∃ (j : Nat), j ≤ l.length ∧ i = .int .i64 j ∧ Hid (Lx.rightF (prev l j) (l.drop j) = Lx.right l) ∧ Below w.heap.size w wr) (fun i _ => l.length - (intOf i).toNat)
  case atStart => exact ⟨0, by omega, rfl, rfl, Below.refl _ _⟩
  case round =>
    obtain ⟨j, hj, rfl, HG, hbw⟩ := hrel
    have hsz := hbw.size
    by_cases hlt : j < l.length
    · have hs1 := hs _ (List.getElem_mem hlt)
      have hlw := hl.below' hbw
      obtain ⟨b1, o1, rfl, c10, c11⟩ := hlw.at hlt
      have HR : Hid ((Lx.may l[j] && Lx.joins (prev l j) l[j] && Lx.rightF l[j] (l.drop (j + 1))) = Lx.right l) := by
        show _ = _; rw [← HG.out, drop_at hlt]; rfl
      cases hm : Lx.may l[j]
      · have HX : Hid (Lx.right l = false) := by show _ = _; rw [← HR.out, hm]; rfl
        clear hl hs hlw
        go_wp2_with (first | (go_at_call 33; (with_reducible refine (refMay_any _ hs1 _).mono ?_); rintro e w1 ⟨rfl, hb1⟩))
        go_ret
        exact ⟨ret_bool HX.out.symm, hbw.trans (hb1.mono hsz)⟩
      · by_cases hj0 : j = 0
        · have HR2 : Hid (Lx.rightF (prev l (j + 1)) (l.drop (j + 1)) = Lx.right l) := by
            show _ = _; rw [← HR.out, hm, prev_succ hlt, show prev l j = (0, []) by simp [prev, hj0], joins_first]; rfl
          have e0 : ((j : Int) == 0) = true := by rw [beq_iff_eq]; omega
          clear hl hs hlw hj0
          go_wp2_with (first | (go_at_call 33; (with_reducible refine (refMay_any _ hs1 _).mono ?_); rintro e w1 ⟨rfl, hb1⟩))
          go_roundw
          case rel => exact ⟨j + 1, by omega, by go_num, HR2, hbw.trans (hb1.mono hsz)⟩
          case measure => simp [intOf]; omega
        · have e0 : ((j : Int) == 0) = false := by rw [beq_eq_false_iff_ne]; omega
          obtain ⟨i, rfl⟩ : ∃ i, j = i + 1 := ⟨j - 1, by omega⟩
          have hp : prev l (i + 1) = l[i] := prev_succ (by omega)
          obtain ⟨b1', o1', he', c20, c21⟩ := hlw.at (i := i) (by omega)
          cases he'
          have HP := Lib.hid hp
          have HLW := Lib.hid hlw
          clear hp hl hs hlw hj0
          go_wp2_with (first | (go_at_call 33; (with_reducible refine (refMay_any _ hs1 _).mono ?_); rintro e w1 ⟨rfl, hb1⟩))
          have hlw1 := (HLW.out).below' hb1
          obtain ⟨_, _, he1, d10, d11⟩ := hlw1.at hlt
          cases he1
          obtain ⟨_, _, he2, d20, d21⟩ := hlw1.at (i := i) (by omega)
          cases he2
          clear hlw1 c10 c11 c20 c21
          have hbl : b1 < w1.heap.size := World.block_lt_of_cell? w1 _ d10
          have hwr1 : IntKind.i64.wrap (i : Int) = (i : Int) := IntWalk.i64_in _ (by omega)
          go_cut [4, 5] (fun a b W => ∃ g1 g2 : Nat, a = .pointer (some ⟨g1, 0, none⟩) ∧ b = .pointer (some ⟨g2, 0, none⟩) ∧ Hid (W.heap[g1]? = some (.cells #[.int .i64 l[i].1, .string (S l[i].2)] 40 (0, 0))) ∧
            Hid (W.heap[g2]? = some (.cells #[.int .i64 l[i + 1].1, .string (S l[i + 1].2)] 40 (0, 0))) ∧ Below w1.heap.size w1 W)
          case first =>
            go_region
            all_goals (
              go_wp2_with fail
              go_meet
              first
                | exact ⟨w1.heap.size, w1.heap.size + 1, rfl, rfl, alloc2_first _ _ _, alloc2_second _ _ _, (((Below.refl _ _).alloc (Nat.le_refl _) _).alloc (by simp) _).drew⟩
                | exact ⟨w1.heap.size + 1, w1.heap.size, rfl, rfl, alloc2_second _ _ _, alloc2_first _ _ _, (((Below.refl _ _).alloc (Nat.le_refl _) _).alloc (by simp) _).drew⟩)
          case rest =>
            obtain ⟨g1, g2, rfl, rfl, HG1, HG2, hb2⟩ := hcut
            have q10 := pair_cell0 HG1.out
            have q11 := pair_cell1 HG1.out
            have q20 := pair_cell0 HG2.out
            have q21 := pair_cell1 HG2.out
            have hbx := (hbw.trans (hb1.mono hsz)).trans (hb2.mono (Nat.le_trans hsz hb1.size))
            have HBX := Lib.hid hbx
            have pass : Lx.joins l[i] l[i + 1] = true → Hid (Lx.rightF (prev l (i + 1 + 1)) (l.drop (i + 1 + 1)) = Lx.right l) := fun h => by
              show _ = _; rw [← HR.out, hm, HP.out, h, prev_succ hlt]; simp
            have fail1 : Lx.joins l[i] l[i + 1] = false → Hid (Lx.right l = false) := fun h => by
              show _ = _; rw [← HR.out, hm, HP.out, h]; simp
            have PASS := Lib.hid pass
            have FAIL := Lib.hid fail1
            have hne : (l[i + 1].1 == 1) = true → 0 < l[i + 1].2.length := fun h => by
              rw [beq_iff_eq] at h
              simp only [Lx.may, h] at hm
              cases hl2 : l[i + 1].2 with
              | nil => rw [hl2] at hm; simp at hm
              | cons c r => simp
            have HNE := Lib.hid hne
            clear pass fail1 hne hbx hb1 hb2 d10 d11 d20 d21
            cases ht1 : (l[i + 1].1 == 1)
            · go_wp2_with (first | (go_at_call 34; (with_reducible refine (gaps_any _ _).mono ?_); rintro e w' ⟨rfl, rfl⟩) | (go_at_call 24; (with_reducible refine (refLetter_any _ _).mono ?_); rintro e w' ⟨rfl, rfl⟩))
              all_goals go_tidy
              all_goals first
                | (go_ret; exact ⟨ret_bool (FAIL.out (by simp [Lx.joins, *])).out.symm, HBX.out⟩)
                | (go_roundw
                   case rel => exact ⟨i + 1 + 1, by omega, by go_num, PASS.out (by simp [Lx.joins, *]), HBX.out⟩
                   case measure => simp [intOf]; omega)
            · have hn := HNE.out ht1
              have hn2 : (0 : Int) < (l[i + 1].2.length : Int) := by omega
              have HH : Hid (l[i + 1].2.headD 0 = l[i + 1].2[0]'hn) := by
                show _ = _
                generalize l[i + 1].2 = z at hn
                cases z with
                | nil => simp at hn
                | cons c r => rfl
              have HJ : Hid (Lx.joins l[i] l[i + 1] = !((l[i].1 == 1 && l[i + 1].1 == 1) || (Lx.gaps l[i].1 && Lx.gaps l[i + 1].1) || (l[i].1 == 4 && l[i + 1].1 == 1 && Lx.letter (l[i + 1].2[0]'hn)))) := by
                show _ = _; rw [← HH.out]; rfl
              go_wp2_with (first | (go_at_call 34; (with_reducible refine (gaps_any _ _).mono ?_); rintro e w' ⟨rfl, rfl⟩) | (go_at_call 24; (with_reducible refine (refLetter_any _ _).mono ?_); rintro e w' ⟨rfl, rfl⟩))
              all_goals go_tidy
              all_goals first
                | (go_ret; exact ⟨ret_bool (FAIL.out (by rw [HJ.out]; simp [*])).out.symm, HBX.out⟩)
                | (go_roundw
                   case rel => exact ⟨i + 1 + 1, by omega, by go_num, PASS.out (by rw [HJ.out]; simp [*]), HBX.out⟩
                   case measure => simp [intOf]; omega)
    · obtain rfl : j = l.length := by omega
      have HX : Hid (Lx.right l = true) := by show _ = _; rw [← HG.out, List.drop_length]; rfl
      clear hl
      go_wp2_with fail
      go_ret
      exact ⟨ret_bool HX.out.symm, hbw⟩

end Go.Proofs.Ytkbdfckmmjkghaa
