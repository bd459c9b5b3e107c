
/- The file laws' fixed calls, walked. No condition. -/
import Derived.Test.YtgpifaedcelnnaaFiPut
import Derived.Test.YtgpifaedcelnnaaFiDiff
import Derived.Test.YtgpifaedcelnnaaFiRight
namespace Go.Proofs.Ytgpifaedcelnnaa
open Go.RowKit

abbrev fA : List Fl := [([98], [120])]
abbrev fB : List Fl := [([97], []), ([98], [120])]
abbrev fC : List Fl := [([97], []), ([98], [121])]
theorem oA : Fi.Ord fA := by unfold Fi.Ord Sorted; decide +kernel
theorem oB : Fi.Ord fB := by unfold Fi.Ord Sorted; decide +kernel
theorem oC : Fi.Ord fC := by unfold Fi.Ord Sorted; decide +kernel

set_option maxRecDepth 20000 in
set_option maxHeartbeats 4000000 in
/-- The calls whose answers the document fixes: true. -/
theorem fiFixed_any (w : World) :
    Calls Try.prog 20 #[] w fun e w' => e = .returned (.bool true) ∧ Below w.heap.size w w' := by
  go_enter Try.func20, Try.ntmps20
  simp only [S_lit]
  go_wp2_with fail
  (with_reducible refine (fput_any _ [] ([98], [120]) _ (Rf.nil _) (by decide) (by unfold Fi.Ord Sorted; decide) (by decide)).mono ?_); rintro e w1 ⟨va, rfl, oa, b1⟩
  rw [show Fi.put [] ([98], [120]) = (fA, 0) from by decide +kernel] at oa ⊢
  have ra := rf_own oa
  clear oa
  go_wp2_with fail
  (with_reducible refine (fput_any _ fA ([97], []) _ ra (by decide) oA (by decide)).mono ?_); rintro e w2 ⟨vb, rfl, ob, b2⟩
  rw [show Fi.put fA ([97], []) = (fB, 0) from by decide +kernel] at ob ⊢
  have rb := rf_own ob
  have H2 := b1.trans (b2.mono b1.size)
  clear ob b1 b2 ra
  go_wp2_with fail
  (with_reducible refine (fput_any _ fB ([98], [121]) _ rb (by decide) oB (by decide)).mono ?_); rintro e w3 ⟨vc, rfl, oc, b3⟩
  rw [show Fi.put fB ([98], [121]) = (fC, 0) from by decide +kernel] at oc ⊢
  have rc := rf_own oc
  have rb3 := rb.below' b3
  have H3 := H2.trans (b3.mono H2.size)
  clear oc b3 rb H2
  go_wp2_with fail
  (with_reducible refine (fput_any _ fB ([66], []) _ rb3 (by decide) oB (by decide)).mono ?_); rintro e w4 ⟨vd, rfl, od, b4⟩
  rw [show Fi.put fB ([66], []) = ([], 2) from by decide +kernel] at od ⊢
  have rc4 := rc.below' b4
  have rb4 := rb3.below' b4
  have H4 := H3.trans (b4.mono H3.size)
  clear od b4 rb3 rc H3
  go_wp2_with fail
  (with_reducible refine (fget_any _ fC [98] _ rc4 (by decide) oC).mono ?_); rintro e w5 ⟨rfl, b5⟩
  rw [show Fi.get fC [98] = ([121], true) from by decide +kernel]
  have rc5 := rc4.below' b5
  have rb5 := rb4.below' b5
  have H5 := H4.trans (b5.mono H4.size)
  clear b5 rb4 rc4 H4
  go_wp2_with fail
  (with_reducible refine (fget_any _ fC [99] _ rc5 (by decide) oC).mono ?_); rintro e w6 ⟨rfl, b6⟩
  rw [show Fi.get fC [99] = ([], false) from by decide +kernel]
  have rc6 := rc5.below' b6
  have rb6 := rb5.below' b6
  have H6 := H5.trans (b6.mono H5.size)
  clear b6 rb5 rc5 H5
  go_wp2_with fail
  (with_reducible refine (fdrop_any _ fC [97] _ rc6 (by decide) oC).mono ?_); rintro e w7 ⟨ve, rfl, oe, b7⟩
  rw [show Fi.drop fC [97] = [([98], [121])] from by decide +kernel] at oe
  rw [show Fi.has fC [97] = true from by decide +kernel]
  obtain ⟨ae, ce, rfl⟩ := own_shape oe
  have rc7 := rc6.below' b7
  have rb7 := rb6.below' b7
  have H7 := H6.trans (b7.mono H6.size)
  clear b7 rb6 rc6 H6 oe
  obtain ⟨ab, cb, rfl⟩ := rb7.shape
  obtain ⟨bb, qb, rfl, c0, _⟩ := rb7.at (i := 0) (by decide)
  obtain ⟨ac, cc, rfl⟩ := rc7.shape
  simp only [Nat.zero_mul, Nat.add_zero] at c0
  have rc7 : Rf w7 (.slice ac 2 cc) fC := rc7
  have rb7 : Rf w7 (.slice (some ⟨bb, qb, none⟩) 2 cb) fB := rb7
  go_wp2_with fail
  (with_reducible refine (name_any [97, 45, 49, 46, 116, 101, 120] (by decide) _).mono ?_); rintro e w8 ⟨rfl, rfl⟩
  rw [show Fi.okName [97, 45, 49, 46, 116, 101, 120] = true from by decide +kernel]
  go_wp2_with fail
  (with_reducible refine (name_any [] (by decide) _).mono ?_); rintro e w9 ⟨rfl, rfl⟩
  rw [show Fi.okName [] = false from by decide +kernel]
  go_wp2_with fail
  (with_reducible refine (name_any [97, 32, 98] (by decide) _).mono ?_); rintro e wa ⟨rfl, rfl⟩
  rw [show Fi.okName [97, 32, 98] = false from by decide +kernel]
  go_wp2_with fail
  (with_reducible refine (fright_any _ fC _ rc7 (by decide) (by decide)).mono ?_); rintro e wb ⟨rfl, bb8⟩
  rw [show Fi.right fC = true from by decide +kernel]
  have rcb := rc7.below' bb8
  have rbb := rb7.below' bb8
  have Hb := H7.trans (bb8.mono H7.size)
  clear c0 rc7 rb7 bb8 H7
  go_wp2_with fail
  have m4 : Rf (wb.alloc (.cells #[.string (S [98]), .string (S []), .string (S [97]), .string (S [])] 25)) (.slice (some ⟨wb.heap.size, 0, none⟩) 2 2) [([98], []), ([97], [])] := rf_made wb [([98], []), ([97], [])] _
  have al : Below wb.heap.size wb (wb.alloc (.cells #[.string (S [98]), .string (S []), .string (S [97]), .string (S [])] 25)) := (Below.refl wb.heap.size wb).alloc (Nat.le_refl _) _
  (with_reducible refine (fright_any _ [([98], []), ([97], [])] _ m4 (by decide) (by decide)).mono ?_); rintro e wc ⟨rfl, bc⟩
  rw [show Fi.right [([98], []), ([97], [])] = false from by decide +kernel]
  have ba := al.trans (bc.mono (by simp))
  have rcc := rcb.below' ba
  have rbc := rbb.below' ba
  have Hc := Hb.trans (ba.mono Hb.size)
  clear m4 al bc ba rcb rbb Hb
  go_wp2_with fail
  (with_reducible refine (fdiff_any _ _ fB fC _ rbc rcc (by decide) (by decide) oB oC).mono ?_); rintro e wd ⟨vf, rfl, of, bd⟩
  rw [show diffS fB fC = [[98]] from by decide +kernel] at of
  have rfd : Rx wd vf [[98]] := own_rd of
  have rcd := rcc.below' bd
  have rbd := rbc.below' bd
  have Hd := Hc.trans (bd.mono Hc.size)
  clear of bd rcc rbc Hc
  go_wp2_with fail
  have m5 : Rx (wd.alloc (.cells #[.string (S [98])] 9)) (.slice (some ⟨wd.heap.size, 0, none⟩) 1 1) [[98]] :=
    ⟨rfl, .inr ⟨wd.heap.size, 0, 1, rfl, fun _ => by simp, fun j u hj => by rw [Nat.zero_add, row_cell (heap_alloc_new wd _)]; simpa [xcs] using hj, Nat.le_refl _⟩⟩
  have al : Below wd.heap.size wd (wd.alloc (.cells #[.string (S [98])] 9)) := (Below.refl wd.heap.size wd).alloc (Nat.le_refl _) _
  (with_reducible refine (words_any _ _ [[98]] [[98]] _ (rfd.below' al) m5 (by decide) (by decide)).mono ?_); rintro e we ⟨rfl, be⟩
  rw [show (([[98]] : List (List UInt8)) == [[98]]) = true from by decide +kernel]
  have ba := al.trans (be.mono (by simp))
  have rce := rcd.below' ba
  have rbe := rbd.below' ba
  have He := Hd.trans (ba.mono Hd.size)
  clear m5 al be ba rcd rbd Hd rfd
  go_wp2_with fail
  (with_reducible refine (fsame_any _ _ fC fC _ rce rce (by decide) (by decide)).mono ?_); rintro e wf ⟨rfl, bf⟩
  rw [show (fC == fC) = true from by decide +kernel]
  have rcf := rce.below' bf
  have rbf := rbe.below' bf
  have Hf := He.trans (bf.mono He.size)
  clear bf rce rbe He
  go_wp2_with fail
  (with_reducible refine (fsame_any _ _ fB fC _ rbf rcf (by decide) (by decide)).mono ?_); rintro e wg ⟨rfl, bg⟩
  rw [show (fB == fC) = false from by decide +kernel]
  go_wp2_with fail
  go_ret
  exact ⟨rfl, Hf.trans (bg.mono Hf.size)⟩

end Go.Proofs.Ytgpifaedcelnnaa
