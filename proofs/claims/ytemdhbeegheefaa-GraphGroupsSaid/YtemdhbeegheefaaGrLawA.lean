
/- 'GraphGroups', walked: it answers true at every input. No condition. -/
import Derived.Test.YtemdhbeegheefaaGrFixed
namespace Go.Proofs.Ytemdhbeegheefaa
open Go.RowKit Gr

set_option maxRecDepth 20000 in
set_option maxHeartbeats 4000000 in
/-- 'GraphGroups' is true. -/
theorem graphGroups_any (vg vl : Value) (g : G) (i : Int) (l : List Int) (w : World) (hg : Rg w vg g) (hl : Ri w vl l) (hgl : ∀ l ∈ g, l.length ≤ 9223372036854775807) (hll : l.length ≤ 9223372036854775807) :
    Calls Try.prog 3 #[vg, .int .i64 i, vl] w fun e w' => e = .returned (.bool true) ∧ Below w.heap.size w w' := by
  have HC := Lib.hid (cut_any vg g 10 w hg (by omega) hgl)
  have HL := Lib.hid hl
  obtain ⟨al, cl, rfl⟩ := hl.shape
  have hcap := hl.cap
  clear hg hl
  have hm1 : (0 : Int) ≤ min (l.length : Int) 12 := by omega
  have hm2 : min (l.length : Int) 12 ≤ (cl : Int) := by omega
  go_enter Try.func3, Try.ntmps3
  go_wp2_with fail
  refine HC.out.mono ?_; rintro e w1 ⟨v0, rfl, r0, b0⟩
  obtain ⟨gc, hgc⟩ : ∃ gc, gc = cutG g 10 := ⟨_, rfl⟩
  have hn : gc.length ≤ 1000 := by rw [hgc]; have := cutG_len g 10; omega
  have hgn : gc.length ≤ 10 := by rw [hgc]; exact cutG_len g 10
  have HLE : Hid (∀ l ∈ gc, l.length ≤ 1000) := Lib.hid (by rw [hgc]; intro x hx; have := cutG_each g 10 x hx; omega)
  rw [← hgc] at r0
  clear hgc HC
  have HG := Lib.hid r0
  have HB := Lib.hid b0
  have HLC : Hid (Ri w1 (.slice al (min (l.length : Int) 12).toNat cl) (l.take 12)) := Lib.hid (by
    have h9 := (HL.out.below' b0).take 12
    rw [show (l.take 12).length = (min (l.length : Int) 12).toNat by rw [List.length_take]; omega] at h9
    exact h9)
  have hlc : (l.take 12).length ≤ 1000 := by rw [List.length_take]; omega
  obtain ⟨lc, hlcd⟩ : ∃ lc, lc = l.take 12 := ⟨_, rfl⟩
  rw [← hlcd] at HLC hlc
  clear hlcd r0 b0
  go_wp2_with fail
  refine (groups_any gc _ _ HG.out hn HLE.out).mono ?_; rintro e w2 ⟨v2, rfl, r2, b2⟩
  have HR2 := Lib.hid r2
  have HG := Lib.hid (HG.out.below' b2)
  have HLC := Lib.hid (HLC.out.below' b2)
  have HB := Lib.hid (HB.out.trans (b2.mono HB.out.size))
  clear r2 b2
  go_wp2_with fail
  refine (rgroups_any _ gc _ HG.out hn HLE.out).mono ?_; rintro e w3 ⟨v3, rfl, r3, b3⟩
  have HG := Lib.hid (HG.out.below' b3)
  have HLC := Lib.hid (HLC.out.below' b3)
  have HB := Lib.hid (HB.out.trans (b3.mono HB.out.size))
  have HS := Lib.hid (lists_same v2 v3 ((groups gc).map nn) w3 (HR2.out.below' b3) r3 (by rw [List.length_map]; have := groups_len gc; omega) (groups_each gc (by omega)))
  clear r3 b3
  go_wp2_with fail
  (with_reducible refine HS.out.mono ?_); rintro e w4 ⟨rfl, b4⟩
  have HG := Lib.hid (HG.out.below' b4)
  have HLC := Lib.hid (HLC.out.below' b4)
  have HB := Lib.hid (HB.out.trans (b4.mono HB.out.size))
  clear b4 HS HR2
  go_wp2_with fail
  refine (reach_any _ gc i _ HG.out hn HLE.out).mono ?_; rintro e w5 ⟨v5, rfl, r5, b5⟩
  have r5 : Ri w5 v5 (nn (reachZ gc i)) := ri_own (by simpa using r5)
  have HG := Lib.hid (HG.out.below' b5)
  have HLC := Lib.hid (HLC.out.below' b5)
  have HB := Lib.hid (HB.out.trans (b5.mono HB.out.size))
  have HR5 := Lib.hid r5
  clear r5 b5
  go_wp2_with fail
  refine (lreach_any _ gc i _ HG.out hn HLE.out).mono ?_; rintro e w6 ⟨v6, rfl, r6, b6⟩
  have r6 : Ri w6 v6 (nn (reachZ gc i)) := ri_own (by simpa using r6)
  have HG := Lib.hid (HG.out.below' b6)
  have HLC := Lib.hid (HLC.out.below' b6)
  have HB := Lib.hid (HB.out.trans (b6.mono HB.out.size))
  have HS := Lib.hid (ints_same v5 v6 (nn (reachZ gc i)) w6 (HR5.out.below' b6) r6 (by rw [List.length_map]; have := reachZ_len gc i; omega))
  clear r6 b6 HR5
  go_wp2_with fail
  (with_reducible refine HS.out.mono ?_); rintro e w7 ⟨rfl, b7⟩
  have HG := Lib.hid (HG.out.below' b7)
  have HLC := Lib.hid (HLC.out.below' b7)
  have HB := Lib.hid (HB.out.trans (b7.mono HB.out.size))
  clear b7 HS
  obtain ⟨cc, hcc⟩ : ∃ cc, cc = cyc gc lc := ⟨_, rfl⟩
  have HCC := Lib.hid hcc
  have hc1 := cyclic_any _ _ gc lc w7 HG.out HLC.out hlc HLE.out
  rw [← hcc] at hc1
  have HC1 := Lib.hid hc1
  clear hc1 hcc
  go_wp2_with fail
  (with_reducible refine HC1.out.mono ?_); rintro e w8 ⟨rfl, b8⟩
  have HG := Lib.hid (HG.out.below' b8)
  have HLC := Lib.hid (HLC.out.below' b8)
  have HB := Lib.hid (HB.out.trans (b8.mono HB.out.size))
  clear b8 HC1
  have hc2 := rcyclic_any _ _ gc lc w8 HG.out HLC.out hlc HLE.out
  rw [← HCC.out] at hc2
  have HC2 := Lib.hid hc2
  clear hc2
  go_wp2_with fail
  (with_reducible refine HC2.out.mono ?_); rintro e w9 ⟨rfl, m, hw9⟩
  have HB := Lib.hid (show Below w.heap.size w w9 by rw [hw9]; exact below_drewN HB.out m)
  clear hw9 HC2
  have hbb : (cc == cc) = true := by simp
  go_wp2_with fail
  (with_reducible refine (fixed_any w9).mono ?_); rintro e w10 ⟨rfl, b10⟩
  go_wp2_with fail
  go_ret
  exact ⟨ret_bool rfl, HB.out.trans (b10.mono HB.out.size)⟩
end Go.Proofs.Ytemdhbeegheefaa
