
/- 'GraphReach', walked: it answers true at every input. No condition. -/
import Derived.Test.YtemdhbeegheefaaGrFixed
import Derived.Test.YtemdhbeegheefaaGrSets
import Derived.Test.YtemdhbeegheefaaGrNd
import Derived.BigRegion
namespace Go.Proofs.Ytemdhbeegheefaa
open Go.RowKit Gr
namespace Gr
/-- One more edge. -/
def moreG (g : G) (i k : Nat) : G := (List.range g.length).map fun j => if j = i then g.getD j [] ++ [(k : Int)] else g.getD j []
theorem moreG_len (g : G) (i k : Nat) : (moreG g i k).length = g.length := by simp [moreG]
theorem moreG_get {g : G} {i k j : Nat} (hj : j < g.length) : (moreG g i k).getD j [] = if j = i then g.getD j [] ++ [(k : Int)] else g.getD j [] := by
  simp [moreG, hj]
theorem moreG_E {g : G} {i k a b : Nat} (h : E g a b) : E (moreG g i k) a b := by
  refine ⟨by rw [moreG_len]; exact h.1, by rw [moreG_len]; exact h.2.1, ?_⟩
  rw [moreG_get h.1]
  split
  · exact List.mem_append_left _ h.2.2
  · exact h.2.2
theorem moreG_new {g : G} {i k : Nat} (hi : i < g.length) (hk : k < g.length) : E (moreG g i k) i k := by
  refine ⟨by rw [moreG_len]; exact hi, by rw [moreG_len]; exact hk, ?_⟩
  rw [moreG_get hi, if_pos rfl]
  simp
theorem moreG_R {g : G} {i k a b : Nat} (h : R g a b) : R (moreG g i k) a b := by
  induction h with
  | refl => exact .refl _
  | tail _ e ih => exact ih.tail (moreG_E e)
theorem moreG_way {g : G} {i k a b : Nat} (h : way g a b = true) : way (moreG g i k) a b = true := by
  obtain ⟨j, h1, h2⟩ := way_iff.1 h
  exact way_iff.2 ⟨j, moreG_E h1, moreG_R h2⟩
theorem moreG_to {g : G} {i k b : Nat} (hi : i < g.length) (hk : k < g.length) (h : way g k b = true) : way (moreG g i k) i b = true := by
  obtain ⟨j, h1, h2⟩ := way_iff.1 h
  exact way_iff.2 ⟨k, moreG_new hi hk, (R.one (moreG_E h1)).trans (moreG_R h2)⟩
theorem moreG_k {g : G} {i k : Nat} (hi : i < g.length) (hk : k < g.length) : way (moreG g i k) i k = true := way_iff.2 ⟨k, moreG_new hi hk, .refl k⟩
theorem way_trans {g : G} {a b c : Nat} (h : way g a b = true) (k : way g b c = true) : way g a c = true := by
  obtain ⟨j, h1, h2⟩ := way_iff.1 h
  obtain ⟨m, h3, h4⟩ := way_iff.1 k
  exact way_iff.2 ⟨j, h1, h2.trans ((R.one h3).trans h4)⟩
theorem reach_has (g : G) (i : Nat) (z : Int) : (nn (reach g i)).contains z = true ↔ ∃ k : Nat, z = (k : Int) ∧ way g i k = true := by
  rw [List.contains_iff_mem, List.mem_map]
  constructor
  · rintro ⟨k, hk, rfl⟩; exact ⟨k, rfl, reach_mem.1 hk⟩
  · rintro ⟨k, rfl, hk⟩; exact ⟨k, reach_mem.2 hk, rfl⟩
end Gr

set_option maxRecDepth 20000 in
set_option maxHeartbeats 8000000 in
/-- 'GraphReach' is true. -/
theorem graphReach_any (vg : Value) (g : G) (z1 z2 : Int) (w : World) (hg : Rg w vg g) (hgl : ∀ l ∈ g, l.length ≤ 9223372036854775807) (hz1 : 0 ≤ z1 ∧ z1 ≤ 255) (hz2 : 0 ≤ z2 ∧ z2 ≤ 255) :
    Calls Try.prog 6 #[vg, .int .u8 z1, .int .u8 z2] w fun e w' => e = .returned (.bool true) ∧ Below w.heap.size w w' := by
  have HC := Lib.hid (cut_any vg g 20 w hg (by omega) hgl)
  clear hg
  obtain ⟨y1, rfl⟩ : ∃ y1 : Nat, z1 = (y1 : Int) := ⟨z1.toNat, by omega⟩
  obtain ⟨y2, rfl⟩ : ∃ y2 : Nat, z2 = (y2 : Int) := ⟨z2.toNat, by omega⟩
  go_enter Try.func6, Try.ntmps6
  go_wp2_with fail
  refine HC.out.mono ?_; rintro e w1 ⟨v0, rfl, r0, b0⟩
  obtain ⟨gc, hgc⟩ : ∃ gc, gc = cutG g 20 := ⟨_, rfl⟩
  have hn : gc.length ≤ 1000 := by rw [hgc]; have := cutG_len g 20; omega
  have HLE : Hid (∀ l ∈ gc, l.length ≤ 12) := Lib.hid (by rw [hgc]; exact cutG_each g 20)
  have HLE2 : Hid (∀ l ∈ gc, l.length ≤ 1000) := Lib.hid fun l hl => by have := HLE.out l hl; omega
  rw [← hgc] at r0
  clear hgc HC
  have HG := Lib.hid r0
  have HB := Lib.hid b0
  obtain ⟨ag, cg, rfl⟩ := r0.shape
  clear r0 b0
  rcases Nat.eq_zero_or_pos gc.length with h0 | h0
  · obtain rfl : gc = [] := List.eq_nil_of_length_eq_zero h0
    simp only [List.length_nil]
    go_wp2_with fail
    refine (reach_any _ [] (y1 : Int) _ HG.out (by decide) (by decide)).mono ?_; rintro e w2 ⟨v2, rfl, r2, b2⟩
    have HB := Lib.hid (HB.out.trans (b2.mono HB.out.size))
    rw [show reachZ [] (y1 : Int) = [] by unfold reachZ; split <;> rfl] at r2
    obtain ⟨a2, c2, rfl⟩ := own_shape r2
    simp only [List.length_nil]
    clear r2 b2
    go_wp2_with fail
    (with_reducible refine (fixed_any w2).mono ?_); rintro e w3 ⟨rfl, b3⟩
    go_wp2_with fail
    go_ret
    exact ⟨ret_bool rfl, HB.out.trans (b3.mono HB.out.size)⟩
  · have hne : ((gc.length : Int) == 0) = false := beq_eq_false_iff_ne.2 (by omega)
    obtain ⟨i, hi⟩ : ∃ i, i = y1 % gc.length := ⟨_, rfl⟩
    obtain ⟨k, hk⟩ : ∃ k, k = y2 % gc.length := ⟨_, rfl⟩
    have hr1 : Int.tmod (y1 : Int) (gc.length : Int) = (i : Int) := by rw [hi]; rfl
    have hr2 : Int.tmod (y2 : Int) (gc.length : Int) = (k : Int) := by rw [hk]; rfl
    have hil : i < gc.length := by rw [hi]; exact Nat.mod_lt _ h0
    have hkl : k < gc.length := by rw [hk]; exact Nat.mod_lt _ h0
    clear hi hk
    go_upto_region 4 with fail
    go_region
    obtain ⟨w2, hw2⟩ : ∃ w2, w2 = w1.drew := ⟨_, rfl⟩
    have bd : Below w1.heap.size w1 w2 := by rw [hw2]; exact below_drewN (Below.refl _ _) 1
    rw [← hw2]
    have HG := Lib.hid (HG.out.below' bd)
    have HB := Lib.hid (HB.out.trans (bd.mono HB.out.size))
    clear hw2 bd hr1 hr2 hne
    have tyGrid : SlTy Try.prog 22 23 1 24 := SlTy.mk' (z := .slice none 0 0) Try.underlying22 (by kernel_rfl) rfl (by decide)
    have HO0 : Hid (Og (w2.alloc (.cells #[] 23)) w2.heap.size 23 (.slice (some ⟨w2.heap.size, 0, none⟩) 0 0) ((moreG gc i k).take 0)) := Lib.hid (Og.made w2 w2.heap.size 23 (Nat.le_refl _))
    have HB0 := Lib.hid ((Below.refl w2.heap.size w2).alloc (Nat.le_refl _) (.cells #[] 23))
    go_upto_block 0 with fail
    go_cut [9] (fun v9 w' => ∃ v, v = v9 ∧ Hid (Rg w' v (moreG gc i k)) ∧ Hid (Below w2.heap.size w2 w'))
    case first =>
      --BEGIN 1
      go_wp2_with fail
      go_loopg [9, 10] (gc.length - 0) (fun n v9 v10 wr => ∃ (j : Nat) (v : Value), v = v9 ∧ v10 = .int .i64 j ∧ Hid (j ≤ gc.length ∧ gc.length - j = n) ∧ Hid (Og wr w2.heap.size 23 v ((moreG gc i k).take j)) ∧ Hid (Below w2.heap.size w2 wr))
      case atStart => exact ⟨0, _, rfl, rfl, Lib.hid ⟨Nat.zero_le _, rfl⟩, HO0, HB0⟩
      case round =>
        clear HO0 HB0
        obtain ⟨j, v, rfl, rfl, HJ, HO, HBR⟩ := hrel
        by_cases hj : j < gc.length
        · have hjj : (j : Int) < (gc.length : Int) := by omega
          have hs2 : w2.heap.size ≤ wr.heap.size := HBR.out.size
          obtain ⟨Wa, hWa⟩ : ∃ Wa, Wa = wr.alloc (.cells #[] 3) := ⟨_, rfl⟩
          have ba : Below wr.heap.size wr Wa := by rw [hWa]; exact (Below.refl _ _).alloc (Nat.le_refl _) _
          have HBA := Lib.hid (HBR.out.trans (ba.mono hs2))
          have HOA := Lib.hid (HO.out.below' ba)
          have HSA : Hid (Wa.heap.size = wr.heap.size + 1) := Lib.hid (by rw [hWa]; simp)
          have HRA : Hid (Wa.ownsRow wr.heap.size 3 1 (.slice (some ⟨wr.heap.size, 0, none⟩) 0 0) 0 []) := Lib.hid (by rw [hWa]; exact World.ownsRow_made wr #[] 0 (Nat.le_refl _) (by decide) rfl)
          obtain ⟨b1, o1, u1, rfl, c1, r1, _, _⟩ := (HG.out.below' HBA.out).at hj
          have hrl := HLE.out _ (List.getElem_mem hj)
          have HMJ : Hid ((moreG gc i k)[j]? = some (if j = i then gc[j] ++ [(k : Int)] else gc[j])) := Lib.hid (by simp [moreG, hj])
          obtain ⟨row, hrw⟩ : ∃ row, row = gc[j] := ⟨_, rfl⟩
          rw [← hrw] at r1 hrl HMJ
          have hrd : Rd Wa 1 u1 row.length (ints row) := r1
          obtain ⟨au, cu, hus⟩ := r1.shape
          subst hus
          have hown := HRA.out
          have hsa : wr.heap.size ≤ Wa.heap.size := by have := HSA.out; omega
          obtain ⟨TJ, hTJ⟩ : ∃ TJ, TJ = (moreG gc i k).take j := ⟨_, rfl⟩
          have HTJ := Lib.hid hTJ
          have HLT : Hid (TJ.length ≤ 1000) := Lib.hid (by rw [hTJ, List.length_take, moreG_len]; omega)
          rw [← hTJ] at HO HOA
          clear hTJ
          clear hrw r1 ba
          subst hWa
          go_upto_region 10 with (first
            | (at_builtin; refine wp_app_all2 tyInts rfl _ _ rfl wr.heap.size hown hrd rfl rfl ints_one (by omega) (by omega) hsa ?_; intro v3 w3 o3 d3 q3 n3; rw [Nat.zero_add, List.nil_append] at o3; have HO3 := Lib.hid o3; have HD3 := Lib.hid d3; clear o3 d3 q3 n3)
            | fail)
          have HB3 := Lib.hid (HBA.out.trans (HD3.out.mono (by omega : w2.heap.size ≤ wr.heap.size)))
          have HO4 := Lib.hid (show Og w3 w2.heap.size 23 v TJ from HO.out.below' ((Below.refl wr.heap.size wr).alloc (Nat.le_refl _) (.cells #[] 3) |>.trans HD3.out))
          have hs3 : wr.heap.size ≤ w3.heap.size := by have := HD3.out.size; have := HSA.out; omega
          clear hown hrd c1 HRA HOA HBA
          by_cases hji : j = i
          · have hjiI : ((j : Int) == (i : Int)) = true := by simp [hji]
            have hown := HO3.out
            obtain ⟨a3, c3, rfl⟩ := own_shape hown
            have HMI : Hid ((moreG gc i k)[j]? = some (row ++ [(k : Int)])) := Lib.hid (by rw [HMJ.out, if_pos hji])
            clear HMJ
            go_upto_region 12 with (first
              | (at_builtin; refine wp_app2 tyInts rfl _ _ rfl wr.heap.size hown rfl rfl rfl rfl (by intro u hu; simp at hu; rw [hu]; rfl) (by omega) (by omega) hs3 ?_; intro v5 w5 o5 d5 q5 n5; have HO5 : Hid (w5.ownsRow wr.heap.size 3 1 v5 (row ++ [(k : Int)]).length (ints (row ++ [(k : Int)]))) := Lib.hid (by rw [List.length_append, ints_snoc]; exact o5); have HD5 := Lib.hid d5; clear o5 d5 q5 n5)
              | fail)
            have HB5 := Lib.hid (HB3.out.trans (HD5.out.mono (by omega : w2.heap.size ≤ wr.heap.size)))
            obtain ⟨row1, hrow1⟩ : ∃ row1, row1 = row ++ [(k : Int)] := ⟨_, rfl⟩
            rw [← hrow1] at HO5 HMI
            clear hrow1
            have HO6 := Lib.hid (HO.out.below' (((Below.refl wr.heap.size wr).alloc (Nat.le_refl _) (.cells #[] 3)).trans HD3.out |>.trans HD5.out))
            have hog := HO6.out
            obtain ⟨av, cv, hvs⟩ := hog.shape
            subst hvs
            obtain ⟨a5, c5, rfl⟩ := own_shape HO5.out
            have hru := ri_own HO5.out
            have hsep : ∀ b, (Value.slice a5 row1.length c5).ownBlock = some b → b < w5.heap.size ∧ (Value.slice av TJ.length cv).ownBlock ≠ some b ∧ w2.heap.size ≤ b := fun b hb => by
              have h1 := HO5.out.lt b hb
              refine ⟨h1.2, fun e => ?_, by omega⟩
              have := HO.out.under b e
              omega
            have hs5 : w2.heap.size ≤ w5.heap.size := by have := HB5.out.size; omega
            have hlt := HLT.out
            go_wp2_with (first
              | (at_builtin; refine wp_og tyGrid rfl _ _ rfl w2.heap.size hog hru hsep rfl rfl rfl rfl (by omega) (by omega) hs5 ?_; intro v7 w7 o7 d7; have HO7 := Lib.hid o7; have HD7 := Lib.hid d7; clear o7 d7)
              | fail)
            go_roundg (gc.length - (j + 1))
            case measure => have := HJ.out.2; omega
            case rel => exact ⟨j + 1, _, rfl, by simp [hji], Lib.hid ⟨hj, rfl⟩, Lib.hid (by rw [List.take_add_one, HMI.out, ← HTJ.out]; exact HO7.out), Lib.hid (HB5.out.trans HD7.out)⟩
          · have hjiI : ((j : Int) == (i : Int)) = false := beq_eq_false_iff_ne.2 (by omega)
            have HMI : Hid ((moreG gc i k)[j]? = some row) := Lib.hid (by rw [HMJ.out, if_neg hji])
            clear HMJ
            have hog := HO4.out
            obtain ⟨av, cv, hvs⟩ := hog.shape
            subst hvs
            obtain ⟨a3, c3, rfl⟩ := own_shape HO3.out
            have hru := ri_own HO3.out
            have hsep : ∀ b, (Value.slice a3 row.length c3).ownBlock = some b → b < w3.heap.size ∧ (Value.slice av TJ.length cv).ownBlock ≠ some b ∧ w2.heap.size ≤ b := fun b hb => by
              have h1 := HO3.out.lt b hb
              refine ⟨h1.2, fun e => ?_, by omega⟩
              have := HO.out.under b e
              omega
            have hs5 : w2.heap.size ≤ w3.heap.size := by have := HB3.out.size; omega
            have hlt := HLT.out
            go_wp2_with (first
              | (at_builtin; refine wp_og tyGrid rfl _ _ rfl w2.heap.size hog hru hsep rfl rfl rfl rfl (by omega) (by omega) hs5 ?_; intro v7 w7 o7 d7; have HO7 := Lib.hid o7; have HD7 := Lib.hid d7; clear o7 d7)
              | fail)
            go_roundg (gc.length - (j + 1))
            case measure => have := HJ.out.2; omega
            case rel => exact ⟨j + 1, _, rfl, by simp, Lib.hid ⟨hj, rfl⟩, Lib.hid (by rw [List.take_add_one, HMI.out, ← HTJ.out]; exact HO7.out), Lib.hid (HB3.out.trans HD7.out)⟩
        · obtain rfl : j = gc.length := by have := HJ.out.1; omega
          go_wp2_with fail
          go_meet
          exact ⟨_, rfl, Lib.hid (by have h9 := HO.out.rts; rw [List.take_of_length_le (by rw [moreG_len]; exact Nat.le_refl _)] at h9; exact h9), HBR⟩
      --END 1
    case rest =>
      --BEGIN 2
      obtain ⟨v9, rfl, HM, HB9⟩ := hcut
      rename World => w9
      have HBT := Lib.hid (HB.out.trans (HB9.out.mono HB.out.size))
      have HG9 := Lib.hid (HG.out.below' HB9.out)
      have hml : (moreG gc i k).length ≤ 1000 := by rw [moreG_len]; exact hn
      have HML : Hid (∀ l ∈ moreG gc i k, l.length ≤ 1000) := Lib.hid (by
        intro l hl
        obtain ⟨j, hj, rfl⟩ := List.mem_map.1 hl
        have hj := List.mem_range.1 hj
        have h1 : (gc.getD j []).length ≤ 12 := by rw [List.getD_eq_getElem?_getD, List.getElem?_eq_getElem hj]; exact HLE.out _ (List.getElem_mem hj)
        split
        · rw [List.length_append, List.length_singleton]; omega
        · omega)
      clear HO0 HB0 HG HB HB9
      go_wp2_with fail
      refine (reach_any _ gc (i : Int) _ HG9.out hn HLE2.out).mono ?_; rintro e wa ⟨va, rfl, ra, ba⟩
      have HRA : Hid (Ri wa va (nn (reach gc i))) := Lib.hid (by rw [show reachZ gc (i : Int) = reach gc i by unfold reachZ; rw [if_pos (by omega), Int.toNat_natCast]] at ra; exact ri_own (by simpa using ra))
      have HG9 := Lib.hid (HG9.out.below' ba)
      have HM := Lib.hid (HM.out.below' ba)
      have HBT := Lib.hid (HBT.out.trans (ba.mono HBT.out.size))
      clear ra ba
      go_wp2_with fail
      refine (reach_any _ gc (k : Int) _ HG9.out hn HLE2.out).mono ?_; rintro e wb ⟨vb, rfl, rb, bb⟩
      have HRB : Hid (Ri wb vb (nn (reach gc k))) := Lib.hid (by rw [show reachZ gc (k : Int) = reach gc k by unfold reachZ; rw [if_pos (by omega), Int.toNat_natCast]] at rb; exact ri_own (by simpa using rb))
      have HRA := Lib.hid (HRA.out.below' bb)
      have HM := Lib.hid (HM.out.below' bb)
      have HBT := Lib.hid (HBT.out.trans (bb.mono HBT.out.size))
      clear rb bb
      go_wp2_with fail
      refine (reach_any _ (moreG gc i k) (i : Int) _ HM.out hml HML.out).mono ?_; rintro e wc ⟨vc, rfl, rc, bc⟩
      have HRC : Hid (Ri wc vc (nn (reach (moreG gc i k) i))) := Lib.hid (by rw [show reachZ (moreG gc i k) (i : Int) = reach (moreG gc i k) i by unfold reachZ; rw [if_pos (by rw [moreG_len]; omega), Int.toNat_natCast]] at rc; exact ri_own (by simpa using rc))
      have HRA := Lib.hid (HRA.out.below' bc)
      have HRB := Lib.hid (HRB.out.below' bc)
      have HBT := Lib.hid (HBT.out.trans (bc.mono HBT.out.size))
      clear rc bc HM HG9
      have HIA := Lib.hid fun z => in_any va (nn (reach gc i)) z wc HRA.out (by rw [List.length_map]; have := reachZ_len gc i; rw [show reachZ gc (i : Int) = reach gc i by unfold reachZ; rw [if_pos (by omega), Int.toNat_natCast]] at this; omega)
      have HIC := Lib.hid fun z => in_any vc (nn (reach (moreG gc i k) i)) z wc HRC.out (by rw [List.length_map]; have := reachZ_len (moreG gc i k) i; rw [show reachZ (moreG gc i k) (i : Int) = reach (moreG gc i k) i by unfold reachZ; rw [if_pos (by rw [moreG_len]; omega), Int.toNat_natCast]] at this; omega)
      obtain ⟨aa, ca, rfl⟩ := HRA.out.shape
      obtain ⟨ab, cb, rfl⟩ := HRB.out.shape
      obtain ⟨ac, cc, rfl⟩ := HRC.out.shape
      obtain ⟨la, hla⟩ : ∃ la, la = nn (reach gc i) := ⟨_, rfl⟩
      obtain ⟨lb, hlb⟩ : ∃ lb, lb = nn (reach gc k) := ⟨_, rfl⟩
      obtain ⟨lc, hlc⟩ : ∃ lc, lc = nn (reach (moreG gc i k) i) := ⟨_, rfl⟩
      have HAB : Hid (∀ z, z ∈ lb → (la.contains (k : Int) = true → la.contains z = true) ∧ lc.contains z = true) := Lib.hid (by
        intro z hz
        rw [hlb] at hz
        obtain ⟨x, hx, rfl⟩ := List.mem_map.1 hz
        have hx := reach_mem.1 hx
        rw [hla, hlc]
        refine ⟨fun h => ?_, (reach_has _ _ _).2 ⟨x, rfl, moreG_to hil hkl hx⟩⟩
        obtain ⟨k', e, hk'⟩ := (reach_has _ _ _).1 h
        obtain rfl : k = k' := by omega
        exact (reach_has _ _ _).2 ⟨x, rfl, way_trans hk' hx⟩)
      have HAC : Hid (∀ z, z ∈ la → lc.contains z = true) := Lib.hid (by
        intro z hz
        rw [hla] at hz
        obtain ⟨x, hx, rfl⟩ := List.mem_map.1 hz
        rw [hlc]
        exact (reach_has _ _ _).2 ⟨x, rfl, moreG_way (reach_mem.1 hx)⟩)
      have HCK : Hid (lc.contains (k : Int) = true) := Lib.hid (by rw [hlc]; exact (reach_has _ _ _).2 ⟨k, rfl, moreG_k hil hkl⟩)
      have hlal : la.length ≤ 1000 := by rw [hla, List.length_map]; have := reachZ_len gc i; rw [show reachZ gc (i : Int) = reach gc i by unfold reachZ; rw [if_pos (by omega), Int.toNat_natCast]] at this; omega
      have hlbl : lb.length ≤ 1000 := by rw [hlb, List.length_map]; have := reachZ_len gc k; rw [show reachZ gc (k : Int) = reach gc k by unfold reachZ; rw [if_pos (by omega), Int.toNat_natCast]] at this; omega
      rw [← hla] at HRA HIA ⊢
      rw [← hlb] at HRB ⊢
      rw [← hlc] at HIC ⊢
      clear hla hlb hlc HRC
      obtain ⟨inK, hinK⟩ : ∃ x, x = la.contains (k : Int) := ⟨_, rfl⟩
      have HINK := Lib.hid hinK
      clear hinK
      go_wp2_with fail
      go_loopg [15] (lb.length - 0) (fun n v15 wr => ∃ j : Nat, v15 = .int .i64 j ∧ wr = wc ∧ Hid (j ≤ lb.length ∧ lb.length - j = n))
      case atStart => exact ⟨0, rfl, rfl, Lib.hid ⟨Nat.zero_le _, rfl⟩⟩
      case round =>
        obtain ⟨j, rfl, rfl, HJ⟩ := hrel
        by_cases hj : j < lb.length
        · have hjj : (j : Int) < (lb.length : Int) := by omega
          obtain ⟨b3, o3, rfl, c3⟩ := HRB.out.at hj
          obtain ⟨z, hz⟩ : ∃ z, z = lb[j] := ⟨_, rfl⟩
          have HZM : Hid (z ∈ lb) := Lib.hid (by rw [hz]; exact List.getElem_mem hj)
          rw [← hz] at c3
          clear hz
          have hc1 := HIA.out (k : Int)
          rw [← HINK.out] at hc1
          have HC1 := Lib.hid hc1
          have hc3 := HIC.out z
          rw [(HAB.out z HZM.out).2] at hc3
          have HC3 := Lib.hid hc3
          clear hc1 hc3
          cases hik : inK
          · rw [hik] at HC1
            clear hik
            go_wp2_with fail
            (with_reducible refine HC1.out.mono ?_); rintro e w5 ⟨rfl, rfl⟩
            go_wp2_with fail
            (with_reducible refine HC3.out.mono ?_); rintro e w6 ⟨rfl, rfl⟩
            go_wp2_with fail
            go_roundg (lb.length - (j + 1))
            case measure => have := HJ.out.2; omega
            case rel => exact ⟨j + 1, by simp, rfl, Lib.hid ⟨hj, rfl⟩⟩
          · rw [hik] at HC1
            have hc2 := HIA.out z
            rw [(HAB.out z HZM.out).1 (by rw [← HINK.out]; exact hik)] at hc2
            have HC2 := Lib.hid hc2
            clear hik hc2
            go_wp2_with fail
            (with_reducible refine HC1.out.mono ?_); rintro e w5 ⟨rfl, rfl⟩
            go_wp2_with fail
            (with_reducible refine HC2.out.mono ?_); rintro e w6 ⟨rfl, rfl⟩
            go_wp2_with fail
            (with_reducible refine HC3.out.mono ?_); rintro e w7 ⟨rfl, rfl⟩
            go_wp2_with fail
            go_roundg (lb.length - (j + 1))
            case measure => have := HJ.out.2; omega
            case rel => exact ⟨j + 1, by simp, rfl, Lib.hid ⟨hj, rfl⟩⟩
        · obtain rfl : j = lb.length := by have := HJ.out.1; omega
          go_wp2_with fail
          rename World => wd
          go_loopg [16] (la.length - 0) (fun n v16 wr => ∃ j : Nat, v16 = .int .i64 j ∧ wr = wd ∧ Hid (j ≤ la.length ∧ la.length - j = n))
          case atStart => exact ⟨0, rfl, rfl, Lib.hid ⟨Nat.zero_le _, rfl⟩⟩
          case round =>
            obtain ⟨j, rfl, rfl, HJ⟩ := hrel
            by_cases hj : j < la.length
            · have hjj : (j : Int) < (la.length : Int) := by omega
              obtain ⟨b3, o3, rfl, c3⟩ := HRA.out.at hj
              obtain ⟨z, hz⟩ : ∃ z, z = la[j] := ⟨_, rfl⟩
              have HZM : Hid (z ∈ la) := Lib.hid (by rw [hz]; exact List.getElem_mem hj)
              rw [← hz] at c3
              clear hz
              have hc3 := HIC.out z
              rw [HAC.out z HZM.out] at hc3
              have HC3 := Lib.hid hc3
              clear hc3
              go_wp2_with fail
              (with_reducible refine HC3.out.mono ?_); rintro e w6 ⟨rfl, rfl⟩
              go_wp2_with fail
              go_roundg (la.length - (j + 1))
              case measure => have := HJ.out.2; omega
              case rel => exact ⟨j + 1, by simp, rfl, Lib.hid ⟨hj, rfl⟩⟩
            · obtain rfl : j = la.length := by have := HJ.out.1; omega
              have hc3 := HIC.out (k : Int)
              rw [HCK.out] at hc3
              have HC3 := Lib.hid hc3
              clear hc3
              go_wp2_with fail
              (with_reducible refine HC3.out.mono ?_); rintro e w6 ⟨rfl, rfl⟩
              go_wp2_with fail
              (with_reducible refine (fixed_any _).mono ?_); rintro e w7 ⟨rfl, b7⟩
              go_wp2_with fail
              go_ret
              exact ⟨ret_bool rfl, HBT.out.trans (b7.mono HBT.out.size)⟩
      --END 2
end Go.Proofs.Ytemdhbeegheefaa
