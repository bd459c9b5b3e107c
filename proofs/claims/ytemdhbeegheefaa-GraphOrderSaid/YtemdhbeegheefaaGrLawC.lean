
/- 'GraphOrder', walked: it answers true at every input. No condition. -/
import Derived.Test.YtemdhbeegheefaaGrFixed
import Derived.Test.YtemdhbeegheefaaGrOrd
import Derived.BigRegion
namespace Go.Proofs.Ytemdhbeegheefaa
open Go.RowKit Gr

/-- v reads as these lists; none lies in block ba. -/
def Rgx (w : World) (ba : Nat) (v : Value) (ls : List (List Int)) : Prop :=
  ∃ vs : List Value, Rd w 1 v ls.length vs ∧ v.ownBlock ≠ some ba ∧ ∀ (i : Nat) (u : Value) (l : List Int), vs[i]? = some u → ls[i]? = some l → Ri w u l ∧ u.ownBlock ≠ some ba
theorem Rgx.grown {w w' : World} {ba : Nat} {v : Value} {ls : List (List Int)} (h : Rgx w ba v ls) (hg : w.grownBy w' (some ba)) : Rgx w' ba v ls := by
  obtain ⟨vs, h1, h2, h3⟩ := h
  refine ⟨vs, Rd.grown h1 hg (fun b hb e => h2 (by rw [hb, e])), h2, fun i u l hu hl => ⟨Rd.grown (h3 i u l hu hl).1 hg (fun b hb e => (h3 i u l hu hl).2 (by rw [hb, e])), (h3 i u l hu hl).2⟩⟩
theorem Rgx.rg {w : World} {ba : Nat} {v : Value} {ls : List (List Int)} (h : Rgx w ba v ls) : Rg w v ls := by
  obtain ⟨vs, h1, _, h3⟩ := h
  exact ⟨vs, h1, fun i u l hu hl => (h3 i u l hu hl).1⟩
theorem Og.rgx {w : World} {B T ba : Nat} {v : Value} {ls : List (List Int)} (h : Og w B T v ls) (hb : ba < B ∨ w.heap.size ≤ ba) : Rgx w ba v ls := by
  obtain ⟨vs, h1, h2⟩ := h
  refine ⟨vs, own_rd h1, fun e => ?_, fun i u l hu hl => ⟨(h2 i u l hu hl).1, fun e => ?_⟩⟩
  · have := h1.lt ba e; omega
  · have := (h2 i u l hu hl).2 ba e; omega
theorem reach_tells (g : G) (i : Nat) (z : Int) : (nn (reach g i)).contains z = true ↔ ∃ k : Nat, z = (k : Int) ∧ way g i k = true := by
  rw [List.contains_iff_mem, List.mem_map]
  constructor
  · rintro ⟨k, hk, rfl⟩; exact ⟨k, rfl, reach_mem.1 hk⟩
  · rintro ⟨k, rfl, hk⟩; exact ⟨k, reach_mem.2 hk, rfl⟩
theorem ro_zeroI {w : World} {b n : Nat} (h : w.heap[b]? = some (.cells (Array.replicate n (.int .i64 0)) 3 (0, 0))) : Ro w b 3 (ints (List.replicate n 0)) := by
  rw [Ro]; simp [ints]; exact h
theorem ints_get {l : List Int} {i : Nat} {z : Int} (h : l[i]? = some z) : (ints l)[i]? = some (.int .i64 z) := by simp [ints, h]

set_option maxRecDepth 20000 in
set_option maxHeartbeats 16000000 in
/-- 'GraphOrder' is true. -/
theorem graphOrder_any (vg : Value) (g : G) (w : World) (hg : Rg w vg g) (hgl : ∀ l ∈ g, l.length ≤ 9223372036854775807) :
    Calls Try.prog 4 #[vg] w fun e w' => e = .returned (.bool true) ∧ Below w.heap.size w w' := by
  have HC := Lib.hid (cut_any vg g 40 w hg (by omega) hgl)
  clear hg
  go_enter Try.func4, Try.ntmps4
  go_wp2_with fail
  refine HC.out.mono ?_; rintro e w1 ⟨v0, rfl, r0, b0⟩
  obtain ⟨gc, hgc⟩ : ∃ gc, gc = cutG g 40 := ⟨_, rfl⟩
  have hn : gc.length ≤ 1000 := by rw [hgc]; have := cutG_len g 40; omega
  have HLE2 : Hid (∀ l ∈ gc, l.length ≤ 1000) := Lib.hid (by rw [hgc]; intro l hl; have := cutG_each g 40 l hl; omega)
  rw [← hgc] at r0
  clear hgc HC
  have HG := Lib.hid r0
  have HB := Lib.hid b0
  obtain ⟨ag, cg, rfl⟩ := r0.shape
  clear r0 b0
  have hmi := mkInts gc.length (by omega)
  have HGR := Lib.hid fun (W : World) (hb : Below w1.heap.size w1 W) => groupsO_any gc (.slice ag gc.length cg) W (HG.out.below' hb) hn HLE2.out
  go_upto_region 2 with fail
  go_cut [3, 4] (fun s3 s4 w' => ∃ (v3 : Value) (ba : Nat), v3 = s3 ∧ s4 = .slice (some ⟨ba, 0, none⟩) gc.length gc.length ∧ Hid (Rgx w' ba v3 ((groups gc).map nn)) ∧ Hid (Ro w' ba 3 (ints (List.replicate gc.length 0))) ∧ Hid (w1.heap.size ≤ ba) ∧ Hid (Below w1.heap.size w1 w'))
  case first =>
    --BEGIN 1
    have bd : Below w1.heap.size w1 w1.drew := below_drewN (Below.refl _ _) 1
    have ba : Below w1.heap.size w1 (w1.alloc (.cells (Array.replicate gc.length (.int .i64 0)) 3)).drew := below_drewN ((Below.refl _ _).alloc (Nat.le_refl _) _) 1
    go_region_with (first
      | (go_at_call 10; (first | refine (HGR.out _ bd).mono ?_ | refine (HGR.out _ ba).mono ?_ | fail); rintro e w2 ⟨v2, rfl, r2, b2⟩)
      | fail)
    all_goals (
      go_wp2_with fail
      go_meet
      first
        | exact ⟨v2, w2.heap.size, rfl, rfl, Lib.hid ((r2.rgx (.inr (Nat.le_refl _))).grown (World.grownBy_alloc w2 _ _)), Lib.hid (ro_zeroI (heap_alloc_new w2 _)), Lib.hid b2.size, Lib.hid ((bd.trans b2).alloc b2.size _)⟩
        | exact ⟨v2, w1.heap.size, rfl, rfl, Lib.hid (r2.rgx (.inl (by show w1.heap.size < (w1.alloc _).heap.size; simp))), Lib.hid (ro_zeroI ((b2.block _ (by show w1.heap.size < (w1.alloc _).heap.size; simp)).trans (heap_alloc_new w1 _))), Lib.hid (Nat.le_refl _), Lib.hid (ba.trans (b2.mono ba.size))⟩
        | fail)
    --END 1
  case rest =>
    obtain ⟨v3, ba, rfl, rfl, HGS, HAT, HBA, HBW⟩ := hcut
    rename World => w3
    have HB3 := Lib.hid (HB.out.trans (HBW.out.mono HB.out.size))
    have HG3 := Lib.hid (HG.out.below' HBW.out)
    obtain ⟨n0, hn0⟩ : ∃ n0, n0 = (groups gc).length := ⟨_, rfl⟩
    have HN0 := Lib.hid hn0
    have HNL : Hid (n0 ≤ 1000) := Lib.hid (by rw [hn0]; have := groups_len gc; omega)
    have hgsl : ((groups gc).map nn).length = n0 := by rw [List.length_map, hn0]
    obtain ⟨a3, c3, hv3⟩ := HGS.out.rg.shape
    rw [hgsl] at hv3
    subst hv3
    have HGW : Hid (∀ W, w3.grownBy W (some ba) → Below w1.heap.size w1 W) := Lib.hid fun W hw => HBW.out.grown hw HBW.out.size fun j e => by injection e with e; rw [← e]; exact HBA.out
    clear HGR HB3 HG3 hmi hgsl hn0
    go_upto_block 0 with fail
    go_cut [5] (fun _ w' => Hid (Ro w' ba 3 (ints (atS gc 0 0))) ∧ Hid (w3.grownBy w' (some ba)))
    case first =>
      --BEGIN 2
      go_wp2_with fail
      go_loopg [5] (gc.length - 0) (fun n v5 wr => ∃ i : Nat, v5 = .int .i64 i ∧ Hid (i ≤ gc.length ∧ gc.length - i = n) ∧ Hid (Ro wr ba 3 (ints (tb gc.length fun v => if v < i then (-1 : Int) else 0))) ∧ Hid (w3.grownBy wr (some ba)))
      case atStart => exact ⟨0, rfl, Lib.hid ⟨Nat.zero_le _, rfl⟩, Lib.hid (by rw [tb_congr (f' := fun _ => (0 : Int)) fun i _ => by simp, ← replicate_tb]; exact HAT.out), Lib.hid ⟨rfl, rfl, rfl, Nat.le_refl _, fun _ _ _ => rfl⟩⟩
      case round =>
        clear HAT
        obtain ⟨i, rfl, HI, HAT, HK⟩ := hrel
        by_cases hi : i < gc.length
        · have hii : (i : Int) < (gc.length : Int) := by omega
          have c1 := HAT.out.cell (ints_get (tb_get (f := fun v => if v < i then (-1 : Int) else 0) hi))
          have f1 := HAT.out.free i
          have HS : Hid (Ro (wr.setCell ⟨ba, i, none⟩ (.int .i64 (-1))) ba 3 (ints (tb gc.length fun v => if v < i + 1 then (-1 : Int) else 0))) := Lib.hid (by
            have h9 := HAT.out.set i (.int .i64 (-1))
            rw [ints_set, tb_set, tb_congr (f' := fun v => if v < i + 1 then (-1 : Int) else 0) fun v _ => by
              by_cases e : v = i
              · subst e; simp
              · by_cases h : v < i
                · rw [if_neg e, if_pos h, if_pos (by omega)]
                · rw [if_neg e, if_neg h, if_neg (by omega)]] at h9
            exact h9)
          go_wp2_with fail
          go_roundg (gc.length - (i + 1))
          case measure => have := HI.out.2; omega
          case rel => exact ⟨i + 1, by simp, Lib.hid ⟨hi, rfl⟩, HS, Lib.hid (grownBy_trans HK.out (setCell_grown wr ⟨ba, i, none⟩ _))⟩
        · obtain rfl : i = gc.length := by have := HI.out.1; omega
          go_wp2_with fail
          go_meet
          exact ⟨Lib.hid (by rw [atS_zero, replicate_tb, tb_congr (f' := fun v => if v < gc.length then (-1 : Int) else 0) fun v hv => by rw [if_pos hv]]; exact HAT.out), HK⟩
      --END 2
    case rest =>
      obtain ⟨HAT, HK⟩ := hcut
      rename World => w4
      go_upto_block 2 with fail
      go_cut [6] (fun _ w' => Hid (Ro w' ba 3 (ints (atS gc n0 0))) ∧ Hid (w3.grownBy w' (some ba)))
      case first =>
        --BEGIN 3
        go_wp2_with fail
        go_loopg [6] (n0 - 0) (fun n v6 wr => ∃ c : Nat, v6 = .int .i64 c ∧ Hid (c ≤ n0 ∧ n0 - c = n) ∧ Hid (Ro wr ba 3 (ints (atS gc c 0))) ∧ Hid (w3.grownBy wr (some ba)))
        case atStart => exact ⟨0, rfl, Lib.hid ⟨Nat.zero_le _, rfl⟩, HAT, HK⟩
        case round =>
          clear HAT HK
          obtain ⟨c, rfl, HC, HAT, HK⟩ := hrel
          have hnl := HNL.out
          by_cases hc : c < n0
          · have hcc : (c : Int) < (n0 : Int) := by omega
            obtain ⟨x, hx⟩ : ∃ x, (groups gc)[c]? = some x := ⟨_, List.getElem?_eq_getElem (by rw [← HN0.out]; exact hc)⟩
            have hx2 : ((groups gc).map nn)[c]? = some (nn x) := by rw [List.getElem?_map, hx]; rfl
            have hxl : x.length ≤ 1000000 := by have := groups_each gc (by omega) _ (List.mem_of_getElem? hx2); simpa [nn] using this
            have HX := Lib.hid hx
            have HRW : Hid (∀ W, w3.grownBy W (some ba) → ∃ b o au cu, a3 = some ⟨b, o, none⟩ ∧ W.cell? ⟨b, o + c, none⟩ = some (.slice au x.length cu) ∧ Ri W (.slice au x.length cu) (nn x)) := Lib.hid fun W hW => by
              obtain ⟨b1, o1, u1, e1, c1, r1, _, _⟩ := (HGS.out.grown hW).rg.at (i := c) (by rw [List.length_map, ← HN0.out]; exact hc)
              rw [(List.getElem?_eq_some_iff.1 hx2).2] at r1
              obtain ⟨au, cu, hus⟩ := r1.shape
              rw [show (nn x).length = x.length by simp [nn]] at hus
              subst hus
              exact ⟨b1, o1, au, cu, e1, c1, r1⟩
            have hxz : ((x.length : Int) == 0) = false := by have := groups_some hx; exact beq_eq_false_iff_ne.2 (by omega)
            clear hx hx2
            obtain ⟨bb, oo, au, cu, rfl, c1, r1⟩ := HRW.out _ HK.out
            go_wp2_with fail
            go_loopg [7] (x.length - 0) (fun n v7 wq => ∃ k : Nat, v7 = .int .i64 k ∧ Hid (k ≤ x.length ∧ x.length - k = n) ∧ Hid (Ro wq ba 3 (ints (atS gc c k))) ∧ Hid (w3.grownBy wq (some ba)))
            case atStart => exact ⟨0, rfl, Lib.hid ⟨Nat.zero_le _, rfl⟩, HAT, HK⟩
            case round =>
              clear HAT HK c1 r1
              obtain ⟨k, rfl, HKK, HAT, HK⟩ := hrel
              rename World => wq
              obtain ⟨b1, o1, au, cu, e1, c1, r1⟩ := HRW.out _ HK.out
              injection e1 with e1
              injection e1 with e5 e6
              subst e5 e6
              by_cases hk : k < x.length
              · have hkk : (k : Int) < (x.length : Int) := by omega
                obtain ⟨v, hv⟩ : ∃ v, x[k]? = some v := ⟨_, List.getElem?_eq_getElem hk⟩
                have HV := Lib.hid hv
                have hvl := groups_lt HX.out hv
                have hat := ints_get (atS_new gc HX.out hv hvl)
                have c3 := HAT.out.cell hat
                have f3 := HAT.out.free v
                have HS : Hid (Ro (wq.setCell ⟨ba, v, none⟩ (.int .i64 c)) ba 3 (ints (atS gc c (k + 1)))) := Lib.hid (by
                  have h9 := HAT.out.set v (.int .i64 c)
                  rw [ints_set, atS_set gc HX.out hv] at h9
                  exact h9)
                have HKS : Hid (w3.grownBy (wq.setCell ⟨ba, v, none⟩ (.int .i64 c)) (some ba)) := Lib.hid (grownBy_trans HK.out (setCell_grown wq ⟨ba, v, none⟩ _))
                have hv0 : ¬ (v : Int) < 0 := by omega
                have hv1 : ¬ (v : Int) ≥ (gc.length : Int) := by omega
                obtain ⟨b2, o2, rfl, c2⟩ := r1.at (i := k) (by simpa [nn] using hk)
                rw [show (nn x)[k]'(by simpa [nn] using hk) = (v : Int) by have := (List.getElem?_eq_some_iff.1 hv).2; simp [nn, this]] at c2
                cases k with
                | zero =>
                  clear hat hv r1
                  rw [Nat.add_zero] at c2
                  go_wp2_with fail
                  go_roundg (x.length - (0 + 1))
                  case measure => have := HKK.out.2; omega
                  case rel => exact ⟨0 + 1, by simp, Lib.hid ⟨hk, rfl⟩, HS, HKS⟩
                | succ k =>
                  obtain ⟨u, hu⟩ : ∃ u, x[k]? = some u := ⟨_, List.getElem?_eq_getElem (by omega)⟩
                  have huv : ¬ (u : Int) ≥ (v : Int) := by have := groups_rise HX.out hv hu; omega
                  obtain ⟨b4, o4, e4, c4⟩ := r1.at (i := k) (by rw [show (nn x).length = x.length by simp [nn]]; omega)
                  injection e4 with e4
                  injection e4 with e5 e6
                  subst e5 e6
                  rw [show (nn x)[k]'(by rw [show (nn x).length = x.length by simp [nn]]; omega) = (u : Int) by have := (List.getElem?_eq_some_iff.1 hu).2; simp [nn, this]] at c4
                  have hk1 : ((k + 1 : Nat) : Int) - 1 = (k : Int) := by omega
                  have hk2 : ((k + 1 : Nat) : Int) > 0 := by omega
                  clear hat hv hu r1
                  go_wp2_with fail
                  go_roundg (x.length - (k + 1 + 1))
                  case measure => have := HKK.out.2; omega
                  case rel => exact ⟨k + 1 + 1, by simp, Lib.hid ⟨hk, rfl⟩, HS, HKS⟩
              · obtain rfl : k = x.length := by have := HKK.out.1; omega
                clear r1
                go_wp2_with fail
                go_roundg (n0 - (c + 1))
                case measure => have := HC.out.2; omega
                case rel => exact ⟨c + 1, by simp, Lib.hid ⟨hc, rfl⟩, Lib.hid (by rw [← atS_next gc (k := x.length) (by rw [List.getD_eq_getElem?_getD, HX.out]; exact Nat.le_refl _)]; exact HAT.out), HK⟩
          · obtain rfl : c = n0 := by have := HC.out.1; omega
            go_wp2_with fail
            go_meet
            exact ⟨HAT, HK⟩
        --END 3
      case rest =>
        clear HAT HK
        obtain ⟨HAT, HK⟩ := hcut
        rename World => w5
        obtain ⟨at5, hat5⟩ : ∃ x, x = atS gc n0 0 := ⟨_, rfl⟩
        have HAV : Hid (∀ v, v < gc.length → at5[v]? = some (pos gc v : Int)) := Lib.hid fun v hv => by rw [hat5, HN0.out]; exact atS_all gc hv
        rw [← hat5] at HAT
        have HG5 := Lib.hid (HG.out.below' (HGW.out w5 HK.out))
        have HB5 := Lib.hid (HB.out.trans ((HGW.out w5 HK.out).mono HB.out.size))
        have HPG : Hid (∀ v, pos gc v ≤ 1000) := Lib.hid fun v => by
          have : pos gc v ≤ (groups gc).length := List.findIdx_le_length
          have := groups_len gc
          omega
        clear hat5 HG HGW HB HK HGS HN0 HNL
        go_wp2_with fail
        go_loopg [9] (gc.length - 0) (fun n v9 wr => ∃ i : Nat, v9 = .int .i64 i ∧ Hid (i ≤ gc.length ∧ gc.length - i = n) ∧ Hid (Below w5.heap.size w5 wr))
        case atStart => exact ⟨0, rfl, Lib.hid ⟨Nat.zero_le _, rfl⟩, Lib.hid (Below.refl _ _)⟩
        case round =>
          obtain ⟨i, rfl, HI, HBI⟩ := hrel
          by_cases hi : i < gc.length
          · have hii : (i : Int) < (gc.length : Int) := by omega
            have hro : Ro wr ba 3 (ints at5) := (HBI.out.block ba HAT.out.lt).trans HAT.out
            have HAI := Lib.hid hro
            have ca := hro.cell (ints_get (HAV.out i hi))
            have HGI := Lib.hid (HG5.out.below' HBI.out)
            obtain ⟨b1, o1, u1, rfl, c1, r1, _, _⟩ := HGI.out.at hi
            obtain ⟨row, hrow⟩ : ∃ row, row = gc[i] := ⟨_, rfl⟩
            have HROW := Lib.hid hrow
            rw [← hrow] at r1
            obtain ⟨au, cu, rfl⟩ := r1.shape
            have hrl : row.length ≤ 1000 := by rw [hrow]; exact HLE2.out _ (List.getElem_mem hi)
            have HRI := Lib.hid r1
            have hp0 : ¬ (pos gc i : Int) < 0 := by omega
            obtain ⟨pi, hpi⟩ : ∃ x, x = pos gc i := ⟨_, rfl⟩
            have HPI := Lib.hid hpi
            rw [← hpi] at ca hp0
            clear r1 hrow hro hpi
            go_wp2_with fail
            go_loopg [10] (row.length - 0) (fun n v10 wq => ∃ (k m : Nat), v10 = .int .i64 k ∧ wq = wr.drewN m ∧ Hid (k ≤ row.length ∧ row.length - k = n))
            case atStart => exact ⟨0, 0, rfl, rfl, Lib.hid ⟨Nat.zero_le _, rfl⟩⟩
            case round =>
              --BEGIN 4
              obtain ⟨k, m, rfl, hwq, HKK⟩ := hrel
              rename World => wq
              have HWQ := Lib.hid hwq
              by_cases hk : k < row.length
              · have hkk : (k : Int) < (row.length : Int) := by omega
                have hg1 : Rg wq (.slice (some ⟨b1, o1, none⟩) gc.length cg) gc := by rw [hwq]; exact HGI.out.drewN m
                have c1m : ∀ t, (wq.drewN t).cell? ⟨b1, o1 + i, none⟩ = some (.slice au row.length cu) := by rw [hwq]; exact fun _ => c1
                have cam : ∀ t, (wq.drewN t).cell? ⟨ba, i, none⟩ = some (.int .i64 pi) := by rw [hwq]; exact fun _ => ca
                have hr1 : Ri wq (.slice au row.length cu) row := by rw [hwq]; exact HRI.out
                have c10 : wq.cell? ⟨b1, o1 + i, none⟩ = some (.slice au row.length cu) := c1m 0
                have ca0 : wq.cell? ⟨ba, i, none⟩ = some (.int .i64 pi) := cam 0
                obtain ⟨b3, o3, rfl, c3⟩ := hr1.at hk
                obtain ⟨z, hz⟩ : ∃ z, z = row[k] := ⟨_, rfl⟩
                have HZ : Hid (row[k]? = some z) := Lib.hid (by rw [hz]; simp [hk])
                rw [← hz] at c3
                have c3m : ∀ t, (wq.drewN t).cell? ⟨b3, o3 + k, none⟩ = some (.int .i64 z) := fun _ => c3
                have hE := fun t => edge_any _ gc (i : Int) z (wq.drewN t) (hg1.drewN t) HLE2.out
                clear hz hr1 c1 ca
                cases hez : edgeZ gc (i : Int) z
                · rw [hez] at hE
                  have HE := Lib.hid hE
                  clear hez hE hg1 hwq
                  go_wp2_with fail
                  go_quiet (first | (go_at_call 18; refine Calls.quiet_of_same (HE.out _)) | fail)
                  revert nq; intro m1
                  go_wp2_with fail
                  go_roundg (row.length - (k + 1))
                  case measure => have := HKK.out.2; omega
                  case rel => exact ⟨k + 1, m + m1, by simp, by rw [HWQ.out, World.drewN_drewN], Lib.hid ⟨hk, rfl⟩⟩
                · rw [hez] at hE
                  have HE := Lib.hid hE
                  have hez := of_decide_eq_true hez
                  obtain ⟨y, rfl⟩ : ∃ y : Nat, z = (y : Int) := ⟨z.toNat, by have := hez.2.2.1; omega⟩
                  have hyl : y < gc.length := by have := hez.2.2.2.1; omega
                  have hyy : (y : Int) < (gc.length : Int) := by omega
                  have hle : pi ≤ pos gc y := by
                    rw [HPI.out]
                    exact pos_edge ⟨hi, hyl, by simpa using hez.2.2.2.2⟩
                  obtain ⟨py, hpy⟩ : ∃ x, x = pos gc y := ⟨_, rfl⟩
                  have cym : ∀ t, (wq.drewN t).cell? ⟨ba, y, none⟩ = some (.int .i64 py) := by rw [hwq, hpy]; exact fun _ => HAI.out.cell (ints_get (HAV.out y hyl))
                  rw [← hpy] at hle
                  have hlt : ¬ (py : Int) < (pi : Int) := by omega
                  clear hez hE hg1 hwq hpy
                  go_wp2_with fail
                  go_quiet (first | (go_at_call 18; refine Calls.quiet_of_same (HE.out _)) | fail)
                  revert nq; intro m1
                  go_wp2_with fail
                  go_roundg (row.length - (k + 1))
                  case measure => have := HKK.out.2; omega
                  case rel => exact ⟨k + 1, m + m1, by simp, by rw [HWQ.out, World.drewN_drewN], Lib.hid ⟨hk, rfl⟩⟩
              · obtain rfl : k = row.length := by have := HKK.out.1; omega
                have HGQ : Hid (Rg wq (.slice (some ⟨b1, o1, none⟩) gc.length cg) gc) := Lib.hid (by rw [hwq]; exact HGI.out.drewN m)
                have HRQ := Lib.hid (reach_any _ gc (i : Int) wq HGQ.out hn HLE2.out)
                rw [show reachZ gc (i : Int) = reach gc i by unfold reachZ; rw [if_pos (by omega), Int.toNat_natCast]] at HRQ
                have c1q : wq.cell? ⟨b1, o1 + i, none⟩ = some (.slice au row.length cu) := by rw [hwq]; exact c1
                have HAQ : Hid (Ro wq ba 3 (ints at5)) := Lib.hid (by rw [hwq]; exact HAI.out)
                have HBQ : Hid (Below w5.heap.size w5 wq) := Lib.hid (by rw [hwq]; exact below_drewN HBI.out m)
                clear hwq HGI HAI HBI c1 ca HWQ
                go_wp2_with fail
                refine HRQ.out.mono ?_; rintro e wt ⟨vt, rfl, rt, bt⟩
                have hrt := ri_own (l := nn (reach gc i)) (by simpa using rt)
                have hrln : (nn (reach gc i)).length ≤ 1000 := by rw [List.length_map]; have := reachZ_len gc i; rw [show reachZ gc (i : Int) = reach gc i by unfold reachZ; rw [if_pos (by omega), Int.toNat_natCast]] at this; omega
                have HIN := Lib.hid fun (z : Int) (t : Nat) => in_any vt (nn (reach gc i)) z (wt.drewN t) hrt (by omega)
                have HAT' := Lib.hid (show Ro wt ba 3 (ints at5) from (bt.block ba HAQ.out.lt).trans HAQ.out)
                have HBT := Lib.hid (HBQ.out.trans (bt.mono HBQ.out.size))
                obtain ⟨atv, ctv, rfl⟩ := hrt.shape
                obtain ⟨rl, hrl⟩ : ∃ x, x = (nn (reach gc i)).length := ⟨_, rfl⟩
                have HWAY : Hid (∀ y, y < gc.length → pos gc y = pi → y ≠ i → (nn (reach gc i)).contains (y : Int) = true) := Lib.hid fun y hy h1 h2 => (reach_tells gc i _).2 ⟨y, rfl, pos_way hi hy (by rw [h1, HPI.out]) h2⟩
                rw [← hrl] at HIN ⊢
                have cai := HAT'.out.cell (ints_get (HAV.out i hi))
                rw [← HPI.out] at cai
                have HCAI : Hid (∀ t, (wt.drewN t).cell? ⟨ba, i, none⟩ = some (.int .i64 pi)) := Lib.hid fun _ => cai
                clear rt bt hrt hrln hrl HAQ HBQ HGQ HRQ cai
                go_wp2_with fail
                go_loopg [12] (gc.length - 0) (fun n v12 wq => ∃ (k m : Nat), v12 = .int .i64 k ∧ wq = wt.drewN m ∧ Hid (k ≤ gc.length ∧ gc.length - k = n))
                case atStart => exact ⟨0, 0, rfl, rfl, Lib.hid ⟨Nat.zero_le _, rfl⟩⟩
                case round =>
                  --BEGIN 5
                  obtain ⟨k, m, rfl, hwq, HKK⟩ := hrel
                  rename World => wq
                  have HWQ := Lib.hid hwq
                  by_cases hk : k < gc.length
                  · have hkk : (k : Int) < (gc.length : Int) := by omega
                    obtain ⟨pk, hpk⟩ : ∃ x, x = pos gc k := ⟨_, rfl⟩
                    have cam : ∀ t, (wq.drewN t).cell? ⟨ba, i, none⟩ = some (.int .i64 pi) := by rw [hwq]; exact HCAI.out
                    have ckm : ∀ t, (wq.drewN t).cell? ⟨ba, k, none⟩ = some (.int .i64 pk) := by rw [hwq, hpk]; exact fun _ => HAT'.out.cell (ints_get (HAV.out k hk))
                    have ca0 := cam 0
                    have ck0 := ckm 0
                    by_cases hpp : pk = pi
                    · subst hpp
                      have hqq : ((pk : Int) == (pk : Int)) = true := beq_self_eq_true _
                      by_cases hki : k = i
                      · subst hki
                        have hne : ((k : Int) == (k : Int)) = true := beq_self_eq_true _
                        have hne2 : ((k : Int) != (k : Int)) = false := by simp
                        clear hpk hwq
                        go_wp2_with fail
                        go_quiet (fail)
                        revert nq; intro m1
                        go_wp2_with fail
                        go_roundg (gc.length - (k + 1))
                        case measure => have := HKK.out.2; omega
                        case rel => exact ⟨k + 1, m + m1, by simp, by rw [HWQ.out, World.drewN_drewN], Lib.hid ⟨hk, rfl⟩⟩
                      · have hne : ((k : Int) == (i : Int)) = false := beq_eq_false_iff_ne.2 (by omega)
                        have hne2 : ((k : Int) != (i : Int)) = true := by simp; omega
                        have HE : Hid (∀ t, Calls Try.prog 19 #[.slice atv rl ctv, .int .i64 (k : Int)] (wq.drewN t) fun e w' => e = .returned (.bool true) ∧ w' = wq.drewN t) := Lib.hid fun t => by
                          have h9 := HIN.out (k : Int) (m + t)
                          rw [HWAY.out k hk hpk.symm hki, ← World.drewN_drewN, ← hwq] at h9
                          exact h9
                        clear hpk hwq
                        go_wp2_with fail
                        go_quiet (first | (go_at_call 19; refine Calls.quiet_of_same (HE.out _)) | fail)
                        revert nq; intro m1
                        go_wp2_with fail
                        go_roundg (gc.length - (k + 1))
                        case measure => have := HKK.out.2; omega
                        case rel => exact ⟨k + 1, m + m1, by simp, by rw [HWQ.out, World.drewN_drewN], Lib.hid ⟨hk, rfl⟩⟩
                    · have hne : ((pk : Int) == (pi : Int)) = false := beq_eq_false_iff_ne.2 (by omega)
                      clear hpk hwq
                      go_wp2_with fail
                      go_quiet (fail)
                      revert nq; intro m1
                      go_wp2_with fail
                      go_roundg (gc.length - (k + 1))
                      case measure => have := HKK.out.2; omega
                      case rel => exact ⟨k + 1, m + m1, by simp, by rw [HWQ.out, World.drewN_drewN], Lib.hid ⟨hk, rfl⟩⟩
                  · obtain rfl : k = gc.length := by have := HKK.out.1; omega
                    clear hwq
                    go_wp2_with fail
                    go_roundg (gc.length - (i + 1))
                    case measure => have := HI.out.2; omega
                    case rel => exact ⟨i + 1, by simp, Lib.hid ⟨hi, rfl⟩, Lib.hid (by rw [HWQ.out]; exact below_drewN HBT.out m)⟩
                  --END 5
              --END 4
          · obtain rfl : i = gc.length := by have := HI.out.1; omega
            have HB9 := Lib.hid (HB5.out.trans (HBI.out.mono HB5.out.size))
            go_wp2_with fail
            (with_reducible refine (fixed_any _).mono ?_); rintro e w9 ⟨rfl, b9⟩
            go_wp2_with fail
            go_ret
            exact ⟨ret_bool rfl, HB9.out.trans (b9.mono HB9.out.size)⟩
end Go.Proofs.Ytemdhbeegheefaa
