
/- The statements' Cut of records, walked. No condition. -/
import Derived.Test.YtemdhbeegheefaaGrFeed
import Derived.Test.YtemdhbeegheefaaGrRows
import Derived.BigRegion
namespace Go.Proofs.Ytemdhbeegheefaa
open Go.RowKit

theorem tySn : SlTy Try.prog 65 70 3 40 := SlTy.mk' (z := .agg #[.string ⟨#[]⟩, .bool false, .string ⟨#[]⟩]) Try.underlying65 (by kernel_rfl) rfl (by decide)
theorem tyFz : SlTy Try.prog 66 72 2 32 := SlTy.mk' (z := .agg #[.string ⟨#[]⟩, .string ⟨#[]⟩]) Try.underlying66 (by kernel_rfl) rfl (by decide)
theorem tyRec : SlTy Try.prog 37 68 3 64 := SlTy.mk' (z := .agg #[.string ⟨#[]⟩, .slice none 0 0, .slice none 0 0]) Try.underlying37 (by kernel_rfl) rfl (by decide)
theorem fzc_one {a b : ByteArray} : ∀ u ∈ [Value.string a, .string b], u.oneCell' = true := by
  intro u hu; simp at hu; rcases hu with rfl | rfl <;> rfl
theorem take_minR {α : Type} (l : List α) (n : Nat) : l.take (min (l.length : Int) (n : Int)).toNat = l.take n := by
  by_cases h : l.length ≤ n
  · rw [show (min (l.length : Int) (n : Int)).toNat = l.length by omega, List.take_of_length_le (Nat.le_refl _), List.take_of_length_le h]
  · rw [show (min (l.length : Int) (n : Int)).toNat = n by omega]

namespace Gr
def cutSn (s : Sn) : Sn := (s.1.take 120, s.2.1, s.2.2.take 120)
def cutFz (f : Fz) : Fz := (f.1.take 120, f.2.take 120)
def cutRc (x : Rcd) : Rcd := (x.1.take 120, (x.2.1.take 8).map cutSn, (x.2.2.take 6).map cutFz)
end Gr

/-- A record under way: its box, its reads, its writes. -/
structure Xb (W0 W : World) (bx : Nat) (rule : List UInt8) (vr vw : Value) (ls : List Sn) (fs : List Fz) : Prop where
  box : Ro W bx 68 [.string (S rule), vr, vw]
  rr : W.ownsRow (bx + 1) 70 3 vr ls.length (scs ls)
  rw : W.ownsRow (bx + 1) 72 2 vw fs.length (fzs fs)
  kw : Below W0.heap.size W0 W
  at0 : bx = W0.heap.size
theorem Xb.below {W0 W W' : World} {bx : Nat} {rule : List UInt8} {vr vw : Value} {ls : List Sn} {fs : List Fz} (h : Xb W0 W bx rule vr vw ls fs) (hb : Below W.heap.size W W') : Xb W0 W' bx rule vr vw ls fs :=
  ⟨h.box.kw (Kw.of_below hb) (by have := h.box.lt; omega), own_below h.rr (own_under h.rr) hb, own_below h.rw (own_under h.rw) hb, h.kw.trans (hb.mono h.kw.size), h.at0⟩
theorem Xb.made (W0 : World) (rule : List UInt8) : Xb W0 (W0.alloc (.cells #[.string (S rule), .slice none 0 0, .slice none 0 0] 68)) W0.heap.size rule (.slice none 0 0) (.slice none 0 0) [] [] :=
  ⟨heap_alloc_new W0 _, World.ownsRow_nil _ _ _ _, World.ownsRow_nil _ _ _ _, (Below.refl _ _).alloc (Nat.le_refl _) _, rfl⟩
theorem Xb.read {W0 W w9 : World} {bx : Nat} {rule : List UInt8} {vr vw v9 : Value} {ls : List Sn} {fs : List Fz} (h : Xb W0 W bx rule vr vw ls fs) (s : Sn) (hk : Kw W w9 fun j => vr.ownBlock = some j)
    (ho : w9.ownsRow (bx + 1) 70 3 v9 (ls.length + 1) (scs ls ++ sc s)) : Xb W0 (w9.setCell ⟨bx, 1, none⟩ v9) bx rule v9 vw (ls ++ [s]) fs := by
  have hb9 : Ro w9 bx 68 [.string (S rule), vr, vw] := h.box.kw hk (h.box.ne_own (by decide) h.rr)
  have hw9 := hk.row h.rw fun g hg e => own_apart2 h.rr h.rw (by decide) g e hg
  have hset := Kw.set w9 bx 1 v9
  refine ⟨hb9.set 1 v9, ?_, hset.row hw9 fun g hg e => hb9.ne_own (by decide) hw9 (by rw [hg, e]), ?_, h.at0⟩
  · rw [List.length_append, List.length_singleton, scs_snoc]
    exact hset.row ho fun g hg e => hb9.ne_own (by decide) ho (by rw [hg, e])
  · have h1 := h.kw.trans (hk.below (B := W0.heap.size) (fun j e => by have := (h.rr.lt j e).1; have := h.at0; omega) h.kw.size)
    exact h1.trans (hset.below (fun j e => by have := h.at0; omega) h1.size)
theorem Xb.write {W0 W w9 : World} {bx : Nat} {rule : List UInt8} {vr vw v9 : Value} {ls : List Sn} {fs : List Fz} (h : Xb W0 W bx rule vr vw ls fs) (f : Fz) (hk : Kw W w9 fun j => vw.ownBlock = some j)
    (ho : w9.ownsRow (bx + 1) 72 2 v9 (fs.length + 1) (fzs fs ++ fzc f)) : Xb W0 (w9.setCell ⟨bx, 2, none⟩ v9) bx rule vr v9 ls (fs ++ [f]) := by
  have hb9 : Ro w9 bx 68 [.string (S rule), vr, vw] := h.box.kw hk (h.box.ne_own (by decide) h.rw)
  have hr9 := hk.row h.rr fun g hg e => own_apart2 h.rw h.rr (by decide) g e hg
  have hset := Kw.set w9 bx 2 v9
  refine ⟨hb9.set 2 v9, hset.row hr9 fun g hg e => hb9.ne_own (by decide) hr9 (by rw [hg, e]), ?_, ?_, h.at0⟩
  · rw [List.length_append, List.length_singleton, fzs_snoc]
    exact hset.row ho fun g hg e => hb9.ne_own (by decide) ho (by rw [hg, e])
  · have h1 := h.kw.trans (hk.below (B := W0.heap.size) (fun j e => by have := (h.rw.lt j e).1; have := h.at0; omega) h.kw.size)
    exact h1.trans (hset.below (fun j e => by have := h.at0; omega) h1.size)

set_option maxRecDepth 20000 in
set_option maxHeartbeats 16000000 in
/-- 'Cut': at most eight records, cut down. -/
theorem cutr_any (v : Value) (l : List Rcd) (w : World) (h : Rr w v l) (hl : l.length ≤ 9223372036854775807)
    (hin : ∀ x ∈ l, x.1.length ≤ 9223372036854775807 ∧ x.2.1.length ≤ 9223372036854775807 ∧ x.2.2.length ≤ 9223372036854775807 ∧ (∀ s ∈ x.2.1, s.1.length ≤ 9223372036854775807 ∧ s.2.2.length ≤ 9223372036854775807) ∧ ∀ f ∈ x.2.2, f.1.length ≤ 9223372036854775807 ∧ f.2.length ≤ 9223372036854775807) :
    Calls Try.prog 20 #[v, .int .i64 8] w fun e w' => ∃ v', e = .returned v' ∧ Rr w' v' ((l.take 8).map Gr.cutRc) ∧ Below w.heap.size w w' := by
  have H := Lib.hid h
  have HIN := Lib.hid hin
  obtain ⟨a0, c0, rfl⟩ := h.shape
  clear h hin
  go_enter Try.func20, Try.ntmps20
  have HO0 : Hid (OwR (w.alloc (.cells #[] 68)) w.heap.size 68 (.slice (some ⟨w.heap.size, 0, none⟩) 0 0) ((l.take 0).map Gr.cutRc)) := Lib.hid (OwR.made w w.heap.size _ (Nat.le_refl _))
  have HB0 := Lib.hid ((Below.refl w.heap.size w).alloc (Nat.le_refl _) (.cells #[] 68))
  go_wp2_with fail
  go_loopg [5, 6] (l.length - 0) (fun n v5 v6 wr => ∃ (i : Nat) (v : Value), v = v5 ∧ v6 = .int .i64 i ∧ Hid (i ≤ l.length ∧ i ≤ 8 ∧ l.length - i = n) ∧ Hid (OwR wr w.heap.size 68 v ((l.take i).map Gr.cutRc)) ∧ Hid (Below w.heap.size w wr))
  case atStart => exact ⟨0, _, rfl, rfl, Lib.hid ⟨Nat.zero_le _, Nat.zero_le _, rfl⟩, HO0, HB0⟩
  case round =>
    clear HO0 HB0
    obtain ⟨i, v, rfl, rfl, HI, HO, HB⟩ := hrel
    by_cases hi : i < l.length
    · have hii : (i : Int) < (l.length : Int) := by omega
      by_cases hi8 : i < 8
      · have hii8 : (i : Int) < 8 := by omega
        obtain ⟨x, hx⟩ : ∃ x, x = l[i] := ⟨_, rfl⟩
        obtain ⟨b, o, ar, cr, aw, cw, rfl, HX1, HX2, HX3, HXR, HXW⟩ := H.out.cells hi
        rw [← hx] at HX1 HX2 HX3 HXR HXW
        have HXI : Hid (l.take (i + 1) = l.take i ++ [x]) := Lib.hid (by rw [hx]; exact take_snoc l i hi)
        have hxl := HIN.out x (by rw [hx]; exact List.getElem_mem hi)
        clear hx
        obtain ⟨xn, xr, xw⟩ := x
        have hxn : xn.length ≤ 9223372036854775807 := hxl.1
        have hxr : xr.length ≤ 9223372036854775807 := hxl.2.1
        have hxw : xw.length ≤ 9223372036854775807 := hxl.2.2.1
        have HXS := Lib.hid hxl.2.2.2.1
        have HXF := Lib.hid hxl.2.2.2.2
        clear hxl
        have x1 := HX1.out _ HB.out
        have z1 := HX1.out _ (HB.out.alloc HB.out.size (.cells #[.string (S (xn.take 120)), .slice none 0 0, .slice none 0 0] 68))
        have z0 := HX1.out _ (HB.out.alloc HB.out.size (.cells #[.string (S []), .slice none 0 0, .slice none 0 0] 68))
        have hm := take_minR xn 120
        simp only [show ((120 : Nat) : Int) = 120 from rfl] at hm
        have hm0 : (0 : Int) ≤ min (xn.length : Int) 120 := by omega
        have hm1 : min (xn.length : Int) 120 ≤ (xn.length : Int) := by omega
        go_wp2_with fail
        go_region
        obtain ⟨wf, hwf⟩ : ∃ wf, wf = (wr.alloc (.cells #[.string (S (xn.take 120)), .slice none 0 0, .slice none 0 0] 68)).drew := ⟨_, rfl⟩
        obtain ⟨bx, hbx⟩ : ∃ bx, bx = wr.heap.size := ⟨_, rfl⟩
        have HXB : Hid (Xb wr wf bx (xn.take 120) (.slice none 0 0) (.slice none 0 0) ((xr.take 0).map Gr.cutSn) []) := Lib.hid (by
          rw [hwf, hbx]
          exact (Xb.made wr (xn.take 120)).below (below_drewN (Below.refl _ _) 1))
        rw [← hwf, ← hbx]
        have HBXR := Lib.hid hbx
        clear hwf hbx x1 z1 z0 hm hm0 hm1
        go_upto_block 2 with fail
        go_cut [8] (fun _ w' => ∃ vr : Value, Hid (Xb wr w' bx (xn.take 120) vr (.slice none 0 0) ((xr.take 8).map Gr.cutSn) []))
        case first =>
          go_wp2_with fail
          go_loopg [8] (xr.length - 0) (fun n v8 wq => ∃ (k : Nat) (vr : Value), v8 = .int .i64 k ∧ Hid (k ≤ xr.length ∧ k ≤ 8 ∧ xr.length - k = n) ∧ Hid (Xb wr wq bx (xn.take 120) vr (.slice none 0 0) ((xr.take k).map Gr.cutSn) []))
          case atStart => exact ⟨0, _, rfl, Lib.hid ⟨Nat.zero_le _, Nat.zero_le _, rfl⟩, HXB⟩
          case round =>
            clear HXB
            obtain ⟨k, vr, rfl, HK, HX⟩ := hrel
            rename World => wq
            have HWQ : Hid (Below w.heap.size w wq) := Lib.hid (HB.out.trans (HX.out.kw.mono HB.out.size))
            have xx := HX2.out _ HWQ.out
            by_cases hk : k < xr.length
            · have hkk : (k : Int) < (xr.length : Int) := by omega
              by_cases hk8 : k < 8
              · have hkk8 : (k : Int) < 8 := by omega
                obtain ⟨b2, o2, rfl, c1, c2, c3, hb2⟩ := HXR.out.at hk
                obtain ⟨s, hs⟩ : ∃ s, s = xr[k] := ⟨_, rfl⟩
                have HTK : Hid (xr.take (k + 1) = xr.take k ++ [s]) := Lib.hid (by rw [hs]; exact take_snoc xr k hk)
                have hsl := HXS.out s (by rw [hs]; exact List.getElem_mem hk)
                rw [← hs] at c1 c2 c3
                clear hs
                obtain ⟨s1, s2, s3⟩ := s
                have d1 := (HWQ.out.cell hb2).trans c1
                have d2 := (HWQ.out.cell hb2).trans c2
                have d3 := (HWQ.out.cell hb2).trans c3
                have hs1 : s1.length ≤ 9223372036854775807 := hsl.1
                have hm1 := take_minR s1 120
                simp only [show ((120 : Nat) : Int) = 120 from rfl] at hm1
                have hp1 : (0 : Int) ≤ min (s1.length : Int) 120 := by omega
                have hq1 : min (s1.length : Int) 120 ≤ (s1.length : Int) := by omega
                have hs2 : s3.length ≤ 9223372036854775807 := hsl.2
                have hm2 := take_minR s3 120
                simp only [show ((120 : Nat) : Int) = 120 from rfl] at hm2
                have hp2 : (0 : Int) ≤ min (s3.length : Int) 120 := by omega
                have hq2 : min (s3.length : Int) 120 ≤ (s3.length : Int) := by omega
                clear c1 c2 c3 hsl
                obtain ⟨LS, hLS⟩ : ∃ LS, LS = (xr.take k).map Gr.cutSn := ⟨_, rfl⟩
                have hll : LS.length ≤ 8 := by rw [hLS, List.length_map, List.length_take]; omega
                have HLS := Lib.hid hLS
                rw [← hLS] at HX
                clear hLS
                obtain ⟨W1, hW1⟩ : ∃ W1, W1 = wq.alloc (.cells #[.string (S s1), .bool s2, .string (S s3)] 70) := ⟨_, rfl⟩
                obtain ⟨br, hbr⟩ : ∃ br, br = wq.heap.size := ⟨_, rfl⟩
                have hba : Below wq.heap.size wq W1 := by rw [hW1]; exact (Below.refl _ _).alloc (Nat.le_refl _) _
                have HRB : Hid (Ro W1 br 70 [.string (S s1), .bool s2, .string (S s3)]) := Lib.hid (by rw [hW1, hbr]; exact heap_alloc_new wq _)
                have HX1 := Lib.hid (HX.out.below hba)
                have HNE : Hid (vr.ownBlock ≠ some br) := Lib.hid (fun e => by have := (HX.out.rr.lt _ e).2; omega)
                have HBX : Hid (br ≠ bx) := Lib.hid (by have := HX.out.box.lt; omega)
                obtain ⟨av, cv, hvv⟩ := own_shape HX1.out.rr
                subst hvv
                go_upto_region 10 with fail
                rw [← hW1, ← hbr]
                clear hW1 hbr hba d1 d2 d3 xx
                have e0 := HRB.out.cell (i := 0) rfl
                have e1 := HRB.out.cell (i := 1) rfl
                have e2 := HRB.out.cell (i := 2) rfl
                have cx := HX1.out.box.cell (i := 1) rfl
                have hka := Kw.alloc W1 (.cells #[.string (S (s1.take 120)), .bool s2, .string (S (s3.take 120))] 70) (fun _ => False)
                have ea0 := (HRB.out.kw hka id).cell (i := 0) rfl
                have ea1 := (HRB.out.kw hka id).cell (i := 1) rfl
                have ea2 := (HRB.out.kw hka id).cell (i := 2) rfl
                have cxa := (HX1.out.box.kw hka id).cell (i := 1) rfl
                clear hka
                refine Code.wp_mono NoPanic.imp ?_
                refine wp_region_held_drew (S := fun w' => w'.cell? ⟨br, 0, none⟩ = some (.string (S s1)) ∧ w'.cell? ⟨br, 1, none⟩ = some (.bool s2) ∧ w'.cell? ⟨br, 2, none⟩ = some (.string (S s3))) (by kernel_rfl) ⟨e0, e1, e2⟩ (fun hHeld => ?_)
                (refine takeL 0 rfl (by kernel_rfl) (by kernel_rfl) (by kernel_rfl) (fun _ _ _ h => h) hHeld rfl (by intro w hSw; go_simp; try rfl) ?_); (simp only [Act.put, List.setIfInBounds_toArray, List.set_cons_zero, List.set_cons_succ])
                (refine takeL 2 rfl (by kernel_rfl) (by kernel_rfl) (by kernel_rfl) (fun _ _ _ h => h) hHeld rfl (by intro w hSw; go_simp; try rfl) ?_); (simp only [Act.put, List.setIfInBounds_toArray, List.set_cons_zero, List.set_cons_succ])
                (refine takeL 3 rfl (by kernel_rfl) (by kernel_rfl) (by kernel_rfl) (fun _ _ _ h => h) hHeld rfl (by intro w hSw; go_simp; try rfl) ?_); (simp only [Act.put, List.setIfInBounds_toArray, List.set_cons_zero, List.set_cons_succ])
                (refine takeL 4 rfl (by kernel_rfl) (by kernel_rfl) (by kernel_rfl) (fun _ _ _ h => h) hHeld rfl (by intro w hSw; go_simp; try rfl) ?_); (simp only [Act.put, List.setIfInBounds_toArray, List.set_cons_zero, List.set_cons_succ])
                (refine takeL 5 rfl (by kernel_rfl) (by kernel_rfl) (by kernel_rfl) (fun _ _ _ h => h) hHeld rfl (by intro w hSw; go_simp; try rfl) ?_); (simp only [Act.put, List.setIfInBounds_toArray, List.set_cons_zero, List.set_cons_succ])
                (refine takeL 6 rfl (by kernel_rfl) (by kernel_rfl) (by kernel_rfl) (fun _ _ _ h => h) hHeld rfl (by intro w hSw; go_simp; try rfl) ?_); (simp only [Act.put, List.setIfInBounds_toArray, List.set_cons_zero, List.set_cons_succ])
                (refine takeL 7 rfl (by kernel_rfl) (by kernel_rfl) (by kernel_rfl) (fun _ _ _ h => h) hHeld rfl (by intro w hSw; go_simp; try rfl) ?_); (simp only [Act.put, List.setIfInBounds_toArray, List.set_cons_zero, List.set_cons_succ])
                (refine takeL 8 rfl (by kernel_rfl) (by kernel_rfl) (by kernel_rfl) (fun _ _ _ h => h) hHeld rfl (by intro w hSw; go_simp; try rfl) ?_); (simp only [Act.put, List.setIfInBounds_toArray, List.set_cons_zero, List.set_cons_succ])
                (refine takeL 9 rfl (by kernel_rfl) (by kernel_rfl) (by kernel_rfl) (fun _ _ _ h => h) hHeld rfl (by intro w hSw; go_simp; try rfl) ?_); (simp only [Act.put, List.setIfInBounds_toArray, List.set_cons_zero, List.set_cons_succ])
                (refine takeL 10 rfl (by kernel_rfl) (by kernel_rfl) (by kernel_rfl) (fun _ _ _ h => h) hHeld rfl (by intro w hSw; go_simp; try rfl) ?_); (simp only [Act.put, List.setIfInBounds_toArray, List.set_cons_zero, List.set_cons_succ])
                (refine takeL 11 rfl (by kernel_rfl) (by kernel_rfl) (by kernel_rfl) (fun _ _ _ h => h) hHeld rfl (by intro w hSw; go_simp; try rfl) ?_); (simp only [Act.put, List.setIfInBounds_toArray, List.set_cons_zero, List.set_cons_succ])
                (refine takeL 12 rfl (by kernel_rfl) (by kernel_rfl) (by kernel_rfl) (fun _ _ _ h => h) hHeld rfl (by intro w hSw; go_simp; try rfl) ?_); (simp only [Act.put, List.setIfInBounds_toArray, List.set_cons_zero, List.set_cons_succ])
                (refine takeL 13 rfl (by kernel_rfl) (by kernel_rfl) (by kernel_rfl) (fun _ _ _ h => h) hHeld rfl (by intro w hSw; go_simp; try rfl) ?_); (simp only [Act.put, List.setIfInBounds_toArray, List.set_cons_zero, List.set_cons_succ])
                (refine takeL 14 rfl (by kernel_rfl) (by kernel_rfl) (by kernel_rfl) (fun _ _ _ h => h) hHeld rfl (by intro w hSw; go_simp; try rfl) ?_); (simp only [Act.put, List.setIfInBounds_toArray, List.set_cons_zero, List.set_cons_succ])
                (refine takeL 15 rfl (by kernel_rfl) (by kernel_rfl) (by kernel_rfl) (fun _ _ _ h => h) hHeld rfl (by intro w hSw; go_simp; try rfl) ?_); (simp only [Act.put, List.setIfInBounds_toArray, List.set_cons_zero, List.set_cons_succ])
                (refine takeL 16 rfl (by kernel_rfl) (by kernel_rfl) (by kernel_rfl) (fun _ _ _ h => h) hHeld rfl (by intro w hSw; go_simp; try rfl) ?_); (simp only [Act.put, List.setIfInBounds_toArray, List.set_cons_zero, List.set_cons_succ])
                (refine takeL 17 rfl (by kernel_rfl) (by kernel_rfl) (by kernel_rfl) (fun _ _ _ h => h) hHeld rfl (by intro w hSw; go_simp; try rfl) ?_); (simp only [Act.put, List.setIfInBounds_toArray, List.set_cons_zero, List.set_cons_succ])
                (refine takeL 18 rfl (by kernel_rfl) (by kernel_rfl) (by kernel_rfl) (fun _ _ _ h => h) hHeld rfl (by intro w hSw; go_simp; try rfl) ?_); (simp only [Act.put, List.setIfInBounds_toArray, List.set_cons_zero, List.set_cons_succ])
                refine wpAnyH_ready (rs := [1, 19]) (by kernel_rfl) (by simp) ?_
                refine consL rfl (fun K hK => ?_) (consL rfl (fun K hK => ?_) AllReadyH.nil)
                · go_simp
                  refine hK.out _ _ ?_ (fun hHeld => ?_)
                  · exact ⟨e0, e1, e2⟩
                  clear hK K
                  try simp only [Act.put, List.setIfInBounds_toArray, List.set_cons_zero, List.set_cons_succ]
                  refine wpAnyH_ready (rs := [19]) (by kernel_rfl) (by simp) ?_
                  refine consL rfl (fun K hK => ?_) AllReadyH.nil
                  go_simp
                  refine hK.out _ _ ?_ (fun hHeld => ?_)
                  · exact ⟨ea0, ea1, ea2⟩
                  clear hK K
                  try simp only [Act.put, List.setIfInBounds_toArray, List.set_cons_zero, List.set_cons_succ]
                  refine wpAnyH_ready (rs := [20]) (by kernel_rfl) (by simp) ?_
                  refine consL rfl (fun K hK => ?_) AllReadyH.nil
                  refine step_grow tySn (by rfl) _ _ (by rfl) (bx + 1) (w0 := W1.drew) HX1.out.rr (by rfl) (by rfl) rfl (news := [.string (S (s1.take 120)), .bool s2, .string (S (s3.take 120))]) rfl (by rfl) sc_one (by omega) (by omega) (by have := HX1.out.box.lt; exact this) ?_
                  intro gg cap w9 ho9 hg9 _ _
                  have k3 : Kw W1 w9 (fun j => (Value.slice av LS.length cv).ownBlock = some j) := (Kw.drewN W1 1 (fun j => (Value.slice av LS.length cv).ownBlock = some j)).trans (Kw.of_grown hg9) fun _ _ h => h
                  have HK3 := Lib.hid k3
                  have HO9 := Lib.hid ho9
                  clear ho9 hg9
                  have rb9 := HRB.out.kw k3 HNE.out
                  have f0 := rb9.cell (i := 0) rfl
                  have f1 := rb9.cell (i := 1) rfl
                  have f2 := rb9.cell (i := 2) rfl
                  have bx9 := HX1.out.box.kw k3 (HX1.out.box.ne_own (by decide) HX1.out.rr)
                  have k4 := bx9.cell (i := 1) rfl
                  have kf := bx9.free 1
                  have rb10 := rb9.far HBX.out 1 (.slice (some ⟨gg, 0, none⟩) (LS.length + 1) cap)
                  have g0 := rb10.cell (i := 0) rfl
                  have g1 := rb10.cell (i := 1) rfl
                  have g2 := rb10.cell (i := 2) rfl
                  clear k3 rb9 rb10 bx9
                  refine hK.out _ _ ?_ (fun hHeld => ?_)
                  · exact ⟨f0, f1, f2⟩
                  clear hK K
                  try simp only [Act.put, List.setIfInBounds_toArray, List.set_cons_zero, List.set_cons_succ]
                  (refine takeL 21 rfl (by kernel_rfl) (by kernel_rfl) (by kernel_rfl) (fun _ _ _ h => h) hHeld rfl (by intro w hSw; go_simp; try rfl) ?_); (simp only [Act.put, List.setIfInBounds_toArray, List.set_cons_zero, List.set_cons_succ])
                  refine wpAnyH_ready (rs := [22]) (by kernel_rfl) (by simp) ?_
                  refine consL rfl (fun K hK => ?_) AllReadyH.nil
                  go_simp
                  refine hK.out _ _ ?_ (fun hHeld => ?_)
                  · exact ⟨g0, g1, g2⟩
                  clear hK K
                  refine wpAnyH_done (by kernel_rfl) ?_ _
                  refine NoPanic.normal ?_
                  go_wp2_with fail
                  go_roundg (xr.length - (k + 1))
                  case measure => have := HK.out.2.2; omega
                  case rel => exact ⟨k + 1, _, by simp, Lib.hid ⟨hk, hk8, rfl⟩, Lib.hid (by rw [HTK.out, List.map_append, ← HLS.out]; exact HX1.out.read (Gr.cutSn (s1, s2, s3)) HK3.out HO9.out)⟩
                · go_simp
                  refine hK.out _ _ ?_ (fun hHeld => ?_)
                  · exact ⟨ea0, ea1, ea2⟩
                  clear hK K
                  try simp only [Act.put, List.setIfInBounds_toArray, List.set_cons_zero, List.set_cons_succ]
                  refine wpAnyH_ready (rs := [1]) (by kernel_rfl) (by simp) ?_
                  refine consL rfl (fun K hK => ?_) AllReadyH.nil
                  go_simp
                  refine hK.out _ _ ?_ (fun hHeld => ?_)
                  · exact ⟨ea0, ea1, ea2⟩
                  clear hK K
                  try simp only [Act.put, List.setIfInBounds_toArray, List.set_cons_zero, List.set_cons_succ]
                  refine wpAnyH_ready (rs := [20]) (by kernel_rfl) (by simp) ?_
                  refine consL rfl (fun K hK => ?_) AllReadyH.nil
                  refine step_grow tySn (by rfl) _ _ (by rfl) (bx + 1) (w0 := W1.drew) HX1.out.rr (by rfl) (by rfl) rfl (news := [.string (S (s1.take 120)), .bool s2, .string (S (s3.take 120))]) rfl (by rfl) sc_one (by omega) (by omega) (by have := HX1.out.box.lt; exact this) ?_
                  intro gg cap w9 ho9 hg9 _ _
                  have k3 : Kw W1 w9 (fun j => (Value.slice av LS.length cv).ownBlock = some j) := (Kw.drewN W1 1 (fun j => (Value.slice av LS.length cv).ownBlock = some j)).trans (Kw.of_grown hg9) fun _ _ h => h
                  have HK3 := Lib.hid k3
                  have HO9 := Lib.hid ho9
                  clear ho9 hg9
                  have rb9 := HRB.out.kw k3 HNE.out
                  have f0 := rb9.cell (i := 0) rfl
                  have f1 := rb9.cell (i := 1) rfl
                  have f2 := rb9.cell (i := 2) rfl
                  have bx9 := HX1.out.box.kw k3 (HX1.out.box.ne_own (by decide) HX1.out.rr)
                  have k4 := bx9.cell (i := 1) rfl
                  have kf := bx9.free 1
                  have rb10 := rb9.far HBX.out 1 (.slice (some ⟨gg, 0, none⟩) (LS.length + 1) cap)
                  have g0 := rb10.cell (i := 0) rfl
                  have g1 := rb10.cell (i := 1) rfl
                  have g2 := rb10.cell (i := 2) rfl
                  clear k3 rb9 rb10 bx9
                  refine hK.out _ _ ?_ (fun hHeld => ?_)
                  · exact ⟨f0, f1, f2⟩
                  clear hK K
                  try simp only [Act.put, List.setIfInBounds_toArray, List.set_cons_zero, List.set_cons_succ]
                  (refine takeL 21 rfl (by kernel_rfl) (by kernel_rfl) (by kernel_rfl) (fun _ _ _ h => h) hHeld rfl (by intro w hSw; go_simp; try rfl) ?_); (simp only [Act.put, List.setIfInBounds_toArray, List.set_cons_zero, List.set_cons_succ])
                  refine wpAnyH_ready (rs := [22]) (by kernel_rfl) (by simp) ?_
                  refine consL rfl (fun K hK => ?_) AllReadyH.nil
                  go_simp
                  refine hK.out _ _ ?_ (fun hHeld => ?_)
                  · exact ⟨g0, g1, g2⟩
                  clear hK K
                  refine wpAnyH_done (by kernel_rfl) ?_ _
                  refine NoPanic.normal ?_
                  go_wp2_with fail
                  go_roundg (xr.length - (k + 1))
                  case measure => have := HK.out.2.2; omega
                  case rel => exact ⟨k + 1, _, by simp, Lib.hid ⟨hk, hk8, rfl⟩, Lib.hid (by rw [HTK.out, List.map_append, ← HLS.out]; exact HX1.out.read (Gr.cutSn (s1, s2, s3)) HK3.out HO9.out)⟩
              · have hkk8 : ¬ (k : Int) < 8 := by omega
                have HTK : Hid (xr.take k = xr.take 8) := Lib.hid (by rw [show k = 8 by have := HK.out.2.1; omega])
                go_wp2_with fail
                go_meet
                exact ⟨_, by rw [← HTK.out]; exact HX⟩
            · have hkk : ¬ (k : Int) < (xr.length : Int) := by omega
              have HTK : Hid (xr.take k = xr.take 8) := Lib.hid (by rw [List.take_of_length_le (by omega : xr.length ≤ k), List.take_of_length_le (by have := HK.out.2.1; omega : xr.length ≤ 8)])
              go_wp2_with fail
              go_meet
              exact ⟨_, by rw [← HTK.out]; exact HX⟩
        case rest =>
          obtain ⟨vr, HX⟩ := hcut
          rename World => wg
          have HXB : Hid (Xb wr wg bx (xn.take 120) vr (.slice none 0 0) ((xr.take 8).map Gr.cutSn) ((xw.take 0).map Gr.cutFz)) := HX
          clear HX
          go_upto_block 4 with fail
          go_cut [10] (fun _ w' => ∃ vw : Value, Hid (Xb wr w' bx (xn.take 120) vr vw ((xr.take 8).map Gr.cutSn) ((xw.take 6).map Gr.cutFz)))
          case first =>
            go_wp2_with fail
            go_loopg [10] (xw.length - 0) (fun n v10 wq => ∃ (k : Nat) (vw : Value), v10 = .int .i64 k ∧ Hid (k ≤ xw.length ∧ k ≤ 6 ∧ xw.length - k = n) ∧ Hid (Xb wr wq bx (xn.take 120) vr vw ((xr.take 8).map Gr.cutSn) ((xw.take k).map Gr.cutFz)))
            case atStart => exact ⟨0, _, rfl, Lib.hid ⟨Nat.zero_le _, Nat.zero_le _, rfl⟩, HXB⟩
            case round =>
              clear HXB
              obtain ⟨k, vw, rfl, HK, HX⟩ := hrel
              rename World => wq
              have HWQ : Hid (Below w.heap.size w wq) := Lib.hid (HB.out.trans (HX.out.kw.mono HB.out.size))
              have xx := HX3.out _ HWQ.out
              by_cases hk : k < xw.length
              · have hkk : (k : Int) < (xw.length : Int) := by omega
                by_cases hk8 : k < 6
                · have hkk8 : (k : Int) < 6 := by omega
                  obtain ⟨b2, o2, rfl, c1, c2, hb2⟩ := HXW.out.at hk
                  obtain ⟨s, hs⟩ : ∃ s, s = xw[k] := ⟨_, rfl⟩
                  have HTK : Hid (xw.take (k + 1) = xw.take k ++ [s]) := Lib.hid (by rw [hs]; exact take_snoc xw k hk)
                  have hsl := HXF.out s (by rw [hs]; exact List.getElem_mem hk)
                  rw [← hs] at c1 c2
                  clear hs
                  obtain ⟨s1, s2⟩ := s
                  have d1 := (HWQ.out.cell hb2).trans c1
                  have d2 := (HWQ.out.cell hb2).trans c2
                  have hs1 : s1.length ≤ 9223372036854775807 := hsl.1
                  have hm1 := take_minR s1 120
                  simp only [show ((120 : Nat) : Int) = 120 from rfl] at hm1
                  have hp1 : (0 : Int) ≤ min (s1.length : Int) 120 := by omega
                  have hq1 : min (s1.length : Int) 120 ≤ (s1.length : Int) := by omega
                  have hs2 : s2.length ≤ 9223372036854775807 := hsl.2
                  have hm2 := take_minR s2 120
                  simp only [show ((120 : Nat) : Int) = 120 from rfl] at hm2
                  have hp2 : (0 : Int) ≤ min (s2.length : Int) 120 := by omega
                  have hq2 : min (s2.length : Int) 120 ≤ (s2.length : Int) := by omega
                  clear c1 c2 hsl
                  obtain ⟨LS, hLS⟩ : ∃ LS, LS = (xw.take k).map Gr.cutFz := ⟨_, rfl⟩
                  have hll : LS.length ≤ 8 := by rw [hLS, List.length_map, List.length_take]; omega
                  have HLS := Lib.hid hLS
                  rw [← hLS] at HX
                  clear hLS
                  obtain ⟨W1, hW1⟩ : ∃ W1, W1 = wq.alloc (.cells #[.string (S s1), .string (S s2)] 72) := ⟨_, rfl⟩
                  obtain ⟨br, hbr⟩ : ∃ br, br = wq.heap.size := ⟨_, rfl⟩
                  have hba : Below wq.heap.size wq W1 := by rw [hW1]; exact (Below.refl _ _).alloc (Nat.le_refl _) _
                  have HRB : Hid (Ro W1 br 72 [.string (S s1), .string (S s2)]) := Lib.hid (by rw [hW1, hbr]; exact heap_alloc_new wq _)
                  have HX1 := Lib.hid (HX.out.below hba)
                  have HNE : Hid (vw.ownBlock ≠ some br) := Lib.hid (fun e => by have := (HX.out.rw.lt _ e).2; omega)
                  have HBX : Hid (br ≠ bx) := Lib.hid (by have := HX.out.box.lt; omega)
                  obtain ⟨av, cv, hvv⟩ := own_shape HX1.out.rw
                  subst hvv
                  go_upto_region 15 with fail
                  rw [← hW1, ← hbr]
                  clear hW1 hbr hba d1 d2 xx
                  have e0 := HRB.out.cell (i := 0) rfl
                  have e1 := HRB.out.cell (i := 1) rfl
                  have cx := HX1.out.box.cell (i := 2) rfl
                  have hka := Kw.alloc W1 (.cells #[.string (S (s1.take 120)), .string (S (s2.take 120))] 72) (fun _ => False)
                  have ea0 := (HRB.out.kw hka id).cell (i := 0) rfl
                  have ea1 := (HRB.out.kw hka id).cell (i := 1) rfl
                  have cxa := (HX1.out.box.kw hka id).cell (i := 2) rfl
                  clear hka
                  refine Code.wp_mono NoPanic.imp ?_
                  refine wp_region_held_drew (S := fun w' => w'.cell? ⟨br, 0, none⟩ = some (.string (S s1)) ∧ w'.cell? ⟨br, 1, none⟩ = some (.string (S s2))) (by kernel_rfl) ⟨e0, e1⟩ (fun hHeld => ?_)
                  (refine takeL 0 rfl (by kernel_rfl) (by kernel_rfl) (by kernel_rfl) (fun _ _ _ h => h) hHeld rfl (by intro w hSw; go_simp; try rfl) ?_); (simp only [Act.put, List.setIfInBounds_toArray, List.set_cons_zero, List.set_cons_succ])
                  (refine takeL 2 rfl (by kernel_rfl) (by kernel_rfl) (by kernel_rfl) (fun _ _ _ h => h) hHeld rfl (by intro w hSw; go_simp; try rfl) ?_); (simp only [Act.put, List.setIfInBounds_toArray, List.set_cons_zero, List.set_cons_succ])
                  (refine takeL 3 rfl (by kernel_rfl) (by kernel_rfl) (by kernel_rfl) (fun _ _ _ h => h) hHeld rfl (by intro w hSw; go_simp; try rfl) ?_); (simp only [Act.put, List.setIfInBounds_toArray, List.set_cons_zero, List.set_cons_succ])
                  (refine takeL 4 rfl (by kernel_rfl) (by kernel_rfl) (by kernel_rfl) (fun _ _ _ h => h) hHeld rfl (by intro w hSw; go_simp; try rfl) ?_); (simp only [Act.put, List.setIfInBounds_toArray, List.set_cons_zero, List.set_cons_succ])
                  (refine takeL 5 rfl (by kernel_rfl) (by kernel_rfl) (by kernel_rfl) (fun _ _ _ h => h) hHeld rfl (by intro w hSw; go_simp; try rfl) ?_); (simp only [Act.put, List.setIfInBounds_toArray, List.set_cons_zero, List.set_cons_succ])
                  (refine takeL 6 rfl (by kernel_rfl) (by kernel_rfl) (by kernel_rfl) (fun _ _ _ h => h) hHeld rfl (by intro w hSw; go_simp; try rfl) ?_); (simp only [Act.put, List.setIfInBounds_toArray, List.set_cons_zero, List.set_cons_succ])
                  (refine takeL 7 rfl (by kernel_rfl) (by kernel_rfl) (by kernel_rfl) (fun _ _ _ h => h) hHeld rfl (by intro w hSw; go_simp; try rfl) ?_); (simp only [Act.put, List.setIfInBounds_toArray, List.set_cons_zero, List.set_cons_succ])
                  (refine takeL 8 rfl (by kernel_rfl) (by kernel_rfl) (by kernel_rfl) (fun _ _ _ h => h) hHeld rfl (by intro w hSw; go_simp; try rfl) ?_); (simp only [Act.put, List.setIfInBounds_toArray, List.set_cons_zero, List.set_cons_succ])
                  (refine takeL 9 rfl (by kernel_rfl) (by kernel_rfl) (by kernel_rfl) (fun _ _ _ h => h) hHeld rfl (by intro w hSw; go_simp; try rfl) ?_); (simp only [Act.put, List.setIfInBounds_toArray, List.set_cons_zero, List.set_cons_succ])
                  (refine takeL 10 rfl (by kernel_rfl) (by kernel_rfl) (by kernel_rfl) (fun _ _ _ h => h) hHeld rfl (by intro w hSw; go_simp; try rfl) ?_); (simp only [Act.put, List.setIfInBounds_toArray, List.set_cons_zero, List.set_cons_succ])
                  (refine takeL 11 rfl (by kernel_rfl) (by kernel_rfl) (by kernel_rfl) (fun _ _ _ h => h) hHeld rfl (by intro w hSw; go_simp; try rfl) ?_); (simp only [Act.put, List.setIfInBounds_toArray, List.set_cons_zero, List.set_cons_succ])
                  (refine takeL 12 rfl (by kernel_rfl) (by kernel_rfl) (by kernel_rfl) (fun _ _ _ h => h) hHeld rfl (by intro w hSw; go_simp; try rfl) ?_); (simp only [Act.put, List.setIfInBounds_toArray, List.set_cons_zero, List.set_cons_succ])
                  (refine takeL 13 rfl (by kernel_rfl) (by kernel_rfl) (by kernel_rfl) (fun _ _ _ h => h) hHeld rfl (by intro w hSw; go_simp; try rfl) ?_); (simp only [Act.put, List.setIfInBounds_toArray, List.set_cons_zero, List.set_cons_succ])
                  (refine takeL 14 rfl (by kernel_rfl) (by kernel_rfl) (by kernel_rfl) (fun _ _ _ h => h) hHeld rfl (by intro w hSw; go_simp; try rfl) ?_); (simp only [Act.put, List.setIfInBounds_toArray, List.set_cons_zero, List.set_cons_succ])
                  (refine takeL 15 rfl (by kernel_rfl) (by kernel_rfl) (by kernel_rfl) (fun _ _ _ h => h) hHeld rfl (by intro w hSw; go_simp; try rfl) ?_); (simp only [Act.put, List.setIfInBounds_toArray, List.set_cons_zero, List.set_cons_succ])
                  (refine takeL 16 rfl (by kernel_rfl) (by kernel_rfl) (by kernel_rfl) (fun _ _ _ h => h) hHeld rfl (by intro w hSw; go_simp; try rfl) ?_); (simp only [Act.put, List.setIfInBounds_toArray, List.set_cons_zero, List.set_cons_succ])
                  refine wpAnyH_ready (rs := [1, 17]) (by kernel_rfl) (by simp) ?_
                  refine consL rfl (fun K hK => ?_) (consL rfl (fun K hK => ?_) AllReadyH.nil)
                  · go_simp
                    refine hK.out _ _ ?_ (fun hHeld => ?_)
                    · exact ⟨e0, e1⟩
                    clear hK K
                    try simp only [Act.put, List.setIfInBounds_toArray, List.set_cons_zero, List.set_cons_succ]
                    refine wpAnyH_ready (rs := [17]) (by kernel_rfl) (by simp) ?_
                    refine consL rfl (fun K hK => ?_) AllReadyH.nil
                    go_simp
                    refine hK.out _ _ ?_ (fun hHeld => ?_)
                    · exact ⟨ea0, ea1⟩
                    clear hK K
                    try simp only [Act.put, List.setIfInBounds_toArray, List.set_cons_zero, List.set_cons_succ]
                    refine wpAnyH_ready (rs := [18]) (by kernel_rfl) (by simp) ?_
                    refine consL rfl (fun K hK => ?_) AllReadyH.nil
                    refine step_grow tyFz (by rfl) _ _ (by rfl) (bx + 1) (w0 := W1.drew) HX1.out.rw (by rfl) (by rfl) rfl (news := [.string (S (s1.take 120)), .string (S (s2.take 120))]) rfl (by rfl) fzc_one (by omega) (by omega) (by have := HX1.out.box.lt; exact this) ?_
                    intro gg cap w9 ho9 hg9 _ _
                    have k3 : Kw W1 w9 (fun j => (Value.slice av LS.length cv).ownBlock = some j) := (Kw.drewN W1 1 (fun j => (Value.slice av LS.length cv).ownBlock = some j)).trans (Kw.of_grown hg9) fun _ _ h => h
                    have HK3 := Lib.hid k3
                    have HO9 := Lib.hid ho9
                    clear ho9 hg9
                    have rb9 := HRB.out.kw k3 HNE.out
                    have f0 := rb9.cell (i := 0) rfl
                    have f1 := rb9.cell (i := 1) rfl
                    have bx9 := HX1.out.box.kw k3 (HX1.out.box.ne_own (by decide) HX1.out.rw)
                    have k4 := bx9.cell (i := 2) rfl
                    have kf := bx9.free 2
                    have rb10 := rb9.far HBX.out 2 (.slice (some ⟨gg, 0, none⟩) (LS.length + 1) cap)
                    have g0 := rb10.cell (i := 0) rfl
                    have g1 := rb10.cell (i := 1) rfl
                    clear k3 rb9 rb10 bx9
                    refine hK.out _ _ ?_ (fun hHeld => ?_)
                    · exact ⟨f0, f1⟩
                    clear hK K
                    try simp only [Act.put, List.setIfInBounds_toArray, List.set_cons_zero, List.set_cons_succ]
                    (refine takeL 19 rfl (by kernel_rfl) (by kernel_rfl) (by kernel_rfl) (fun _ _ _ h => h) hHeld rfl (by intro w hSw; go_simp; try rfl) ?_); (simp only [Act.put, List.setIfInBounds_toArray, List.set_cons_zero, List.set_cons_succ])
                    refine wpAnyH_ready (rs := [20]) (by kernel_rfl) (by simp) ?_
                    refine consL rfl (fun K hK => ?_) AllReadyH.nil
                    go_simp
                    refine hK.out _ _ ?_ (fun hHeld => ?_)
                    · exact ⟨g0, g1⟩
                    clear hK K
                    refine wpAnyH_done (by kernel_rfl) ?_ _
                    refine NoPanic.normal ?_
                    go_wp2_with fail
                    go_roundg (xw.length - (k + 1))
                    case measure => have := HK.out.2.2; omega
                    case rel => exact ⟨k + 1, _, by simp, Lib.hid ⟨hk, hk8, rfl⟩, Lib.hid (by rw [HTK.out, List.map_append, ← HLS.out]; exact HX1.out.write (Gr.cutFz (s1, s2)) HK3.out HO9.out)⟩
                  · go_simp
                    refine hK.out _ _ ?_ (fun hHeld => ?_)
                    · exact ⟨ea0, ea1⟩
                    clear hK K
                    try simp only [Act.put, List.setIfInBounds_toArray, List.set_cons_zero, List.set_cons_succ]
                    refine wpAnyH_ready (rs := [1]) (by kernel_rfl) (by simp) ?_
                    refine consL rfl (fun K hK => ?_) AllReadyH.nil
                    go_simp
                    refine hK.out _ _ ?_ (fun hHeld => ?_)
                    · exact ⟨ea0, ea1⟩
                    clear hK K
                    try simp only [Act.put, List.setIfInBounds_toArray, List.set_cons_zero, List.set_cons_succ]
                    refine wpAnyH_ready (rs := [18]) (by kernel_rfl) (by simp) ?_
                    refine consL rfl (fun K hK => ?_) AllReadyH.nil
                    refine step_grow tyFz (by rfl) _ _ (by rfl) (bx + 1) (w0 := W1.drew) HX1.out.rw (by rfl) (by rfl) rfl (news := [.string (S (s1.take 120)), .string (S (s2.take 120))]) rfl (by rfl) fzc_one (by omega) (by omega) (by have := HX1.out.box.lt; exact this) ?_
                    intro gg cap w9 ho9 hg9 _ _
                    have k3 : Kw W1 w9 (fun j => (Value.slice av LS.length cv).ownBlock = some j) := (Kw.drewN W1 1 (fun j => (Value.slice av LS.length cv).ownBlock = some j)).trans (Kw.of_grown hg9) fun _ _ h => h
                    have HK3 := Lib.hid k3
                    have HO9 := Lib.hid ho9
                    clear ho9 hg9
                    have rb9 := HRB.out.kw k3 HNE.out
                    have f0 := rb9.cell (i := 0) rfl
                    have f1 := rb9.cell (i := 1) rfl
                    have bx9 := HX1.out.box.kw k3 (HX1.out.box.ne_own (by decide) HX1.out.rw)
                    have k4 := bx9.cell (i := 2) rfl
                    have kf := bx9.free 2
                    have rb10 := rb9.far HBX.out 2 (.slice (some ⟨gg, 0, none⟩) (LS.length + 1) cap)
                    have g0 := rb10.cell (i := 0) rfl
                    have g1 := rb10.cell (i := 1) rfl
                    clear k3 rb9 rb10 bx9
                    refine hK.out _ _ ?_ (fun hHeld => ?_)
                    · exact ⟨f0, f1⟩
                    clear hK K
                    try simp only [Act.put, List.setIfInBounds_toArray, List.set_cons_zero, List.set_cons_succ]
                    (refine takeL 19 rfl (by kernel_rfl) (by kernel_rfl) (by kernel_rfl) (fun _ _ _ h => h) hHeld rfl (by intro w hSw; go_simp; try rfl) ?_); (simp only [Act.put, List.setIfInBounds_toArray, List.set_cons_zero, List.set_cons_succ])
                    refine wpAnyH_ready (rs := [20]) (by kernel_rfl) (by simp) ?_
                    refine consL rfl (fun K hK => ?_) AllReadyH.nil
                    go_simp
                    refine hK.out _ _ ?_ (fun hHeld => ?_)
                    · exact ⟨g0, g1⟩
                    clear hK K
                    refine wpAnyH_done (by kernel_rfl) ?_ _
                    refine NoPanic.normal ?_
                    go_wp2_with fail
                    go_roundg (xw.length - (k + 1))
                    case measure => have := HK.out.2.2; omega
                    case rel => exact ⟨k + 1, _, by simp, Lib.hid ⟨hk, hk8, rfl⟩, Lib.hid (by rw [HTK.out, List.map_append, ← HLS.out]; exact HX1.out.write (Gr.cutFz (s1, s2)) HK3.out HO9.out)⟩
                · have hkk8 : ¬ (k : Int) < 6 := by omega
                  have HTK : Hid (xw.take k = xw.take 6) := Lib.hid (by rw [show k = 6 by have := HK.out.2.1; omega])
                  go_wp2_with fail
                  go_meet
                  exact ⟨_, by rw [← HTK.out]; exact HX⟩
              · have hkk : ¬ (k : Int) < (xw.length : Int) := by omega
                have HTK : Hid (xw.take k = xw.take 6) := Lib.hid (by rw [List.take_of_length_le (by omega : xw.length ≤ k), List.take_of_length_le (by have := HK.out.2.1; omega : xw.length ≤ 6)])
                go_wp2_with fail
                go_meet
                exact ⟨_, by rw [← HTK.out]; exact HX⟩
          case rest =>
            obtain ⟨vw, HX⟩ := hcut
            rename World => wh
            obtain ⟨ar', cr', hvr⟩ := own_shape HX.out.rr
            subst hvr
            obtain ⟨aw', cw', hvw⟩ := own_shape HX.out.rw
            subst hvw
            obtain ⟨RS, hRS⟩ : ∃ RS, RS = (xr.take 8).map Gr.cutSn := ⟨_, rfl⟩
            obtain ⟨WS, hWS⟩ : ∃ WS, WS = (xw.take 6).map Gr.cutFz := ⟨_, rfl⟩
            rw [← hRS, ← hWS] at HX
            have HCUT : Hid (Gr.cutRc (xn, xr, xw) = (xn.take 120, RS, WS)) := Lib.hid (by rw [hRS, hWS]; rfl)
            clear hRS hWS
            have b0 := HX.out.box.cell (i := 0) rfl
            have b1 := HX.out.box.cell (i := 1) rfl
            have b2 := HX.out.box.cell (i := 2) rfl
            have HBH := Lib.hid (HB.out.trans (HX.out.kw.mono HB.out.size))
            obtain ⟨ps, hps, how, hall⟩ := HO.out.below' HX.out.kw
            have hpl : ps.length ≤ 8 := by have := congrArg List.length hps; rw [List.length_map, List.length_map, List.length_take] at this; omega
            have HPS := Lib.hid hps
            have HALL := Lib.hid hall
            have hsh : w.heap.size ≤ wh.heap.size := HBH.out.size
            clear hps hall
            go_wp2_with (first
              | (at_builtin; refine wp_app2 (news := [.string (S (xn.take 120)), .slice ar' RS.length cr', .slice aw' WS.length cw']) tyRec rfl _ _ rfl w.heap.size how rfl rfl rfl rfl rc_one (by omega) (by omega) hsh ?_; intro v7 w7 o7 d7 g7 n7; have HO7 := Lib.hid o7; have HD7 := Lib.hid d7; have HG7 := Lib.hid g7; have HN7 := Lib.hid n7; clear o7 d7 g7 n7)
              | fail)
            go_roundg (l.length - (i + 1))
            case measure => have := HI.out.2.2; omega
            case rel => exact ⟨i + 1, _, rfl, by simp, Lib.hid ⟨hi, hi8, rfl⟩, Lib.hid (by
              rw [HXI.out, List.map_append, List.map_singleton, HCUT.out]
              refine OwR.grow (w1 := wh) (x := (xn.take 120, RS, WS)) HPS.out HALL.out (rsn_own HX.out.rr) (rfz_own HX.out.rw) (fun _ b hb => ?_) (fun _ b hb => ?_) HO7.out HG7.out HN7.out
              · have h1 := HX.out.rr.lt b hb
                refine ⟨h1.2, fun e => ?_⟩
                have h2 := HO.out.under b e
                have h3 := HBXR.out
                omega
              · have h1 := HX.out.rw.lt b hb
                refine ⟨h1.2, fun e => ?_⟩
                have h2 := HO.out.under b e
                have h3 := HBXR.out
                omega), Lib.hid (HBH.out.trans HD7.out)⟩
      · have hii8 : ¬ (i : Int) < 8 := by omega
        have HTI : Hid (l.take i = l.take 8) := Lib.hid (by rw [show i = 8 by have := HI.out.2.1; omega])
        have h9 := HO.out.rr
        rw [HTI.out, List.map_take] at h9
        have H9 := Lib.hid h9
        clear h9
        go_wp2_with fail
        go_ret
        exact ⟨_, rfl, H9.out, HB.out⟩
    · have hii : ¬ (i : Int) < (l.length : Int) := by omega
      have HTI : Hid (l.take i = l.take 8) := Lib.hid (by rw [List.take_of_length_le (by omega : l.length ≤ i), List.take_of_length_le (by have := HI.out.2.1; omega : l.length ≤ 8)])
      have h9 := HO.out.rr
      rw [HTI.out, List.map_take] at h9
      have H9 := Lib.hid h9
      clear h9
      go_wp2_with fail
      go_ret
      exact ⟨_, rfl, H9.out, HB.out⟩
end Go.Proofs.Ytemdhbeegheefaa
