
/- The reference's graph of records: feeds, Of. No condition. -/
import Derived.Test.YtemdhbeegheefaaGrSeens
import Derived.BigQuiet
import Derived.Deep.QuietTactic
namespace Go.Proofs.Ytemdhbeegheefaa
open Go.RowKit

theorem run_eql_str (s t : List UInt8) (w : World) : (binOp .eql 9 (.string (S s)) (.string (S t))).run Try.prog w = .ok (.bool (s == t)) w := by
  by_cases h : s = t <;> simp [go_sem, h]

namespace Gr
/-- Does one write what the other one reads? -/
def fits (f : Fz) (s : Sn) : Bool := f.1 == s.1
def feeds (x y : Rcd) : Bool := x.2.2.any fun f => y.2.1.any fun s => fits f s
/-- The graph of records. -/
def recG (l : List Rcd) : List (List Nat) := l.map fun x => (List.range l.length).filter fun k => feeds x (l.getD k ([], [], []))
theorem recG_len (l : List Rcd) : (recG l).length = l.length := by simp [recG]
end Gr

set_option maxRecDepth 20000 in
set_option maxHeartbeats 4000000 in
theorem rfeeds_any (ur uw vr vw : Value) (x y : Rcd) (w : World) (hw : Rfz w uw x.2.2) (hr : Rsn w vr y.2.1) (hwl : x.2.2.length ≤ 1000000) (hrl : y.2.1.length ≤ 1000000) :
    Calls Try.prog 40 #[.agg #[.string (S x.1), ur, uw], .agg #[.string (S y.1), vr, vw]] w fun e w' => e = .returned (.bool (Gr.feeds x y)) ∧ Below w.heap.size w w' := by
  obtain ⟨x1, xr, xw⟩ := x
  obtain ⟨y1, yr, yw⟩ := y
  have HW := Lib.hid (show Rfz w uw xw from hw)
  have HR := Lib.hid (show Rsn w vr yr from hr)
  have hwl : xw.length ≤ 1000000 := hwl
  have hrl : yr.length ≤ 1000000 := hrl
  obtain ⟨aw, cw, hus⟩ := HW.out.shape
  subst hus
  obtain ⟨ar, cr, hvs⟩ := HR.out.shape
  subst hvs
  clear hw hr
  obtain ⟨w1, hw1⟩ : ∃ w1, w1 = (w.alloc (.cells #[.string (S x1), ur, .slice aw xw.length cw] 80)).alloc (.cells #[.string (S y1), .slice ar yr.length cr, vw] 80) := ⟨_, rfl⟩
  have HB : Hid (Below w.heap.size w w1) := Lib.hid (by rw [hw1]; exact ((Below.refl w.heap.size w).alloc (Nat.le_refl _) _).alloc (by simp) _)
  have HS : Hid (w1.heap.size = w.heap.size + 2) := Lib.hid (by rw [hw1]; simp)
  have hx2 : w1.cell? ⟨w.heap.size, 2, none⟩ = some (.slice aw xw.length cw) := by
    rw [hw1, row_cell (alloc2_first w _ _)]
    rfl
  have hy1 : w1.cell? ⟨w.heap.size + 1, 1, none⟩ = some (.slice ar yr.length cr) := by
    rw [hw1, row_cell (alloc2_second w _ _)]
    rfl
  have HX2 : Hid (∀ W, Below w1.heap.size w1 W → W.cell? ⟨w.heap.size, 2, none⟩ = some (.slice aw xw.length cw)) := Lib.hid fun W hW => (hW.cell (by have := HS.out; show w.heap.size < w1.heap.size; omega)).trans hx2
  have HY1 : Hid (∀ W, Below w1.heap.size w1 W → W.cell? ⟨w.heap.size + 1, 1, none⟩ = some (.slice ar yr.length cr)) := Lib.hid fun W hW => (hW.cell (by have := HS.out; show w.heap.size + 1 < w1.heap.size; omega)).trans hy1
  have HW := Lib.hid (HW.out.below' HB.out)
  have HR := Lib.hid (HR.out.below' HB.out)
  clear hx2 hy1
  go_enter Try.func40, Try.ntmps40
  go_upto_block 0 with fail
  rw [← hw1]
  clear hw1
  go_wp2_with fail
  go_loopg [5] (xw.length - 0) (fun n v5 wr => ∃ j : Nat, v5 = .int .i64 j ∧ Hid (j ≤ xw.length ∧ xw.length - j = n) ∧ Hid (∀ f ∈ xw.take j, yr.any (fun s => Gr.fits f s) = false) ∧ Hid (Below w1.heap.size w1 wr))
  case atStart => exact ⟨0, rfl, Lib.hid ⟨Nat.zero_le _, rfl⟩, Lib.hid (by simp), Lib.hid (Below.refl _ _)⟩
  case round =>
    obtain ⟨j, rfl, HJ, HN, HBR⟩ := hrel
    have x2 := HX2.out _ HBR.out
    by_cases hj : j < xw.length
    · have hjj : (j : Int) < (xw.length : Int) := by omega
      obtain ⟨b, o, rfl, c1w, _, hb⟩ := HW.out.at hj
      obtain ⟨f, hf⟩ : ∃ f, f = xw[j] := ⟨_, rfl⟩
      have HF : Hid (xw.take (j + 1) = xw.take j ++ [f]) := Lib.hid (by rw [hf]; exact take_snoc xw j hj)
      have HFM : Hid (f ∈ xw) := Lib.hid (by rw [hf]; exact List.getElem_mem hj)
      rw [← hf] at c1w
      obtain ⟨f1, f2⟩ := f
      have HC1 : Hid (∀ W, Below w1.heap.size w1 W → W.cell? ⟨b, o + j * 2, none⟩ = some (.string (S f1))) := Lib.hid fun W hW => (hW.cell hb).trans c1w
      clear c1w hf
      go_wp2_with fail
      go_loopg [6] (yr.length - 0) (fun n v6 wq => ∃ k : Nat, v6 = .int .i64 k ∧ Hid (k ≤ yr.length ∧ yr.length - k = n) ∧ Hid (∀ s ∈ yr.take k, Gr.fits (f1, f2) s = false) ∧ Hid (Below w1.heap.size w1 wq))
      case atStart => exact ⟨0, rfl, Lib.hid ⟨Nat.zero_le _, rfl⟩, Lib.hid (by simp), HBR⟩
      case round =>
        clear HBR x2
        obtain ⟨k, rfl, HK, HNK, HBQ⟩ := hrel
        rename World => wq
        have yy := HY1.out _ HBQ.out
        by_cases hk : k < yr.length
        · have hkk : (k : Int) < (yr.length : Int) := by omega
          obtain ⟨b2, o2, rfl, c2w, _, _, hb2⟩ := HR.out.at hk
          obtain ⟨s, hs⟩ : ∃ s, s = yr[k] := ⟨_, rfl⟩
          have HSS : Hid (yr.take (k + 1) = yr.take k ++ [s]) := Lib.hid (by rw [hs]; exact take_snoc yr k hk)
          have HSM : Hid (s ∈ yr) := Lib.hid (by rw [hs]; exact List.getElem_mem hk)
          rw [← hs] at c2w
          obtain ⟨s1, s2, s3⟩ := s
          have x2m : ∀ m, (wq.drewN m).cell? ⟨w.heap.size, 2, none⟩ = some (.slice (some ⟨b, o, none⟩) xw.length cw) := fun m => HX2.out _ (below_drewN HBQ.out m)
          have y1m : ∀ m, (wq.drewN m).cell? ⟨w.heap.size + 1, 1, none⟩ = some (.slice (some ⟨b2, o2, none⟩) yr.length cr) := fun m => HY1.out _ (below_drewN HBQ.out m)
          have c1m : ∀ m, (wq.drewN m).cell? ⟨b, o + j * 2, none⟩ = some (.string (S f1)) := fun m => HC1.out _ (below_drewN HBQ.out m)
          have c2m : ∀ m, (wq.drewN m).cell? ⟨b2, o2 + k * 3, none⟩ = some (.string (S s1)) := fun _ => (HBQ.out.cell hb2).trans c2w
          clear c2w hs
          cases hq : (f1 == s1)
          · have HQ : Hid (Gr.fits (f1, f2) (s1, s2, s3) = false) := Lib.hid hq
            go_wp2_with fail
            go_quiet (fail)
            revert nq; intro m1
            go_wp2_with fail
            go_roundg (yr.length - (k + 1))
            case measure => have := HK.out.2; omega
            case rel => exact ⟨k + 1, by simp, Lib.hid ⟨hk, rfl⟩, Lib.hid (by
              intro s hs
              rw [HSS.out] at hs
              rcases List.mem_append.1 hs with hs | hs
              · exact HNK.out s hs
              · rw [List.mem_singleton.1 hs]; exact HQ.out), Lib.hid (below_drewN HBQ.out m1)⟩
          · have HQ : Hid (Gr.feeds (x1, xr, xw) (y1, yr, yw) = true) := Lib.hid (List.any_eq_true.2 ⟨_, HFM.out, List.any_eq_true.2 ⟨_, HSM.out, hq⟩⟩)
            go_wp2_with fail
            go_quiet (fail)
            revert nq; intro m1
            go_wp2_with fail
            go_ret
            exact ⟨ret_bool HQ.out.symm, below_drewN (HB.out.trans (HBQ.out.mono HB.out.size)) m1⟩
        · obtain rfl : k = yr.length := by have := HK.out.1; omega
          go_wp2_with fail
          go_roundg (xw.length - (j + 1))
          case measure => have := HJ.out.2; omega
          case rel => exact ⟨j + 1, by simp, Lib.hid ⟨hj, rfl⟩, Lib.hid (by
            intro f hf
            rw [HF.out] at hf
            rcases List.mem_append.1 hf with hf | hf
            · exact HN.out f hf
            · rw [List.mem_singleton.1 hf, ← Bool.not_eq_true, List.any_eq_true]
              rintro ⟨s, hs, hq⟩
              rw [HNK.out s (by rw [List.take_length]; exact hs)] at hq
              cases hq), HBQ⟩
    · obtain rfl : j = xw.length := by have := HJ.out.1; omega
      have HQ : Hid (Gr.feeds (x1, xr, xw) (y1, yr, yw) = false) := Lib.hid (by
        rw [← Bool.not_eq_true, Gr.feeds, List.any_eq_true]
        rintro ⟨f, hf, hq⟩
        rw [HN.out f (by rw [List.take_length]; exact hf)] at hq
        cases hq)
      go_wp2_with fail
      go_ret
      exact ⟨ret_bool HQ.out.symm, HB.out.trans (HBR.out.mono HB.out.size)⟩

theorem Rr.cells {w : World} {a : Option Addr} {n c : Nat} {l : List Rcd} (h : Rr w (.slice a n c) l) {i : Nat} (hi : i < l.length) :
    ∃ b o ar cr aw cw, a = some ⟨b, o, none⟩ ∧ Hid (∀ W, Below w.heap.size w W → W.cell? ⟨b, o + i * 3, none⟩ = some (.string (S l[i].1))) ∧ Hid (∀ W, Below w.heap.size w W → W.cell? ⟨b, o + i * 3 + 1, none⟩ = some (.slice ar l[i].2.1.length cr)) ∧ Hid (∀ W, Below w.heap.size w W → W.cell? ⟨b, o + i * 3 + 2, none⟩ = some (.slice aw l[i].2.2.length cw)) ∧
      Hid (Rsn w (.slice ar l[i].2.1.length cr) l[i].2.1) ∧ Hid (Rfz w (.slice aw l[i].2.2.length cw) l[i].2.2) := by
  obtain ⟨b, o, vr, vw, rfl, c1, c2, c3, r1, r2, hb⟩ := h.at hi
  obtain ⟨ar, cr, rfl⟩ := r1.shape
  obtain ⟨aw, cw, rfl⟩ := r2.shape
  exact ⟨b, o, ar, cr, aw, cw, rfl, Lib.hid fun W hW => (hW.cell hb).trans c1, Lib.hid fun W hW => (hW.cell hb).trans c2, Lib.hid fun W hW => (hW.cell hb).trans c3, Lib.hid r1, Lib.hid r2⟩

namespace Gr
/-- The row of a record, so far. -/
def recRow (l : List Rcd) (x : Rcd) (k : Nat) : List Nat := (List.range k).filter fun j => feeds x (l.getD j ([], [], []))
theorem recRow_succ (l : List Rcd) (x y : Rcd) (k : Nat) (hy : l[k]? = some y) : recRow l x (k + 1) = if feeds x y = true then recRow l x k ++ [k] else recRow l x k := by
  unfold recRow
  rw [List.range_succ, List.filter_append]
  cases h : feeds x y <;> simp [hy, h]
theorem recRow_len (l : List Rcd) (x : Rcd) (k : Nat) : (recRow l x k).length ≤ k := by
  have := List.length_filter_le (fun j => feeds x (l.getD j ([], [], []))) (List.range k)
  rw [List.length_range] at this
  exact this
theorem recG_at (l : List Rcd) (i : Nat) (x : Rcd) (hx : l[i]? = some x) : (recG l)[i]? = some (recRow l x l.length) := by
  simp [recG, hx, recRow]
end Gr

set_option maxRecDepth 20000 in
set_option maxHeartbeats 8000000 in
/-- The reference's graph of records. -/
theorem rof_any (v : Value) (l : List Rcd) (w : World) (h : Rr w v l) (hl : l.length ≤ 1000) (hin : ∀ x ∈ l, x.2.1.length ≤ 1000000 ∧ x.2.2.length ≤ 1000000) :
    Calls Try.prog 22 #[v] w fun e w' => ∃ v', e = .returned v' ∧ Rg w' v' ((Gr.recG l).map nn) ∧ Below w.heap.size w w' := by
  have H := Lib.hid h
  have HIN := Lib.hid hin
  obtain ⟨a0, c0, rfl⟩ := h.shape
  clear h hin
  have tyGrid : SlTy Try.prog 22 23 1 24 := SlTy.mk' (z := .slice none 0 0) Try.underlying22 (by kernel_rfl) rfl (by decide)
  have HO0 : Hid (Og (w.alloc (.cells #[] 23)) w.heap.size 23 (.slice (some ⟨w.heap.size, 0, none⟩) 0 0) (((Gr.recG l).map nn).take 0)) := Lib.hid (Og.made w w.heap.size 23 (Nat.le_refl _))
  have HB0 := Lib.hid ((Below.refl w.heap.size w).alloc (Nat.le_refl _) (.cells #[] 23))
  go_enter Try.func22, Try.ntmps22
  go_wp2_with fail
  go_loopg [3, 4] (l.length - 0) (fun n v3 v4 wr => ∃ (i : Nat) (v : Value), v = v3 ∧ v4 = .int .i64 i ∧ Hid (i ≤ l.length ∧ l.length - i = n) ∧ Hid (Og wr w.heap.size 23 v (((Gr.recG l).map nn).take i)) ∧ Hid (Below w.heap.size w wr))
  case atStart => exact ⟨0, _, rfl, rfl, Lib.hid ⟨Nat.zero_le _, rfl⟩, HO0, HB0⟩
  case round =>
    clear HO0 HB0
    obtain ⟨i, v, rfl, rfl, HI, HO, HB⟩ := hrel
    by_cases hi : i < l.length
    · have hii : (i : Int) < (l.length : Int) := by omega
      obtain ⟨x, hx⟩ : ∃ x, x = l[i] := ⟨_, rfl⟩
      obtain ⟨b, o, ar, cr, aw, cw, rfl, HX1, HX2, HX3, HXR, HXW⟩ := H.out.cells hi
      rw [← hx] at HX1 HX2 HX3 HXR HXW
      have HXI : Hid (l[i]? = some x) := Lib.hid (by rw [hx]; exact List.getElem?_eq_getElem hi)
      have hxl := HIN.out x (by rw [hx]; exact List.getElem_mem hi)
      clear hx
      obtain ⟨wf, hwf⟩ : ∃ wf, wf = wr.alloc (.cells #[] 3) := ⟨_, rfl⟩
      have HR0 : Hid (wf.ownsRow wr.heap.size 3 1 (.slice (some ⟨wr.heap.size, 0, none⟩) 0 0) (Gr.recRow l x 0).length (ints (nn (Gr.recRow l x 0)))) := Lib.hid (by rw [hwf]; exact World.ownsRow_made wr #[] 0 (Nat.le_refl _) (by decide) rfl)
      have HF0 : Hid (Below wr.heap.size wr wf) := Lib.hid (by rw [hwf]; exact (Below.refl wr.heap.size wr).alloc (Nat.le_refl _) _)
      obtain ⟨bx, hbx⟩ : ∃ bx, bx = wr.heap.size := ⟨_, rfl⟩
      rw [← hbx] at HR0
      obtain ⟨av, cv, hvs⟩ := HO.out.shape
      obtain ⟨TI, hTI⟩ : ∃ TI, TI = ((Gr.recG l).map nn).take i := ⟨_, rfl⟩
      have HTI := Lib.hid hTI
      have htl : TI.length ≤ 1000 := by rw [hTI, List.length_take, List.length_map, Gr.recG_len]; omega
      rw [← hTI] at HO hvs
      subst hvs
      clear hTI
      go_wp2_with fail
      rw [← hbx, ← hwf]
      have HBX := Lib.hid hbx
      clear hwf hbx
      go_loopg [5, 6] (l.length - 0) (fun n v5 v6 wq => ∃ (k : Nat) (u : Value), u = v5 ∧ v6 = .int .i64 k ∧ Hid (k ≤ l.length ∧ l.length - k = n) ∧ Hid (wq.ownsRow bx 3 1 u (Gr.recRow l x k).length (ints (nn (Gr.recRow l x k)))) ∧ Hid (Below bx wr wq))
      case atStart => exact ⟨0, _, rfl, rfl, Lib.hid ⟨Nat.zero_le _, rfl⟩, HR0, Lib.hid (by rw [HBX.out]; exact HF0.out)⟩
      case round =>
        clear HR0 HF0
        obtain ⟨k, u, rfl, rfl, HK, HR, HBQ⟩ := hrel
        rename World => wq
        by_cases hk : k < l.length
        · have hkk : (k : Int) < (l.length : Int) := by omega
          obtain ⟨y, hy⟩ : ∃ y, y = l[k] := ⟨_, rfl⟩
          obtain ⟨b', o', ar', cr', aw', cw', hbo, HY1, HY2, HY3, HYR, HYW⟩ := H.out.cells hk
          injection hbo with hbo
          injection hbo with hbo1 hbo2 _
          subst hbo1
          subst hbo2
          rw [← hy] at HY1 HY2 HY3 HYR HYW
          have HYI : Hid (l[k]? = some y) := Lib.hid (by rw [hy]; exact List.getElem?_eq_getElem hk)
          have hyl := HIN.out y (by rw [hy]; exact List.getElem_mem hk)
          have HWQ : Hid (Below w.heap.size w wq) := Lib.hid (HB.out.trans (HBQ.out.mono (by rw [HBX.out]; exact HB.out.size)))
          clear hy
          have x1 := HX1.out _ HWQ.out
          have x2 := HX2.out _ HWQ.out
          have x3 := HX3.out _ HWQ.out
          have y1 := HY1.out _ HWQ.out
          have y2 := HY2.out _ HWQ.out
          have y3 := HY3.out _ HWQ.out
          have HWD : Hid (Below w.heap.size w wq.drew) := Lib.hid (below_drewN HWQ.out 1)
          have hf := rfeeds_any (.slice ar x.2.1.length cr) (.slice aw x.2.2.length cw) (.slice ar' y.2.1.length cr') (.slice aw' y.2.2.length cw') x y wq.drew (HXW.out.below' HWD.out) (HYR.out.below' HWD.out) hxl.2 hyl.1
          obtain ⟨q, hq⟩ : ∃ q, q = Gr.feeds x y := ⟨_, rfl⟩
          rw [← hq] at hf
          have HF := Lib.hid hf
          have HQ := Lib.hid hq
          have hs0 : w.heap.size ≤ wq.heap.size := HWQ.out.size
          clear hf hq
          obtain ⟨xn, xr, xw⟩ := x
          obtain ⟨yn, yr, yw⟩ := y
          go_wp2_with fail
          go_region_held3 (fun w' => (w'.cell? ⟨b, o + i * 3, none⟩ = some (.string (S xn)) ∧ w'.cell? ⟨b, o + i * 3 + 1, none⟩ = some (.slice ar xr.length cr) ∧ w'.cell? ⟨b, o + i * 3 + 2, none⟩ = some (.slice aw xw.length cw)) ∧ w'.cell? ⟨b, o + k * 3, none⟩ = some (.string (S yn)) ∧ w'.cell? ⟨b, o + k * 3 + 1, none⟩ = some (.slice ar' yr.length cr') ∧ w'.cell? ⟨b, o + k * 3 + 2, none⟩ = some (.slice aw' yw.length cw'))
            (first
              | exact ⟨⟨s1, s2, s3⟩, s4, s5, s6⟩
              | exact ⟨⟨x1, x2, x3⟩, y1, y2, y3⟩
              | fail)
            (first
              | (go_at_call 40
                 refine HF.out.mono ?_
                 rintro e w5 ⟨rfl, b5⟩
                 have HB5 := Lib.hid b5
                 have HB6 := Lib.hid (HWD.out.trans (b5.mono HWD.out.size))
                 have s1 := HX1.out _ HB6.out
                 have s2 := HX2.out _ HB6.out
                 have s3 := HX3.out _ HB6.out
                 have s4 := HY1.out _ HB6.out
                 have s5 := HY2.out _ HB6.out
                 have s6 := HY3.out _ HB6.out
                 clear b5)
              | fail)
          have hbw : Below wq.heap.size wq w5 := ⟨HB5.out.1, HB5.out.2, HB5.out.3, HB5.out.4, HB5.out.5⟩
          have hbs : bx ≤ wq.heap.size := by have := HBQ.out.size; rw [← HBX.out] at this; exact this
          have HR5 := Lib.hid (own_below HR.out (own_under HR.out) hbw)
          have HB7 := Lib.hid (HBQ.out.trans (hbw.mono hbs))
          have hs5 : bx ≤ w5.heap.size := Nat.le_trans hbs hbw.size
          clear s1 s2 s3 s4 s5 s6 x1 x2 x3 y1 y2 y3 hbw
          cases hq2 : q
          · have HRS : Hid (Gr.recRow l (xn, xr, xw) (k + 1) = Gr.recRow l (xn, xr, xw) k) := Lib.hid (by rw [Gr.recRow_succ _ _ _ _ HYI.out, ← HQ.out, hq2]; rfl)
            subst hq2
            go_wp2_with fail
            go_roundg (l.length - (k + 1))
            case measure => have := HK.out.2; omega
            case rel => exact ⟨k + 1, _, rfl, by simp, Lib.hid ⟨hk, rfl⟩, Lib.hid (by rw [HRS.out]; exact HR5.out), HB7⟩
          · have HRS : Hid (Gr.recRow l (xn, xr, xw) (k + 1) = Gr.recRow l (xn, xr, xw) k ++ [k]) := Lib.hid (by rw [Gr.recRow_succ _ _ _ _ HYI.out, ← HQ.out, hq2]; rfl)
            subst hq2
            have hown := HR5.out
            have hrl := Gr.recRow_len l (xn, xr, xw) k
            go_wp2_with (first
              | (at_builtin; refine wp_app2 tyInts rfl _ _ rfl bx hown rfl rfl rfl rfl (by intro u hu; simp at hu; rw [hu]; rfl) (by omega) (by omega) hs5 ?_; intro v7 w7 o7 d7 q7 n7; have HO7 := Lib.hid o7; have HD7 := Lib.hid d7; clear o7 d7 q7 n7)
              | fail)
            go_roundg (l.length - (k + 1))
            case measure => have := HK.out.2; omega
            case rel => exact ⟨k + 1, _, rfl, by simp, Lib.hid ⟨hk, rfl⟩, Lib.hid (by
              rw [HRS.out, List.length_append, List.length_singleton, show nn (Gr.recRow l (xn, xr, xw) k ++ [k]) = nn (Gr.recRow l (xn, xr, xw) k) ++ [(k : Int)] by simp, ints_snoc]
              exact HO7.out), Lib.hid (HB7.out.trans HD7.out)⟩
        · obtain rfl : k = l.length := by have := HK.out.1; omega
          have hbr : Below wr.heap.size wr wq := by rw [← HBX.out]; exact HBQ.out
          have hog := HO.out.below' hbr
          have HGI : Hid (((Gr.recG l).map nn)[i]? = some (nn (Gr.recRow l x l.length))) := Lib.hid (by rw [List.getElem?_map, Gr.recG_at l i x HXI.out]; rfl)
          have HBW := Lib.hid (HB.out.trans (hbr.mono HB.out.size))
          have hru : Ri wq u (nn (Gr.recRow l x l.length)) := ri_own (by rw [List.length_map]; exact HR.out)
          obtain ⟨RW, hRW⟩ : ∃ RW, RW = nn (Gr.recRow l x l.length) := ⟨_, rfl⟩
          rw [← hRW] at hru HGI
          clear hRW
          obtain ⟨au, cu, huu⟩ := hru.shape
          subst huu
          have hsep : ∀ b, (Value.slice au RW.length cu).ownBlock = some b → b < wq.heap.size ∧ (Value.slice av TI.length cv).ownBlock ≠ some b ∧ w.heap.size ≤ b := fun b hb => by
            have h1 := HR.out.lt b hb
            have h2 := HB.out.size
            have h3 := HBX.out
            refine ⟨h1.2, fun e => ?_, by omega⟩
            have := HO.out.under b e
            omega
          have hsw : w.heap.size ≤ wq.heap.size := HBW.out.size
          clear hbr
          go_wp2_with (first
            | (at_builtin; refine wp_og tyGrid rfl _ _ rfl w.heap.size hog hru hsep rfl rfl rfl rfl (by omega) (by omega) hsw ?_; intro v7 w7 o7 d7; have HO7 := Lib.hid o7; have HD7 := Lib.hid d7; clear o7 d7)
            | fail)
          go_roundg (l.length - (i + 1))
          case measure => have := HI.out.2; omega
          case rel => exact ⟨i + 1, _, rfl, by simp, Lib.hid ⟨hi, rfl⟩, Lib.hid (by rw [List.take_add_one, HGI.out, ← HTI.out]; exact HO7.out), Lib.hid (HBW.out.trans HD7.out)⟩
    · obtain rfl : i = l.length := by have := HI.out.1; omega
      have h9 := HO.out.rts
      rw [List.take_of_length_le (by rw [List.length_map, Gr.recG_len]; exact Nat.le_refl _)] at h9
      have H9 := Lib.hid h9
      clear h9
      go_wp2_with fail
      go_ret
      exact ⟨_, rfl, H9.out, HB.out⟩
end Go.Proofs.Ytemdhbeegheefaa
