
/- The program's graph of records: Of. No condition. -/
import Derived.Test.YtemdhbeegheefaaGrOf
import Derived.BigRegion
namespace Go.Proofs.Ytemdhbeegheefaa
open Go.RowKit Gr

namespace Gr
/-- The grid under way: i rows, and what k records said of the next one. -/
def partG (l : List Rcd) (i k : Nat) : List (List Nat) := (List.range l.length).map fun r => if r < i then recRow l (l.getD r ([], [], [])) l.length else if r = i then recRow l (l.getD r ([], [], [])) k else []
theorem partG_len (l : List Rcd) (i k : Nat) : (partG l i k).length = l.length := by simp [partG]
theorem partG_at {l : List Rcd} {i : Nat} {x : Rcd} (hx : l[i]? = some x) (k : Nat) : (partG l i k)[i]? = some (recRow l x k) := by
  have hi := (List.getElem?_eq_some_iff.1 hx).1
  have e : l.getD i ([], [], []) = x := by rw [List.getD_eq_getElem?_getD, hx]; rfl
  unfold partG
  rw [List.getElem?_map, List.getElem?_range hi]
  simp only [Option.map_some, Nat.lt_irrefl, if_false, if_true, e]
theorem partG_no {l : List Rcd} {i k : Nat} {x y : Rcd} (hx : l[i]? = some x) (hy : l[k]? = some y) (hf : feeds x y = false) : partG l i (k + 1) = partG l i k := by
  unfold partG
  refine List.map_congr_left fun r hr => ?_
  by_cases h1 : r < i
  · simp only [h1, if_true]
  · by_cases h2 : r = i
    · subst h2
      have e : l.getD r ([], [], []) = x := by rw [List.getD_eq_getElem?_getD, hx]; rfl
      rw [e, recRow_succ l x y k hy, hf]
      rfl
    · simp only [h1, h2, if_false]
theorem partG_yes {l : List Rcd} {i k : Nat} {x y : Rcd} (hx : l[i]? = some x) (hy : l[k]? = some y) (hf : feeds x y = true) : (partG l i k).set i (recRow l x k ++ [k]) = partG l i (k + 1) := by
  have hi := (List.getElem?_eq_some_iff.1 hx).1
  refine List.ext_getElem? fun r => ?_
  rw [List.getElem?_set]
  by_cases h : i = r
  · subst h
    rw [if_pos rfl, if_pos (by rw [partG_len]; exact hi), partG_at hx, recRow_succ l x y k hy, hf]
    rfl
  · rw [if_neg h]
    unfold partG
    rw [List.getElem?_map, List.getElem?_map]
    cases hr : (List.range l.length)[r]? with
    | none => rfl
    | some r' =>
      have e : r' = r := by
        have := (List.getElem?_eq_some_iff.1 hr).2
        simpa using this.symm
      subst e
      simp only [Option.map_some]
      by_cases h1 : r' < i
      · simp only [h1, if_true]
      · have h2 : r' ≠ i := fun e => h e.symm
        simp only [h1, h2, if_false]
theorem partG_next {l : List Rcd} (i : Nat) : partG l i l.length = partG l (i + 1) 0 := by
  unfold partG
  refine List.map_congr_left fun r hr => ?_
  by_cases h1 : r < i
  · simp only [h1, show r < i + 1 by omega, if_true]
  · by_cases h2 : r = i
    · subst h2
      simp
    · by_cases h3 : r = i + 1
      · subst h3
        rw [if_neg h1, if_neg h2, if_neg (by omega), if_pos rfl]
        rfl
      · simp only [h1, h2, h3, show ¬ r < i + 1 by omega, if_false]
theorem partG_done (l : List Rcd) : partG l l.length 0 = recG l := by
  unfold partG recG
  refine List.ext_getElem? fun r => ?_
  rw [List.getElem?_map, List.getElem?_map]
  by_cases hr : r < l.length
  · rw [List.getElem?_range hr, List.getElem?_eq_getElem hr]
    simp [hr, recRow]
  · rw [List.getElem?_eq_none (by simpa using hr), List.getElem?_eq_none (by simpa using hr)]
    rfl
theorem partG_zero (l : List Rcd) : partG l 0 0 = List.replicate l.length [] := by
  refine List.ext_getElem? fun r => ?_
  unfold partG
  rw [List.getElem?_map, List.getElem?_replicate]
  by_cases hr : r < l.length
  · rw [List.getElem?_range hr, if_pos hr]
    simp [recRow]
  · rw [List.getElem?_eq_none (by simpa using hr), if_neg hr]
    rfl
end Gr

/-- The grid is read. -/
theorem Gw.rgOut {w : World} {B bt n : Nat} {vs : List Value} {ls : List (List Nat)} (h2 : Gw w B bt vs ls) (hn : ls.length = n) : Rg w (.slice (some ⟨bt, 0, none⟩) n n) (ls.map nn) := by
  refine ⟨vs, ⟨by rw [h2.len]; simp, .inr ⟨bt, 0, n, by rw [List.length_map, hn], fun _ => h2.out.lt, fun j u hj => by rw [Nat.zero_add]; exact h2.out.cell hj, by rw [List.length_map, hn]; exact Nat.le_refl _⟩⟩, fun i u l hu hl => ?_⟩
  rw [List.getElem?_map] at hl
  cases hc : ls[i]? with
  | none => rw [hc] at hl; cases hl
  | some x =>
    rw [hc] at hl
    injection hl with hl
    rw [← hl]
    exact h2.ri hu hc

set_option maxRecDepth 20000 in
set_option maxHeartbeats 8000000 in
/-- The graph of records. -/
theorem of_any (v : Value) (l : List Rcd) (w : World) (h : Rr w v l) (hl : l.length ≤ 1000) (hin : ∀ x ∈ l, x.2.1.length ≤ 1000000 ∧ x.2.2.length ≤ 1000000) :
    Calls Try.prog 21 #[v] w fun e w' => ∃ v', e = .returned v' ∧ Rg w' v' ((Gr.recG l).map nn) ∧ Below w.heap.size w w' := by
  have H := Lib.hid h
  have HIN := Lib.hid hin
  obtain ⟨a0, c0, rfl⟩ := h.shape
  clear h hin
  have hmk := mkGrid l.length (by omega)
  obtain ⟨bt, hbt⟩ : ∃ bt, bt = w.heap.size := ⟨_, rfl⟩
  obtain ⟨w2, hw2⟩ : ∃ w2, w2 = w.alloc (.cells (List.replicate l.length nilV).toArray 23) := ⟨_, rfl⟩
  have HG0 : Hid (∃ vs, Gw w2 (bt + 1) bt vs (partG l 0 0)) := Lib.hid (by
    rw [hw2, hbt, partG_zero]
    exact ⟨_, Gw.made (heap_alloc_new w _)⟩)
  have HB0 : Hid (Below w.heap.size w w2) := Lib.hid (by rw [hw2]; exact (Below.refl _ _).alloc (Nat.le_refl _) _)
  have hmk1 := hmk w
  rw [← hw2, ← hbt] at hmk1
  have HBT := Lib.hid hbt
  clear hmk hw2 hbt
  go_enter Try.func21, Try.ntmps21
  go_wp2_with fail
  go_loopg [13] (l.length - 0) (fun n v13 wr => ∃ i : Nat, v13 = .int .i64 i ∧ Hid (i ≤ l.length ∧ l.length - i = n) ∧ Hid (∃ vs, Gw wr (bt + 1) bt vs (partG l i 0)) ∧ Hid (Below w.heap.size w wr))
  case atStart => exact ⟨0, rfl, Lib.hid ⟨Nat.zero_le _, rfl⟩, HG0, HB0⟩
  case round =>
    clear HG0 HB0
    obtain ⟨i, rfl, HI, HG, HB⟩ := hrel
    by_cases hi : i < l.length
    · have hii : (i : Int) < (l.length : Int) := by omega
      obtain ⟨x, hx⟩ : ∃ x, x = l[i] := ⟨_, rfl⟩
      obtain ⟨b, o, ar, cr, aw, cw, rfl, HX1, HX2, HX3, HXR, HXW⟩ := H.out.cells hi
      rw [← hx] at HX1 HX2 HX3 HXR HXW
      have HXI : Hid (l[i]? = some x) := Lib.hid (by rw [hx]; exact List.getElem?_eq_getElem hi)
      have hxl := HIN.out x (by rw [hx]; exact List.getElem_mem hi)
      clear hx
      obtain ⟨xn, xr, xw⟩ := x
      have x1 := HX1.out _ HB.out
      have x2 := HX2.out _ HB.out
      have x3 := HX3.out _ HB.out
      simp only at hxl x2 x3
      go_wp2_with fail
      have hba : Below wr.heap.size wr (wr.alloc (.cells #[.string (S xn), .slice ar xr.length cr, .slice aw xw.length cw] 68)) := (Below.refl _ _).alloc (Nat.le_refl _) _
      obtain ⟨wf, hwf⟩ : ∃ wf, wf = wr.alloc (.cells #[.string (S xn), .slice ar xr.length cr, .slice aw xw.length cw] 68) := ⟨_, rfl⟩
      obtain ⟨bx, hbx⟩ : ∃ bx, bx = wr.heap.size := ⟨_, rfl⟩
      have HRO : Hid (Ro wf bx 68 [.string (S xn), .slice ar xr.length cr, .slice aw xw.length cw]) := Lib.hid (by rw [hwf, hbx]; exact heap_alloc_new wr _)
      have HGF : Hid (∃ vs, Gw wf (bt + 1) bt vs (partG l i 0)) := Lib.hid (by
        obtain ⟨vs, hg⟩ := HG.out
        exact ⟨vs, hg.below (by rw [hwf]; exact hba)⟩)
      have HBF : Hid (Below w.heap.size w wf) := Lib.hid (by rw [hwf]; exact HB.out.trans (hba.mono HB.out.size))
      rw [← hwf, ← hbx]
      clear hwf hbx hba x1 x2 x3
      go_loopg [20] (l.length - 0) (fun n v20 wq => ∃ k : Nat, v20 = .int .i64 k ∧ Hid (k ≤ l.length ∧ l.length - k = n) ∧ Hid (∃ vs, Gw wq (bt + 1) bt vs (partG l i k)) ∧ Hid (Ro wq bx 68 [.string (S xn), .slice ar xr.length cr, .slice aw xw.length cw]) ∧ Hid (Below w.heap.size w wq))
      case atStart => exact ⟨0, rfl, Lib.hid ⟨Nat.zero_le _, rfl⟩, HGF, HRO, HBF⟩
      case round =>
        clear HGF HRO HBF
        obtain ⟨k, rfl, HK, HGQ, HRO, HBQ⟩ := hrel
        rename World => wq
        by_cases hk : k < l.length
        · have hkk : (k : Int) < (l.length : Int) := by omega
          obtain ⟨y, hy⟩ : ∃ y, y = l[k] := ⟨_, rfl⟩
          obtain ⟨b', o', ar', cr', aw', cw', hbo, HY1, HY2, HY3, HYR, HYW⟩ := H.out.cells hk
          injection hbo with hbo
          injection hbo with hbo1 hbo2 _
          subst hbo1
          subst hbo2
          rw [← hy] at HY1 HY2 HY3 HYR HYW
          have HYI : Hid (l[k]? = some y) := Lib.hid (by rw [hy]; exact List.getElem?_eq_getElem hk)
          have hyl := HIN.out y (by rw [hy]; exact List.getElem_mem hk)
          clear hy
          obtain ⟨yn, yr, yw⟩ := y
          have y1 := HY1.out _ HBQ.out
          have y2 := HY2.out _ HBQ.out
          have y3 := HY3.out _ HBQ.out
          simp only at hyl y2 y3
          have hba : Below wq.heap.size wq (wq.alloc (.cells #[.string (S yn), .slice ar' yr.length cr', .slice aw' yw.length cw'] 68)) := (Below.refl _ _).alloc (Nat.le_refl _) _
          have HBA := Lib.hid (HBQ.out.trans (hba.mono HBQ.out.size))
          have b2 := (HRO.out.kw (Kw.of_below hba) (by have := HRO.out.lt; omega)).cell (i := 2) rfl
          have c1 := row_cell (heap_alloc_new wq (.cells #[.string (S yn), .slice ar' yr.length cr', .slice aw' yw.length cw'] 68)) 1
          simp only [List.getElem?_toArray, List.getElem?_cons_zero, List.getElem?_cons_succ] at c1
          have hc := cont2_any (.slice aw xw.length cw) xw (.slice ar' yr.length cr') yr wq.heap.size (wq.alloc (.cells #[.string (S yn), .slice ar' yr.length cr', .slice aw' yw.length cw'] 68)) (HXW.out.below' HBA.out) hxl.2 (HYR.out.below' HBA.out) hyl.1 c1 (by simp)
          rw [← Gr.feeds_any1 (xn, xr, xw) (yn, yr, yw)] at hc
          obtain ⟨q, hq⟩ : ∃ q, q = Gr.feeds (xn, xr, xw) (yn, yr, yw) := ⟨_, rfl⟩
          rw [← hq] at hc
          have HC := Lib.hid hc
          have HQ := Lib.hid hq
          clear hc hq c1 hba
          go_wp2_with fail
          (with_reducible refine HC.out.mono ?_); rintro e w5 ⟨rfl, b5⟩
          have hbw : Below wq.heap.size wq w5 := ((Below.refl _ _).alloc (Nat.le_refl _) _).trans (b5.mono (by simp))
          have HBW := Lib.hid hbw
          have HB5 := Lib.hid (HBQ.out.trans (hbw.mono HBQ.out.size))
          have HRO5 := Lib.hid (HRO.out.kw (Kw.of_below hbw) (by have := HRO.out.lt; omega))
          have hbt5 : bt + 1 ≤ w5.heap.size := by
            obtain ⟨vs, hg⟩ := HGQ.out
            have := hg.out.lt
            have := hbw.size
            omega
          clear b5 hbw b2 y1 y2 y3
          cases hq2 : q
          · have HPN := Lib.hid (partG_no HXI.out HYI.out (by rw [← HQ.out, hq2]))
            subst hq2
            go_wp2_with fail
            go_roundg (l.length - (k + 1))
            case measure => have := HK.out.2; omega
            case rel => exact ⟨k + 1, by simp, Lib.hid ⟨hk, rfl⟩, Lib.hid (by
              obtain ⟨vs, hg⟩ := HGQ.out
              exact ⟨vs, by rw [HPN.out]; exact hg.below HBW.out⟩), HRO5, HB5⟩
          · have HPY := Lib.hid (partG_yes HXI.out HYI.out (by rw [← HQ.out, hq2]))
            subst hq2
            obtain ⟨vs, hg⟩ := HGQ.out
            have hg := hg.below HBW.out
            have hli := partG_at HXI.out k
            obtain ⟨vv, hvv, ct, hrow⟩ := hg.get hli
            obtain ⟨av, cv2, hvs⟩ := own_shape hrow
            subst hvs
            obtain ⟨RW, hRW⟩ : ∃ RW, RW = Gr.recRow l (xn, xr, xw) k := ⟨_, rfl⟩
            have hrl : RW.length ≤ 1000 := by rw [hRW]; have := Gr.recRow_len l (xn, xr, xw) k; omega
            rw [← hRW] at hli hvv ct hrow HPY
            clear hRW
            have HLI := Lib.hid hli
            have HVV := Lib.hid hvv
            have HGG := Lib.hid hg
            have HRW := Lib.hid hrow
            clear hli hvv hg
            go_wp2_with (first
              | (at_builtin; refine wp_app2 tyInts rfl _ _ rfl (bt + 1) hrow rfl rfl rfl rfl (by intro u hu; simp at hu; rw [hu]; rfl) (by omega) (by omega) hbt5 ?_; intro v7 w7 o7 d7 g7 n7; obtain ⟨a7, c7, h7⟩ := own_shape o7; subst h7; have HO7 := Lib.hid o7; have HD7 := Lib.hid d7; have HK7 := Lib.hid (Kw.of_grown g7); have HN7 := Lib.hid n7; have k4 := (HGG.out.out.kw HK7.out (HGG.out.ne HVV.out)).cell HVV.out; have kf := (HGG.out.out.kw HK7.out (HGG.out.ne HVV.out)).free i; clear o7 d7 g7 n7)
              | fail)
            go_roundg (l.length - (k + 1))
            case measure => have := HK.out.2; omega
            case rel => exact ⟨k + 1, by simp, Lib.hid ⟨hk, rfl⟩, Lib.hid ⟨_, by
                rw [← HPY.out]
                exact HGG.out.step HVV.out HLI.out HK7.out HN7.out (by rw [List.length_append, List.length_singleton, show nn (RW ++ [k]) = nn RW ++ [(k : Int)] by simp, ints_snoc]; exact HO7.out)⟩,
              Lib.hid ((HRO5.out.kw HK7.out (HRO5.out.ne_own (by decide) HRW.out)).far (HRO5.out.ne HGG.out.out (by decide)) i _),
              Lib.hid (by
                have h1 := HB5.out.trans (HD7.out.mono (by have := HBT.out; omega))
                exact h1.trans ((Kw.set w7 bt i _).below (fun j e => by have := HBT.out; omega) h1.size))⟩
        · obtain rfl : k = l.length := by have := HK.out.1; omega
          go_wp2_with fail
          go_roundg (l.length - (i + 1))
          case measure => have := HI.out.2; omega
          case rel => exact ⟨i + 1, by simp, Lib.hid ⟨hi, rfl⟩, Lib.hid (by rw [← partG_next]; exact HGQ.out), HBQ⟩
    · obtain rfl : i = l.length := by have := HI.out.1; omega
      obtain ⟨vs, hg⟩ := HG.out
      have h9 := hg.rgOut (partG_len l l.length 0)
      rw [partG_done] at h9
      have H9 := Lib.hid h9
      clear h9 hg
      go_wp2_with fail
      go_ret
      exact ⟨_, rfl, H9.out, HB.out⟩
end Go.Proofs.Ytemdhbeegheefaa
