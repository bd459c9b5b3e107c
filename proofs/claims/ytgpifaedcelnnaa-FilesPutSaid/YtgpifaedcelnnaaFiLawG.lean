
/- 'FilesPut', walked: it answers true at every input. No condition. -/
import Derived.Test.YtgpifaedcelnnaaFiMerP
namespace Go.Proofs.Ytgpifaedcelnnaa
open Go.RowKit

theorem get_ext {l k : List Fl} (hl : Fi.Ord l) (hk : Fi.Ord k) {t : List UInt8} (h : ∀ f : Fl, f.1 = t → (f ∈ l ↔ f ∈ k)) : Fi.get l t = Fi.get k t := by
  cases hq : Fi.has l t
  · rw [get_none hq, get_none]
    cases hr : Fi.has k t
    · rfl
    · obtain ⟨f, hf, e⟩ := (has_iff k t).1 hr
      have := (has_iff l t).2 ⟨f, (h f e).2 hf, e⟩
      rw [hq] at this; cases this
  · obtain ⟨f, hf, rfl⟩ := (has_iff l t).1 hq
    rw [get_mem hl hf, get_mem hk ((h f rfl).1 hf)]
theorem get_drop {l : List Fl} (hl : Fi.Ord l) (n t : List UInt8) : Fi.get (Fi.drop l n) t = if t = n then ([], false) else Fi.get l t := by
  have hm : ∀ f : Fl, f ∈ Fi.drop l n ↔ f ∈ l ∧ f.1 ≠ n := fun f => by
    unfold Fi.drop
    rw [List.mem_filter]
    simp
  split
  · rename_i e
    subst e
    apply get_none
    cases hq : Fi.has (Fi.drop l t) t
    · rfl
    · obtain ⟨f, hf, e⟩ := (has_iff _ _).1 hq
      exact absurd e ((hm f).1 hf).2
  · rename_i e
    exact get_ext (ord_drop hl n) hl fun f hf => by
      rw [hm]
      exact ⟨fun h => h.1, fun h => ⟨h, by rw [hf]; exact e⟩⟩
theorem get_put {l : List Fl} (hl : Fi.Ord l) {f : Fl} (h0 : (Fi.put l f).2 = 0) (t : List UInt8) : Fi.get (Fi.put l f).1 t = if t = f.1 then (f.2, true) else Fi.get l t := by
  have hm := mem_put hl h0
  split
  · rename_i e
    subst e
    exact get_mem (ord_put hl f) ((hm f).2 (.inl rfl))
  · rename_i e
    exact get_ext (ord_put hl f) hl fun g hg => by
      rw [hm]
      constructor
      · rintro (h | h)
        · rw [h] at hg; exact absurd hg.symm e
        · exact h.1
      · intro h
        exact .inr ⟨h, by rw [hg]; exact e⟩
theorem put_len2 {l : List Fl} {f : Fl} (h0 : (Fi.put l f).2 = 0) : l.length ≤ (Fi.put l f).1.length := by
  rw [put_eq h0]
  simp only
  unfold Fi.putL
  split
  · rw [List.length_set]; exact Nat.le_refl _
  · rw [List.length_append, List.length_cons, List.length_take, List.length_drop]; omega
theorem fcs_text (l : List Fl) (i : Nat) (h : i < l.length) (t : List UInt8) : (fcs l).set (i * 2 + 1) (.string (S t)) = fcs (l.set i (l[i].1, t)) := by
  rw [← fcs_set l i h (l[i].1, t)]
  have h1 := (fcs_at l i h).1
  congr 1
  apply List.ext_getElem?
  intro j
  rw [List.getElem?_set]
  split
  · rename_i e
    subst e
    have hlt : i * 2 < (fcs l).length := by rw [fcs_length]; omega
    rw [if_pos hlt, h1]
  · rfl

set_option maxRecDepth 20000 in
set_option maxHeartbeats 8000000 in
/-- 'FilesPut'. -/
theorem filesPut_any (v : Value) (l : List Fl) (f : Fl) (name : List UInt8) (w : World) (hl : Rf w v l) (hs : ∀ f ∈ l, f.1.length ≤ 9223372036854775807 ∧ f.2.length ≤ 9223372036854775807) (hf : f.1.length ≤ 9223372036854775807 ∧ f.2.length ≤ 9223372036854775807) :
    Calls Try.prog 5 #[v, .agg #[.string (S f.1), .string (S f.2)], .string (S name)] w fun e w' => e = .returned (.bool true) ∧ Below w.heap.size w w' := by
  obtain ⟨nm0, tx0⟩ := f
  simp only at hf ⊢
  obtain ⟨w0, hw0⟩ : ∃ w0, w0 = w.alloc (.cells #[.string (S nm0), .string (S tx0)] 25) := ⟨_, rfl⟩
  have hb0 : Below w.heap.size w w0 := by rw [hw0]; exact (Below.refl _ _).alloc (Nat.le_refl _) _
  have hg0 : w0.heap[w.heap.size]? = some (.cells #[.string (S nm0), .string (S tx0)] 25 (0, 0)) := by rw [hw0]; exact heap_alloc_new w _
  have hs0 := hb0.size
  have hz0 : w0.heap.size = w.heap.size + 1 := by rw [hw0]; simp
  have HW := Lib.hid hw0
  have hA := refMap_any v l 20 200 w0 (hl.below' hb0) (by decide) (by decide) hs
  simp only [Int.cast_ofNat_Int] at hA
  have oka := map_ok l 20 200
  have hla := map_len l 20 200
  obtain ⟨a, ha⟩ : ∃ a, a = Fi.map l 20 200 := ⟨_, rfl⟩
  rw [← ha] at hA oka hla
  have HA := Lib.hid hA
  have OA := Lib.hid oka
  clear hA oka ha hl hs hw0
  go_enter Try.func5, Try.ntmps5
  go_wp2_with fail
  rw [← HW.out]
  (with_reducible refine HA.out.mono ?_); rintro e w1 ⟨va, rfl, oa, b1⟩
  have g1 := (b1.block _ (row_lt hg0)).trans hg0
  have ra := rf_own oa
  have B1 := hb0.trans (b1.mono hs0)
  obtain ⟨w2, hw2⟩ : ∃ w2, w2 = w1.alloc (.cells #[] 25) := ⟨_, rfl⟩
  have be : Below w1.heap.size w1 w2 := by rw [hw2]; exact (Below.refl _ _).alloc (Nat.le_refl _) _
  have oe : w2.ownsRow w1.heap.size 25 2 (.slice (some ⟨w1.heap.size, 0, none⟩) 0 0) 0 [] := by rw [hw2]; exact World.ownsRow_made w1 #[] 0 (Nat.le_refl _) (by decide) rfl
  have HW2 := Lib.hid hw2
  have ra2 := ra.below' be
  obtain ⟨aa, ca, rfl⟩ := ra2.shape
  have hz : (0 : Nat) + a.length = a.length := Nat.zero_add _
  clear hw2
  go_wp2_with (first | (at_builtin; rw [← HW2.out]; refine wp_app_all tyF (m := a.length) (news := fcs a) rfl _ _ rfl w1.heap.size oe ra2 rfl rfl fcs_one (by omega) (by omega) be.size ?_; intro v3 w3 o3 b3 _; have b13 := be.trans b3; have oa3 := own_below oa (own_under oa) b13; have B3 := B1.trans (b13.mono B1.size); have g3 := (b13.block _ (row_lt g1)).trans g1; have x0 := pair_cell0 g3; have x1 := pair_cell1 g3; rw [List.nil_append, Nat.zero_add] at o3) | fail)
  obtain ⟨nm, hnm⟩ : ∃ nm, nm = nm0.take 40 := ⟨_, rfl⟩
  obtain ⟨tx, htx⟩ : ∃ tx, tx = tx0.take 4100 := ⟨_, rfl⟩
  have hnl : nm.length ≤ 40 := by rw [hnm, List.length_take]; omega
  have HCut := Lib.hid (fcut_any (nm0, tx0) w3 hf)
  simp only [← hnm, ← htx] at HCut
  clear hnm htx hf
  (with_reducible refine HCut.out.mono ?_); rintro e w4 ⟨rfl, b4⟩
  have g4 := (b4.block _ (row_lt g3)).trans g3
  have oa4 := own_below oa3 (own_under oa3) b4
  have ow4 := own_below o3 (own_under o3) b4
  have B4 := B3.trans (b4.mono B3.size)
  have z0 := pair_cell0 g4
  have z2 := row_free g4 0
  have hset := row_set g4 0 (.string (S nm))
  have z4 := (row_cell hset 1).trans (show (#[Value.string (S nm0), .string (S tx0)].set! 0 (.string (S nm)))[1]? = some (.string (S tx0)) by rfl)
  have z5 := row_free hset 1
  have g5 := row_set hset 1 (.string (S tx))
  have oa5 := ownsRow_setCell_below (ownsRow_setCell_below oa4 (a := ⟨w.heap.size, 0, none⟩) (by simp only; omega) (.string (S nm))) (a := ⟨w.heap.size, 1, none⟩) (by simp only; omega) (.string (S tx))
  have ow5 := ownsRow_setCell_below (ownsRow_setCell_below ow4 (a := ⟨w.heap.size, 0, none⟩) (by have := b1.size; simp only; omega) (.string (S nm))) (a := ⟨w.heap.size, 1, none⟩) (by have := b1.size; simp only; omega) (.string (S tx))
  have B5 := (B4.setCell (p := ⟨w.heap.size, 0, none⟩) (Nat.le_refl _) (.string (S nm))).setCell (p := ⟨w.heap.size, 1, none⟩) (Nat.le_refl _) (.string (S tx))
  obtain ⟨w5, hw5⟩ : ∃ w5, w5 = (w4.setCell ⟨w.heap.size, 0, none⟩ (.string (S nm))).setCell ⟨w.heap.size, 1, none⟩ (.string (S tx)) := ⟨_, rfl⟩
  rw [← hw5] at oa5 ow5 B5 g5
  have g5 : w5.heap[w.heap.size]? = some (.cells #[.string (S nm), .string (S tx)] 25 (0, 0)) := g5
  have HW5 := Lib.hid hw5
  clear hset hw5 oa4 ow4 B4 oa3 o3 B3 g3 HCut b4 x0 x1
  have x0 := pair_cell0 g5
  have x1 := pair_cell1 g5
  go_wp2_with fail
  rw [← HW5.out]
  have ra5 := rf_own oa5
  have rw5 := rf_own ow5
  have hpz := put_zero a (nm, tx)
  have hpe2 := put_none a (nm, tx)
  have hpl := put_len a (nm, tx)
  have hpl2 := put_len2 (l := a) (f := (nm, tx))
  have hpo := ord_put OA.out.2.1 (nm, tx)
  have hgp := get_put (f := (nm, tx)) OA.out.2.1
  have HPC := Lib.hid (fput_any _ a (nm, tx) w5 ra5 (by omega) OA.out.2.1 (by simp only; omega))
  obtain ⟨⟨pb, pe⟩, hp⟩ : ∃ p, p = Fi.put a (nm, tx) := ⟨_, rfl⟩
  rw [← hp] at hpz hpe2 hpl hpl2 hpo hgp HPC
  simp only at hpz hpe2 hpl hpl2 hgp HPC
  have HGP := Lib.hid hgp
  have HPO := Lib.hid hpo
  have HRA := Lib.hid ra5
  have HRW := Lib.hid rw5
  have HGD := Lib.hid (get_drop OA.out.2.1 nm)
  have hgh := get_hasB a nm
  have hpe : pe = 0 ∨ pe ≠ 0 := by omega
  clear hp hpo hgp ra5 rw5 ow5 oa5 hpz hpe2 x0 x1 z0 z2 z4 z5 HW5 HW2
  obtain ⟨⟨s, is⟩, hgs⟩ : ∃ p, p = Fi.get a name := ⟨_, rfl⟩
  obtain ⟨⟨s2, there⟩, hgt⟩ : ∃ p, p = Fi.get a nm := ⟨_, rfl⟩
  rw [← hgt] at hgh
  simp only at hgh
  have HGS := Lib.hid hgs
  have HGT := Lib.hid hgt
  have HGO := Lib.hid hgh.symm
  obtain ⟨dd, hdd⟩ : ∃ dd, dd = Fi.drop a nm := ⟨_, rfl⟩
  have hdl : dd.length ≤ a.length := by rw [hdd]; exact drop_le a nm
  have HDD := Lib.hid hdd
  have hdo := ord_drop OA.out.2.1 nm
  rw [← hdd] at HGD hdo
  have HDO := Lib.hid hdo
  have htt : (there == there) = true := by simp
  have hss : (s == s) = true := by simp
  have hii : (is == is) = true := by simp
  have hss2 : (s != s) = false := by simp
  have hii2 : (is != is) = false := by simp
  have htx : (tx == tx) = true := by simp
  have htx2 : (tx != tx) = false := by simp
  clear hgs hgt hgh hdd hdo
  (with_reducible refine HPC.out.mono ?_); rintro e w6 ⟨vb, rfl, ob6, b6⟩
  have X6 := b6
  have x0 := pair_cell0 ((X6.block _ (row_lt g5)).trans g5)
  obtain ⟨ab, cb, rfl⟩ := own_shape ob6
  go_wp2_with fail
  (with_reducible refine (fdrop_any _ a nm _ (HRA.out.below' X6) (by omega) OA.out.2.1).mono ?_); rintro e w7 ⟨vc, rfl, oc, b7⟩
  rw [← HDD.out] at oc
  rw [HGO.out]
  have rc := rf_own oc
  have ob7 := own_below ob6 (own_under ob6) b7
  have X7 := X6.trans (b7.mono X6.size)
  clear x0 ob6 oc b7 X6 b6 HPC
  go_wp2_with fail
  (with_reducible refine (fget_any _ a name _ (HRA.out.below' X7) (by omega) OA.out.2.1).mono ?_); rintro e w8 ⟨rfl, b8⟩
  rw [← HGS.out]
  have rc8 := rc.below' b8
  have ob8 := own_below ob7 (own_under ob7) b8
  have X8 := X7.trans (b8.mono X7.size)
  have x0 := pair_cell0 ((X8.block _ (row_lt g5)).trans g5)
  have x1 := pair_cell1 ((X8.block _ (row_lt g5)).trans g5)
  clear rc ob7 b8 X7
  by_cases hnn : name = nm
  · have hnn := hnn.symm
    subst hnn
    have hn1 : (nm == nm) = true := by simp
    have hn2 : (nm != nm) = false := by simp
    rcases hpe with rfl | hpe
    · have HG1 := Lib.hid (show Fi.get pb nm = (tx, true) by rw [HGP.out rfl, if_pos rfl])
      have hlb := hpl2 rfl
      have hpp : (0 : Int) < (pb.length : Int) := by
        cases pb with
        | nil => have h := HG1.out; simp [Fi.get] at h
        | cons f r => rw [List.length_cons]; omega
      go_wp2_with fail
      (with_reducible refine (fget_any _ pb nm _ (rf_own ob8) (by omega) HPO.out).mono ?_); rintro e w9 ⟨rfl, b9⟩
      rw [HG1.out]
      have rc9 := rc8.below' b9
      have ob9 := own_below ob8 (own_under ob8) b9
      have X9 := X8.trans (b9.mono X8.size)
      clear rc8 ob8 X8 b9 x0 x1
      go_wp2_with fail
      (with_reducible refine (fget_any _ pb nm _ (rf_own ob9) (by omega) HPO.out).mono ?_); rintro e wa ⟨rfl, ba⟩
      rw [HG1.out]
      have rca := rc9.below' ba
      have oba := own_below ob9 (own_under ob9) ba
      have Xa := X9.trans (ba.mono X9.size)
      have x0 := pair_cell0 ((Xa.block _ (row_lt g5)).trans g5)
      have x1 := pair_cell1 ((Xa.block _ (row_lt g5)).trans g5)
      clear rc9 ob9 X9 ba
      have hlt1 : decide ((pb.length : Int) < (a.length : Int)) = false := by simp; omega
      go_wp2_with fail
      have HG3 := Lib.hid (show Fi.get dd nm = ([], false) by rw [HGD.out nm, if_pos rfl])
      skip
      (with_reducible refine (fget_any _ dd nm _ rca (by omega) HDO.out).mono ?_); rintro e wb ⟨rfl, bb⟩
      rw [HG3.out]
      have rcb := rca.below' bb
      have obb := own_below oba (own_under oba) bb
      have Xb := Xa.trans (bb.mono Xa.size)
      clear rca oba Xa bb x0 x1
      go_wp2_with fail
      (with_reducible refine (fget_any _ dd nm _ rcb (by omega) HDO.out).mono ?_); rintro e wc ⟨rfl, bc⟩
      rw [HG3.out]
      have obc := own_below obb (own_under obb) bc
      have Xc := Xb.trans (bc.mono Xb.size)
      have x0 := pair_cell0 ((Xc.block _ (row_lt g5)).trans g5)
      clear rcb obb Xb bc
      go_wp2_with fail
      (with_reducible refine (fget_any _ a nm _ (HRA.out.below' Xc) (by omega) OA.out.2.1).mono ?_); rintro e wd ⟨rfl, bd⟩
      rw [← HGT.out]
      have obd := own_below obc (own_under obc) bd
      have Xd := Xc.trans (bd.mono Xc.size)
      clear obc Xc bd x0
      go_wp2_with fail
      go_loopw [25] (fun i wr => ∃ (q : Nat) (l' : List Fl), q ≤ pb.length ∧ i = .int .i64 q ∧ l'.length = pb.length ∧ wr.ownsRow w5.heap.size 25 2 (.slice ab pb.length cb) pb.length (fcs l') ∧ Below w5.heap.size w5 wr) (fun i _ => pb.length - (intOf i).toNat)
      case atStart => exact ⟨0, pb, Nat.zero_le _, rfl, rfl, obd, Xd⟩
      case round =>
        obtain ⟨q, l', hq, rfl, hll, hown, hbw⟩ := hrel
        by_cases hlt : q < pb.length
        · obtain ⟨g, c, hv⟩ := own_form9 hown (by omega)
          cases hv
          have hqi : (q : Int) < (pb.length : Int) := by omega
          have hlq : q < l'.length := by omega
          obtain ⟨cur, hrow, hcs⟩ := own_row hown
          have hsz := own_size hown
          have hrd : Rf wr (.slice (some ⟨g, 0, none⟩) l'.length cb) l' := by have h := own_rd hown; rw [← hll] at h; exact h
          obtain ⟨b6, q6, e6, z0, z1⟩ := Rf.at hrd hlq
          cases e6
          simp only [Nat.zero_add] at z0 z1
          have z5 := row_free hrow (q * 2 + 1)
          have hst := (World.ownsRow.stored hown (q * 2 + 1) (.string (S [99, 104, 97, 110, 103, 101, 100]))).1
          rw [fcs_text l' q hlq] at hst
          have hgB := (hown.lt g rfl).1
          clear hrd hrow
          go_wp2_with fail
          go_roundw
          case rel => exact ⟨q + 1, _, by omega, by go_num, (by rw [List.length_set]; exact hll), hst, hbw.setCell (p := ⟨g, q * 2 + 1, none⟩) hgB _⟩
          case measure => simp [intOf]; omega
        · obtain rfl : q = pb.length := by omega
          have hno : decide ((pb.length : Int) < (pb.length : Int)) = false := by simp
          have x0 := pair_cell0 ((hbw.block _ (row_lt g5)).trans g5)
          have hra := HRA.out.below' hbw
          have hrw := HRW.out.below' hbw
          have Br := B5.trans (hbw.mono B5.size)
          clear hown hll
          go_wp2_with fail
          (with_reducible refine (equal_any _ _ a a _ hra hrw (by omega) (by omega)).mono ?_); rintro e we ⟨rfl, be⟩
          rw [show (a == a) = true by simp]
          have Be := Br.trans (be.mono Br.size)
          go_wp2_with fail
          (with_reducible refine (fiFixed_any _).mono ?_); rintro e wf ⟨rfl, bf⟩
          go_wp2_with fail
          go_ret
          exact ⟨rfl, Be.trans (bf.mono Be.size)⟩
    · have hp1 : (pe == 0) = false := by simpa using hpe
      have hp2 : decide (pe = 0) = false := by simpa using hpe
      go_wp2_with fail
      have HG3 := Lib.hid (show Fi.get dd nm = ([], false) by rw [HGD.out nm, if_pos rfl])
      skip
      (with_reducible refine (fget_any _ dd nm _ rc8 (by omega) HDO.out).mono ?_); rintro e wb ⟨rfl, bb⟩
      rw [HG3.out]
      have rcb := rc8.below' bb
      have obb := own_below ob8 (own_under ob8) bb
      have Xb := X8.trans (bb.mono X8.size)
      clear rc8 ob8 X8 bb x0 x1
      go_wp2_with fail
      (with_reducible refine (fget_any _ dd nm _ rcb (by omega) HDO.out).mono ?_); rintro e wc ⟨rfl, bc⟩
      rw [HG3.out]
      have obc := own_below obb (own_under obb) bc
      have Xc := Xb.trans (bc.mono Xb.size)
      have x0 := pair_cell0 ((Xc.block _ (row_lt g5)).trans g5)
      clear rcb obb Xb bc
      go_wp2_with fail
      (with_reducible refine (fget_any _ a nm _ (HRA.out.below' Xc) (by omega) OA.out.2.1).mono ?_); rintro e wd ⟨rfl, bd⟩
      rw [← HGT.out]
      have obd := own_below obc (own_under obc) bd
      have Xd := Xc.trans (bd.mono Xc.size)
      clear obc Xc bd x0
      go_wp2_with fail
      go_loopw [25] (fun i wr => ∃ (q : Nat) (l' : List Fl), q ≤ pb.length ∧ i = .int .i64 q ∧ l'.length = pb.length ∧ wr.ownsRow w5.heap.size 25 2 (.slice ab pb.length cb) pb.length (fcs l') ∧ Below w5.heap.size w5 wr) (fun i _ => pb.length - (intOf i).toNat)
      case atStart => exact ⟨0, pb, Nat.zero_le _, rfl, rfl, obd, Xd⟩
      case round =>
        obtain ⟨q, l', hq, rfl, hll, hown, hbw⟩ := hrel
        by_cases hlt : q < pb.length
        · obtain ⟨g, c, hv⟩ := own_form9 hown (by omega)
          cases hv
          have hqi : (q : Int) < (pb.length : Int) := by omega
          have hlq : q < l'.length := by omega
          obtain ⟨cur, hrow, hcs⟩ := own_row hown
          have hsz := own_size hown
          have hrd : Rf wr (.slice (some ⟨g, 0, none⟩) l'.length cb) l' := by have h := own_rd hown; rw [← hll] at h; exact h
          obtain ⟨b6, q6, e6, z0, z1⟩ := Rf.at hrd hlq
          cases e6
          simp only [Nat.zero_add] at z0 z1
          have z5 := row_free hrow (q * 2 + 1)
          have hst := (World.ownsRow.stored hown (q * 2 + 1) (.string (S [99, 104, 97, 110, 103, 101, 100]))).1
          rw [fcs_text l' q hlq] at hst
          have hgB := (hown.lt g rfl).1
          clear hrd hrow
          go_wp2_with fail
          go_roundw
          case rel => exact ⟨q + 1, _, by omega, by go_num, (by rw [List.length_set]; exact hll), hst, hbw.setCell (p := ⟨g, q * 2 + 1, none⟩) hgB _⟩
          case measure => simp [intOf]; omega
        · obtain rfl : q = pb.length := by omega
          have hno : decide ((pb.length : Int) < (pb.length : Int)) = false := by simp
          have x0 := pair_cell0 ((hbw.block _ (row_lt g5)).trans g5)
          have hra := HRA.out.below' hbw
          have hrw := HRW.out.below' hbw
          have Br := B5.trans (hbw.mono B5.size)
          clear hown hll
          go_wp2_with fail
          (with_reducible refine (equal_any _ _ a a _ hra hrw (by omega) (by omega)).mono ?_); rintro e we ⟨rfl, be⟩
          rw [show (a == a) = true by simp]
          have Be := Br.trans (be.mono Br.size)
          go_wp2_with fail
          (with_reducible refine (fiFixed_any _).mono ?_); rintro e wf ⟨rfl, bf⟩
          go_wp2_with fail
          go_ret
          exact ⟨rfl, Be.trans (bf.mono Be.size)⟩
  · have hn1 : (name == nm) = false := by simpa using hnn
    have hn2 : (name != nm) = true := by simpa using hnn
    rcases hpe with rfl | hpe
    · have HG1 := Lib.hid (show Fi.get pb nm = (tx, true) by rw [HGP.out rfl, if_pos rfl])
      have HG2 := Lib.hid (show Fi.get pb name = (s, is) by rw [HGP.out rfl, if_neg hnn, HGS.out])
      have hlb := hpl2 rfl
      have hpp : (0 : Int) < (pb.length : Int) := by
        cases pb with
        | nil => have h := HG1.out; simp [Fi.get] at h
        | cons f r => rw [List.length_cons]; omega
      go_wp2_with fail
      (with_reducible refine (fget_any _ pb nm _ (rf_own ob8) (by omega) HPO.out).mono ?_); rintro e w9 ⟨rfl, b9⟩
      rw [HG1.out]
      have rc9 := rc8.below' b9
      have ob9 := own_below ob8 (own_under ob8) b9
      have X9 := X8.trans (b9.mono X8.size)
      clear rc8 ob8 X8 b9 x0 x1
      go_wp2_with fail
      (with_reducible refine (fget_any _ pb name _ (rf_own ob9) (by omega) HPO.out).mono ?_); rintro e wa ⟨rfl, ba⟩
      rw [HG2.out]
      have rca := rc9.below' ba
      have oba := own_below ob9 (own_under ob9) ba
      have Xa := X9.trans (ba.mono X9.size)
      have x0 := pair_cell0 ((Xa.block _ (row_lt g5)).trans g5)
      have x1 := pair_cell1 ((Xa.block _ (row_lt g5)).trans g5)
      clear rc9 ob9 X9 ba
      have hlt1 : decide ((pb.length : Int) < (a.length : Int)) = false := by simp; omega
      go_wp2_with fail
      have HG3 := Lib.hid (show Fi.get dd nm = ([], false) by rw [HGD.out nm, if_pos rfl])
      have HG4 := Lib.hid (show Fi.get dd name = (s, is) by rw [HGD.out name, if_neg hnn, HGS.out])
      (with_reducible refine (fget_any _ dd nm _ rca (by omega) HDO.out).mono ?_); rintro e wb ⟨rfl, bb⟩
      rw [HG3.out]
      have rcb := rca.below' bb
      have obb := own_below oba (own_under oba) bb
      have Xb := Xa.trans (bb.mono Xa.size)
      clear rca oba Xa bb x0 x1
      go_wp2_with fail
      (with_reducible refine (fget_any _ dd name _ rcb (by omega) HDO.out).mono ?_); rintro e wc ⟨rfl, bc⟩
      rw [HG4.out]
      have obc := own_below obb (own_under obb) bc
      have Xc := Xb.trans (bc.mono Xb.size)
      have x0 := pair_cell0 ((Xc.block _ (row_lt g5)).trans g5)
      clear rcb obb Xb bc
      go_wp2_with fail
      (with_reducible refine (fget_any _ a nm _ (HRA.out.below' Xc) (by omega) OA.out.2.1).mono ?_); rintro e wd ⟨rfl, bd⟩
      rw [← HGT.out]
      have obd := own_below obc (own_under obc) bd
      have Xd := Xc.trans (bd.mono Xc.size)
      clear obc Xc bd x0
      go_wp2_with fail
      go_loopw [25] (fun i wr => ∃ (q : Nat) (l' : List Fl), q ≤ pb.length ∧ i = .int .i64 q ∧ l'.length = pb.length ∧ wr.ownsRow w5.heap.size 25 2 (.slice ab pb.length cb) pb.length (fcs l') ∧ Below w5.heap.size w5 wr) (fun i _ => pb.length - (intOf i).toNat)
      case atStart => exact ⟨0, pb, Nat.zero_le _, rfl, rfl, obd, Xd⟩
      case round =>
        obtain ⟨q, l', hq, rfl, hll, hown, hbw⟩ := hrel
        by_cases hlt : q < pb.length
        · obtain ⟨g, c, hv⟩ := own_form9 hown (by omega)
          cases hv
          have hqi : (q : Int) < (pb.length : Int) := by omega
          have hlq : q < l'.length := by omega
          obtain ⟨cur, hrow, hcs⟩ := own_row hown
          have hsz := own_size hown
          have hrd : Rf wr (.slice (some ⟨g, 0, none⟩) l'.length cb) l' := by have h := own_rd hown; rw [← hll] at h; exact h
          obtain ⟨b6, q6, e6, z0, z1⟩ := Rf.at hrd hlq
          cases e6
          simp only [Nat.zero_add] at z0 z1
          have z5 := row_free hrow (q * 2 + 1)
          have hst := (World.ownsRow.stored hown (q * 2 + 1) (.string (S [99, 104, 97, 110, 103, 101, 100]))).1
          rw [fcs_text l' q hlq] at hst
          have hgB := (hown.lt g rfl).1
          clear hrd hrow
          go_wp2_with fail
          go_roundw
          case rel => exact ⟨q + 1, _, by omega, by go_num, (by rw [List.length_set]; exact hll), hst, hbw.setCell (p := ⟨g, q * 2 + 1, none⟩) hgB _⟩
          case measure => simp [intOf]; omega
        · obtain rfl : q = pb.length := by omega
          have hno : decide ((pb.length : Int) < (pb.length : Int)) = false := by simp
          have x0 := pair_cell0 ((hbw.block _ (row_lt g5)).trans g5)
          have hra := HRA.out.below' hbw
          have hrw := HRW.out.below' hbw
          have Br := B5.trans (hbw.mono B5.size)
          clear hown hll
          go_wp2_with fail
          (with_reducible refine (equal_any _ _ a a _ hra hrw (by omega) (by omega)).mono ?_); rintro e we ⟨rfl, be⟩
          rw [show (a == a) = true by simp]
          have Be := Br.trans (be.mono Br.size)
          go_wp2_with fail
          (with_reducible refine (fiFixed_any _).mono ?_); rintro e wf ⟨rfl, bf⟩
          go_wp2_with fail
          go_ret
          exact ⟨rfl, Be.trans (bf.mono Be.size)⟩
    · have hp1 : (pe == 0) = false := by simpa using hpe
      have hp2 : decide (pe = 0) = false := by simpa using hpe
      go_wp2_with fail
      have HG3 := Lib.hid (show Fi.get dd nm = ([], false) by rw [HGD.out nm, if_pos rfl])
      have HG4 := Lib.hid (show Fi.get dd name = (s, is) by rw [HGD.out name, if_neg hnn, HGS.out])
      (with_reducible refine (fget_any _ dd nm _ rc8 (by omega) HDO.out).mono ?_); rintro e wb ⟨rfl, bb⟩
      rw [HG3.out]
      have rcb := rc8.below' bb
      have obb := own_below ob8 (own_under ob8) bb
      have Xb := X8.trans (bb.mono X8.size)
      clear rc8 ob8 X8 bb x0 x1
      go_wp2_with fail
      (with_reducible refine (fget_any _ dd name _ rcb (by omega) HDO.out).mono ?_); rintro e wc ⟨rfl, bc⟩
      rw [HG4.out]
      have obc := own_below obb (own_under obb) bc
      have Xc := Xb.trans (bc.mono Xb.size)
      have x0 := pair_cell0 ((Xc.block _ (row_lt g5)).trans g5)
      clear rcb obb Xb bc
      go_wp2_with fail
      (with_reducible refine (fget_any _ a nm _ (HRA.out.below' Xc) (by omega) OA.out.2.1).mono ?_); rintro e wd ⟨rfl, bd⟩
      rw [← HGT.out]
      have obd := own_below obc (own_under obc) bd
      have Xd := Xc.trans (bd.mono Xc.size)
      clear obc Xc bd x0
      go_wp2_with fail
      go_loopw [25] (fun i wr => ∃ (q : Nat) (l' : List Fl), q ≤ pb.length ∧ i = .int .i64 q ∧ l'.length = pb.length ∧ wr.ownsRow w5.heap.size 25 2 (.slice ab pb.length cb) pb.length (fcs l') ∧ Below w5.heap.size w5 wr) (fun i _ => pb.length - (intOf i).toNat)
      case atStart => exact ⟨0, pb, Nat.zero_le _, rfl, rfl, obd, Xd⟩
      case round =>
        obtain ⟨q, l', hq, rfl, hll, hown, hbw⟩ := hrel
        by_cases hlt : q < pb.length
        · obtain ⟨g, c, hv⟩ := own_form9 hown (by omega)
          cases hv
          have hqi : (q : Int) < (pb.length : Int) := by omega
          have hlq : q < l'.length := by omega
          obtain ⟨cur, hrow, hcs⟩ := own_row hown
          have hsz := own_size hown
          have hrd : Rf wr (.slice (some ⟨g, 0, none⟩) l'.length cb) l' := by have h := own_rd hown; rw [← hll] at h; exact h
          obtain ⟨b6, q6, e6, z0, z1⟩ := Rf.at hrd hlq
          cases e6
          simp only [Nat.zero_add] at z0 z1
          have z5 := row_free hrow (q * 2 + 1)
          have hst := (World.ownsRow.stored hown (q * 2 + 1) (.string (S [99, 104, 97, 110, 103, 101, 100]))).1
          rw [fcs_text l' q hlq] at hst
          have hgB := (hown.lt g rfl).1
          clear hrd hrow
          go_wp2_with fail
          go_roundw
          case rel => exact ⟨q + 1, _, by omega, by go_num, (by rw [List.length_set]; exact hll), hst, hbw.setCell (p := ⟨g, q * 2 + 1, none⟩) hgB _⟩
          case measure => simp [intOf]; omega
        · obtain rfl : q = pb.length := by omega
          have hno : decide ((pb.length : Int) < (pb.length : Int)) = false := by simp
          have x0 := pair_cell0 ((hbw.block _ (row_lt g5)).trans g5)
          have hra := HRA.out.below' hbw
          have hrw := HRW.out.below' hbw
          have Br := B5.trans (hbw.mono B5.size)
          clear hown hll
          go_wp2_with fail
          (with_reducible refine (equal_any _ _ a a _ hra hrw (by omega) (by omega)).mono ?_); rintro e we ⟨rfl, be⟩
          rw [show (a == a) = true by simp]
          have Be := Br.trans (be.mono Br.size)
          go_wp2_with fail
          (with_reducible refine (fiFixed_any _).mono ?_); rintro e wf ⟨rfl, bf⟩
          go_wp2_with fail
          go_ret
          exact ⟨rfl, Be.trans (bf.mono Be.size)⟩


end Go.Proofs.Ytgpifaedcelnnaa
