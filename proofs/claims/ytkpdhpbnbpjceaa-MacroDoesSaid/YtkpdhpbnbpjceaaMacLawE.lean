
/- 'MacroDoes', walked: it answers true at every input. No condition. -/
import Derived.Test.YtkpdhpbnbpjceaaMacRefS
import Derived.Test.YtkpdhpbnbpjceaaMacIns
import Derived.Test.YtkpdhpbnbpjceaaMacFixed
import Derived.Deep.RegionHeld3
namespace Go.Proofs.Ytkpdhpbnbpjceaa
open Go.RowKit

theorem sorted_putL {l : List Mac} (h : Sorted (l.map Prod.fst)) (f : Mac) : Sorted ((putL l f).map Prod.fst) := by
  obtain ⟨n, hn⟩ : ∃ n, n = lb ((dropM l f.1).map Prod.fst) f.1 := ⟨_, rfl⟩
  rw [← putL_refM h f hn]
  have hd := sorted_dropM h f.1
  have hne : ∀ g ∈ dropM l f.1, g.1 ≠ f.1 := fun g hg => by
    have := (List.mem_filter.1 hg).2
    simpa using this
  obtain ⟨rest, hrest⟩ : ∃ rest, rest = dropM l f.1 := ⟨_, rfl⟩
  rw [← hrest] at hd hne hn ⊢
  clear hrest
  have hnl : n ≤ rest.length := by rw [hn]; have := lb_le (rest.map Prod.fst) f.1; simpa using this
  have hp := List.pairwise_iff_getElem.1 hd
  have hlow : ∀ x (hx : x < rest.length), x < n → Lib.compareBytes rest[x].1 f.1 < 0 := fun x hx hxn => by
    have := lb_lt (ns := rest.map Prod.fst) (t := f.1) (x := x) (by simpa using hx) (by rw [← hn]; exact hxn)
    simpa using this
  have hhigh : ∀ x (hx : x < rest.length), n ≤ x → Lib.compareBytes f.1 rest[x].1 < 0 := fun x hx hxn => by
    have h0 : 0 ≤ Lib.compareBytes rest[n].1 f.1 := by
      have := lb_ge (ns := rest.map Prod.fst) (t := f.1) (by rw [← hn, List.length_map]; omega)
      simp only [← hn, List.getElem_map] at this
      exact this
    have h1 : Lib.compareBytes rest[n].1 f.1 ≠ 0 := fun e => hne rest[n] (List.getElem_mem _) (cb_eq e)
    have h2 : Lib.compareBytes f.1 rest[n].1 < 0 := by rw [cb_swap]; omega
    by_cases e : x = n
    · subst e; exact h2
    · have h3 := hp n x (by rw [List.length_map]; omega) (by rw [List.length_map]; exact hx) (by omega)
      rw [List.getElem_map, List.getElem_map] at h3
      exact cb_trans h2 h3
  unfold Sorted
  rw [List.map_append, List.map_cons, List.pairwise_append, List.pairwise_cons]
  have hd' : (rest.map Prod.fst).Pairwise fun a b => Lib.compareBytes a b < 0 := hd
  refine ⟨?_, ⟨?_, ?_⟩, ?_⟩
  · exact hd'.sublist ((List.take_sublist n rest).map _)
  · intro a ha
    obtain ⟨g, hg, rfl⟩ := List.mem_map.1 ha
    obtain ⟨j, hj, rfl⟩ := List.getElem_of_mem hg
    rw [List.length_drop] at hj
    rw [List.getElem_drop]
    exact hhigh (n + j) (by omega) (by omega)
  · exact hd'.sublist ((List.drop_sublist n rest).map _)
  · intro a ha b hb
    obtain ⟨g, hg, rfl⟩ := List.mem_map.1 ha
    obtain ⟨i, hi, rfl⟩ := List.getElem_of_mem hg
    rw [List.length_take] at hi
    rw [List.getElem_take]
    have h4 := hlow i (by omega) (by omega)
    rcases List.mem_cons.1 hb with rfl | hb
    · exact h4
    · obtain ⟨g, hg, rfl⟩ := List.mem_map.1 hb
      obtain ⟨j, hj, rfl⟩ := List.getElem_of_mem hg
      rw [List.length_drop] at hj
      rw [List.getElem_drop]
      exact cb_trans h4 (hhigh (n + j) (by omega) (by omega))
theorem mputL_len (l : List Mac) (f : Mac) : (putL l f).length ≤ l.length + 1 := by
  unfold putL
  split
  · simp
  · rw [List.length_append, List.length_cons, List.length_take, List.length_drop]; omega
theorem putM_cases (l : List Mac) (f : Mac) : ((putM l f).2 = 0 ∧ (putM l f).1 = putL l f) ∨ ((putM l f).2 ≠ 0 ∧ (putM l f).1 = []) := by
  unfold putM
  split
  · simp
  · split
    · simp
    · split
      · simp
      · simp
theorem rb_at {w : World} {a : Option Addr} {n c : Nat} {l : List Bool} (h : Rd w 1 (.slice a n c) l.length (l.map Value.bool)) {i : Nat} (hi : i < l.length) :
    ∃ b o, a = some ⟨b, o, none⟩ ∧ w.cell? ⟨b, o + i, none⟩ = some (.bool l[i]) := by
  rcases h.2 with ⟨_, h2⟩ | ⟨b, o, cap, hv, hlt, hc, _⟩
  · omega
  · cases hv
    exact ⟨b, o, rfl, hc _ _ (by simp [hi])⟩
theorem rdM_nil (w : World) (a : Nat) : RdM w (.slice (some ⟨a, 0, none⟩) 0 0) [] := ⟨⟨rfl, .inl ⟨.inr ⟨_, _, rfl⟩, rfl⟩⟩, fun _ h => by cases h⟩
/-- One macro, laid anew. -/
theorem rdM_one (w : World) (m : Mac) (bv : Value) (T : TypeId) (hb : Rt w bv m.2.2) (hl : m.2.2.length ≤ 1000000) : RdM (w.alloc (.cells #[.string (S m.1), .int .i64 m.2.1, bv] T)) (.slice (some ⟨w.heap.size, 0, none⟩) 1 1) [(m, bv)] := by
  have hn := heap_alloc_new w (.cells #[.string (S m.1), .int .i64 m.2.1, bv] T)
  refine ⟨⟨rfl, .inr ⟨_, 0, 1, rfl, fun _ => row_lt hn, fun j u hj => by rw [Nat.zero_add, row_cell hn]; simpa [mcs, mc] using hj, Nat.le_refl _⟩⟩, fun p hp => ?_⟩
  rw [List.mem_singleton.1 hp]
  exact ⟨hb.below' ((Below.refl _ _).alloc (Nat.le_refl _) _), hl⟩
theorem rdM_one3 (w : World) (n : List UInt8) (p : Int) (l : List Lx.Tok) (bv : Value) (T : TypeId) (hb : Rt w bv l) (hl : l.length ≤ 1000000) : RdM (w.alloc (.cells #[.string (S n), .int .i64 p, bv] T)) (.slice (some ⟨w.heap.size, 0, none⟩) 1 1) [((n, p, l), bv)] :=
  rdM_one w (n, p, l) bv T hb hl
theorem rdM_fst (w : World) (n : List UInt8) (p : Int) (l : List Lx.Tok) (bv : Value) (T : TypeId) (o : Obj) (hb : Rt w bv l) (hl : l.length ≤ 1000000) : RdM ((w.alloc (.cells #[.string (S n), .int .i64 p, bv] T)).alloc o) (.slice (some ⟨w.heap.size, 0, none⟩) 1 1) [((n, p, l), bv)] :=
  (rdM_one3 w n p l bv T hb hl).below' ((Below.refl _ _).alloc (Nat.le_refl _) _)
theorem rdM_snd (w : World) (n : List UInt8) (p : Int) (l : List Lx.Tok) (bv : Value) (T : TypeId) (o : Obj) (hb : Rt w bv l) (hl : l.length ≤ 1000000) : RdM ((w.alloc o).alloc (.cells #[.string (S n), .int .i64 p, bv] T)) (.slice (some ⟨w.heap.size + 1, 0, none⟩) 1 1) [((n, p, l), bv)] := by
  have := rdM_one3 (w.alloc o) n p l bv T (hb.below' ((Below.refl _ _).alloc (Nat.le_refl _) _)) hl
  simpa using this
theorem same_one (va vb x y : Value) (m : Mac) (w : World) (ha : RdM w va [(m, x)]) (hb : RdM w vb [(m, y)]) :
    Calls Try.prog 32 #[va, vb] w fun e w' => e = .returned (.bool true) ∧ ∃ k, w' = w.drewN k := refMsame_eq va vb _ _ w ha hb (by rw [List.length_singleton]; decide) rfl
/-- What is put is made of what was. -/
theorem rdM_put {w w' : World} {T : Nat} {v v' bv : Value} {ps qs : List (Mac × Value)} {m : Mac} (h : RdM w v ps) (hb : Rt w bv m.2.2) (hbl : m.2.2.length ≤ 1000000) (b : Below w.heap.size w w') (ho : w'.ownsRow w.heap.size T 3 v' qs.length (mcs qs)) (hq : ∀ p ∈ qs, p ∈ ps ∨ p = (m, bv)) : RdM w' v' qs :=
  ⟨own_rd ho, fun p hp => by
    rcases hq p hp with h1 | rfl
    · exact ⟨(h.2 p h1).1.below' b, (h.2 p h1).2⟩
    · exact ⟨hb.below' b, hbl⟩⟩
theorem dropP_mem {ps : List (Mac × Value)} {t : List UInt8} : ∀ p ∈ dropP ps t, p ∈ ps := fun _ h => (List.mem_filter.1 h).1
theorem dropM_le (l : List Mac) (t : List UInt8) : (dropM l t).length ≤ l.length := List.length_filter_le _ _
theorem getM_len (ps : List (Mac × Value)) (t : List UInt8) (h : ∀ p ∈ ps, p.1.2.2.length ≤ 1000000) : (getM (ps.map Prod.fst) t).1.2.2.length ≤ 1000000 := by
  unfold getM
  cases hq : (ps.map Prod.fst).find? fun m => m.1 == t with
  | none => simp
  | some m =>
    obtain ⟨p, hp, rfl⟩ := List.mem_map.1 (List.mem_of_find?_eq_some hq)
    exact h p hp

set_option maxRecDepth 20000 in
set_option maxHeartbeats 8000000 in
/-- 'MacroDoes'. -/
theorem macroDoes_any (v u : Value) (l : List (Mac × Value)) (bs : List Bool) (w : World) (hl : Rd w 3 v l.length (mcs l)) (hlb : ∀ p ∈ l, Rt w p.2 p.1.2.2 ∧ p.1.1.length ≤ 9223372036854775807 ∧ ∀ x ∈ p.1.2.2, x.2.length ≤ 9223372036854775807) (hb : Rd w 1 u bs.length (bs.map Value.bool)) :
    Calls Try.prog 5 #[v, u] w fun e w' => e = .returned (.bool true) ∧ Below w.heap.size w w' := by
  obtain ⟨a0, c0, rfl⟩ := hl.shape
  obtain ⟨a1, c1, rfl⟩ := Rd.shape hb
  have HL := Lib.hid hl
  have HB := Lib.hid hb
  have HS := Lib.hid hlb
  clear hl hb hlb
  go_enter Try.func5, Try.ntmps5
  go_wp2_with fail
  go_loopw [5, 6, 7] (fun va vb i wr => ∃ (q : Nat) (ms : List Mac), q ≤ l.length ∧ q ≤ 60 ∧ i = .int .i64 q ∧ Hid (Sorted (ms.map Prod.fst)) ∧ ms.length ≤ q ∧ Hid (∃ ps, RdM wr va ps ∧ ps.map Prod.fst = ms) ∧ Hid (∃ ps, RdM wr vb ps ∧ ps.map Prod.fst = ms) ∧ Below w.heap.size w wr) (fun _ _ i _ => l.length - (intOf i).toNat)
  case atStart => exact ⟨0, [], Nat.zero_le _, Nat.zero_le _, rfl, Lib.hid List.Pairwise.nil, Nat.le_refl _, Lib.hid ⟨[], rdM_nil _ _, rfl⟩, Lib.hid ⟨[], rdM_nil _ _, rfl⟩, ((Below.refl _ _).alloc (Nat.le_refl _) _).alloc (by simp) _⟩
  case round =>
    obtain ⟨q, ms, hq, hq2, rfl, HM, hml, RA, RB, hbw⟩ := hrel
    have hsz := hbw.size
    by_cases hin : q < l.length ∧ q < 60
    · obtain ⟨hlt, hlm⟩ := hin
      obtain ⟨b1, o1, rfl, c10, c11, c12⟩ := mac_at (HL.out.below' hbw) hlt
      obtain ⟨hk1, hk2, hk3⟩ := HS.out _ (List.getElem_mem hlt)
      obtain ⟨⟨⟨nm0, pm, bm0⟩, bv0⟩, hx⟩ : ∃ x, x = l[q] := ⟨_, rfl⟩
      rw [← hx] at c10 c11 c12 hk1 hk2 hk3
      clear hx
      have hk1 : Rt wr bv0 bm0 := (show Rt w bv0 bm0 from hk1).below' hbw
      have hk2 : nm0.length ≤ 9223372036854775807 := hk2
      have hk3 : ∀ x ∈ bm0, x.2.length ≤ 9223372036854775807 := hk3
      have hqi : (q : Int) < (l.length : Int) := by omega
      have hqm : (q : Int) < 60 := by omega
      have hcut := fun w' (h : Below wr.heap.size wr w') => cut_any bv0 bm0 6 w' (hk1.below' h) (by decide) hk3
      simp only [Int.cast_ofNat_Int] at hcut
      have HCUT := Lib.hid hcut
      clear hcut
      have hbl : ((bm0.take 6).map cut40).length ≤ 6 := by simp; omega
      obtain ⟨bm, hbm⟩ : ∃ bm, bm = (bm0.take 6).map cut40 := ⟨_, rfl⟩
      rw [← hbm] at HCUT hbl
      obtain ⟨ab0, cb0, rfl⟩ := hk1.shape
      clear hbm hk1 hk3
      go_wp2_with fail
      obtain ⟨nm, hnm⟩ : ∃ nm, nm = List.take (min (↑nm0.length) 30 : Int).toNat nm0 := ⟨_, rfl⟩
      rw [← hnm]
      have hnl : nm.length ≤ 30 := by rw [hnm, List.length_take]; omega
      obtain ⟨wx, hwx⟩ : ∃ wx, wx = wr.alloc (.cells #[.string (S nm), .int .i64 pm, .slice ab0 bm0.length cb0] 55) := ⟨_, rfl⟩
      have bx : Below wr.heap.size wr wx := by rw [hwx]; exact (Below.refl _ _).alloc (Nat.le_refl _) _
      have gx : wx.heap[wr.heap.size]? = some (.cells #[.string (S nm), .int .i64 pm, .slice ab0 bm0.length cb0] 55 (0, 0)) := by rw [hwx]; exact heap_alloc_new _ _
      rw [← hwx]
      clear hnm hwx hk2 c10 c11 c12
      (with_reducible refine (HCUT.out _ bx).mono ?_); rintro e w2 ⟨bv1, rfl, ob, b2⟩
      obtain ⟨ab, cb, rfl⟩ := own_shape ob
      have hsx := bx.size
      have gx2 := (b2.block _ (row_lt gx)).trans gx
      have y0 : w2.cell? ⟨wr.heap.size, 0, none⟩ = some (.string (S nm)) := row_cell gx2 0
      have y1 : w2.cell? ⟨wr.heap.size, 1, none⟩ = some (.int .i64 pm) := row_cell gx2 1
      have y2 : w2.cell? ⟨wr.heap.size, 2, none⟩ = some (.slice ab0 bm0.length cb0) := row_cell gx2 2
      have f2 := row_free gx2 2
      obtain ⟨W, hW⟩ : ∃ W, W = w2.setCell ⟨wr.heap.size, 2, none⟩ (.slice ab bm.length cb) := ⟨_, rfl⟩
      have gW : W.heap[wr.heap.size]? = some (.cells #[.string (S nm), .int .i64 pm, .slice ab bm.length cb] 55 (0, 0)) := by rw [hW]; exact row_set gx2 2 _
      have x0 : W.cell? ⟨wr.heap.size, 0, none⟩ = some (.string (S nm)) := row_cell gW 0
      have x1 : W.cell? ⟨wr.heap.size, 1, none⟩ = some (.int .i64 pm) := row_cell gW 1
      have x2 : W.cell? ⟨wr.heap.size, 2, none⟩ = some (.slice ab bm.length cb) := row_cell gW 2
      have hbx : Rt W (.slice ab bm.length cb) bm := by
        rw [hW]
        refine Rt.apart (own_rd ob) (setCell_grown _ _ _) fun _ b hb e => ?_
        injection e with e
        have e : b = wr.heap.size := e
        have := (ob.lt b hb).1
        have := row_lt gx
        omega
      have BW : Below wr.heap.size wr W := by rw [hW]; exact (bx.trans (b2.mono hsx)).setCell (p := ⟨wr.heap.size, 2, none⟩) (Nat.le_refl _) _
      obtain ⟨psa, ra, ea⟩ := RA.out
      obtain ⟨psb, rb, eb⟩ := RB.out
      have raW := ra.below' BW
      have rbW := rb.below' BW
      have BWw := hbw.trans (BW.mono hsz)
      have hal : psa.length ≤ 60 := by have := congrArg List.length ea; simp at this; omega
      have hbl' : psb.length ≤ 60 := by have := congrArg List.length eb; simp at this; omega
      obtain ⟨aa, ca, hva⟩ := ra.1.shape
      obtain ⟨ab', cb', hvb⟩ := rb.1.shape
      subst hva hvb
      have HEA := Lib.hid ea
      have HEB := Lib.hid eb
      have hso : Sorted (psa.map fun p => p.1.1) := by rw [names_map, ea]; exact HM.out
      have hsb : Sorted ((psb.map Prod.fst).map Prod.fst) := by rw [eb]; exact HM.out
      have HBW := Lib.hid (HB.out.below' BWw)
      have HSO := Lib.hid hso
      have HSB := Lib.hid hsb
      have hcase : (∃ h : q < bs.length, bs[q] = true) ∨ (∃ h : q < bs.length, bs[q] = false) ∨ bs.length ≤ q := by
        by_cases h : q < bs.length
        · cases h2 : bs[q]
          · exact .inr (.inl ⟨h, h2⟩)
          · exact .inl ⟨h, h2⟩
        · exact .inr (.inr (by omega))
      clear RA RB ra rb ea eb hso hsb b2 gx2 gx bx ob BW
      rcases hcase with ⟨hqb, hbv⟩ | hcase
      · obtain ⟨b2, o2, rfl, d0⟩ := rb_at HBW.out hqb
        rw [hbv] at d0
        rw [hW] at d0
        have hqi2 : (q : Int) < (bs.length : Int) := by omega
        have HW := Lib.hid hW
        have HD := Lib.hid (drop_any _ psa nm W raW (by omega) HSO.out)
        have HDM := Lib.hid (⟨sorted_dropM HM.out nm, dropM_le ms nm⟩ : Sorted ((dropM ms nm).map Prod.fst) ∧ (dropM ms nm).length ≤ ms.length)
        clear hW hbv
        go_wp2_with fail
        rw [← HW.out]
        (with_reducible refine HD.out.mono ?_); rintro e w6 ⟨v6, qs6, rfl, e6, o6, b6⟩
        have r6 := o6.rdM
        rw [HEA.out] at e6
        have rb6 := rbW.below' b6
        have B6 := BWw.trans (b6.mono BWw.size)
        have g6 := (b6.block _ (row_lt gW)).trans gW
        have x6 := row_cell g6 0
        clear x0 x1 x2
        go_wp2_with fail
        (with_reducible refine (refMdrop_any _ psb nm w6 rb6 (by omega)).mono ?_); rintro e w7 ⟨v7, rfl, o7, b7⟩
        have e7 := dropP_fst psb nm
        rw [HEB.out] at e7
        have r7 : RdM w7 v7 (dropP psb nm) := rdM_of rb6 b7 o7 dropP_mem
        have ra7 := r6.below' b7
        have B7 := B6.trans (b7.mono B6.size)
        have g7 := (b7.block _ (row_lt g6)).trans g6
        obtain ⟨a7, c7, rfl⟩ := ra7.1.shape
        obtain ⟨a8, c8, rfl⟩ := r7.1.shape
        obtain ⟨mz, hmz⟩ : ∃ mz, mz = dropM ms nm := ⟨_, rfl⟩
        rw [← hmz] at HDM e6 e7
        have HN := Lib.hid HDM.out.1
        have hml2 : mz.length ≤ q := by have := HDM.out.2; omega
        obtain ⟨qs7, hq7⟩ : ∃ qs7, qs7 = dropP psb nm := ⟨_, rfl⟩
        rw [← hq7] at r7 e7 ⊢
        clear hmz hq7 o7 o6 x6 HD HDM raW rbW rb6 b6 b7 r6 d0 g6
        have hpa : qs6.length ≤ 60 := by have := congrArg List.length e6; simp at this; omega
        have hpb : qs7.length ≤ 60 := by have := congrArg List.length e7; simp at this; omega
        have hg1 := get_any _ qs6 nm w7 ra7 (by omega) (by rw [names_map, e6]; exact HN.out)
        have hg2 := fun w' (h : Below w7.heap.size w7 w') => refMget_any _ qs7 nm w' (RdM.below' r7 h) (by omega)
        have hgl := getM_len qs6 nm (fun p hp => (ra7.2 p hp).2)
        rw [e6] at hg1 hgl
        rw [e7] at hg2
        obtain ⟨⟨⟨gn, gp, gl⟩, gb⟩, hgm⟩ : ∃ x, x = getM mz nm := ⟨_, rfl⟩
        rw [← hgm] at hg1 hg2 hgl
        simp only at hg1 hg2 hgl
        have HG1 := Lib.hid hg1
        have HG2 := Lib.hid hg2
        have z0 := row_cell g7 0
        have HEQ := Lib.hid (e6.trans e7.symm)
        clear hg1 hg2 hgm
        go_wp2_with fail
        (with_reducible refine HG1.out.mono ?_); rintro e w11 ⟨vx, rfl, hx11, b11⟩
        have g11 := (b11.block _ (row_lt g7)).trans g7
        obtain ⟨ax, cx, rfl⟩ := hx11.shape
        obtain ⟨W11, hW11⟩ : ∃ W, W = w11.alloc (.cells #[.string (S gn), .int .i64 gp, .slice ax gl.length cx] 55) := ⟨_, rfl⟩
        have bb11 : Below w11.heap.size w11 W11 := by rw [hW11]; exact (Below.refl _ _).alloc (Nat.le_refl _) _
        have gx11 : W11.heap[w11.heap.size]? = some (.cells #[.string (S gn), .int .i64 gp, .slice ax gl.length cx] 55 (0, 0)) := by rw [hW11]; exact heap_alloc_new _ _
        have g11b := (bb11.block _ (row_lt g11)).trans g11
        have hz0 := row_cell g11b 0
        rw [hW11] at hz0
        have z0 : (w11.alloc (.cells #[.string (S gn), .int .i64 gp, .slice ax gl.length cx] 55)).cell? ⟨wr.heap.size, 0, none⟩ = some (.string (S nm)) := hz0
        have bW11 := b11.trans (bb11.mono b11.size)
        have ra11 := RdM.below' ra7 bW11
        have rb11 := RdM.below' r7 bW11
        have hx11 := hx11.below' bb11
        have B11 := B7.trans (bW11.mono B7.size)
        have HW11 := Lib.hid hW11
        clear hW11 hz0
        go_wp2_with fail
        rw [← HW11.out]
        (with_reducible refine (HG2.out _ bW11).mono ?_); rintro e w12 ⟨vy, rfl, hy12, b12⟩
        obtain ⟨ay, cy, rfl⟩ := hy12.shape
        obtain ⟨W12, hW12⟩ : ∃ W, W = w12.alloc (.cells #[.string (S gn), .int .i64 gp, .slice ay gl.length cy] 63) := ⟨_, rfl⟩
        have bb12 : Below w12.heap.size w12 W12 := by rw [hW12]; exact (Below.refl _ _).alloc (Nat.le_refl _) _
        have gy12 : W12.heap[w12.heap.size]? = some (.cells #[.string (S gn), .int .i64 gp, .slice ay gl.length cy] 63 (0, 0)) := by rw [hW12]; exact heap_alloc_new _ _
        have bW12 := b12.trans (bb12.mono b12.size)
        have gx12 := (bW12.block _ (row_lt gx11)).trans gx11
        have ra12 := ra11.below' bW12
        have rb12 := rb11.below' bW12
        have hx12 := hx11.below' bW12
        have hy12 := hy12.below' bb12
        have B12 := B11.trans (bW12.mono B11.size)
        have HW12 := Lib.hid hW12
        have hgg : (gb != gb) = false := by simp
        clear hW12 z0 g11b g11 b11 b12 gx11 bb11 bb12 ra11 rb11
        go_wp2_with fail
        rw [← HW12.out]
        have HX := Lib.hid (fun W' (h : Below W12.heap.size W12 W') => (⟨row_cell ((h.block _ (row_lt gx12)).trans gx12) 0, row_cell ((h.block _ (row_lt gx12)).trans gx12) 1, row_cell ((h.block _ (row_lt gx12)).trans gx12) 2, row_cell ((h.block _ (row_lt gy12)).trans gy12) 0, row_cell ((h.block _ (row_lt gy12)).trans gy12) 1, row_cell ((h.block _ (row_lt gy12)).trans gy12) 2⟩ :
          W'.cell? ⟨w11.heap.size, 0, none⟩ = some (.string (S gn)) ∧ W'.cell? ⟨w11.heap.size, 1, none⟩ = some (.int .i64 gp) ∧ W'.cell? ⟨w11.heap.size, 2, none⟩ = some (.slice ax gl.length cx) ∧ W'.cell? ⟨w12.heap.size, 0, none⟩ = some (.string (S gn)) ∧ W'.cell? ⟨w12.heap.size, 1, none⟩ = some (.int .i64 gp) ∧ W'.cell? ⟨w12.heap.size, 2, none⟩ = some (.slice ay gl.length cy)))
        have HRefs := Lib.hid (fun W' (h : Below W12.heap.size W12 W') => lawRefs_any _ qs6 W' (RdM.below' ra12 h) (by omega))
        have HRef := Lib.hid (fun W' (h : Below W12.heap.size W12 W') => lawRef_any (gn, gp, gl) _ W' (Rt.below' hx12 h) hgl)
        have HY := Lib.hid (fun W' (h : Below W12.heap.size W12 W') => Rt.below' hy12 h)
        have HRB := Lib.hid (fun W' (h : Below W12.heap.size W12 W') => RdM.below' rb12 h)
        have HGL := Lib.hid hgl
        have HA := Lib.hid ra12
        have HB12 := Lib.hid B12
        clear gx12 gy12 ra12 rb12 hx12 hy12 B12 HW12 HW11 B11 hx11 bW11 bW12 gW
        have bd : Below W12.heap.size W12 W12.drew := below_drewN (Below.refl W12.heap.size W12) 1
        go_region_held3 (fun w' => w'.cell? ⟨w11.heap.size, 0, none⟩ = some (.string (S gn)) ∧ w'.cell? ⟨w11.heap.size, 1, none⟩ = some (.int .i64 gp) ∧ w'.cell? ⟨w11.heap.size, 2, none⟩ = some (.slice ax gl.length cx) ∧ w'.cell? ⟨w12.heap.size, 0, none⟩ = some (.string (S gn)) ∧ w'.cell? ⟨w12.heap.size, 1, none⟩ = some (.int .i64 gp) ∧ w'.cell? ⟨w12.heap.size, 2, none⟩ = some (.slice ay gl.length cy))
          (first
            | exact HX.out _ (Below.refl _ _)
            | exact HX.out _ bd
            | exact HX.out _ b13'
            | exact HX.out _ b14'
            | exact HX.out _ (b14'.alloc b14'.size _)
            | exact HX.out _ b15'
            | exact HX.out _ (b15'.alloc b15'.size _)
            | exact HX.out _ ((b15'.alloc b15'.size _).alloc (b15'.alloc b15'.size _).size _)
            | exact HX.out _ b16'
            | fail)
          (first
            | (go_at_call 33; (with_reducible refine (HRefs.out _ bd).mono ?_); rintro e w13 ⟨v13, qs13, rfl, e13, o13, bd13, b13⟩; have b13' := bd.trans (b13.mono bd.size); have r13 : RdM w13 v13 qs13 := ⟨own_rd o13, fun p hp => ⟨(bd13 p hp).1, (bd13 p hp).2.1⟩⟩; obtain ⟨a13, c13, rfl⟩ := r13.1.shape)
            | (go_at_call 32; (with_reducible refine (refMsame_eq (.slice a13 qs13.length c13) _ qs13 qs7 _ r13 (HRB.out _ b13') (by have := congrArg List.length e13; simp at this; omega) (e13.trans HEQ.out)).mono ?_); rintro e w14 ⟨rfl, m14, hw14⟩; have b14' : Below W12.heap.size W12 w14 := hw14 ▸ below_drewN b13' m14; clear hw14)
            | (go_at_call 29; (first | (with_reducible refine (HRef.out _ b14').mono ?_) | (with_reducible refine (HRef.out _ (b14'.alloc b14'.size _)).mono ?_)); rintro e w15 ⟨v15, rfl, h15, n15, o15, b15⟩; have b15' : Below W12.heap.size W12 w15 := (by first | exact b14'.trans (b15.mono b14'.size) | exact (b14'.alloc b14'.size _).trans (b15.mono (b14'.alloc b14'.size _).size)); obtain ⟨a15, c15, rfl⟩ := h15.shape)
            | (go_at_call 32; (first
                | (with_reducible refine (same_one _ _ _ _ _ _ (rdM_one3 w15 gn gp gl _ _ h15 HGL.out) (RdM.below' (rdM_one3 w14 gn gp gl _ _ (HY.out _ b14') HGL.out) (b15.trans ((Below.refl _ _).alloc b15.size _)))).mono ?_)
                | (with_reducible refine (same_one _ _ _ _ _ _ (rdM_snd w15 gn gp gl _ _ _ h15 HGL.out) (rdM_fst w15 gn gp gl _ _ _ (HY.out _ b15') HGL.out)).mono ?_)
                | (with_reducible refine (same_one _ _ _ _ _ _ (rdM_fst w15 gn gp gl _ _ _ h15 HGL.out) (rdM_snd w15 gn gp gl _ _ _ (HY.out _ b15') HGL.out)).mono ?_)); rintro e w16 ⟨rfl, m16, hw16⟩; have b16' : Below W12.heap.size W12 w16 := (by first | exact hw16 ▸ below_drewN (b15'.alloc b15'.size _) m16 | exact hw16 ▸ below_drewN ((b15'.alloc b15'.size _).alloc (b15'.alloc b15'.size _).size _) m16); clear hw16)
            | fail)
        all_goals (
          go_wp2_with fail
          go_roundw
          case rel => exact ⟨q + 1, mz, by omega, by omega, by go_num, HN, by omega, Lib.hid ⟨_, RdM.below' HA.out b16', e6⟩, Lib.hid ⟨_, HRB.out _ b16', e7⟩, HB12.out.trans (b16'.mono HB12.out.size)⟩
          case measure => simp [intOf]; omega
          )

      · have hc1 := mput_any (.slice aa psa.length ca) (.slice ab bm.length cb) psa (nm, pm, bm) W raW hbx (Nat.le_trans hbl (by decide)) (Nat.le_trans hnl (by decide)) (by omega) HSO.out
        have hc3 := fun w' bv' (h : Below W.heap.size W w') (hb' : Rt w' bv' bm) => refMput_any (.slice ab' psb.length cb') bv' psb (nm, pm, bm) w' (RdM.below' rbW h) hb' (by omega) HSB.out (Nat.le_trans hnl (by decide))
        have HC2 := Lib.hid (fun w' (h : Below W.heap.size W w') => lawRef_any (nm, pm, bm) (.slice ab bm.length cb) w' (Rt.below' hbx h) (Nat.le_trans hbl (by decide)))
        have HBL := Lib.hid (Nat.le_trans hbl (by decide) : bm.length ≤ 1000000)
        have hpc := putM_cases ms (nm, pm, bm)
        have hps := sorted_putL HM.out (nm, pm, bm)
        have hpl := mputL_len ms (nm, pm, bm)
        rw [HEA.out] at hc1
        rw [HEB.out] at hc3
        obtain ⟨⟨pl, pe⟩, hp⟩ : ∃ p, p = putM ms (nm, pm, bm) := ⟨_, rfl⟩
        rw [← hp] at hc1 hc3 hpc
        simp only at hc1 hc3 hpc
        have HC1 := Lib.hid hc1
        have HC3 := Lib.hid hc3
        have hdd : (∃ b2 o2, a1 = some ⟨b2, o2, none⟩ ∧ W.cell? ⟨b2, o2 + q, none⟩ = some (.bool false) ∧ q < bs.length) ∨ bs.length ≤ q := by
          rcases hcase with ⟨h, h2⟩ | h
          · obtain ⟨b2, o2, e, d0⟩ := rb_at HBW.out h
            rw [h2] at d0
            exact .inl ⟨b2, o2, e, d0, h⟩
          · exact .inr h
        rw [hW] at hdd
        have HW := Lib.hid hW
        clear hcase hW hp hc1 hc3
        have hpb : pe = 0 ∧ Sorted (pl.map Prod.fst) ∧ pl.length ≤ ms.length + 1 ∨ pe ≠ 0 ∧ pl = [] := by
          rcases hpc with ⟨h1, h2⟩ | ⟨h1, h2⟩
          · left; rw [h2]; exact ⟨h1, hps, hpl⟩
          · right; exact ⟨h1, h2⟩
        clear hpc hps hpl hbx
        rcases hpb with ⟨rfl, hps, hpl⟩ | ⟨hpe, rfl⟩
        · have HN := Lib.hid hps
          obtain ⟨mz, hmz⟩ : ∃ mz, mz = pl := ⟨_, rfl⟩
          subst hmz
          clear hps
          rcases hdd with ⟨b2, o2, rfl, d0, hqb⟩ | hqb
          all_goals (
  
            (first | (have hqi2 : (q : Int) < (bs.length : Int) := by omega) | (have hqi3 : (bs.length : Int) ≤ (q : Int) := by omega))
            go_wp2_with fail
            rw [← HW.out]
            (with_reducible refine HC1.out.mono ?_); rintro e w6 ⟨v6, qs6, rfl, e6, o6, b6⟩
            have r6 := o6.rdM
            have g6 := (b6.block _ (row_lt gW)).trans gW
            have x6 := row_cell g6 0
            have x7 := row_cell g6 1
            have x8 := row_cell g6 2
            have B6 := BWw.trans (b6.mono BWw.size)
            clear x0 x1 x2
            obtain ⟨a6, c6, rfl⟩ := r6.1.shape
            go_wp2_with fail
            (with_reducible refine (HC2.out _ b6).mono ?_); rintro e w7 ⟨v7, rfl, h7, n7, o7, b7⟩
            have b67 := b6.trans (b7.mono b6.size)
            obtain ⟨a7, c7, rfl⟩ := h7.shape
            go_wp2_with fail
            (with_reducible refine (HC3.out _ _ b67 h7).mono ?_); rintro e w8 ⟨v8, qs8, rfl, e8, m8, o8, b8⟩
            have r8 : RdM w8 v8 qs8 := rdM_put (m := (nm, pm, bm)) (RdM.below' rbW b67) h7 HBL.out b8 o8 m8
            have b68 := b7.trans (b8.mono b7.size)
            have r6b := RdM.below' r6 b68
            have B8 := B6.trans (b68.mono B6.size)
            have g8 := (b68.block _ (row_lt g6)).trans g6
            obtain ⟨a8, c8, rfl⟩ := r8.1.shape
            clear o6 o8 m8 r6 x6 x7 x8 b67 h7 b6 b7 b8 b68 g6 HC1 HC2 HC3 rbW raW
            have hpa : qs6.length ≤ 60 := by have := congrArg List.length e6; simp at this; omega
            have hpb : qs8.length ≤ 60 := by have := congrArg List.length e8; simp at this; omega
            have hg1 := get_any _ qs6 nm w8 r6b (by omega) (by rw [names_map, e6]; exact HN.out)
            have hg2 := fun w' (h : Below w8.heap.size w8 w') => refMget_any _ qs8 nm w' (RdM.below' r8 h) (by omega)
            have hgl := getM_len qs6 nm (fun p hp => (r6b.2 p hp).2)
            rw [e6] at hg1 hgl
            rw [e8] at hg2
            obtain ⟨⟨⟨gn, gp, gl⟩, gb⟩, hgm⟩ : ∃ x, x = getM mz nm := ⟨_, rfl⟩
            rw [← hgm] at hg1 hg2 hgl
            simp only at hg1 hg2 hgl
            have HG1 := Lib.hid hg1
            have HG2 := Lib.hid hg2
            have z0 := row_cell g8 0
            have HEQ := Lib.hid (e6.trans e8.symm)
            clear hg1 hg2 hgm
            go_wp2_with fail
            (with_reducible refine HG1.out.mono ?_); rintro e w11 ⟨vx, rfl, hx11, b11⟩
            have g11 := (b11.block _ (row_lt g8)).trans g8
            obtain ⟨ax, cx, rfl⟩ := hx11.shape
            obtain ⟨W11, hW11⟩ : ∃ W, W = w11.alloc (.cells #[.string (S gn), .int .i64 gp, .slice ax gl.length cx] 55) := ⟨_, rfl⟩
            have bb11 : Below w11.heap.size w11 W11 := by rw [hW11]; exact (Below.refl _ _).alloc (Nat.le_refl _) _
            have gx11 : W11.heap[w11.heap.size]? = some (.cells #[.string (S gn), .int .i64 gp, .slice ax gl.length cx] 55 (0, 0)) := by rw [hW11]; exact heap_alloc_new _ _
            have g11b := (bb11.block _ (row_lt g11)).trans g11
            have hz0 := row_cell g11b 0
            rw [hW11] at hz0
            have z0 : (w11.alloc (.cells #[.string (S gn), .int .i64 gp, .slice ax gl.length cx] 55)).cell? ⟨wr.heap.size, 0, none⟩ = some (.string (S nm)) := hz0
            have bW11 := b11.trans (bb11.mono b11.size)
            have ra11 := RdM.below' r6b bW11
            have rb11 := RdM.below' r8 bW11
            have hx11 := hx11.below' bb11
            have B11 := B8.trans (bW11.mono B8.size)
            have HW11 := Lib.hid hW11
            clear hW11 hz0
            go_wp2_with fail
            rw [← HW11.out]
            (with_reducible refine (HG2.out _ bW11).mono ?_); rintro e w12 ⟨vy, rfl, hy12, b12⟩
            obtain ⟨ay, cy, rfl⟩ := hy12.shape
            obtain ⟨W12, hW12⟩ : ∃ W, W = w12.alloc (.cells #[.string (S gn), .int .i64 gp, .slice ay gl.length cy] 63) := ⟨_, rfl⟩
            have bb12 : Below w12.heap.size w12 W12 := by rw [hW12]; exact (Below.refl _ _).alloc (Nat.le_refl _) _
            have gy12 : W12.heap[w12.heap.size]? = some (.cells #[.string (S gn), .int .i64 gp, .slice ay gl.length cy] 63 (0, 0)) := by rw [hW12]; exact heap_alloc_new _ _
            have bW12 := b12.trans (bb12.mono b12.size)
            have gx12 := (bW12.block _ (row_lt gx11)).trans gx11
            have ra12 := ra11.below' bW12
            have rb12 := rb11.below' bW12
            have hx12 := hx11.below' bW12
            have hy12 := hy12.below' bb12
            have B12 := B11.trans (bW12.mono B11.size)
            have HW12 := Lib.hid hW12
            have hgg : (gb != gb) = false := by simp
            clear hW12 z0 g11b g11 b11 b12 gx11 bb11 bb12 ra11 rb11
            go_wp2_with fail
            rw [← HW12.out]
            have HX := Lib.hid (fun W' (h : Below W12.heap.size W12 W') => (⟨row_cell ((h.block _ (row_lt gx12)).trans gx12) 0, row_cell ((h.block _ (row_lt gx12)).trans gx12) 1, row_cell ((h.block _ (row_lt gx12)).trans gx12) 2, row_cell ((h.block _ (row_lt gy12)).trans gy12) 0, row_cell ((h.block _ (row_lt gy12)).trans gy12) 1, row_cell ((h.block _ (row_lt gy12)).trans gy12) 2⟩ :
              W'.cell? ⟨w11.heap.size, 0, none⟩ = some (.string (S gn)) ∧ W'.cell? ⟨w11.heap.size, 1, none⟩ = some (.int .i64 gp) ∧ W'.cell? ⟨w11.heap.size, 2, none⟩ = some (.slice ax gl.length cx) ∧ W'.cell? ⟨w12.heap.size, 0, none⟩ = some (.string (S gn)) ∧ W'.cell? ⟨w12.heap.size, 1, none⟩ = some (.int .i64 gp) ∧ W'.cell? ⟨w12.heap.size, 2, none⟩ = some (.slice ay gl.length cy)))
            have HRefs := Lib.hid (fun W' (h : Below W12.heap.size W12 W') => lawRefs_any _ qs6 W' (RdM.below' ra12 h) (by omega))
            have HRef := Lib.hid (fun W' (h : Below W12.heap.size W12 W') => lawRef_any (gn, gp, gl) _ W' (Rt.below' hx12 h) hgl)
            have HY := Lib.hid (fun W' (h : Below W12.heap.size W12 W') => Rt.below' hy12 h)
            have HRB := Lib.hid (fun W' (h : Below W12.heap.size W12 W') => RdM.below' rb12 h)
            have HGL := Lib.hid hgl
            have HA := Lib.hid ra12
            have HB12 := Lib.hid B12
            clear gx12 gy12 ra12 rb12 hx12 hy12 B12 HW12 HW11 B11 hx11 bW11 bW12 gW
            have bd : Below W12.heap.size W12 W12.drew := below_drewN (Below.refl W12.heap.size W12) 1
            go_region_held3 (fun w' => w'.cell? ⟨w11.heap.size, 0, none⟩ = some (.string (S gn)) ∧ w'.cell? ⟨w11.heap.size, 1, none⟩ = some (.int .i64 gp) ∧ w'.cell? ⟨w11.heap.size, 2, none⟩ = some (.slice ax gl.length cx) ∧ w'.cell? ⟨w12.heap.size, 0, none⟩ = some (.string (S gn)) ∧ w'.cell? ⟨w12.heap.size, 1, none⟩ = some (.int .i64 gp) ∧ w'.cell? ⟨w12.heap.size, 2, none⟩ = some (.slice ay gl.length cy))
              (first
                | exact HX.out _ (Below.refl _ _)
                | exact HX.out _ bd
                | exact HX.out _ b13'
                | exact HX.out _ b14'
                | exact HX.out _ (b14'.alloc b14'.size _)
                | exact HX.out _ b15'
                | exact HX.out _ (b15'.alloc b15'.size _)
                | exact HX.out _ ((b15'.alloc b15'.size _).alloc (b15'.alloc b15'.size _).size _)
                | exact HX.out _ b16'
                | fail)
              (first
                | (go_at_call 33; (with_reducible refine (HRefs.out _ bd).mono ?_); rintro e w13 ⟨v13, qs13, rfl, e13, o13, bd13, b13⟩; have b13' := bd.trans (b13.mono bd.size); have r13 : RdM w13 v13 qs13 := ⟨own_rd o13, fun p hp => ⟨(bd13 p hp).1, (bd13 p hp).2.1⟩⟩; obtain ⟨a13, c13, rfl⟩ := r13.1.shape)
                | (go_at_call 32; (with_reducible refine (refMsame_eq (.slice a13 qs13.length c13) _ qs13 qs8 _ r13 (HRB.out _ b13') (by have := congrArg List.length e13; simp at this; omega) (e13.trans HEQ.out)).mono ?_); rintro e w14 ⟨rfl, m14, hw14⟩; have b14' : Below W12.heap.size W12 w14 := hw14 ▸ below_drewN b13' m14; clear hw14)
                | (go_at_call 29; (first | (with_reducible refine (HRef.out _ b14').mono ?_) | (with_reducible refine (HRef.out _ (b14'.alloc b14'.size _)).mono ?_)); rintro e w15 ⟨v15, rfl, h15, n15, o15, b15⟩; have b15' : Below W12.heap.size W12 w15 := (by first | exact b14'.trans (b15.mono b14'.size) | exact (b14'.alloc b14'.size _).trans (b15.mono (b14'.alloc b14'.size _).size)); obtain ⟨a15, c15, rfl⟩ := h15.shape)
                | (go_at_call 32; (first
                    | (with_reducible refine (same_one _ _ _ _ _ _ (rdM_one3 w15 gn gp gl _ _ h15 HGL.out) (RdM.below' (rdM_one3 w14 gn gp gl _ _ (HY.out _ b14') HGL.out) (b15.trans ((Below.refl _ _).alloc b15.size _)))).mono ?_)
                    | (with_reducible refine (same_one _ _ _ _ _ _ (rdM_snd w15 gn gp gl _ _ _ h15 HGL.out) (rdM_fst w15 gn gp gl _ _ _ (HY.out _ b15') HGL.out)).mono ?_)
                    | (with_reducible refine (same_one _ _ _ _ _ _ (rdM_fst w15 gn gp gl _ _ _ h15 HGL.out) (rdM_snd w15 gn gp gl _ _ _ (HY.out _ b15') HGL.out)).mono ?_)); rintro e w16 ⟨rfl, m16, hw16⟩; have b16' : Below W12.heap.size W12 w16 := (by first | exact hw16 ▸ below_drewN (b15'.alloc b15'.size _) m16 | exact hw16 ▸ below_drewN ((b15'.alloc b15'.size _).alloc (b15'.alloc b15'.size _).size _) m16); clear hw16)
                | fail)
            all_goals (
              go_wp2_with fail
              go_roundw
              case rel => exact ⟨q + 1, mz, by omega, by omega, by go_num, HN, by omega, Lib.hid ⟨_, RdM.below' HA.out b16', e6⟩, Lib.hid ⟨_, HRB.out _ b16', e8⟩, HB12.out.trans (b16'.mono HB12.out.size)⟩
              case measure => simp [intOf]; omega
              )

            )
        · have hp1 : (pe == 0) = false := by simpa using hpe
          have hp2 : (pe != 0) = true := by simpa using hpe
          have hp3 : (pe != pe) = false := by simp
          have hp4 : decide (pe = 0) = false := by simpa using hpe
          have HN := HM
          obtain ⟨mz, hmz⟩ : ∃ mz, mz = ms := ⟨_, rfl⟩
          subst hmz
          rcases hdd with ⟨b2, o2, rfl, d0, hqb⟩ | hqb
          all_goals (
  
            (first | (have hqi2 : (q : Int) < (bs.length : Int) := by omega) | (have hqi3 : (bs.length : Int) ≤ (q : Int) := by omega))
            go_wp2_with fail
            rw [← HW.out]
            (with_reducible refine HC1.out.mono ?_); rintro e w6 ⟨v6, qs6, rfl, e6, o6, b6⟩
            have r6 := o6.rdM
            have g6 := (b6.block _ (row_lt gW)).trans gW
            have x6 := row_cell g6 0
            have x7 := row_cell g6 1
            have x8 := row_cell g6 2
            have B6 := BWw.trans (b6.mono BWw.size)
            clear x0 x1 x2
            obtain ⟨a6, c6, rfl⟩ := r6.1.shape
            go_wp2_with fail
            (with_reducible refine (HC2.out _ b6).mono ?_); rintro e w7 ⟨v7, rfl, h7, n7, o7, b7⟩
            have b67 := b6.trans (b7.mono b6.size)
            obtain ⟨a7, c7, rfl⟩ := h7.shape
            go_wp2_with fail
            (with_reducible refine (HC3.out _ _ b67 h7).mono ?_); rintro e w8 ⟨v8, qs8, rfl, e8, m8, o8, b8⟩
            have r8 : RdM w8 v8 qs8 := rdM_put (m := (nm, pm, bm)) (RdM.below' rbW b67) h7 HBL.out b8 o8 m8
            have b68 := b7.trans (b8.mono b7.size)
            have r6b := RdM.below' r6 b68
            have B8 := B6.trans (b68.mono B6.size)
            have g8 := (b68.block _ (row_lt g6)).trans g6
            obtain ⟨a8, c8, rfl⟩ := r8.1.shape
            have hq60 : qs6.length = 0 := by have := congrArg List.length e6; simpa using this
            have hq6i : (qs6.length : Int) = 0 := by omega
            have raZ := RdM.below' raW (b6.trans (b68.mono b6.size))
            have rbZ := RdM.below' rbW (b6.trans (b68.mono b6.size))
            have e6z := HEA.out
            have e8z := HEB.out
            clear o6 o8 m8 r6 x6 x7 x8 b67 h7 b6 b7 b8 b68 g6 HC1 HC2 HC3 r6b r8 e6 e8 rbW raW
            have hpa : psa.length ≤ 60 := by have := congrArg List.length e6z; simp at this; omega
            have hpb : psb.length ≤ 60 := by have := congrArg List.length e8z; simp at this; omega
            have hg1 := get_any _ psa nm w8 raZ (by omega) (by rw [names_map, e6z]; exact HN.out)
            have hg2 := fun w' (h : Below w8.heap.size w8 w') => refMget_any _ psb nm w' (RdM.below' rbZ h) (by omega)
            have hgl := getM_len psa nm (fun p hp => (raZ.2 p hp).2)
            rw [e6z] at hg1 hgl
            rw [e8z] at hg2
            obtain ⟨⟨⟨gn, gp, gl⟩, gb⟩, hgm⟩ : ∃ x, x = getM mz nm := ⟨_, rfl⟩
            rw [← hgm] at hg1 hg2 hgl
            simp only at hg1 hg2 hgl
            have HG1 := Lib.hid hg1
            have HG2 := Lib.hid hg2
            have z0 := row_cell g8 0
            have HEQ := Lib.hid (e6z.trans e8z.symm)
            clear hg1 hg2 hgm
            go_wp2_with fail
            (with_reducible refine HG1.out.mono ?_); rintro e w11 ⟨vx, rfl, hx11, b11⟩
            have g11 := (b11.block _ (row_lt g8)).trans g8
            obtain ⟨ax, cx, rfl⟩ := hx11.shape
            obtain ⟨W11, hW11⟩ : ∃ W, W = w11.alloc (.cells #[.string (S gn), .int .i64 gp, .slice ax gl.length cx] 55) := ⟨_, rfl⟩
            have bb11 : Below w11.heap.size w11 W11 := by rw [hW11]; exact (Below.refl _ _).alloc (Nat.le_refl _) _
            have gx11 : W11.heap[w11.heap.size]? = some (.cells #[.string (S gn), .int .i64 gp, .slice ax gl.length cx] 55 (0, 0)) := by rw [hW11]; exact heap_alloc_new _ _
            have g11b := (bb11.block _ (row_lt g11)).trans g11
            have hz0 := row_cell g11b 0
            rw [hW11] at hz0
            have z0 : (w11.alloc (.cells #[.string (S gn), .int .i64 gp, .slice ax gl.length cx] 55)).cell? ⟨wr.heap.size, 0, none⟩ = some (.string (S nm)) := hz0
            have bW11 := b11.trans (bb11.mono b11.size)
            have ra11 := RdM.below' raZ bW11
            have rb11 := RdM.below' rbZ bW11
            have hx11 := hx11.below' bb11
            have B11 := B8.trans (bW11.mono B8.size)
            have HW11 := Lib.hid hW11
            clear hW11 hz0
            go_wp2_with fail
            rw [← HW11.out]
            (with_reducible refine (HG2.out _ bW11).mono ?_); rintro e w12 ⟨vy, rfl, hy12, b12⟩
            obtain ⟨ay, cy, rfl⟩ := hy12.shape
            obtain ⟨W12, hW12⟩ : ∃ W, W = w12.alloc (.cells #[.string (S gn), .int .i64 gp, .slice ay gl.length cy] 63) := ⟨_, rfl⟩
            have bb12 : Below w12.heap.size w12 W12 := by rw [hW12]; exact (Below.refl _ _).alloc (Nat.le_refl _) _
            have gy12 : W12.heap[w12.heap.size]? = some (.cells #[.string (S gn), .int .i64 gp, .slice ay gl.length cy] 63 (0, 0)) := by rw [hW12]; exact heap_alloc_new _ _
            have bW12 := b12.trans (bb12.mono b12.size)
            have gx12 := (bW12.block _ (row_lt gx11)).trans gx11
            have ra12 := ra11.below' bW12
            have rb12 := rb11.below' bW12
            have hx12 := hx11.below' bW12
            have hy12 := hy12.below' bb12
            have B12 := B11.trans (bW12.mono B11.size)
            have HW12 := Lib.hid hW12
            have hgg : (gb != gb) = false := by simp
            clear hW12 z0 g11b g11 b11 b12 gx11 bb11 bb12 ra11 rb11
            go_wp2_with fail
            rw [← HW12.out]
            have HX := Lib.hid (fun W' (h : Below W12.heap.size W12 W') => (⟨row_cell ((h.block _ (row_lt gx12)).trans gx12) 0, row_cell ((h.block _ (row_lt gx12)).trans gx12) 1, row_cell ((h.block _ (row_lt gx12)).trans gx12) 2, row_cell ((h.block _ (row_lt gy12)).trans gy12) 0, row_cell ((h.block _ (row_lt gy12)).trans gy12) 1, row_cell ((h.block _ (row_lt gy12)).trans gy12) 2⟩ :
              W'.cell? ⟨w11.heap.size, 0, none⟩ = some (.string (S gn)) ∧ W'.cell? ⟨w11.heap.size, 1, none⟩ = some (.int .i64 gp) ∧ W'.cell? ⟨w11.heap.size, 2, none⟩ = some (.slice ax gl.length cx) ∧ W'.cell? ⟨w12.heap.size, 0, none⟩ = some (.string (S gn)) ∧ W'.cell? ⟨w12.heap.size, 1, none⟩ = some (.int .i64 gp) ∧ W'.cell? ⟨w12.heap.size, 2, none⟩ = some (.slice ay gl.length cy)))
            have HRefs := Lib.hid (fun W' (h : Below W12.heap.size W12 W') => lawRefs_any _ psa W' (RdM.below' ra12 h) (by omega))
            have HRef := Lib.hid (fun W' (h : Below W12.heap.size W12 W') => lawRef_any (gn, gp, gl) _ W' (Rt.below' hx12 h) hgl)
            have HY := Lib.hid (fun W' (h : Below W12.heap.size W12 W') => Rt.below' hy12 h)
            have HRB := Lib.hid (fun W' (h : Below W12.heap.size W12 W') => RdM.below' rb12 h)
            have HGL := Lib.hid hgl
            have HA := Lib.hid ra12
            have HB12 := Lib.hid B12
            clear gx12 gy12 ra12 rb12 hx12 hy12 B12 HW12 HW11 B11 hx11 bW11 bW12 gW
            have bd : Below W12.heap.size W12 W12.drew := below_drewN (Below.refl W12.heap.size W12) 1
            go_region_held3 (fun w' => w'.cell? ⟨w11.heap.size, 0, none⟩ = some (.string (S gn)) ∧ w'.cell? ⟨w11.heap.size, 1, none⟩ = some (.int .i64 gp) ∧ w'.cell? ⟨w11.heap.size, 2, none⟩ = some (.slice ax gl.length cx) ∧ w'.cell? ⟨w12.heap.size, 0, none⟩ = some (.string (S gn)) ∧ w'.cell? ⟨w12.heap.size, 1, none⟩ = some (.int .i64 gp) ∧ w'.cell? ⟨w12.heap.size, 2, none⟩ = some (.slice ay gl.length cy))
              (first
                | exact HX.out _ (Below.refl _ _)
                | exact HX.out _ bd
                | exact HX.out _ b13'
                | exact HX.out _ b14'
                | exact HX.out _ (b14'.alloc b14'.size _)
                | exact HX.out _ b15'
                | exact HX.out _ (b15'.alloc b15'.size _)
                | exact HX.out _ ((b15'.alloc b15'.size _).alloc (b15'.alloc b15'.size _).size _)
                | exact HX.out _ b16'
                | fail)
              (first
                | (go_at_call 33; (with_reducible refine (HRefs.out _ bd).mono ?_); rintro e w13 ⟨v13, qs13, rfl, e13, o13, bd13, b13⟩; have b13' := bd.trans (b13.mono bd.size); have r13 : RdM w13 v13 qs13 := ⟨own_rd o13, fun p hp => ⟨(bd13 p hp).1, (bd13 p hp).2.1⟩⟩; obtain ⟨a13, c13, rfl⟩ := r13.1.shape)
                | (go_at_call 32; (with_reducible refine (refMsame_eq (.slice a13 qs13.length c13) _ qs13 psb _ r13 (HRB.out _ b13') (by have := congrArg List.length e13; simp at this; omega) (e13.trans HEQ.out)).mono ?_); rintro e w14 ⟨rfl, m14, hw14⟩; have b14' : Below W12.heap.size W12 w14 := hw14 ▸ below_drewN b13' m14; clear hw14)
                | (go_at_call 29; (first | (with_reducible refine (HRef.out _ b14').mono ?_) | (with_reducible refine (HRef.out _ (b14'.alloc b14'.size _)).mono ?_)); rintro e w15 ⟨v15, rfl, h15, n15, o15, b15⟩; have b15' : Below W12.heap.size W12 w15 := (by first | exact b14'.trans (b15.mono b14'.size) | exact (b14'.alloc b14'.size _).trans (b15.mono (b14'.alloc b14'.size _).size)); obtain ⟨a15, c15, rfl⟩ := h15.shape)
                | (go_at_call 32; (first
                    | (with_reducible refine (same_one _ _ _ _ _ _ (rdM_one3 w15 gn gp gl _ _ h15 HGL.out) (RdM.below' (rdM_one3 w14 gn gp gl _ _ (HY.out _ b14') HGL.out) (b15.trans ((Below.refl _ _).alloc b15.size _)))).mono ?_)
                    | (with_reducible refine (same_one _ _ _ _ _ _ (rdM_snd w15 gn gp gl _ _ _ h15 HGL.out) (rdM_fst w15 gn gp gl _ _ _ (HY.out _ b15') HGL.out)).mono ?_)
                    | (with_reducible refine (same_one _ _ _ _ _ _ (rdM_fst w15 gn gp gl _ _ _ h15 HGL.out) (rdM_snd w15 gn gp gl _ _ _ (HY.out _ b15') HGL.out)).mono ?_)); rintro e w16 ⟨rfl, m16, hw16⟩; have b16' : Below W12.heap.size W12 w16 := (by first | exact hw16 ▸ below_drewN (b15'.alloc b15'.size _) m16 | exact hw16 ▸ below_drewN ((b15'.alloc b15'.size _).alloc (b15'.alloc b15'.size _).size _) m16); clear hw16)
                | fail)
            all_goals (
              go_wp2_with fail
              go_roundw
              case rel => exact ⟨q + 1, mz, by omega, by omega, by go_num, HN, by omega, Lib.hid ⟨_, RdM.below' HA.out b16', e6z⟩, Lib.hid ⟨_, HRB.out _ b16', e8z⟩, HB12.out.trans (b16'.mono HB12.out.size)⟩
              case measure => simp [intOf]; omega
              )

            )
    · have hstop : q = l.length ∨ (q < l.length ∧ q = 60) := by omega
      have hdec : decide ((q : Int) < (l.length : Int)) = false ∨ decide ((q : Int) < 60) = false := by
        rcases hstop with h | ⟨_, h⟩
        · left; simp; omega
        · right; simp; omega
      rcases hstop with rfl | ⟨h, rfl⟩
      all_goals (
        go_wp2_with fail
        (with_reducible refine (macFixed_any _).mono ?_); rintro e w6 ⟨rfl, b6⟩
        go_wp2_with fail
        go_ret
        exact ⟨rfl, hbw.trans (b6.mono hsz)⟩
      )

end Go.Proofs.Ytkpdhpbnbpjceaa
