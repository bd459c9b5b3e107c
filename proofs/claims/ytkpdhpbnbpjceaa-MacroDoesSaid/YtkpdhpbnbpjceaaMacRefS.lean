
/- The reference of the macro layer: Same; the law's Ref, Refs. No condition. -/
import Derived.Test.YtkpdhpbnbpjceaaMacRefP
import Derived.Test.YtkpdhpbnbpjceaaMacLists
import Derived.Deep.RegionHeld3
namespace Go.Proofs.Ytkpdhpbnbpjceaa
open Go.RowKit

/-- Macros that lie behind a new element. -/
theorem bod_near {w1 w' : World} {v v' : Value} {ps : List (Mac × Value)} {p : Mac × Value} (h : Bod w1 v ps) (hgr : w1.grownBy w' v.ownBlock) (hnear : Near w1 v v')
    (hp : Rt w1 p.2 p.1.2.2 ∧ p.1.2.2.length ≤ 1000000 ∧ (0 < p.1.2.2.length → ∀ b, p.2.ownBlock = some b → b < w1.heap.size ∧ v.ownBlock ≠ some b)) : Bod w' v' (ps ++ [p]) := by
  intro q hq
  have key : Rt w1 q.2 q.1.2.2 ∧ q.1.2.2.length ≤ 1000000 ∧ (0 < q.1.2.2.length → ∀ b, q.2.ownBlock = some b → b < w1.heap.size ∧ v.ownBlock ≠ some b) := by
    rcases List.mem_append.1 hq with hq | hq
    · exact h q hq
    · rw [List.mem_singleton.1 hq]; exact hp
  refine ⟨key.1.apart hgr fun h0 b hb e => (key.2.2 h0 b hb).2 e.symm, key.2.1, fun h0 b hb => ⟨Nat.lt_of_lt_of_le (key.2.2 h0 b hb).1 hgr.size, fun e => ?_⟩⟩
  rcases hnear with h | ⟨g', h, hle⟩
  · exact (key.2.2 h0 b hb).2 (h.symm.trans e)
  · rw [h] at e; injection e with e; have := (key.2.2 h0 b hb).1; omega

set_option maxRecDepth 20000 in
set_option maxHeartbeats 4000000 in
/-- 'Same' of the reference: the same macros are the same. -/
theorem refMsame_eq (va vb : Value) (pa pb : List (Mac × Value)) (w : World) (ha : RdM w va pa) (hb : RdM w vb pb) (hla : pa.length ≤ 1000000) (he : pa.map Prod.fst = pb.map Prod.fst) :
    Calls Try.prog 32 #[va, vb] w fun e w' => e = .returned (.bool true) ∧ ∃ m, w' = w.drewN m := by
  obtain ⟨aa, ca, rfl⟩ := ha.1.shape
  obtain ⟨ab, cb, rfl⟩ := hb.1.shape
  have HA := Lib.hid ha
  have HB := Lib.hid hb
  have hlen : pb.length = pa.length := by have := congrArg List.length he; simpa using this.symm
  have HE := Lib.hid he
  clear ha hb he
  have HL := Lib.hid hlen
  rw [hlen] at HB ⊢
  clear hlen
  have hb1 : ((pa.length : Int) != (pa.length : Int)) = false := by simp
  go_enter Try.func32, Try.ntmps32
  go_wp2_with fail
  go_loopw [5] (fun i wr => ∃ k : Nat, k ≤ pa.length ∧ i = .int .i64 k ∧ Hid (∃ m, wr = w.drewN m)) (fun i _ => pa.length - (intOf i).toNat)
  case atStart => exact ⟨0, Nat.zero_le _, rfl, Lib.hid ⟨0, rfl⟩⟩
  case round =>
    obtain ⟨k, hk, rfl, HD⟩ := hrel
    by_cases hlt : k < pa.length
    · have hlt' : k < pb.length := by have := HL.out; omega
      have hra : Rd wr 3 (.slice aa pa.length ca) pa.length (mcs pa) := by obtain ⟨m, e⟩ := HD.out; rw [e]; exact Rd.drewN HA.out.rd m
      have hrb : Rd wr 3 (.slice ab pa.length cb) pb.length (mcs pb) := by obtain ⟨m, e⟩ := HD.out; rw [e]; have h5 := Rd.drewN HB.out.rd m; rw [HL.out]; rw [HL.out] at h5; exact h5
      obtain ⟨b1, o1, rfl, c1, c2, c3⟩ := mac_at hra hlt
      obtain ⟨b2, o2, rfl, d1, d2, d3⟩ := mac_at hrb hlt'
      have hma := HA.out.2 pa[k] (List.getElem_mem hlt)
      have hmb := HB.out.2 pb[k] (List.getElem_mem hlt')
      have hmm : pb[k].1 = pa[k].1 := by
        have h1 : (pa.map Prod.fst)[k]? = some pa[k].1 := by simp [hlt]
        have h2 : (pb.map Prod.fst)[k]? = some pb[k].1 := by simp [hlt']
        rw [HE.out, h2] at h1
        exact Option.some.inj h1
      obtain ⟨⟨⟨nm, pm, bm⟩, bv⟩, hp⟩ : ∃ x, x = pa[k] := ⟨_, rfl⟩
      obtain ⟨⟨m2, bv2⟩, hp2⟩ : ∃ x, x = pb[k] := ⟨_, rfl⟩
      rw [← hp] at c1 c2 c3 hma hmm
      rw [← hp2] at d1 d2 d3 hmb hmm
      simp only at hmm
      subst hmm
      clear hp hp2
      have hma2 : bm.length ≤ 1000000 := hma.2
      have hr1 : Rt wr bv bm := by obtain ⟨m, e⟩ := HD.out; rw [e]; exact Rd.drewN hma.1 m
      have hr2 : Rt wr bv2 bm := by obtain ⟨m, e⟩ := HD.out; rw [e]; exact Rd.drewN hmb.1 m
      have HS : ∀ n, Calls Try.prog 20 #[bv, bv2] (wr.drewN n) fun e w' => e = .returned (.bool true) ∧ ∃ m, w' = (wr.drewN n).drewN m := fun n => by
        have := same_quiet bv bv2 _ _ (wr.drewN n) (Rd.drewN hr1 n) (Rd.drewN hr2 n) (by omega) (by omega)
        rw [show (bm == bm) = true by simp] at this; exact this
      have e1 : (nm != nm) = false := by simp
      have e2 : (pm != pm) = false := by simp
      have i1 : (k : Int) < (pa.length : Int) := by omega
      clear hra hrb hma hmb hr1 hr2
      go_wp2_with fail
      go_quiet (first | (go_at_call 20; refine Calls.quiet_of (HS _)))
      go_wp2_with fail
      go_roundw
      case rel => exact ⟨k + 1, by omega, by go_num, Lib.hid (by obtain ⟨m, e⟩ := HD.out; rw [e]; exact ⟨_, World.drewN_drewN _ _ _⟩)⟩
      case measure => simp [intOf]; omega
    · go_wp2_with fail
      go_ret
      exact ⟨rfl, HD.out⟩

set_option maxRecDepth 20000 in
set_option maxHeartbeats 4000000 in
/-- The law's 'Ref': a macro, for the document. -/
theorem lawRef_any (m : Mac) (bv : Value) (w : World) (hb : Rt w bv m.2.2) (hbl : m.2.2.length ≤ 1000000) :
    Calls Try.prog 29 #[.agg #[.string (S m.1), .int .i64 m.2.1, bv]] w fun e w' => ∃ bv', e = .returned (.agg #[.string (S m.1), .int .i64 m.2.1, bv']) ∧ Rt w' bv' m.2.2 ∧ (∀ b, bv'.ownBlock = some b → w.heap.size ≤ b ∧ b < w'.heap.size) ∧ bv'.oneCell' = true ∧ Below w.heap.size w w' := by
  obtain ⟨nm, pm, bm⟩ := m
  have hb : Rt w bv bm := hb
  have hbl : bm.length ≤ 1000000 := hbl
  obtain ⟨ab, cb, rfl⟩ := hb.shape
  obtain ⟨W, hW⟩ : ∃ W, W = (w.alloc (.cells #[.string (S nm), .int .i64 pm, .slice ab bm.length cb] 55)).alloc (.cells #[.string (S []), .int .i64 0, .slice none 0 0] 63) := ⟨_, rfl⟩
  have gx : W.heap[w.heap.size]? = some (.cells #[.string (S nm), .int .i64 pm, .slice ab bm.length cb] 55 (0, 0)) := hW ▸ alloc2_first _ _ _
  have gy : W.heap[w.heap.size + 1]? = some (.cells #[.string (S []), .int .i64 0, .slice none 0 0] 63 (0, 0)) := hW ▸ alloc2_second _ _ _
  have bW : Below w.heap.size w W := hW ▸ (((Below.refl _ _).alloc (Nat.le_refl _) _).alloc (by simp) _)
  have hsz : W.heap.size = w.heap.size + 2 := by rw [hW]; simp
  have hbW := hb.below' bW
  have x0 : W.cell? ⟨w.heap.size, 0, none⟩ = some (.string (S nm)) := row_cell gx 0
  have x1 : W.cell? ⟨w.heap.size, 1, none⟩ = some (.int .i64 pm) := row_cell gx 1
  have x2 : W.cell? ⟨w.heap.size, 2, none⟩ = some (.slice ab bm.length cb) := row_cell gx 2
  have HC := Lib.hid (fun W' (h : Below W.heap.size W W') => refs_any _ bm W' (hbW.below' h) (by omega))
  have HW := Lib.hid hW
  have hlx := row_lt gx
  have hly := row_lt gy
  have HX := Lib.hid (fun W' (h : Below W.heap.size W W') => (⟨row_cell ((h.block _ hlx).trans gx) 0, row_cell ((h.block _ hlx).trans gx) 1, row_cell ((h.block _ hlx).trans gx) 2⟩ : W'.cell? ⟨w.heap.size, 0, none⟩ = some (.string (S nm)) ∧ W'.cell? ⟨w.heap.size, 1, none⟩ = some (.int .i64 pm) ∧ W'.cell? ⟨w.heap.size, 2, none⟩ = some (.slice ab bm.length cb)))
  have hfar : ∀ (w3 : World) (a b c : Value) (j : Nat), (((w3.setCell ⟨w.heap.size + 1, 0, none⟩ a).setCell ⟨w.heap.size + 1, 1, none⟩ b).setCell ⟨w.heap.size + 1, 2, none⟩ c).cell? ⟨w.heap.size, j, none⟩ = w3.cell? ⟨w.heap.size, j, none⟩ := fun w3 a b c j => by
    rw [World.cell?_setCell_far _ _ _ _ (by simp), World.cell?_setCell_far _ _ _ _ (by simp), World.cell?_setCell_far _ _ _ _ (by simp)]
  have HX3 := Lib.hid (fun W' a b c (h : Below W.heap.size W W') => (⟨(hfar W' a b c 0).trans (HX.out W' h).1, (hfar W' a b c 1).trans (HX.out W' h).2.1, (hfar W' a b c 2).trans (HX.out W' h).2.2⟩ : (((W'.setCell ⟨w.heap.size + 1, 0, none⟩ a).setCell ⟨w.heap.size + 1, 1, none⟩ b).setCell ⟨w.heap.size + 1, 2, none⟩ c).cell? ⟨w.heap.size, 0, none⟩ = some (.string (S nm)) ∧ (((W'.setCell ⟨w.heap.size + 1, 0, none⟩ a).setCell ⟨w.heap.size + 1, 1, none⟩ b).setCell ⟨w.heap.size + 1, 2, none⟩ c).cell? ⟨w.heap.size, 1, none⟩ = some (.int .i64 pm) ∧ (((W'.setCell ⟨w.heap.size + 1, 0, none⟩ a).setCell ⟨w.heap.size + 1, 1, none⟩ b).setCell ⟨w.heap.size + 1, 2, none⟩ c).cell? ⟨w.heap.size, 2, none⟩ = some (.slice ab bm.length cb)))
  clear hW hb hbW hfar
  go_enter Try.func29, Try.ntmps29
  go_wp2_with fail
  rw [← HW.out]
  have bd : Below W.heap.size W W.drew := below_drewN (Below.refl W.heap.size W) 1
  go_region_held3 (fun w' => w'.cell? ⟨w.heap.size, 0, none⟩ = some (.string (S nm)) ∧ w'.cell? ⟨w.heap.size, 1, none⟩ = some (.int .i64 pm) ∧ w'.cell? ⟨w.heap.size, 2, none⟩ = some (.slice ab bm.length cb))
    (first
      | exact HX.out _ (Below.refl _ _)
      | exact HX.out _ bd
      | exact HX.out _ b3'
      | exact HX3.out _ _ _ _ b3'
      | fail)
    (first
      | (go_at_call 12; (with_reducible refine (HC.out _ bd).mono ?_); rintro e w3 ⟨vp, rfl, op, b3⟩; have b3' := bd.trans (b3.mono bd.size); obtain ⟨a3, c3, rfl⟩ := own_shape op; have g3 := (b3'.block _ hly).trans gy; have z0 : w3.cell? ⟨w.heap.size + 1, 0, none⟩ = some (.string (S [])) := row_cell g3 0; have z1 : w3.cell? ⟨w.heap.size + 1, 1, none⟩ = some (.int .i64 0) := row_cell g3 1; have z2 : w3.cell? ⟨w.heap.size + 1, 2, none⟩ = some (.slice none 0 0) := row_cell g3 2; have f0 := row_free g3 0; have f1 := row_free g3 1; have f2 := row_free g3 2; have q3 := b3'.size)
      | fail)
  have hlow : ∀ b, (Value.slice a3 bm.length c3).ownBlock = some b → w.heap.size + 2 ≤ b ∧ b < w3.heap.size := fun b hb => by
    have h := op.lt b hb
    have e : W.drew.heap.size = W.heap.size := rfl
    rw [e] at h
    omega
  have hne : ∀ j, 0 < bm.length → ∀ b, (Value.slice a3 bm.length c3).ownBlock = some b → some b ≠ some (⟨w.heap.size + 1, j, none⟩ : Addr).block := fun j _ b hb e => by
    injection e with e
    have e : b = w.heap.size + 1 := e
    have := hlow b hb
    omega
  have hrt := (((show Rt w3 (.slice a3 bm.length c3) bm from own_rd op).apart (setCell_grown _ ⟨w.heap.size + 1, 0, none⟩ (.string (S nm))) (hne _)).apart (setCell_grown _ ⟨w.heap.size + 1, 1, none⟩ (.int .i64 pm)) (hne _)).apart (setCell_grown _ ⟨w.heap.size + 1, 2, none⟩ (.slice a3 bm.length c3)) (hne _)
  have hbe := ((((bW.trans (b3'.mono (by omega))).setCell (p := ⟨w.heap.size + 1, 0, none⟩) (by simp : w.heap.size ≤ w.heap.size + 1) (.string (S nm))).setCell (p := ⟨w.heap.size + 1, 1, none⟩) (by simp : w.heap.size ≤ w.heap.size + 1) (.int .i64 pm)).setCell (p := ⟨w.heap.size + 1, 2, none⟩) (by simp : w.heap.size ≤ w.heap.size + 1) (.slice a3 bm.length c3))
  have HR := Lib.hid hrt
  have HB := Lib.hid hbe
  have HL := Lib.hid hlow
  clear hrt hbe hlow hne
  go_wp2_with fail
  exact bodyPost_ret (v := .agg #[.string (S nm), .int .i64 pm, .slice a3 bm.length c3]) (by simp [results, Try.results29, go_sem, z0, z1, z2]) rfl ⟨_, rfl, HR.out, fun b hb => ⟨by have := HL.out b hb; omega, by have := HL.out b hb; simpa [World.setCell] using this.2⟩, rfl, HB.out⟩

set_option maxRecDepth 20000 in
set_option maxHeartbeats 4000000 in
/-- The law's 'Refs': macros, for the document. -/
theorem lawRefs_any (v : Value) (ps : List (Mac × Value)) (w : World) (hl : RdM w v ps) (hlen : ps.length ≤ 1000000) :
    Calls Try.prog 33 #[v] w fun e w' => ∃ v' qs, e = .returned v' ∧ qs.map Prod.fst = ps.map Prod.fst ∧ w'.ownsRow w.heap.size 63 3 v' qs.length (mcs qs) ∧ Bod w' v' qs ∧ Below w.heap.size w w' := by
  obtain ⟨a0, c0, rfl⟩ := hl.1.shape
  have HL := Lib.hid hl
  clear hl
  go_enter Try.func33, Try.ntmps33
  go_wp2_with fail
  go_loopw [3, 4] (fun v i wr => ∃ (k : Nat) (qs : List (Mac × Value)), k ≤ ps.length ∧ i = .int .i64 k ∧ Hid (qs.map Prod.fst = (ps.take k).map Prod.fst) ∧ wr.ownsRow w.heap.size 63 3 v qs.length (mcs qs) ∧ Bod wr v qs ∧ Below w.heap.size w wr) (fun _ i _ => ps.length - (intOf i).toNat)
  case atStart => exact ⟨0, [], Nat.zero_le _, rfl, Lib.hid rfl, World.ownsRow_made w #[] 0 (Nat.le_refl _) (by decide) rfl, (fun _ h => absurd h (by simp)), (Below.refl _ _).alloc (Nat.le_refl _) _⟩
  case round =>
    obtain ⟨k, qs, hk, rfl, HQ, hown, hbod, hbw⟩ := hrel
    have hsz := hbw.size
    have hql : qs.length = k := by have := congrArg List.length HQ.out; simp at this; omega
    have hqle : qs.length ≤ 1000000 := by omega
    have HQL := Lib.hid hql
    clear hql
    by_cases hlt : k < ps.length
    · have hm := (HL.out.below' hbw)
      obtain ⟨b1, o1, rfl, c1, c2, c3⟩ := mac_at hm.1 hlt
      have hbody := hm.2 ps[k] (List.getElem_mem hlt)
      have HTS := Lib.hid (take_snoc ps k hlt)
      obtain ⟨⟨⟨nm, pm, bm⟩, bv⟩, hp⟩ : ∃ x, x = ps[k] := ⟨_, rfl⟩
      rw [← hp] at c1 c2 c3 hbody HTS
      clear hp hm
      have hb1 : Rt wr bv bm := hbody.1
      have hbl : bm.length ≤ 1000000 := hbody.2
      have HC := Lib.hid (lawRef_any (nm, pm, bm) bv wr hb1 hbl)
      clear hbody
      go_wp2_with fail
      (with_reducible refine HC.out.mono ?_); rintro e w3 ⟨bv3, rfl, hr3, hn3, ho3, b3⟩
      have hs3 := b3.size
      have own3 := own_below hown (own_under hown) b3
      have hbod3 := hbod.below b3
      have hb4 := hbw.trans (b3.mono hsz)
      have hone : ∀ u ∈ [Value.string (S nm), .int .i64 pm, bv3], u.oneCell' = true := by intro u hu; simp at hu; rcases hu with rfl | rfl | rfl <;> first | rfl | exact ho3
      have hun := own_under hown
      have hnew : Rt w3 bv3 bm ∧ bm.length ≤ 1000000 ∧ (0 < bm.length → ∀ b, bv3.ownBlock = some b → b < w3.heap.size ∧ u3.ownBlock ≠ some b) := ⟨hr3, hbl, fun _ b hb => ⟨(hn3 b hb).2, fun e => by have h1 := hun b e; have h2 := (hn3 b hb).1; omega⟩⟩
      have HNW := Lib.hid hnew
      clear hnew hr3
      go_wp2_with (first | (at_builtin; refine wp_app2 tyMacR rfl _ _ rfl w.heap.size own3 rfl rfl rfl rfl hone (by omega) (by omega) (by omega) ?_; intro v6 w6 o6 b6 g6 n6) | fail)
      have hbod6 := bod_near (p := ((nm, pm, bm), bv3)) hbod3 g6 n6 HNW.out
      go_roundw
      case rel => exact ⟨k + 1, qs ++ [((nm, pm, bm), bv3)], by omega, by go_num, Lib.hid (by rw [HTS.out, List.map_append, List.map_append, HQ.out]; rfl), (by rw [mcs_snoc, List.length_append]; exact o6), hbod6, hb4.trans b6⟩
      case measure => simp [intOf]; omega
    · obtain rfl : k = ps.length := by omega
      have HQ2 := Lib.hid (show qs.map Prod.fst = ps.map Prod.fst by rw [HQ.out, List.take_length])
      obtain ⟨a5, c5, rfl⟩ := own_shape hown
      go_wp2_with fail
      go_ret
      exact ⟨_, qs, rfl, HQ2.out, hown, hbod, hbw⟩

end Go.Proofs.Ytkpdhpbnbpjceaa
