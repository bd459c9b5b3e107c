/- Walks and plain laws, 9: 'ExpandReads', walked: it answers true at every input. No condition. -/
import Derived.Test.YtjfikkjaifdkiaaGreatDoorRe8
import Derived.Deep.LoopGhost
namespace Go.Proofs.YtjfikkjaifdkiaaGreatDoor
open Go.RowKit

theorem take_minI {α : Type} (l : List α) (n : Nat) : l.take (min (l.length : Int) (n : Int)).toNat = l.take n := by
  have e : (min (l.length : Int) (n : Int)).toNat = min l.length n := by omega
  rw [e]
  by_cases h : l.length ≤ n
  · rw [Nat.min_eq_left h, List.take_length, List.take_of_length_le h]
  · rw [Nat.min_eq_right (by omega)]
theorem contains_snoc (rs : List (List UInt8)) (x : List UInt8) (q : Nat) (h : q < rs.length) : (rs.take (q + 1)).contains x = ((rs.take q).contains x || rs[q] == x) := by
  rw [List.take_succ_eq_append_getElem h, Bool.eq_iff_iff, Bool.or_eq_true, List.contains_iff_mem, List.contains_iff_mem, List.mem_append, List.mem_singleton, beq_iff_eq]
  constructor
  · rintro (h9 | h9)
    · exact .inl h9
    · exact .inr h9.symm
  · rintro (h9 | h9)
    · exact .inl h9
    · exact .inr h9.symm
theorem sameO_self (E : Ex.St) : sameO E E = true := by simp [sameO]

set_option maxRecDepth 20000 in
set_option maxHeartbeats 8000000 in
/-- 'ExpandReads'. -/
theorem expandReads_any (v0 : Value) (l : List Fl) (main : List UInt8) (f : Fl) (w : World) (hl : Rf w v0 l) (hs : ∀ f ∈ l, f.1.length ≤ 9223372036854775807 ∧ f.2.length ≤ 9223372036854775807) (hf : f.1.length ≤ 9223372036854775807 ∧ f.2.length ≤ 9223372036854775807) (hgl : Gl w) (hw0 : 0 < w.heap.size) :
    Calls Tryz.prog 4 #[v0, .string (S main), .agg #[.string (S f.1), .string (S f.2)]] w fun e w' => e = .returned (.bool true) ∧ Below w.heap.size w w' := by
  obtain ⟨nm, tx⟩ := f
  simp only at hf
  obtain ⟨m, hm⟩ : ∃ m, m = Fi.map l 6 200 := ⟨_, rfl⟩
  obtain ⟨hm1, hm2, hm3⟩ := map_keeps l 6 200
  rw [← hm] at hm1 hm2 hm3
  obtain ⟨W0, hW0⟩ : ∃ W0, W0 = w.alloc (.cells #[.string (S nm), .string (S tx)] 45) := ⟨_, rfl⟩
  have b0 : Below w.heap.size w W0 := by rw [hW0]; exact (Below.refl _ _).alloc (Nat.le_refl _) _
  have HF := Lib.hid (files8_any v0 l W0 (hl.below' b0) hs)
  rw [← hm] at HF
  have HR0 : Hid (Ro W0 w.heap.size 45 [.string (S nm), .string (S tx)]) := Lib.hid (by rw [hW0]; exact heap_alloc_new w _)
  have HW0 := Lib.hid hW0
  have HB0 := Lib.hid b0
  have HTX := Lib.hid hf
  have HMM := Lib.hid (And.intro hm1 (And.intro hm2 hm3))
  obtain ⟨E1, hE1⟩ : ∃ E, E = Ex.expand m main 40 300 := ⟨_, rfl⟩
  have HX : Hid (∀ (v : Value) (k : List Fl) W, Rf W v k → Fi.Ord k → k.length ≤ 10 → (∀ g ∈ k, g.2.length ≤ 200) → Ex.expand k main 40 300 = E1 → Below w.heap.size w W → Calls Tryz.prog 7 #[v, .string (S main), .int .i64 40, .int .i64 300] W fun e w' => ∃ o, e = .returned (.tuple #[o, .int .i64 0]) ∧ RdO w' o E1 ∧ Below W.heap.size W w' ∧ FrO W.heap.size o) := Lib.hid fun v k W hk ho hk2 hk3 he hb => by
    have h9 := exp9_any v k main 40 300 W hk ho (by omega) (fun g hg => by have := hk3 g hg; omega) (by decide) (by decide) (hgl.below hw0 hb) (Nat.lt_of_lt_of_le hw0 hb.size) (zf := 40) (zm := 300) rfl rfl
    rw [he] at h9
    exact h9
  have HFX : Hid (∀ W, Below w.heap.size w W → Calls Tryz.prog 11 #[] W fun e w' => e = .returned (.bool true) ∧ Below W.heap.size W w') := Lib.hid fun W hb => exFixed_any W (hgl.below hw0 hb) (Nat.lt_of_lt_of_le hw0 hb.size)
  have HE1 := Lib.hid hE1
  have HKE : Hid (Ex.expand (kept E1.reads m) main 40 300 = E1) := Lib.hid (by rw [hE1]; exact expand_kept hm2)
  have HPE : Hid ((Fi.put m (nm, tx.take 200)).2 = 0 → E1.reads.contains nm = false → Ex.expand (Fi.put m (nm, tx.take 200)).1 main 40 300 = E1) := Lib.hid fun h0 hn => by
    rw [hE1] at hn ⊢
    exact expand_put (f := (nm, tx.take 200)) hm1 hm2 (by simp only [List.length_take]; omega) h0 hn
  have HSM : Hid (Small E1) := Lib.hid (by rw [hE1]; exact small_expand (fun g hg => by have := hm2 g hg; omega) (by decide) (by decide))
  have HMR : Hid (∃ r, E1.reads = main :: r) := Lib.hid (by rw [hE1]; exact Ex.main_read m main 40 300)
  clear hE1 hm hm1 hm2 hm3 hgl hW0 b0 hf hs
  obtain ⟨a0, c0, rfl⟩ := hl.shape
  clear hl
  go_enter Tryz.func4, Tryz.ntmps4
  go_upto_region 1 with fail
  rw [← HW0.out]
  go_upto_region 2 with (go_at_call 5; (with_reducible refine HF.out.mono ?_); rintro e w1 ⟨vm, rfl, om, b1⟩; obtain ⟨am, cm, rfl⟩ := own_shape om; have HOM := Lib.hid om; have HB1 := Lib.hid b1; clear om b1)
  have HB01 : Hid (Below w.heap.size w w1) := Lib.hid (HB0.out.trans (HB1.out.mono HB0.out.size))
  have H1 := Lib.hid (HX.out (.slice am m.length cm) m w1 (rf_own HOM.out) HMM.out.1 (by have := HMM.out.2.2; omega) HMM.out.2.1 HE1.out.symm HB01.out)
  go_upto_region 3 with (go_at_call 7; (with_reducible refine H1.out.mono ?_); rintro e w2 ⟨o, rfl, ro, b9, fo⟩; obtain ⟨vL, vR, vN, rfl, h1, h2, h3⟩ := ro; obtain ⟨aL, cL, rfl⟩ := h1.shape; obtain ⟨aR, cR, rfl⟩ := Rd.shape h2; obtain ⟨aN, cN, rfl⟩ := h3.shape; have HH := Lib.hid (show RdO w2 (.agg #[.slice aL E1.outL.length cL, .slice aR E1.reads.length cR, .slice aN E1.notes.length cN, .int .i64 (E1.used : Int)]) E1 from ⟨_, _, _, rfl, h1, h2, h3⟩); have HFO := Lib.hid fo; have HBH := Lib.hid b9; clear h1 h2 h3 b9 fo)
  obtain ⟨rs, hrs⟩ : ∃ rs, rs = E1.reads := ⟨_, rfl⟩
  obtain ⟨rr, hrr⟩ := HMR.out
  rw [← hrs] at hrr HKE HPE
  obtain ⟨nL, hnL⟩ : ∃ n, n = E1.outL.length := ⟨_, rfl⟩
  obtain ⟨nR, hnR⟩ : ∃ n, n = E1.reads.length := ⟨_, rfl⟩
  obtain ⟨nN, hnN⟩ : ∃ n, n = E1.notes.length := ⟨_, rfl⟩
  obtain ⟨nU, hnU⟩ : ∃ n, n = E1.used := ⟨_, rfl⟩
  rw [← hnL, ← hnR, ← hnN, ← hnU] at HH HFO ⊢
  have hRx : ∀ W, Below w2.heap.size w2 W → Rx W (.slice aR nR cR) rs := fun W hb => by
    have h9 := (rd_box HH.out (by rw [hnU])).2.1
    rw [← hrs] at h9
    exact Rd.below' h9 hb
  have HNR : Hid (nR = rs.length) := Lib.hid (by rw [hnR, ← hrs])
  have hr0 : 0 < rs.length := by rw [hrr]; simp
  have hrb : rs.length ≤ 1000000 := by rw [hrs]; exact HSM.out.2.1
  have hmb : m.length ≤ 10 := by have := HMM.out.2.2; omega
  obtain ⟨gR, oR, rfl, _⟩ := Rx.at (hRx w2 (Below.refl _ _)) hr0
  have HEL : Hid (∀ W, Below w2.heap.size w2 W → ∀ j (hj : j < rs.length), W.cell? ⟨gR, oR + j, none⟩ = some (.string (S rs[j]))) := Lib.hid fun W hb j hj => by
    obtain ⟨g, o, hg, hc⟩ := Rx.at (hRx W hb) hj
    cases hg
    exact hc
  obtain ⟨V1, hV1⟩ : ∃ V, V = w2.alloc (.cells #[(.slice aL nL cL), (.slice (some ⟨gR, oR, none⟩) nR cR), (.slice aN nN cN), (.int .i64 (nU : Int))] 31) := ⟨_, rfl⟩
  rw [← hV1]
  have HC1 : Hid (∀ W', Below V1.heap.size V1 W' → (W'.cell? ⟨w2.heap.size, 0, none⟩ = some (.slice aL nL cL) ∧ W'.cell? ⟨w2.heap.size, 1, none⟩ = some (.slice (some ⟨gR, oR, none⟩) nR cR) ∧ W'.cell? ⟨w2.heap.size, 2, none⟩ = some (.slice aN nN cN) ∧ W'.cell? ⟨w2.heap.size, 3, none⟩ = some (.int .i64 (nU : Int))) ∧ RdO W' (.agg #[(.slice aL nL cL), (.slice (some ⟨gR, oR, none⟩) nR cR), (.slice aN nN cN), (.int .i64 (nU : Int))]) E1) := Lib.hid fun W' hb => box9 hV1 HH.out hb
  have HBX : Hid (∀ W', Below V1.heap.size V1 W' → Ro W' w2.heap.size 31 [(.slice aL nL cL), (.slice (some ⟨gR, oR, none⟩) nR cR), (.slice aN nN cN), (.int .i64 (nU : Int))]) := Lib.hid fun W' hb => by
    have r : Ro V1 w2.heap.size 31 [(.slice aL nL cL), (.slice (some ⟨gR, oR, none⟩) nR cR), (.slice aN nN cN), (.int .i64 (nU : Int))] := by rw [hV1]; exact heap_alloc_new w2 _
    exact r.kw (Kw.of_below hb) (by have := r.lt; omega)
  have HFO1 := HFO
  have HBH1 := HBH
  have HV1 : Hid (Below w2.heap.size w2 V1) := Lib.hid (by rw [hV1]; exact (Below.refl _ _).alloc (Nat.le_refl _) _)
  have HB1V : Hid (Below w1.heap.size w1 V1) := Lib.hid (HBH.out.trans (HV1.out.mono HBH.out.size))
  have HBV : Hid (Below w.heap.size w V1) := Lib.hid (HB01.out.trans (HB1V.out.mono HB01.out.size))
  have HRR := Lib.hid hrr
  have HRS := Lib.hid hrs
  have HNN := Lib.hid (And.intro hnL (And.intro hnR (And.intro hnN hnU)))
  clear hRx hrs hrr hnL hnR hnN hnU hV1 H1 HH
  obtain ⟨⟨c0, c1, c2, c3⟩, _⟩ := HC1.out V1 (Below.refl _ _)
  have e0 : V1.cell? ⟨gR, oR, none⟩ = some (.string (S main)) := by
    have h9 := HEL.out V1 HV1.out 0 hr0
    have e : rs[0] = main := by have := HRR.out; subst this; rfl
    rw [e] at h9
    exact h9
  have n1 : (1 : Int) ≤ (nR : Int) := by have := HNR.out; omega
  have hne : (main != main) = false := by simp
  go_upto_region 5 with fail
  clear c0 c1 c2 c3 e0 hne
  go_wp2_with fail
  go_loopw [10, 12, 13, 14] (fun kv i _ _ wr => ∃ k : Nat, k ≤ m.length ∧ i = .int .i64 k ∧ wr.ownsRow V1.heap.size 45 2 kv (kept rs (m.take k)).length (fcs (kept rs (m.take k))) ∧ Below V1.heap.size V1 wr) (fun _ i _ _ _ => m.length - (intOf i).toNat)
  case atStart => exact ⟨0, Nat.zero_le _, rfl, World.ownsRow_made V1 #[] 0 (Nat.le_refl _) (by decide) rfl, (Below.refl _ _).alloc (Nat.le_refl _) _⟩
  case round =>
    obtain ⟨k, hk, rfl, hown, hbw⟩ := hrel
    have hsz := hbw.size
    by_cases hlt : k < m.length
    · have hmw : Rf wr (.slice am m.length cm) m := (rf_own HOM.out).below' (HB1V.out.trans (hbw.mono HB1V.out.size))
      obtain ⟨b1, o1, rfl, _, _⟩ := hmw.at hlt
      obtain ⟨⟨nk, tk⟩, hx⟩ : ∃ x, x = m[k] := ⟨_, rfl⟩
      have HCM : Hid (∀ W, Below wr.heap.size wr W → W.cell? ⟨b1, o1 + k * 2, none⟩ = some (.string (S nk)) ∧ W.cell? ⟨b1, o1 + (k * 2 + 1), none⟩ = some (.string (S tk))) := Lib.hid fun W hb => by
        obtain ⟨b, o, hbo, x0, x1⟩ := (hmw.below' hb).at hlt
        cases hbo
        rw [← hx] at x0 x1
        exact ⟨x0, x1⟩
      have HKS := Lib.hid (kept_snoc rs m k hlt)
      rw [← hx] at HKS
      simp only at HKS
      have hln : (kept rs (m.take k)).length ≤ 10 := by
        have h9 := kept_le rs (m.take k)
        rw [List.length_take] at h9
        have := HMM.out.2.2
        omega
      obtain ⟨out, hout⟩ : ∃ out, out = kept rs (m.take k) := ⟨_, rfl⟩
      rw [← hout] at hown hln HKS
      have HOW := Lib.hid hown
      have HBW := Lib.hid hbw
      clear hx hout hmw hown
      go_wp2_with fail
      go_loopw [13, 14] (fun a j wq => ∃ q : Nat, q ≤ rs.length ∧ j = .int .i64 q ∧ a = .bool ((rs.take q).contains nk) ∧ Below wr.heap.size wr wq) (fun _ j _ => rs.length - (intOf j).toNat)
      case atStart => exact ⟨0, Nat.zero_le _, rfl, rfl, Below.refl _ _⟩
      case round =>
        obtain ⟨q, hq, rfl, rfl, hbq⟩ := hrel
        rename World => wq
        have hbwq := HBW.out.trans (hbq.mono HBW.out.size)
        have hc1 : ∀ t, (wq.drewN t).cell? ⟨w2.heap.size, 1, none⟩ = some (.slice (some ⟨gR, oR, none⟩) nR cR) := fun _ => (HC1.out wq hbwq).1.2.1
        have hc1' : wq.cell? ⟨w2.heap.size, 1, none⟩ = some (.slice (some ⟨gR, oR, none⟩) nR cR) := (HC1.out wq hbwq).1.2.1
        have HBQ := Lib.hid hbq
        by_cases hqr : q < rs.length
        · have hqn : (q : Int) < (nR : Int) := by have := HNR.out; omega
          have hcm : ∀ t, (wq.drewN t).cell? ⟨b1, o1 + k * 2, none⟩ = some (.string (S nk)) := fun _ => (HCM.out wq hbq).1
          obtain ⟨x, hx⟩ : ∃ x, x = rs[q] := ⟨_, rfl⟩
          have hce : ∀ t, (wq.drewN t).cell? ⟨gR, oR + q, none⟩ = some (.string (S x)) := fun _ => by rw [hx]; exact HEL.out wq (HV1.out.trans (hbwq.mono HV1.out.size)) q hqr
          have HSN := Lib.hid (contains_snoc rs nk q hqr)
          rw [← hx] at HSN
          clear hx hbwq
          cases ha : (rs.take q).contains nk
          · rw [ha, Bool.false_or] at HSN
            cases he : (x == nk)
            · rw [he] at HSN
              go_wp2_with fail
              go_quiet (fail)
              revert nq; intro m1
              go_wp2_with fail
              go_roundw
              case rel => exact ⟨q + 1, by omega, by go_num, by rw [HSN.out], HBQ.out.trans ((below_drewN (Below.refl _ _) m1).mono HBQ.out.size)⟩
              case measure => simp [intOf]; omega
            · rw [he] at HSN
              go_wp2_with fail
              go_quiet (fail)
              revert nq; intro m1
              go_wp2_with fail
              go_roundw
              case rel => exact ⟨q + 1, by omega, by go_num, by rw [HSN.out], HBQ.out.trans ((below_drewN (Below.refl _ _) m1).mono HBQ.out.size)⟩
              case measure => simp [intOf]; omega
          · rw [ha, Bool.true_or] at HSN
            go_wp2_with fail
            go_quiet (fail)
            revert nq; intro m1
            go_wp2_with fail
            go_roundw
            case rel => exact ⟨q + 1, by omega, by go_num, by rw [HSN.out], HBQ.out.trans ((below_drewN (Below.refl _ _) m1).mono HBQ.out.size)⟩
            case measure => simp [intOf]; omega
        · obtain rfl : q = rs.length := by omega
          rw [List.take_length]
          have hqn : ¬ (rs.length : Int) < (nR : Int) := by have := HNR.out; omega
          obtain ⟨hcm0, hcm1⟩ := HCM.out wq hbq
          have hcm2 : wq.cell? ⟨b1, o1 + k * 2 + 1, none⟩ = some (.string (S tk)) := hcm1
          obtain ⟨bo, hbo⟩ : ∃ bo, bo = rs.contains nk := ⟨_, rfl⟩
          rw [← hbo] at HKS ⊢
          have HOQ := Lib.hid (own_below HOW.out (own_under HOW.out) hbq)
          have HBWQ := Lib.hid hbwq
          have hsq : V1.heap.size ≤ wq.heap.size := hbwq.size
          clear hbo hbwq hbq
          cases bo
          · have HX9 := Lib.hid (show kept rs (m.take (k + 1)) = out by rw [HKS.out, if_neg (by decide), List.append_nil])
            go_wp2_with fail
            go_roundw
            case rel => exact ⟨k + 1, by omega, by go_num, (by rw [HX9.out]; exact HOQ.out), HBWQ.out⟩
            case measure => simp [intOf]; omega
          · have HX9 := Lib.hid (show kept rs (m.take (k + 1)) = out ++ [(nk, tk)] by rw [HKS.out, if_pos rfl])
            have hown9 := HOQ.out
            go_wp2_with (first | (at_builtin; refine wp_app tyF rfl _ _ rfl V1.heap.size hown9 rfl rfl rfl rfl fc_one (by omega) (by omega) hsq ?_; intro v3 w3 o3 b3 _) | fail)
            go_roundw
            case rel => exact ⟨k + 1, by omega, by go_num, (by rw [HX9.out, fcs_snoc, List.length_append]; exact o3), HBWQ.out.trans b3⟩
            case measure => simp [intOf]; omega
    · obtain rfl : k = m.length := by omega
      rw [List.take_length] at hown
      rename World => w4
      have HO4 := Lib.hid hown
      have HB4 := Lib.hid hbw
      have HK4 : Hid ((kept rs m).length ≤ 10 ∧ Fi.Ord (kept rs m) ∧ ∀ g ∈ kept rs m, g.2.length ≤ 200) := Lib.hid ⟨Nat.le_trans (kept_le rs m) (by have := HMM.out.2.2; omega), kept_ord HMM.out.1 rs, fun g hg => HMM.out.2.1 g (kept_mem hg)⟩
      obtain ⟨kk, hkk⟩ : ∃ kk, kk = kept rs m := ⟨_, rfl⟩
      rw [← hkk] at HO4 HK4 HKE
      clear hown hbw hkk
      obtain ⟨ak, ck, hvk⟩ := own_shape HO4.out
      subst hvk
      have HOB : Hid (∀ W, Below V1.heap.size V1 W → Ro W w.heap.size 45 [.string (S nm), .string (S tx)]) := Lib.hid fun W hb => (HR0.out.kw (Kw.of_below (HB1.out.trans (HB1V.out.mono HB1.out.size))) (by have := HR0.out.lt; omega)).kw (Kw.of_below hb) (by have := HR0.out.lt; have h1 := HB1.out.size; have h2 := HB1V.out.size; omega)
      go_wp2_with fail
      go_loopw [11, 15] (fun a j wq => ∃ q : Nat, q ≤ rs.length ∧ j = .int .i64 q ∧ a = .bool ((rs.take q).contains nm) ∧ Below w4.heap.size w4 wq) (fun _ j _ => rs.length - (intOf j).toNat)
      case atStart => exact ⟨0, Nat.zero_le _, rfl, rfl, Below.refl _ _⟩
      case round =>
        obtain ⟨q, hq, rfl, rfl, hbq⟩ := hrel
        rename World => wq
        have hbwq := HB4.out.trans (hbq.mono HB4.out.size)
        have hc1 : ∀ t, (wq.drewN t).cell? ⟨w2.heap.size, 1, none⟩ = some (.slice (some ⟨gR, oR, none⟩) nR cR) := fun _ => (HC1.out wq hbwq).1.2.1
        have hc1' : wq.cell? ⟨w2.heap.size, 1, none⟩ = some (.slice (some ⟨gR, oR, none⟩) nR cR) := (HC1.out wq hbwq).1.2.1
        have HBQ := Lib.hid hbq
        by_cases hqr : q < rs.length
        · have hqn : (q : Int) < (nR : Int) := by have := HNR.out; omega
          have hcm : ∀ t, (wq.drewN t).cell? ⟨w.heap.size, 0, none⟩ = some (.string (S nm)) := fun _ => (HOB.out wq hbwq).cell (i := 0) rfl
          obtain ⟨x, hx⟩ : ∃ x, x = rs[q] := ⟨_, rfl⟩
          have hce : ∀ t, (wq.drewN t).cell? ⟨gR, oR + q, none⟩ = some (.string (S x)) := fun _ => by rw [hx]; exact HEL.out wq (HV1.out.trans (hbwq.mono HV1.out.size)) q hqr
          have HSN := Lib.hid (contains_snoc rs nm q hqr)
          rw [← hx] at HSN
          clear hx hbwq
          cases ha : (rs.take q).contains nm
          · rw [ha, Bool.false_or] at HSN
            cases he : (x == nm)
            · rw [he] at HSN
              go_wp2_with fail
              go_quiet (fail)
              revert nq; intro m1
              go_wp2_with fail
              go_roundw
              case rel => exact ⟨q + 1, by omega, by go_num, by rw [HSN.out], HBQ.out.trans ((below_drewN (Below.refl _ _) m1).mono HBQ.out.size)⟩
              case measure => simp [intOf]; omega
            · rw [he] at HSN
              go_wp2_with fail
              go_quiet (fail)
              revert nq; intro m1
              go_wp2_with fail
              go_roundw
              case rel => exact ⟨q + 1, by omega, by go_num, by rw [HSN.out], HBQ.out.trans ((below_drewN (Below.refl _ _) m1).mono HBQ.out.size)⟩
              case measure => simp [intOf]; omega
          · rw [ha, Bool.true_or] at HSN
            go_wp2_with fail
            go_quiet (fail)
            revert nq; intro m1
            go_wp2_with fail
            go_roundw
            case rel => exact ⟨q + 1, by omega, by go_num, by rw [HSN.out], HBQ.out.trans ((below_drewN (Below.refl _ _) m1).mono HBQ.out.size)⟩
            case measure => simp [intOf]; omega
        · obtain rfl : q = rs.length := by omega
          rw [List.take_length]
          have hqn : ¬ (rs.length : Int) < (nR : Int) := by have := HNR.out; omega
          obtain ⟨bi, hbi⟩ : ∃ bi, bi = rs.contains nm := ⟨_, rfl⟩
          rw [← hbi] at HPE ⊢
          have HBWQ := Lib.hid hbwq
          have HBWW : Hid (Below w.heap.size w wq) := Lib.hid (HBV.out.trans (hbwq.mono HBV.out.size))
          have H3 := Lib.hid (HX.out (.slice ak kk.length ck) kk wq (rf_own (own_below HO4.out (own_under HO4.out) hbq)) HK4.out.2.1 HK4.out.1 HK4.out.2.2 HKE.out HBWW.out)
          clear hbi hbwq hbq
          go_upto_region 21 with (go_at_call 7; (with_reducible refine H3.out.mono ?_); rintro e w6 ⟨o, rfl, ro, b9, fo⟩; obtain ⟨vL, vR, vN, rfl, h1, h2, h3⟩ := ro; obtain ⟨bL, dL, rfl⟩ := h1.shape; obtain ⟨bR, dR, rfl⟩ := Rd.shape h2; obtain ⟨bN, dN, rfl⟩ := h3.shape; have HH := Lib.hid (show RdO w6 (.agg #[.slice bL E1.outL.length dL, .slice bR E1.reads.length dR, .slice bN E1.notes.length dN, .int .i64 (E1.used : Int)]) E1 from ⟨_, _, _, rfl, h1, h2, h3⟩); have HFO := Lib.hid fo; have HBH := Lib.hid b9; clear h1 h2 h3 b9 fo)
          rw [← HNN.out.1, ← HNN.out.2.1, ← HNN.out.2.2.1, ← HNN.out.2.2.2] at HH ⊢
          obtain ⟨V2, hV2⟩ : ∃ V, V = w6.alloc (.cells #[(.slice bL nL dL), (.slice bR nR dR), (.slice bN nN dN), (.int .i64 (nU : Int))] 31) := ⟨_, rfl⟩
          rw [← hV2]
          have HBV2 : Hid (Below V1.heap.size V1 V2) := Lib.hid (by
            have h9 := HBWQ.out.trans (HBH.out.mono HBWQ.out.size)
            rw [hV2]
            exact h9.alloc h9.size _)
          have HC2 : Hid (∀ W', Below V2.heap.size V2 W' → ((W'.cell? ⟨w2.heap.size, 0, none⟩ = some (.slice aL nL cL) ∧ W'.cell? ⟨w2.heap.size, 1, none⟩ = some (.slice (some ⟨gR, oR, none⟩) nR cR) ∧ W'.cell? ⟨w2.heap.size, 2, none⟩ = some (.slice aN nN cN) ∧ W'.cell? ⟨w2.heap.size, 3, none⟩ = some (.int .i64 (nU : Int))) ∧ (W'.cell? ⟨w6.heap.size, 0, none⟩ = some (.slice bL nL dL) ∧ W'.cell? ⟨w6.heap.size, 1, none⟩ = some (.slice bR nR dR) ∧ W'.cell? ⟨w6.heap.size, 2, none⟩ = some (.slice bN nN dN) ∧ W'.cell? ⟨w6.heap.size, 3, none⟩ = some (.int .i64 (nU : Int)))) ∧ RdO W' (.agg #[(.slice aL nL cL), (.slice (some ⟨gR, oR, none⟩) nR cR), (.slice aN nN cN), (.int .i64 (nU : Int))]) E1 ∧ RdO W' (.agg #[(.slice bL nL dL), (.slice bR nR dR), (.slice bN nN dN), (.int .i64 (nU : Int))]) E1) := Lib.hid fun W' hb => by
            have h1 := HC1.out W' (HBV2.out.trans (hb.mono HBV2.out.size))
            have h2 := box9 hV2 HH.out hb
            exact ⟨⟨h1.1, h2.1⟩, h1.2, h2.2⟩
          have HBW2 : Hid (Below w.heap.size w V2) := Lib.hid (HBV.out.trans (HBV2.out.mono HBV.out.size))
          have HSMM : Hid (∀ W o1 o2, RdO W o1 E1 → RdO W o2 E1 → Calls Tryz.prog 9 #[o1, o2] W fun e w' => e = .returned (.bool true) ∧ Below W.heap.size W w') := Lib.hid fun W o1 o2 k1 k2 => by
            have h9 := same8_any o1 o2 E1 E1 W k1 k2 HSM.out HSM.out
            rw [sameO_self] at h9
            exact h9
          have HR1 : Hid (∀ W' o1, RdO W' o1 E1 → Calls Tryz.prog 10 #[o1] W' fun e w' => ∃ o, e = .returned o ∧ RdO w' o E1 ∧ Below W'.heap.size W' w') := Lib.hid fun W' o1 hb => ref8_any _ E1 W' hb (HSM.out.1)
          have bd : Below V2.heap.size V2 V2.drew := below_drewN (Below.refl V2.heap.size V2) 1
          clear H3 hV2
          go_region_held3 (fun w' => (w'.cell? ⟨w2.heap.size, 0, none⟩ = some (.slice aL nL cL) ∧ w'.cell? ⟨w2.heap.size, 1, none⟩ = some (.slice (some ⟨gR, oR, none⟩) nR cR) ∧ w'.cell? ⟨w2.heap.size, 2, none⟩ = some (.slice aN nN cN) ∧ w'.cell? ⟨w2.heap.size, 3, none⟩ = some (.int .i64 (nU : Int))) ∧ (w'.cell? ⟨w6.heap.size, 0, none⟩ = some (.slice bL nL dL) ∧ w'.cell? ⟨w6.heap.size, 1, none⟩ = some (.slice bR nR dR) ∧ w'.cell? ⟨w6.heap.size, 2, none⟩ = some (.slice bN nN dN) ∧ w'.cell? ⟨w6.heap.size, 3, none⟩ = some (.int .i64 (nU : Int))))
            (first
              | exact (HC2.out _ (Below.refl _ _)).1
              | exact (HC2.out _ bd).1
              | exact (HC2.out _ bd4).1
              | exact (HC2.out _ bd5).1
              | exact (HC2.out _ bd6).1
              | go_keep
              | fail)
            (first
              | (go_at_call 10; (with_reducible refine (HR1.out _ _ (HC2.out _ bd).2.1).mono ?_); rintro e w4 ⟨o1, rfl, ro1, b4⟩; have bd4 := bd.trans (b4.mono bd.size))
              | (go_at_call 10; (with_reducible refine (HR1.out _ _ (HC2.out _ bd4).2.2).mono ?_); rintro e w5 ⟨o2, rfl, ro2, b5⟩; have bd5 := bd4.trans (b5.mono bd4.size); have ro9 := ro1.below' b5)
              | (go_at_call 9; (with_reducible refine (HSMM.out _ _ _ ro9 ro2).mono ?_); rintro e w6 ⟨rfl, b6⟩; have bd6 := bd5.trans (b6.mono bd5.size))
              | fail)
          rename World => w9
          have HB9 := Lib.hid bd6
          clear bd bd4 bd5 bd6 b4 b5 b6 ro1 ro2 ro9
          have HB9W : Hid (Below w.heap.size w w9) := Lib.hid (HBW2.out.trans (HB9.out.mono HBW2.out.size))
          have HB91 : Hid (Below V1.heap.size V1 w9) := Lib.hid (HBV2.out.trans (HB9.out.mono HBV2.out.size))
          obtain ⟨W3, hW3⟩ : ∃ W, W = w9.setCell ⟨w.heap.size, 1, none⟩ (.string (S (tx.take 200))) := ⟨_, rfl⟩
          have hk3 : Kw w9 W3 fun j => j = w.heap.size := by rw [hW3]; exact Kw.set _ _ _ _
          have hro3 : Ro W3 w.heap.size 45 [.string (S nm), .string (S (tx.take 200))] := by rw [hW3]; exact (HOB.out w9 HB91.out).set 1 _
          have hsz19 : w.heap.size < w1.heap.size := by have h1 := HR0.out.lt; have h2 := HB1.out.size; omega
          have HB3W : Hid (Below w.heap.size w W3) := Lib.hid (HB9W.out.trans (hk3.below (fun j e => by omega) HB9W.out.size))
          have HRA : Hid (Ro W3 w2.heap.size 31 [(.slice aL nL cL), (.slice (some ⟨gR, oR, none⟩) nR cR), (.slice aN nN cN), (.int .i64 (nU : Int))] ∧ RdO W3 (.agg #[(.slice aL nL cL), (.slice (some ⟨gR, oR, none⟩) nR cR), (.slice aN nN cN), (.int .i64 (nU : Int))]) E1) := Lib.hid ⟨(HBX.out w9 HB91.out).kw hk3 (by have := HBH1.out.size; omega), (HC1.out w9 HB91.out).2.keep hk3 fun vL vR vN e => by
            have h9 := HFO1.out _ _ _ _ e
            exact ⟨fun b hb e => by have := h9.1 b hb; omega, fun b hb e => by have := h9.2.1 b hb; omega, fun b hb e => by have := h9.2.2 b hb; omega⟩⟩
          have HM3 : Hid (Rf W3 (.slice am m.length cm) m) := Lib.hid (rf_own (Kw.row (own_below HOM.out (own_under HOM.out) (HB1V.out.trans (HB91.out.mono HB1V.out.size))) hk3 fun g hg e => by have h1 := (HOM.out.lt g hg).1; have h2 := HR0.out.lt; omega))
          have HPU := Lib.hid (refFput_any (.slice am m.length cm) m (nm, tx.take 200) W3 HM3.out (by have := HMM.out.2.2; omega) HMM.out.1 HTX.out.1)
          have HPM : Hid (Fi.Ord (Fi.put m (nm, tx.take 200)).1 ∧ (Fi.put m (nm, tx.take 200)).1.length ≤ 10 ∧ ∀ g ∈ (Fi.put m (nm, tx.take 200)).1, g.2.length ≤ 200) := Lib.hid ⟨ord_put HMM.out.1 _, Nat.le_trans (put_len m _) (by have := HMM.out.2.2; omega), put_texts HMM.out.2.1 (by simp only [List.length_take]; omega)⟩
          have hro9 := HOB.out w9 HB91.out
          have q0 := hro9.cell (i := 1) rfl
          have qf := hro9.free 1
          have hmn := take_minI tx 200
          simp only [Int.cast_ofNat_Int] at hmn
          have htx : tx.length ≤ 9223372036854775807 := HTX.out.2
          have HW3 := Lib.hid hW3
          clear hW3 hk3 hro9
          go_upto_region 24 with fail
          rw [← HW3.out]
          clear hmn q0 qf
          have q0 := hro3.cell (i := 0) rfl
          have q1 := hro3.cell (i := 1) rfl
          obtain ⟨pm, hpm⟩ : ∃ x, x = (Fi.put m (nm, tx.take 200)).1 := ⟨_, rfl⟩
          obtain ⟨pe, hpe⟩ : ∃ x, x = (Fi.put m (nm, tx.take 200)).2 := ⟨_, rfl⟩
          obtain ⟨tx2, htx2⟩ : ∃ x, x = tx.take 200 := ⟨_, rfl⟩
          rw [← hpm, ← hpe] at HPU
          rw [← hpm] at HPM
          rw [← hpm, ← hpe] at HPE
          rw [← htx2] at HPU q1
          clear hpm hpe htx2 hro3
          go_upto_region 25 with (go_at_call 12; (with_reducible refine HPU.out.mono ?_); rintro e wp ⟨vp, rfl, op, bp⟩; obtain ⟨ap, cp, rfl⟩ := own_shape op; have HOP := Lib.hid op; have HBP := Lib.hid bp; clear op bp)
          have HBPW : Hid (Below w.heap.size w wp) := Lib.hid (HB3W.out.trans (HBP.out.mono HB3W.out.size))
          cases bi
          · by_cases hp0 : pe = 0
            · subst hp0
              have H4 := Lib.hid (HX.out (.slice ap pm.length cp) pm wp (rf_own HOP.out) HPM.out.1 HPM.out.2.1 HPM.out.2.2 (HPE.out rfl rfl) HBPW.out)
              go_upto_region 28 with (go_at_call 7; (with_reducible refine H4.out.mono ?_); rintro e w8 ⟨o, rfl, ro, b9, fo⟩; obtain ⟨vL, vR, vN, rfl, h1, h2, h3⟩ := ro; obtain ⟨xL, yL, rfl⟩ := h1.shape; obtain ⟨xR, yR, rfl⟩ := Rd.shape h2; obtain ⟨xN, yN, rfl⟩ := h3.shape; have HH := Lib.hid (show RdO w8 (.agg #[.slice xL E1.outL.length yL, .slice xR E1.reads.length yR, .slice xN E1.notes.length yN, .int .i64 (E1.used : Int)]) E1 from ⟨_, _, _, rfl, h1, h2, h3⟩); have HFO := Lib.hid fo; have HBH := Lib.hid b9; clear h1 h2 h3 b9 fo)
              rw [← HNN.out.1, ← HNN.out.2.1, ← HNN.out.2.2.1, ← HNN.out.2.2.2] at HH ⊢
              obtain ⟨V3, hV3⟩ : ∃ V, V = w8.alloc (.cells #[(.slice xL nL yL), (.slice xR nR yR), (.slice xN nN yN), (.int .i64 (nU : Int))] 31) := ⟨_, rfl⟩
              rw [← hV3]
              have HBV3 : Hid (Below W3.heap.size W3 V3) := Lib.hid (by
                have h9 := HBP.out.trans (HBH.out.mono HBP.out.size)
                rw [hV3]
                exact h9.alloc h9.size _)
              have HC3 : Hid (∀ W', Below V3.heap.size V3 W' → ((W'.cell? ⟨w2.heap.size, 0, none⟩ = some (.slice aL nL cL) ∧ W'.cell? ⟨w2.heap.size, 1, none⟩ = some (.slice (some ⟨gR, oR, none⟩) nR cR) ∧ W'.cell? ⟨w2.heap.size, 2, none⟩ = some (.slice aN nN cN) ∧ W'.cell? ⟨w2.heap.size, 3, none⟩ = some (.int .i64 (nU : Int))) ∧ (W'.cell? ⟨w8.heap.size, 0, none⟩ = some (.slice xL nL yL) ∧ W'.cell? ⟨w8.heap.size, 1, none⟩ = some (.slice xR nR yR) ∧ W'.cell? ⟨w8.heap.size, 2, none⟩ = some (.slice xN nN yN) ∧ W'.cell? ⟨w8.heap.size, 3, none⟩ = some (.int .i64 (nU : Int)))) ∧ RdO W' (.agg #[(.slice aL nL cL), (.slice (some ⟨gR, oR, none⟩) nR cR), (.slice aN nN cN), (.int .i64 (nU : Int))]) E1 ∧ RdO W' (.agg #[(.slice xL nL yL), (.slice xR nR yR), (.slice xN nN yN), (.int .i64 (nU : Int))]) E1) := Lib.hid fun W' hb => by
                have hb3 := HBV3.out.trans (hb.mono HBV3.out.size)
                have r9 := HRA.out.1.kw (Kw.of_below hb3) (by have := HRA.out.1.lt; omega)
                have h2 := box9 hV3 HH.out hb
                exact ⟨⟨⟨r9.cell (i := 0) rfl, r9.cell (i := 1) rfl, r9.cell (i := 2) rfl, r9.cell (i := 3) rfl⟩, h2.1⟩, HRA.out.2.below' hb3, h2.2⟩
              have HBW3 : Hid (Below w.heap.size w V3) := Lib.hid (HB3W.out.trans (HBV3.out.mono HB3W.out.size))
              have bd : Below V3.heap.size V3 V3.drew := below_drewN (Below.refl V3.heap.size V3) 1
              clear H4 hV3
              go_region_held3 (fun w' => (w'.cell? ⟨w2.heap.size, 0, none⟩ = some (.slice aL nL cL) ∧ w'.cell? ⟨w2.heap.size, 1, none⟩ = some (.slice (some ⟨gR, oR, none⟩) nR cR) ∧ w'.cell? ⟨w2.heap.size, 2, none⟩ = some (.slice aN nN cN) ∧ w'.cell? ⟨w2.heap.size, 3, none⟩ = some (.int .i64 (nU : Int))) ∧ (w'.cell? ⟨w8.heap.size, 0, none⟩ = some (.slice xL nL yL) ∧ w'.cell? ⟨w8.heap.size, 1, none⟩ = some (.slice xR nR yR) ∧ w'.cell? ⟨w8.heap.size, 2, none⟩ = some (.slice xN nN yN) ∧ w'.cell? ⟨w8.heap.size, 3, none⟩ = some (.int .i64 (nU : Int))))
                (first
                  | exact (HC3.out _ (Below.refl _ _)).1
                  | exact (HC3.out _ bd).1
                  | exact (HC3.out _ bd4).1
                  | exact (HC3.out _ bd5).1
                  | exact (HC3.out _ bd6).1
                  | exact (HC3.out _ bd7).1
                  | go_keep
                  | fail)
                (first
                  | (go_at_call 10; (with_reducible refine (HR1.out _ _ (HC3.out _ bd).2.1).mono ?_); rintro e w4 ⟨o1, rfl, ro1, b4⟩; have bd4 := bd.trans (b4.mono bd.size))
                  | (go_at_call 10; (with_reducible refine (HR1.out _ _ (HC3.out _ bd4).2.2).mono ?_); rintro e w5 ⟨o2, rfl, ro2, b5⟩; have bd5 := bd4.trans (b5.mono bd4.size); have ro9 := ro1.below' b5)
                  | (go_at_call 9; (with_reducible refine (HSMM.out _ _ _ ro9 ro2).mono ?_); rintro e w6 ⟨rfl, b6⟩; have bd6 := bd5.trans (b6.mono bd5.size))
                  | (go_at_call 11; (with_reducible refine (HFX.out _ (HBW3.out.trans (bd6.mono HBW3.out.size))).mono ?_); rintro e w7 ⟨rfl, b7⟩; have bd7 := bd6.trans (b7.mono bd6.size))
                  | fail)
              go_wp2_with fail
              go_ret
              exact ⟨rfl, HBW3.out.trans (bd7.mono HBW3.out.size)⟩
            · have hp1 : (pe != 0) = true := by simpa using hp0
              have hp2 : (pe == 0) = false := by simpa using hp0
              go_wp2_with (go_at_call 11; (with_reducible refine (HFX.out _ HBPW.out).mono ?_); rintro e w7 ⟨rfl, b7⟩)
              go_ret
              exact ⟨rfl, HBPW.out.trans (b7.mono HBPW.out.size)⟩
          · go_wp2_with (go_at_call 11; (with_reducible refine (HFX.out _ HBPW.out).mono ?_); rintro e w7 ⟨rfl, b7⟩)
            go_ret
            exact ⟨rfl, HBPW.out.trans (b7.mono HBPW.out.size)⟩
end Go.Proofs.YtjfikkjaifdkiaaGreatDoor
