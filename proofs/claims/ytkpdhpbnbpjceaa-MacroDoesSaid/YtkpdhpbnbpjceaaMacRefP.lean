
/- The reference of the macro layer: Put, Same; the law's Ref, Refs. No condition. -/
import Derived.Test.YtkpdhpbnbpjceaaMacRefM
import Derived.Test.YtkpdhpbnbpjceaaLexMem
import Derived.BigQuiet
import Derived.Deep.QuietTactic
namespace Go.Proofs.Ytkpdhpbnbpjceaa
open Go.RowKit

theorem contains_at {α : Type} {l : List (List UInt8 × α)} (h : Sorted (l.map Prod.fst)) (t : List UInt8) : (l.map Prod.fst).contains t = decide (∃ hx : lb (l.map Prod.fst) t < l.length, l[lb (l.map Prod.fst) t].1 = t) := by
  rw [← lb_is h]
  by_cases hx : lb (l.map Prod.fst) t < l.length
  · rw [List.getElem?_eq_getElem (by simpa using hx), List.getElem_map]
    by_cases e : l[lb (l.map Prod.fst) t].1 = t
    · simp [e, hx]
    · simp [e]
  · rw [List.getElem?_eq_none (by simpa using hx)]
    simp [hx]
theorem sorted_dropM {l : List Mac} (h : Sorted (l.map Prod.fst)) (t : List UInt8) : Sorted ((dropM l t).map Prod.fst) := by
  unfold Sorted at h ⊢
  unfold dropM
  exact h.sublist ((List.filter_sublist (l := l) (p := fun f => f.1 != t)).map _)
theorem dropM_len (l : List Mac) (t : List UInt8) : decide ((dropM l t).length = l.length) = !(l.map Prod.fst).contains t := by
  cases hq : (l.map Prod.fst).contains t
  · rw [dropM_none hq]; simp
  · rw [Bool.not_true, decide_eq_false_iff_not]
    unfold dropM
    intro h
    have := List.length_filter_eq_length_iff.1 h
    rw [List.contains_iff_mem] at hq
    obtain ⟨f, hf, e⟩ := List.mem_map.1 hq
    have h2 := this f hf
    simp [e] at h2
theorem putL_refM {l : List Mac} (h : Sorted (l.map Prod.fst)) (f : Mac) {n : Nat} (hn : n = lb ((dropM l f.1).map Prod.fst) f.1) : (dropM l f.1).take n ++ f :: (dropM l f.1).drop n = putL l f := by
  unfold putL
  have hat := contains_at h f.1
  cases hq : (l.map Prod.fst).contains f.1
  · rw [dropM_none hq] at hn ⊢
    rw [hn]; rfl
  · rw [hq] at hat
    obtain ⟨hr, e⟩ := of_decide_eq_true hat.symm
    obtain ⟨r, hrr⟩ : ∃ r, r = lb (l.map Prod.fst) f.1 := ⟨_, rfl⟩
    have hd : dropM l f.1 = l.take (lb (l.map Prod.fst) f.1) ++ l.drop (lb (l.map Prod.fst) f.1 + 1) := dropM_at h hr e
    have hp := List.pairwise_iff_getElem.1 h
    have hlbr : lb ((dropM l f.1).map Prod.fst) f.1 = lb (l.map Prod.fst) f.1 := by
      have hdl : (dropM l f.1).length = l.length - 1 := by rw [hd, List.length_append, List.length_take, List.length_drop]; omega
      refine lb_eq (by rw [List.length_map, hdl]; omega) (fun x hx hxr => ?_) (fun hx => ?_)
      · rw [List.length_map] at hx
        rw [List.getElem_map]
        have e2 : (dropM l f.1)[x] = l[x]'(by omega) := by
          simp only [hd]
          rw [List.getElem_append_left (by rw [List.length_take]; omega), List.getElem_take]
        rw [e2]
        have := hp x (lb (l.map Prod.fst) f.1) (by rw [List.length_map]; omega) (by rw [List.length_map]; omega) hxr
        rw [List.getElem_map, List.getElem_map, e] at this
        exact this
      · rw [List.length_map] at hx
        rw [List.getElem_map]
        have e2 : (dropM l f.1)[lb (l.map Prod.fst) f.1] = l[lb (l.map Prod.fst) f.1 + 1]'(by omega) := by
          simp only [hd]
          rw [List.getElem_append_right (by rw [List.length_take]; omega), List.getElem_drop]
          congr 1
          rw [List.length_take]; omega
        rw [e2]
        have := hp (lb (l.map Prod.fst) f.1) (lb (l.map Prod.fst) f.1 + 1) (by rw [List.length_map]; omega) (by rw [List.length_map]; omega) (by omega)
        rw [List.getElem_map, List.getElem_map, e] at this
        rw [cb_swap]
        omega
    rw [hlbr] at hn
    rw [hn, hd]
    have hl1 : (l.take (lb (l.map Prod.fst) f.1)).length = lb (l.map Prod.fst) f.1 := by rw [List.length_take]; omega
    rw [List.take_append_of_le_length (by omega), List.take_of_length_le (by omega), List.drop_append_of_le_length (by omega), List.drop_eq_nil_of_le (by omega), List.nil_append]
    rw [if_pos rfl, List.set_eq_take_append_cons_drop, if_pos hr]

theorem mcs_sub {ps qs : List (Mac × Value)} (h : ∀ p ∈ qs, p ∈ ps) : ∀ u ∈ mcs qs, u ∈ mcs ps := by
  intro u hu
  obtain ⟨p, hp, h2⟩ := List.mem_flatMap.1 hu
  exact List.mem_flatMap.2 ⟨p, h p hp, h2⟩
/-- The macros from a place on. -/
theorem rm_tail {w : World} {b o n c k : Nat} {ps : List (Mac × Value)} (h : Rd w 3 (.slice (some ⟨b, o, none⟩) n c) ps.length (mcs ps)) (hk : k < ps.length) : Rd w 3 (.slice (some ⟨b, o + k * 3, none⟩) (ps.length - k) (c - k)) (ps.length - k) (mcs (ps.drop k)) := by
  have hc := Rd.cap h
  obtain ⟨a, c', e⟩ := h.shape
  cases e
  refine ⟨by rw [mcs_length, List.length_drop], ?_⟩
  rcases h.2 with ⟨_, h2⟩ | ⟨b', o', cap, hv, hlt, hcell, _⟩
  · omega
  · cases hv
    refine .inr ⟨b, o + k * 3, c - k, rfl, fun _ => hlt (by omega), fun j u hj => ?_, by omega⟩
    rw [← (mcs_take ps k (by omega)).2, List.getElem?_drop] at hj
    rw [Nat.add_assoc]
    exact hcell _ _ hj

set_option maxRecDepth 20000 in
set_option maxHeartbeats 4000000 in
/-- 'Put' of the reference. -/
theorem refMput_any (v bv : Value) (ps : List (Mac × Value)) (m : Mac) (w : World) (hl : RdM w v ps) (hb : Rt w bv m.2.2) (hlen : ps.length ≤ 100000) (hs : Sorted ((ps.map Prod.fst).map Prod.fst)) (hf : m.1.length ≤ 9223372036854775807) :
    Calls Try.prog 28 #[v, .agg #[.string (S m.1), .int .i64 m.2.1, bv]] w fun e w' => ∃ v' qs, e = .returned (.tuple #[v', .int .i64 (putM (ps.map Prod.fst) m).2]) ∧ qs.map Prod.fst = (putM (ps.map Prod.fst) m).1 ∧ (∀ p ∈ qs, p ∈ ps ∨ p = (m, bv)) ∧ w'.ownsRow w.heap.size 63 3 v' qs.length (mcs qs) ∧ Below w.heap.size w w' := by
  have hPL := putL_refM hs m rfl
  have hDL := dropM_len (ps.map Prod.fst) m.1
  rw [← dropP_fst] at hPL hDL
  rw [List.length_map, List.length_map] at hDL
  obtain ⟨nm, pm, bm⟩ := m
  simp only at hf hPL hDL
  have hmem : ∀ p ∈ dropP ps nm, p ∈ ps := fun p hp => (List.mem_filter.1 hp).1
  have HR := Lib.hid hl
  obtain ⟨a0, c0, rfl⟩ := hl.1.shape
  obtain ⟨ab, cb, rfl⟩ := hb.shape
  clear hl hb
  obtain ⟨w0, hw0⟩ : ∃ w0, w0 = w.alloc (.cells #[.string (S nm), .int .i64 pm, .slice ab bm.length cb] 63) := ⟨_, rfl⟩
  have hb0 : Below w.heap.size w w0 := by rw [hw0]; exact (Below.refl _ _).alloc (Nat.le_refl _) _
  have hg0 : w0.heap[w.heap.size]? = some (.cells #[.string (S nm), .int .i64 pm, .slice ab bm.length cb] 63 (0, 0)) := by rw [hw0]; exact heap_alloc_new w _
  have hs0 := hb0.size
  have x0 : w0.cell? ⟨w.heap.size, 0, none⟩ = some (.string (S nm)) := row_cell hg0 0
  have x1 : w0.cell? ⟨w.heap.size, 1, none⟩ = some (.int .i64 pm) := row_cell hg0 1
  have HDR := Lib.hid (refMdrop_any _ ps nm w0 (HR.out.below' hb0) (by omega))
  have hpt : putM (ps.map Prod.fst) (nm, pm, bm) = if Mx.named nm = false then ([], 2) else if pm < 0 ∨ 9 < pm then ([], 1) else if ((ps.map Prod.fst).map Prod.fst).contains nm = false ∧ 40 ≤ ps.length then ([], 3) else (putL (ps.map Prod.fst) (nm, pm, bm), 0) := by
    unfold putM; rw [List.length_map]
  have hrl := dropP_le ps nm
  obtain ⟨rest, hrest⟩ : ∃ rest, rest = dropP ps nm := ⟨_, rfl⟩
  rw [← hrest] at HDR hPL hrl hDL hmem
  obtain ⟨q, hq⟩ : ∃ q, q = ((ps.map Prod.fst).map Prod.fst).contains nm := ⟨_, rfl⟩
  rw [← hq] at hDL hpt
  have HPL := Lib.hid hPL
  have HPT := Lib.hid hpt
  have HME := Lib.hid hmem
  have HN := Lib.hid (fun w => refNamed_any nm hf w)
  obtain ⟨isn, hisn⟩ : ∃ b, b = Mx.named nm := ⟨_, rfl⟩
  rw [← hisn] at HN HPT
  have HW := Lib.hid hw0
  have hrq : ((rest.length : Int) == (ps.length : Int)) = !q := by
    rw [← hDL]
    by_cases h : rest.length = ps.length
    · simp [h]
    · rw [decide_eq_false h]; simp; omega
  clear hrest hq hpt hisn hw0 hs hPL hmem hDL
  cases isn
  · have HX := Lib.hid (show putM (ps.map Prod.fst) (nm, pm, bm) = ([], 2) from HPT.out)
    rw [HX.out]
    clear hrq
    go_enter Try.func28, Try.ntmps28
    go_wp2_with fail
    rw [← HW.out]
    (with_reducible refine (HN.out _).mono ?_); rintro e w3 ⟨rfl, rfl⟩
    go_wp2_with fail
    go_ret2
    exact ⟨_, [], rfl, rfl, by simp, World.ownsRow_nil _ _ _ _, hb0⟩
  · by_cases hbad : pm < 0 ∨ 9 < pm
    · have HX := Lib.hid (show putM (ps.map Prod.fst) (nm, pm, bm) = ([], 1) by rw [HPT.out, if_neg (by simp), if_pos hbad])
      rw [HX.out]
      clear hrq
      have hdis : pm < 0 ∨ (decide (pm < 0) = false ∧ 9 < pm) := by
        by_cases h : pm < 0
        · exact .inl h
        · exact .inr ⟨by simpa using h, by omega⟩
      clear hbad
      rcases hdis with hd | ⟨hd, hd2⟩
      all_goals (
        go_enter Try.func28, Try.ntmps28
        go_wp2_with fail
        rw [← HW.out]
        (with_reducible refine (HN.out _).mono ?_); rintro e w3 ⟨rfl, rfl⟩
        go_wp2_with fail
        go_ret2
        exact ⟨_, [], rfl, rfl, by simp, World.ownsRow_nil _ _ _ _, hb0⟩)
    · have hd1 : decide (pm < 0) = false := by simp; omega
      have hd2 : decide (9 < pm) = false := by simp; omega
      go_enter Try.func28, Try.ntmps28
      go_wp2_with fail
      rw [← HW.out]
      (with_reducible refine (HN.out _).mono ?_); rintro e w3 ⟨rfl, rfl⟩
      go_wp2_with fail
      (with_reducible refine HDR.out.mono ?_); rintro e w4 ⟨v4, rfl, o4, b4⟩
      have hg4 := (b4.block _ (row_lt hg0)).trans hg0
      have B4 := hb0.trans (b4.mono hs0)
      have RR := Lib.hid (own_rd o4)
      clear x0 x1 HDR
      by_cases hfull : q = false ∧ 40 ≤ ps.length
      · have HX := Lib.hid (show putM (ps.map Prod.fst) (nm, pm, bm) = ([], 3) by rw [HPT.out, if_neg (by simp), if_neg hbad, if_pos hfull])
        obtain ⟨rfl, hf40⟩ := hfull
        have hfi : (40 : Int) ≤ (ps.length : Int) := by omega
        obtain ⟨a4, c4, rfl⟩ := own_shape o4
        have hrq : ((rest.length : Int) == (ps.length : Int)) = true := hrq
        clear hbad
        go_wp2_with fail
        go_ret2
        rw [HX.out]
        exact ⟨_, [], rfl, rfl, by simp, World.ownsRow_nil _ _ _ _, B4⟩
      · have HX := Lib.hid (show putM (ps.map Prod.fst) (nm, pm, bm) = (putL (ps.map Prod.fst) (nm, pm, bm), 0) by rw [HPT.out, if_neg (by simp), if_neg hbad, if_neg hfull])
        have hfq : (q = true ∧ ((rest.length : Int) == (ps.length : Int)) = false) ∨ (((rest.length : Int) == (ps.length : Int)) = true ∧ decide ((40 : Int) ≤ (ps.length : Int)) = false) := by
          cases q
          · right; exact ⟨hrq, by simp at hfull ⊢; omega⟩
          · left; exact ⟨rfl, hrq⟩
        obtain ⟨a4, c4, rfl⟩ := own_shape o4
        clear hrq hbad hfull
        rcases hfq with ⟨rfl, hq1⟩ | ⟨hq1, hq2⟩
        all_goals (
          go_wp2_with fail
          go_loopw [7, 8] (fun v i wr => ∃ k : Nat, k ≤ rest.length ∧ i = .int .i64 k ∧ wr.ownsRow w4.heap.size 63 3 v (rest.take k).length (mcs (rest.take k)) ∧ Hid (∀ x (h : x < ((rest.map Prod.fst).map Prod.fst).length), x < k → Lib.compareBytes ((rest.map Prod.fst).map Prod.fst)[x] nm < 0) ∧ Below w4.heap.size w4 wr) (fun _ i _ => rest.length - (intOf i).toNat)
          case atStart => exact ⟨0, Nat.zero_le _, rfl, World.ownsRow_made w4 #[] 0 (Nat.le_refl _) (by decide) rfl, Lib.hid (fun x _ h => by omega), (Below.refl _ _).alloc (Nat.le_refl _) _⟩
          case round =>
            obtain ⟨k, hk, rfl, hown, HLT, hbw⟩ := hrel
            have hsz := hbw.size
            have hg5 := (hbw.block _ (row_lt hg4)).trans hg4
            have z0 : wr.cell? ⟨w.heap.size, 0, none⟩ = some (.string (S nm)) := row_cell hg5 0
            have z1 : wr.cell? ⟨w.heap.size, 1, none⟩ = some (.int .i64 pm) := row_cell hg5 1
            have z2 : wr.cell? ⟨w.heap.size, 2, none⟩ = some (.slice ab bm.length cb) := row_cell hg5 2
            have B5 := B4.trans (hbw.mono B4.size)
            by_cases hlt : k < rest.length
            · obtain ⟨b1, o1, rfl, c10, c11, c12⟩ := mac_at (RR.out.below' hbw) hlt
              have hnk : ((rest.map Prod.fst).map Prod.fst)[k]'(by simpa using hlt) = rest[k].1.1 := by simp
              have HTS := Lib.hid (take_snoc rest k hlt)
              have hbody := (HR.out.2 rest[k] (HME.out _ (List.getElem_mem hlt))).1
              obtain ⟨⟨⟨n2, p2, t2⟩, bv2⟩, hx⟩ : ∃ x, x = rest[k] := ⟨_, rfl⟩
              rw [← hx] at c10 c11 c12 hnk HTS hbody
              simp only at hnk
              have hbody : Rt w bv2 t2 := hbody
              obtain ⟨ab2, cb2, rfl⟩ := hbody.shape
              clear hx hbody
              have hln : (rest.take k).length = k := by rw [List.length_take]; omega
              have hkl : (k : Int) < (rest.length : Int) := by omega
              have hk0 : (0 : Int) ≤ (k : Int) := by omega
              cases hless : Op.bytesLess n2 nm
              · have HLB := Lib.hid (show k = lb ((rest.map Prod.fst).map Prod.fst) nm from (lb_eq (by simp; omega) HLT.out (fun hh => by
                  rw [hnk]
                  rw [less_is] at hless
                  exact of_decide_eq_false hless)).symm)
                clear hnk
                go_wp2_with fail
                go_quiet (fail)
                obtain ⟨W, hW⟩ : ∃ W, W = wr.drewN nq := ⟨_, rfl⟩
                have oW : W.ownsRow w4.heap.size 63 3 u7 (rest.take k).length (mcs (rest.take k)) := by rw [hW]; exact own_drewN hown _
                have BW : Below w4.heap.size w4 W := by rw [hW]; exact below_drewN hbw _
                have y5 : W.cell? ⟨w.heap.size, 0, none⟩ = some (.string (S nm)) := by rw [hW]; exact z0
                have y6 : W.cell? ⟨w.heap.size, 1, none⟩ = some (.int .i64 pm) := by rw [hW]; exact z1
                have y7 : W.cell? ⟨w.heap.size, 2, none⟩ = some (.slice ab bm.length cb) := by rw [hW]; exact z2
                rw [← hW]
                clear hW c10 c11 c12 z0 z1 z2 hown hbw
                rw [hln] at oW
                have hcap := Rd.cap RR.out
                have hck : ¬ (c4 = k) := by omega
                obtain ⟨a8, c8, hu8⟩ := own_shape oW
                subst hu8
                have hk9 : (k : Int) ≤ (rest.length : Int) := by omega
                have hone2 : ∀ u ∈ mcs (rest.drop k), u.oneCell' = true := fun u hu => HR.out.one u (mcs_sub (fun p hp => HME.out p (List.mem_of_mem_drop hp)) u hu)
                go_wp2_with (first
                  | (at_builtin; refine wp_app tyMacR rfl _ _ rfl w4.heap.size oW rfl rfl rfl rfl mc3_one (by omega) (by omega) BW.size ?_; intro v6 w6 o6 b6 _; have B6 := BW.trans b6; have r6 := RR.out.below' B6; clear b6)
                  | (at_builtin; refine wp_app_all tyMacR (m := rest.length - k) (news := mcs (rest.drop k)) rfl _ _ rfl w4.heap.size o6 (rm_tail r6 hlt) rfl rfl hone2 (by omega) (by omega) B6.size ?_; intro v7 w7 o7 b7 _)
                  | fail)
                go_ret2
                rw [HX.out]
                refine ⟨_, rest.take k ++ ((nm, pm, bm), .slice ab bm.length cb) :: rest.drop k, rfl, ?_, ?_, ?_, B4.trans ((B6.trans b7).mono B4.size)⟩
                · rw [← HPL.out, ← HLB.out]; simp
                · intro p hp
                  rcases List.mem_append.1 hp with h | h
                  · exact .inl (HME.out p (List.mem_of_mem_take h))
                  · rcases List.mem_cons.1 h with h | h
                    · exact .inr h
                    · exact .inl (HME.out p (List.mem_of_mem_drop h))
                · have hpl : (rest.take k ++ ((nm, pm, bm), Value.slice ab bm.length cb) :: rest.drop k).length = k + 1 + (rest.length - k) := by simp only [List.length_append, List.length_cons, List.length_drop, hln]; omega
                  rw [hpl, mc_mid]
                  exact own_mono o7 B4.size
              · have HL2 := Lib.hid (show ∀ x (h : x < ((rest.map Prod.fst).map Prod.fst).length), x < k + 1 → Lib.compareBytes ((rest.map Prod.fst).map Prod.fst)[x] nm < 0 by
                  intro x h hxk
                  by_cases e : x = k
                  · subst e
                    rw [hnk]
                    rw [less_is] at hless
                    exact of_decide_eq_true hless
                  · exact HLT.out x h (by omega))
                clear hnk
                go_wp2_with fail
                go_quiet (fail)
                obtain ⟨W, hW⟩ : ∃ W, W = wr.drewN nq := ⟨_, rfl⟩
                have oW : W.ownsRow w4.heap.size 63 3 u7 (rest.take k).length (mcs (rest.take k)) := by rw [hW]; exact own_drewN hown _
                have BW : Below w4.heap.size w4 W := by rw [hW]; exact below_drewN hbw _
                have y5 : W.cell? ⟨b1, o1 + k * 3, none⟩ = some (.string (S n2)) := by rw [hW]; exact c10
                have y6 : W.cell? ⟨b1, o1 + k * 3 + 1, none⟩ = some (.int .i64 p2) := by rw [hW]; exact c11
                have y7 : W.cell? ⟨b1, o1 + k * 3 + 2, none⟩ = some (.slice ab2 t2.length cb2) := by rw [hW]; exact c12
                rw [← hW]
                clear hW c10 c11 c12 z0 z1 z2 hown hbw
                go_wp2_with (first
                  | (at_builtin; refine wp_app tyMacR rfl _ _ rfl w4.heap.size oW rfl rfl rfl rfl mc3_one (by omega) (by omega) BW.size ?_; intro v6 w6 o6 b6 _)
                  | fail)
                go_roundw
                case rel => exact ⟨k + 1, by omega, by go_num, (by rw [HTS.out, mcs_snoc, List.length_append]; exact o6), HL2, BW.trans b6⟩
                case measure => simp [intOf]; omega
            · obtain rfl : k = rest.length := by omega
              have HLB := Lib.hid (show rest.length = lb ((rest.map Prod.fst).map Prod.fst) nm from (lb_eq (by simp) HLT.out (fun hh => by simp at hh)).symm)
              rw [List.take_length] at hown
              have hno : decide ((rest.length : Int) < (rest.length : Int)) = false := by simp
              go_wp2_with fail
              go_quiet (fail)
              obtain ⟨W, hW⟩ : ∃ W, W = wr.drewN nq := ⟨_, rfl⟩
              have oW : W.ownsRow w4.heap.size 63 3 u7 rest.length (mcs rest) := by rw [hW]; exact own_drewN hown _
              have BW : Below w4.heap.size w4 W := by rw [hW]; exact below_drewN hbw _
              have y5 : W.cell? ⟨w.heap.size, 0, none⟩ = some (.string (S nm)) := by rw [hW]; exact z0
              have y6 : W.cell? ⟨w.heap.size, 1, none⟩ = some (.int .i64 pm) := by rw [hW]; exact z1
              have y7 : W.cell? ⟨w.heap.size, 2, none⟩ = some (.slice ab bm.length cb) := by rw [hW]; exact z2
              rw [← hW]
              clear hW z0 z1 z2 hown hbw
              obtain ⟨a8, c8, hu8⟩ := own_shape oW
              subst hu8
              have HFIN := Lib.hid (show (rest ++ [((nm, pm, bm), Value.slice ab bm.length cb)]).map Prod.fst = putL (ps.map Prod.fst) (nm, pm, bm) ∧ ∀ p ∈ rest ++ [((nm, pm, bm), Value.slice ab bm.length cb)], p ∈ ps ∨ p = ((nm, pm, bm), Value.slice ab bm.length cb) from ⟨by
                rw [← HPL.out, ← HLB.out, List.take_of_length_le (by simp), List.drop_eq_nil_of_le (by simp)]; simp, fun p hp => by
                rcases List.mem_append.1 hp with h | h
                · exact .inl (HME.out p h)
                · exact .inr (by simpa using h)⟩)
              rcases o4.2 with ⟨hn4, h0⟩ | ⟨g, cap, cur, hv, hgB, hg, h1, h2, h3, h4⟩
              · have hr0 : rest = [] := List.eq_nil_of_length_eq_zero h0
                subst hr0
                cases hn4
                go_wp2_with (first
                  | (at_builtin; refine wp_app tyMacR rfl _ _ rfl w4.heap.size oW rfl rfl rfl rfl mc3_one (by omega) (by omega) BW.size ?_; intro v6 w6 o6 b6 _; have B6 := BW.trans b6; clear b6)
                  | (at_builtin; refine wp_app_all tyMacR (m := 0) (news := []) rfl _ _ rfl w4.heap.size o6 ⟨rfl, .inl ⟨by first | exact .inl rfl | exact .inr ⟨_, _, rfl⟩, rfl⟩⟩ rfl rfl (by simp) (by omega) (by omega) B6.size ?_; intro v7 w7 o7 b7 _)
                  | fail)
                go_ret2
                rw [HX.out]
                rw [List.append_nil, Nat.add_zero] at o7
                exact ⟨_, _, rfl, HFIN.out.1, HFIN.out.2, by rw [mcs_snoc, List.length_append]; exact own_mono o7 B4.size, B4.trans ((B6.trans b7).mono B4.size)⟩
              · cases hv
                have hk9 : (0 : Int) ≤ (rest.length : Int) := by omega
                by_cases hcr : c4 = rest.length
                · go_wp2_with (first
                  | (at_builtin; refine wp_app tyMacR rfl _ _ rfl w4.heap.size oW rfl rfl rfl rfl mc3_one (by omega) (by omega) BW.size ?_; intro v6 w6 o6 b6 _; have B6 := BW.trans b6; clear b6)
                  | (at_builtin; refine wp_app_all tyMacR (m := 0) (news := []) rfl _ _ rfl w4.heap.size o6 ⟨rfl, .inl ⟨by first | exact .inl rfl | exact .inr ⟨_, _, rfl⟩, rfl⟩⟩ rfl rfl (by simp) (by omega) (by omega) B6.size ?_; intro v7 w7 o7 b7 _)
                  | fail)
                  go_ret2
                  rw [HX.out]
                  rw [List.append_nil, Nat.add_zero] at o7
                  exact ⟨_, _, rfl, HFIN.out.1, HFIN.out.2, by rw [mcs_snoc, List.length_append]; exact own_mono o7 B4.size, B4.trans ((B6.trans b7).mono B4.size)⟩
                · go_wp2_with (first
                  | (at_builtin; refine wp_app tyMacR rfl _ _ rfl w4.heap.size oW rfl rfl rfl rfl mc3_one (by omega) (by omega) BW.size ?_; intro v6 w6 o6 b6 _; have B6 := BW.trans b6; clear b6)
                  | (at_builtin; refine wp_app_all tyMacR (m := 0) (news := []) rfl _ _ rfl w4.heap.size o6 ⟨rfl, .inl ⟨by first | exact .inl rfl | exact .inr ⟨_, _, rfl⟩, rfl⟩⟩ rfl rfl (by simp) (by omega) (by omega) B6.size ?_; intro v7 w7 o7 b7 _)
                  | fail)
                  go_ret2
                  rw [HX.out]
                  rw [List.append_nil, Nat.add_zero] at o7
                  exact ⟨_, _, rfl, HFIN.out.1, HFIN.out.2, by rw [mcs_snoc, List.length_append]; exact own_mono o7 B4.size, B4.trans ((B6.trans b7).mono B4.size)⟩
        )

end Go.Proofs.Ytkpdhpbnbpjceaa
