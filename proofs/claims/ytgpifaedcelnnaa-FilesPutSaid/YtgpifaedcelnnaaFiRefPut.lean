
/- Put of the reference. No condition. -/
import Derived.Test.YtgpifaedcelnnaaFiRef
import Derived.Test.YtgpifaedcelnnaaFiPut
namespace Go.Proofs.Ytgpifaedcelnnaa
open Go.RowKit

theorem ord_drop {l : List Fl} (h : Fi.Ord l) (t : List UInt8) : Fi.Ord (Fi.drop l t) := by
  unfold Fi.Ord Sorted Fi.names at h ⊢
  exact h.sublist ((List.filter_sublist (l := l) (p := fun f => f.1 != t)).map _)
theorem putL_ref {l : List Fl} (h : Fi.Ord l) (f : Fl) {n : Nat} (hn : n = lb (Fi.names (Fi.drop l f.1)) f.1) : (Fi.drop l f.1).take n ++ f :: (Fi.drop l f.1).drop n = Fi.putL l f := by
  unfold Fi.putL
  have hat := Fi.has_at h f.1
  cases hq : Fi.has l f.1
  · rw [dropF_none hq] at hn ⊢
    rw [hn]; rfl
  · rw [hq] at hat
    obtain ⟨hr, e⟩ := of_decide_eq_true hat.symm
    obtain ⟨r, hrr⟩ : ∃ r, r = lb (Fi.names l) f.1 := ⟨_, rfl⟩
    have hd : Fi.drop l f.1 = l.take (lb (Fi.names l) f.1) ++ l.drop (lb (Fi.names l) f.1 + 1) := dropF_at h hr e
    have hp := List.pairwise_iff_getElem.1 h
    have hlbr : lb (Fi.names (Fi.drop l f.1)) f.1 = lb (Fi.names l) f.1 := by
      have hdl : (Fi.drop l f.1).length = l.length - 1 := by rw [hd, List.length_append, List.length_take, List.length_drop]; omega
      refine lb_eq (by rw [Fi.names_len, hdl]; omega) (fun x hx hxr => ?_) (fun hx => ?_)
      · rw [Fi.names_len] at hx
        rw [Fi.names_at hx]
        have e2 : (Fi.drop l f.1)[x] = l[x]'(by omega) := by
          simp only [hd]
          rw [List.getElem_append_left (by rw [List.length_take]; omega), List.getElem_take]
        rw [e2]
        have := hp x (lb (Fi.names l) f.1) (by rw [Fi.names_len]; omega) (by rw [Fi.names_len]; omega) hxr
        rw [Fi.names_at (by omega), Fi.names_at hr, e] at this
        exact this
      · rw [Fi.names_len] at hx
        rw [Fi.names_at hx]
        have e2 : (Fi.drop l f.1)[lb (Fi.names l) f.1] = l[lb (Fi.names l) f.1 + 1]'(by omega) := by
          simp only [hd]
          rw [List.getElem_append_right (by rw [List.length_take]; omega), List.getElem_drop]
          congr 1
          rw [List.length_take]; omega
        rw [e2]
        have := hp (lb (Fi.names l) f.1) (lb (Fi.names l) f.1 + 1) (by rw [Fi.names_len]; omega) (by rw [Fi.names_len]; omega) (by omega)
        rw [Fi.names_at hr, Fi.names_at (by omega), e] at this
        rw [cb_swap]
        omega
    rw [hlbr] at hn
    rw [hn, hd]
    have hl1 : (l.take (lb (Fi.names l) f.1)).length = lb (Fi.names l) f.1 := by rw [List.length_take]; omega
    rw [List.take_append_of_le_length (by omega), List.take_of_length_le (by omega), List.drop_append_of_le_length (by omega), List.drop_eq_nil_of_le (by omega), List.nil_append]
    rw [if_pos rfl, List.set_eq_take_append_cons_drop, if_pos hr]

/-- The files from a place on. -/
theorem rf_tail {w : World} {b o n c k : Nat} {l : List Fl} (h : Rf w (.slice (some ⟨b, o, none⟩) n c) l) (hk : k < l.length) : Rd w 2 (.slice (some ⟨b, o + k * 2, none⟩) (l.length - k) (c - k)) (l.length - k) (fcs (l.drop k)) := by
  have hc := Rd.cap h
  obtain ⟨a, c', e⟩ := h.shape
  cases e
  refine ⟨by rw [fcs_length, List.length_drop], ?_⟩
  rcases h.2 with ⟨_, h2⟩ | ⟨b', o', cap, hv, hlt, hcell, _⟩
  · omega
  · cases hv
    refine .inr ⟨b, o + k * 2, c - k, rfl, fun _ => hlt (by omega), fun j u hj => ?_, by omega⟩
    rw [← (fcs_take l k).2, List.getElem?_drop] at hj
    rw [Nat.add_assoc]
    exact hcell _ _ hj

set_option maxRecDepth 20000 in
set_option maxHeartbeats 4000000 in
/-- 'Put' of the reference. -/
theorem refFput_any (v : Value) (l : List Fl) (f : Fl) (w : World) (hl : Rf w v l) (hlen : l.length ≤ 100000) (hs : Fi.Ord l) (hf : f.1.length ≤ 9223372036854775807) :
    Calls Try.prog 17 #[v, .agg #[.string (S f.1), .string (S f.2)]] w fun e w' => ∃ v', e = .returned (.tuple #[v', .int .i64 (Fi.put l f).2]) ∧ w'.ownsRow w.heap.size 25 2 v' (Fi.put l f).1.length (fcs (Fi.put l f).1) ∧ Below w.heap.size w w' := by
  have hPL := putL_ref hs f rfl
  obtain ⟨nm, tx⟩ := f
  simp only at hf hPL
  have HR := Lib.hid hl
  obtain ⟨a0, c0, rfl⟩ := hl.shape
  clear hl
  obtain ⟨w0, hw0⟩ : ∃ w0, w0 = w.alloc (.cells #[.string (S nm), .string (S tx)] 25) := ⟨_, rfl⟩
  have hb0 : Below w.heap.size w w0 := by rw [hw0]; exact (Below.refl _ _).alloc (Nat.le_refl _) _
  have hg0 : w0.heap[w.heap.size]? = some (.cells #[.string (S nm), .string (S tx)] 25 (0, 0)) := by rw [hw0]; exact heap_alloc_new w _
  have hs0 := hb0.size
  have x0 := pair_cell0 hg0
  have x1 := pair_cell1 hg0
  have HDR := Lib.hid (refFdrop_any _ l nm w0 (HR.out.below' hb0) (by omega))
  have hpt : Fi.put l (nm, tx) = if Fi.okName nm = false then ([], 2) else if 4000 < tx.length ∨ (Fi.has l nm = false ∧ 32 ≤ l.length) then ([], 3) else (Fi.putL l (nm, tx), 0) := rfl
  have hrl := drop_le l nm
  obtain ⟨rest, hrest⟩ : ∃ rest, rest = Fi.drop l nm := ⟨_, rfl⟩
  rw [← hrest] at HDR hPL hrl
  obtain ⟨q, hq⟩ : ∃ q, q = Fi.has l nm := ⟨_, rfl⟩
  rw [← hq] at HDR hpt
  have HPL := Lib.hid hPL
  have HPT := Lib.hid hpt
  have HN := Lib.hid (fun w => refName_any nm hf w)
  obtain ⟨isn, hisn⟩ : ∃ b, b = Fi.okName nm := ⟨_, rfl⟩
  rw [← hisn] at HN HPT
  have HW := Lib.hid hw0
  clear hrest hq hpt hisn hw0 hs hPL
  cases isn
  · have HX := Lib.hid (show Fi.put l (nm, tx) = ([], 2) from HPT.out)
    rw [HX.out]
    go_enter Try.func17, Try.ntmps17
    go_wp2_with fail
    rw [← HW.out]
    (with_reducible refine (HN.out _).mono ?_); rintro e w3 ⟨rfl, rfl⟩
    go_wp2_with fail
    go_ret2
    exact ⟨_, rfl, World.ownsRow_nil _ _ _ _, hb0⟩
  · go_enter Try.func17, Try.ntmps17
    go_wp2_with fail
    rw [← HW.out]
    (with_reducible refine (HN.out _).mono ?_); rintro e w3 ⟨rfl, rfl⟩
    go_wp2_with fail
    (with_reducible refine HDR.out.mono ?_); rintro e w4 ⟨v4, rfl, o4, b4⟩
    have hg4 := (b4.block _ (row_lt hg0)).trans hg0
    have y0 := pair_cell0 hg4
    have y1 := pair_cell1 hg4
    have B4 := hb0.trans (b4.mono hs0)
    clear x0 x1 HDR
    by_cases hbad : 4000 < tx.length ∨ (q = false ∧ 32 ≤ l.length)
    · have HX := Lib.hid (show Fi.put l (nm, tx) = ([], 3) by rw [HPT.out, if_neg (by simp), if_pos hbad])
      by_cases hbig : 4000 < tx.length
      · have hbi : (4000 : Int) < (tx.length : Int) := by omega
        go_wp2_with fail
        go_ret2
        exact ⟨.slice none 0 0, by rw [HX.out]; rfl, by rw [HX.out]; exact World.ownsRow_nil _ _ _ _, B4⟩
      · have hbi : decide ((4000 : Int) < (tx.length : Int)) = false := by simp; omega
        obtain ⟨rfl, hfull⟩ := hbad.resolve_left hbig
        have hfi : (32 : Int) ≤ (l.length : Int) := by omega
        go_wp2_with fail
        go_ret2
        exact ⟨.slice none 0 0, by rw [HX.out]; rfl, by rw [HX.out]; exact World.ownsRow_nil _ _ _ _, B4⟩
    · have HX := Lib.hid (show Fi.put l (nm, tx) = (Fi.putL l (nm, tx), 0) by rw [HPT.out, if_neg (by simp), if_neg hbad])
      have hbi : decide ((4000 : Int) < (tx.length : Int)) = false := by simp; omega
      have hfq : q = true ∨ (q = false ∧ decide ((32 : Int) ≤ (l.length : Int)) = false) := by
        cases q
        · right; simp at hbad ⊢; omega
        · exact .inl rfl
      obtain ⟨a4, c4, rfl⟩ := own_shape o4
      have RR := Lib.hid (rf_own o4)
      rcases hfq with rfl | ⟨rfl, hfi⟩
      all_goals (
        go_wp2_with fail
        go_loopw [8, 9] (fun v i wr => ∃ k : Nat, k ≤ rest.length ∧ i = .int .i64 k ∧ wr.ownsRow w4.heap.size 25 2 v (rest.take k).length (fcs (rest.take k)) ∧ Hid (∀ x (h : x < (Fi.names rest).length), x < k → Lib.compareBytes (Fi.names rest)[x] nm < 0) ∧ Below w4.heap.size w4 wr) (fun _ i _ => rest.length - (intOf i).toNat)
        case atStart => exact ⟨0, Nat.zero_le _, rfl, World.ownsRow_made w4 #[] 0 (Nat.le_refl _) (by decide) rfl, Lib.hid (fun x _ h => by omega), (Below.refl _ _).alloc (Nat.le_refl _) _⟩
        case round =>
          obtain ⟨k, hk, rfl, hown, HLT, hbw⟩ := hrel
          have hsz := hbw.size
          have hg5 := (hbw.block _ (row_lt hg4)).trans hg4
          have z0 := pair_cell0 hg5
          have z1 := pair_cell1 hg5
          have B5 := B4.trans (hbw.mono B4.size)
          by_cases hlt : k < rest.length
          · obtain ⟨b1, o1, rfl, c10, c11⟩ := (RR.out.below' hbw).at hlt
            have hnk : (Fi.names rest)[k]'(by rw [Fi.names_len]; exact hlt) = rest[k].1 := Fi.names_at hlt
            have HTS := Lib.hid (take_snoc rest k hlt)
            obtain ⟨⟨n2, t2⟩, hx⟩ : ∃ x, x = rest[k] := ⟨_, rfl⟩
            rw [← hx] at c10 c11 hnk HTS
            simp only at hnk
            clear hx
            have hln : (rest.take k).length = k := by rw [List.length_take]; omega
            have hkl : (k : Int) < (rest.length : Int) := by omega
            have hk0 : (0 : Int) ≤ (k : Int) := by omega
            cases hless : Op.bytesLess n2 nm
            · have HLB := Lib.hid (show k = lb (Fi.names rest) nm from (lb_eq (by rw [Fi.names_len]; omega) HLT.out (fun hh => by
                rw [hnk]
                rw [less_is] at hless
                exact of_decide_eq_false hless)).symm)
              go_wp2_with fail
              go_quiet (fail)
              obtain ⟨W, hW⟩ : ∃ W, W = wr.drewN nq := ⟨_, rfl⟩
              have oW : W.ownsRow w4.heap.size 25 2 u8 (rest.take k).length (fcs (rest.take k)) := by rw [hW]; exact own_drewN hown _
              have BW : Below w4.heap.size w4 W := by rw [hW]; exact below_drewN hbw _
              have y5 : W.cell? ⟨w.heap.size, 0, none⟩ = some (.string (S nm)) := by rw [hW]; exact z0
              have y6 : W.cell? ⟨w.heap.size, 1, none⟩ = some (.string (S tx)) := by rw [hW]; exact z1
              rw [← hW]
              clear hW c10 c11 z0 z1 hown hbw
              rw [hln] at oW
              have hcap := Rd.cap RR.out
              have hck : ¬ (c4 = k) := by omega
              obtain ⟨a8, c8, hu8⟩ := own_shape oW
              subst hu8
              have hk9 : (k : Int) ≤ (rest.length : Int) := by omega
              go_wp2_with (first
                | (at_builtin; refine wp_app tyF rfl _ _ rfl w4.heap.size oW rfl rfl rfl rfl fc_one (by omega) (by omega) BW.size ?_; intro v6 w6 o6 b6 _; have B6 := BW.trans b6; have r6 := RR.out.below' B6; clear b6)
                | (at_builtin; refine wp_app_all tyF (m := rest.length - k) (news := fcs (rest.drop k)) rfl _ _ rfl w4.heap.size o6 (rf_tail r6 hlt) rfl rfl fcs_one (by omega) (by omega) B6.size ?_; intro v7 w7 o7 b7 _)
                | fail)
              go_ret2
              refine ⟨_, by rw [HX.out]; rfl, ?_, B4.trans ((B6.trans b7).mono B4.size)⟩
              have hput : Fi.putL l (nm, tx) = rest.take k ++ (nm, tx) :: rest.drop k := by rw [HLB.out]; exact HPL.out.symm
              have hpl : (rest.take k ++ (nm, tx) :: rest.drop k).length = k + 1 + (rest.length - k) := by simp only [List.length_append, List.length_cons, List.length_drop, hln]; omega
              have hpf : fcs (rest.take k) ++ [.string (S nm), .string (S tx)] ++ fcs (rest.drop k) = fcs (rest.take k ++ (nm, tx) :: rest.drop k) := by rw [fcs_append, fcs_cons]; simp
              rw [HX.out, hput, hpl, ← hpf]
              exact own_mono o7 B4.size
            · have HL2 := Lib.hid (show ∀ x (h : x < (Fi.names rest).length), x < k + 1 → Lib.compareBytes (Fi.names rest)[x] nm < 0 by
                intro x h hxk
                by_cases e : x = k
                · subst e
                  rw [hnk]
                  rw [less_is] at hless
                  exact of_decide_eq_true hless
                · exact HLT.out x h (by omega))
              go_wp2_with fail
              go_quiet (fail)
              obtain ⟨W, hW⟩ : ∃ W, W = wr.drewN nq := ⟨_, rfl⟩
              have oW : W.ownsRow w4.heap.size 25 2 u8 (rest.take k).length (fcs (rest.take k)) := by rw [hW]; exact own_drewN hown _
              have BW : Below w4.heap.size w4 W := by rw [hW]; exact below_drewN hbw _
              have y5 : W.cell? ⟨b1, o1 + k * 2, none⟩ = some (.string (S n2)) := by rw [hW]; exact c10
              have y6 : W.cell? ⟨b1, o1 + k * 2 + 1, none⟩ = some (.string (S t2)) := by rw [hW]; exact c11
              rw [← hW]
              clear hW c10 c11 z0 z1 hown hbw
              go_wp2_with (first
                | (at_builtin; refine wp_app tyF rfl _ _ rfl w4.heap.size oW rfl rfl rfl rfl fc_one (by omega) (by omega) BW.size ?_; intro v6 w6 o6 b6 _)
                | fail)
              go_roundw
              case rel => exact ⟨k + 1, by omega, by go_num, (by rw [HTS.out, fcs_snoc, List.length_append]; exact o6), HL2, BW.trans b6⟩
              case measure => simp [intOf]; omega
          · obtain rfl : k = rest.length := by omega
            have HLB := Lib.hid (show rest.length = lb (Fi.names rest) nm from (lb_eq (by rw [Fi.names_len]; exact Nat.le_refl _) HLT.out (fun hh => by rw [Fi.names_len] at hh; omega)).symm)
            rw [List.take_length] at hown
            have hno : decide ((rest.length : Int) < (rest.length : Int)) = false := by simp
            go_wp2_with fail
            go_quiet (fail)
            obtain ⟨W, hW⟩ : ∃ W, W = wr.drewN nq := ⟨_, rfl⟩
            have oW : W.ownsRow w4.heap.size 25 2 u8 rest.length (fcs rest) := by rw [hW]; exact own_drewN hown _
            have BW : Below w4.heap.size w4 W := by rw [hW]; exact below_drewN hbw _
            have y5 : W.cell? ⟨w.heap.size, 0, none⟩ = some (.string (S nm)) := by rw [hW]; exact z0
            have y6 : W.cell? ⟨w.heap.size, 1, none⟩ = some (.string (S tx)) := by rw [hW]; exact z1
            rw [← hW]
            clear hW z0 z1 hown hbw
            obtain ⟨a8, c8, hu8⟩ := own_shape oW
            subst hu8
            rcases o4.2 with ⟨hn4, h0⟩ | ⟨g, cap, cur, hv, hgB, hg, h1, h2, h3, h4⟩
            · have hr0 : rest = [] := List.eq_nil_of_length_eq_zero h0
              subst hr0
              cases hn4
              go_wp2_with (first
                | (at_builtin; refine wp_app tyF rfl _ _ rfl w4.heap.size oW rfl rfl rfl rfl fc_one (by omega) (by omega) BW.size ?_; intro v6 w6 o6 b6 _; have B6 := BW.trans b6; clear b6)
                | (at_builtin; refine wp_app_all tyF (m := 0) (news := []) rfl _ _ rfl w4.heap.size o6 ⟨rfl, .inl ⟨by first | exact .inl rfl | exact .inr ⟨_, _, rfl⟩, rfl⟩⟩ rfl rfl (by simp) (by omega) (by omega) B6.size ?_; intro v7 w7 o7 b7 _)
                | fail)
              go_ret2
              refine ⟨_, by rw [HX.out]; rfl, ?_, B4.trans ((B6.trans b7).mono B4.size)⟩
              have hput : Fi.putL l (nm, tx) = ([] : List Fl) ++ [(nm, tx)] := by rw [← HPL.out]; simp
              rw [HX.out, hput, fcs_snoc, List.length_append]
              rw [List.append_nil, Nat.add_zero] at o7
              exact own_mono o7 B4.size
            · cases hv
              have hk9 : (0 : Int) ≤ (rest.length : Int) := by omega
              by_cases hcr : c4 = rest.length
              · go_wp2_with (first
                | (at_builtin; refine wp_app tyF rfl _ _ rfl w4.heap.size oW rfl rfl rfl rfl fc_one (by omega) (by omega) BW.size ?_; intro v6 w6 o6 b6 _; have B6 := BW.trans b6; clear b6)
                | (at_builtin; refine wp_app_all tyF (m := 0) (news := []) rfl _ _ rfl w4.heap.size o6 ⟨rfl, .inl ⟨by first | exact .inl rfl | exact .inr ⟨_, _, rfl⟩, rfl⟩⟩ rfl rfl (by simp) (by omega) (by omega) B6.size ?_; intro v7 w7 o7 b7 _)
                | fail)
                go_ret2
                refine ⟨_, by rw [HX.out]; rfl, ?_, B4.trans ((B6.trans b7).mono B4.size)⟩
                have hput : Fi.putL l (nm, tx) = rest ++ [(nm, tx)] := by rw [← HPL.out, ← HLB.out, List.take_length, List.drop_length]
                rw [HX.out, hput, fcs_snoc, List.length_append]
                rw [List.append_nil, Nat.add_zero] at o7
                exact own_mono o7 B4.size
              · go_wp2_with (first
                | (at_builtin; refine wp_app tyF rfl _ _ rfl w4.heap.size oW rfl rfl rfl rfl fc_one (by omega) (by omega) BW.size ?_; intro v6 w6 o6 b6 _; have B6 := BW.trans b6; clear b6)
                | (at_builtin; refine wp_app_all tyF (m := 0) (news := []) rfl _ _ rfl w4.heap.size o6 ⟨rfl, .inl ⟨by first | exact .inl rfl | exact .inr ⟨_, _, rfl⟩, rfl⟩⟩ rfl rfl (by simp) (by omega) (by omega) B6.size ?_; intro v7 w7 o7 b7 _)
                | fail)
                go_ret2
                refine ⟨_, by rw [HX.out]; rfl, ?_, B4.trans ((B6.trans b7).mono B4.size)⟩
                have hput : Fi.putL l (nm, tx) = rest ++ [(nm, tx)] := by rw [← HPL.out, ← HLB.out, List.take_length, List.drop_length]
                rw [HX.out, hput, fcs_snoc, List.length_append]
                rw [List.append_nil, Nat.add_zero] at o7
                exact own_mono o7 B4.size
      )

end Go.Proofs.Ytgpifaedcelnnaa
