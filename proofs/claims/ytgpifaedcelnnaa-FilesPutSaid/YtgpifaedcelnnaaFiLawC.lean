
/- 'FilesDo', walked: it answers true at every input. No condition. -/
import Derived.Test.YtgpifaedcelnnaaFiLawB
namespace Go.Proofs.Ytgpifaedcelnnaa
open Go.RowKit

theorem rb_at {w : World} {a : Option Addr} {n c : Nat} {l : List Bool} (h : Rd w 1 (.slice a n c) l.length (l.map Value.bool)) {i : Nat} (hi : i < l.length) :
    ∃ b o, a = some ⟨b, o, none⟩ ∧ w.cell? ⟨b, o + i, none⟩ = some (.bool l[i]) := by
  rcases h.2 with ⟨_, h2⟩ | ⟨b, o, cap, hv, hlt, hc, _⟩
  · omega
  · cases hv
    exact ⟨b, o, rfl, hc _ _ (by simp [hi])⟩
theorem drop_ok {l : List Fl} (h : OkAll l) (t : List UInt8) : OkAll (Fi.drop l t) := fun f hf => h f (List.mem_filter.1 hf).1

theorem put_none (l : List Fl) (f : Fl) (h : (Fi.put l f).2 ≠ 0) : (Fi.put l f).1 = [] := by
  unfold Fi.put at h ⊢
  split
  · rfl
  · rename_i h1
    rw [if_neg h1] at h
    split
    · rfl
    · rename_i h2
      rw [if_neg h2] at h
      exact absurd rfl h

set_option maxRecDepth 20000 in
set_option maxHeartbeats 8000000 in
/-- 'FilesDo'. -/
theorem filesDo_any (v u : Value) (l : List Fl) (bs : List Bool) (w : World) (hl : Rf w v l) (hb : Rd w 1 u bs.length (bs.map Value.bool)) (hs : ∀ f ∈ l, f.1.length ≤ 9223372036854775807 ∧ f.2.length ≤ 9223372036854775807) :
    Calls Try.prog 3 #[v, u] w fun e w' => e = .returned (.bool true) ∧ Below w.heap.size w w' := by
  obtain ⟨a0, c0, rfl⟩ := hl.shape
  obtain ⟨a1, c1, rfl⟩ := Rd.shape hb
  have HL := Lib.hid hl
  have HB := Lib.hid hb
  have HS := Lib.hid hs
  clear hl hb hs
  go_enter Try.func3, Try.ntmps3
  go_wp2_with fail
  go_loopw [5, 6, 7] (fun va vb i wr => ∃ (q : Nat) (m : List Fl), q ≤ l.length ∧ q ≤ 60 ∧ i = .int .i64 q ∧ Hid (OkAll m ∧ Fi.Ord m) ∧ m.length ≤ 32 ∧ Hid (Rf wr va m) ∧ Hid (Rf wr vb m) ∧ Below w.heap.size w wr) (fun _ _ i _ => l.length - (intOf i).toNat)
  case atStart => exact ⟨0, [], Nat.zero_le _, Nat.zero_le _, rfl, Lib.hid ⟨fun f hf => (List.not_mem_nil hf).elim, ord_nil⟩, Nat.zero_le _, Lib.hid (rf_empty _ _ _), Lib.hid (rf_empty _ _ _), ((Below.refl _ _).alloc (Nat.le_refl _) _).alloc (by simp) _⟩
  case round =>
    obtain ⟨q, m, hq, hq2, rfl, HM, hml, RA, RB, hbw⟩ := hrel
    have hsz := hbw.size
    by_cases hin : q < l.length ∧ q < 60
    · obtain ⟨hlt, hlm⟩ := hin
      obtain ⟨b1, o1, rfl, c10, c11⟩ := (HL.out.below' hbw).at hlt
      have hsk := HS.out _ (List.getElem_mem hlt)
      obtain ⟨⟨nm0, tx0⟩, hx⟩ : ∃ x, x = l[q] := ⟨_, rfl⟩
      rw [← hx] at c10 c11 hsk
      clear hx
      have HCut := Lib.hid (fcut_any (nm0, tx0) wr hsk)
      have hnl : (nm0.take 40).length ≤ 40 := by rw [List.length_take]; omega
      have htl : (tx0.take 4100).length ≤ 4100 := by rw [List.length_take]; omega
      obtain ⟨nm, hnm⟩ : ∃ nm, nm = nm0.take 40 := ⟨_, rfl⟩
      obtain ⟨tx, htx⟩ : ∃ tx, tx = tx0.take 4100 := ⟨_, rfl⟩
      simp only [← hnm, ← htx] at HCut
      rw [← hnm] at hnl
      rw [← htx] at htl
      clear hnm htx hsk
      have hqi : (q : Int) < (l.length : Int) := by omega
      have hqm : (q : Int) < 60 := by omega
      obtain ⟨⟨gs, gb⟩, hG⟩ : ∃ p, p = Fi.get m nm := ⟨_, rfl⟩
      have HG := Lib.hid hG
      clear hG
      go_wp2_with fail
      (with_reducible refine HCut.out.mono ?_); rintro e w2 ⟨rfl, b2⟩
      have B2 := hbw.trans (b2.mono hsz)
      obtain ⟨wx, hwx⟩ : ∃ wx, wx = w2.alloc (.cells #[.string (S nm), .string (S tx)] 25) := ⟨_, rfl⟩
      have bx : Below w2.heap.size w2 wx := by rw [hwx]; exact (Below.refl _ _).alloc (Nat.le_refl _) _
      have gx : wx.heap[w2.heap.size]? = some (.cells #[.string (S nm), .string (S tx)] 25 (0, 0)) := by rw [hwx]; exact heap_alloc_new _ _
      have rax := (RA.out.below' b2).below' bx
      have rbx := (RB.out.below' b2).below' bx
      have Bx := B2.trans (bx.mono B2.size)
      have HWX := Lib.hid hwx
      clear hwx b2 bx RA RB HCut c10 c11
      go_wp2_with fail
      rw [← HWX.out]
      (with_reducible refine (fget_any _ m nm wx rax (by omega) HM.out.2).mono ?_); rintro e w3 ⟨rfl, b3⟩
      rw [← HG.out]
      have g3 := (b3.block _ (row_lt gx)).trans gx
      have x0 := pair_cell0 g3
      have ra3 := rax.below' b3
      have rb3 := rbx.below' b3
      have B3 := Bx.trans (b3.mono Bx.size)
      clear b3 gx rax rbx Bx
      go_wp2_with fail
      (with_reducible refine (refFget_any _ m nm w3 rb3 (by omega)).mono ?_); rintro e w4 ⟨rfl, b4⟩
      rw [← HG.out]
      have g4 := (b4.block _ (row_lt g3)).trans g3
      have x0 := pair_cell0 g4
      have x1 := pair_cell1 g4
      have ra4 := ra3.below' b4
      have rb4 := rb3.below' b4
      have B4 := B3.trans (b4.mono B3.size)
      clear b4 g3 ra3 rb3 B3
      have HN1 := Lib.hid (fun w => name_any nm (by omega) w)
      have HN2 := Lib.hid (fun w => refName_any nm (by omega) w)
      obtain ⟨isn, hisn⟩ : ∃ b, b = Fi.okName nm := ⟨_, rfl⟩
      rw [← hisn] at HN1 HN2
      have hgb : (gb == gb) = true := by simp
      have hni : (isn != isn) = false := by simp
      have hgi : (gb != gb) = false := by simp
      have hgs : (gs == gs) = true := by simp
      have hgn : (gs != gs) = false := by simp
      go_wp2_with fail
      go_quiet (first | (go_at_call 12; refine Calls.quiet_of_same (HN1.out _)) | (go_at_call 13; refine Calls.quiet_of_same (HN2.out _)) | fail)
      have bq : Below w4.heap.size w4 (w4.drewN nq) := below_drewN (Below.refl _ _) nq
      have ra5 := ra4.below' bq
      have rb5 := rb4.below' bq
      have B5 := B4.trans (bq.mono B4.size)
      have x0 : (w4.drewN nq).cell? ⟨w2.heap.size, 0, none⟩ = some (.string (S nm)) := x0
      have x1 : (w4.drewN nq).cell? ⟨w2.heap.size, 1, none⟩ = some (.string (S tx)) := x1
      have g5 : (w4.drewN nq).heap[w2.heap.size]? = some (.cells #[.string (S nm), .string (S tx)] 25 (0, 0)) := g4
      have HB5 := Lib.hid (HB.out.below' B5)
      generalize hW : w4.drewN nq = W at *
      clear bq hW ra4 rb4 B4 g4 HN1 HN2 hni hgi hgs hgn hgb HG HWX
      have hcase : (∃ h : q < bs.length, bs[q] = true) ∨ (∃ h : q < bs.length, bs[q] = false) ∨ bs.length ≤ q := by
        by_cases h : q < bs.length
        · cases h2 : bs[q]
          · exact .inr (.inl ⟨h, h2⟩)
          · exact .inl ⟨h, h2⟩
        · exact .inr (.inr (by omega))
      have HTH := Lib.hid (⟨drop_ok HM.out.1 nm, ord_drop HM.out.2 nm⟩ : OkAll (Fi.drop m nm) ∧ Fi.Ord (Fi.drop m nm))
      have hdl := drop_le m nm
      have hhas : (Fi.has m nm == Fi.has m nm) = true := by simp
      have hhas2 : (Fi.has m nm != Fi.has m nm) = false := by simp
      rcases hcase with ⟨hqb, hbv⟩ | hcase
      · obtain ⟨b2, o2, rfl, d0⟩ := rb_at HB5.out hqb
        rw [hbv] at d0
        have hqi2 : (q : Int) < (bs.length : Int) := by omega
        obtain ⟨d, hd⟩ : ∃ d, d = Fi.drop m nm := ⟨_, rfl⟩
        obtain ⟨gone, hgone⟩ : ∃ b, b = Fi.has m nm := ⟨_, rfl⟩
        rw [← hd] at HTH hdl
        rw [← hgone] at hhas hhas2
        have HDD := Lib.hid hd
        have HGO := Lib.hid hgone
        clear hd hgone hbv
        go_wp2_with fail
        (with_reducible refine (fdrop_any _ m nm _ ra5 (by omega) HM.out.2).mono ?_); rintro e w6 ⟨v6, rfl, o6, b6⟩
        rw [← HDD.out] at o6
        rw [← HGO.out]
        have r6 := rf_own o6
        have rb6 := rb5.below' b6
        have g6 := (b6.block _ (row_lt g5)).trans g5
        have x0 := pair_cell0 g6
        have B6 := B5.trans (b6.mono B5.size)
        clear o6 b6 g6 g5 ra5 rb5
        go_wp2_with fail
        (with_reducible refine (refFdrop_any _ m nm _ rb6 (by omega)).mono ?_); rintro e w7 ⟨v7, rfl, o7, b7⟩
        rw [← HDD.out] at o7
        rw [← HGO.out]
        have r7b := rf_own o7
        have r7 := r6.below' b7
        have B7 := B6.trans (b7.mono B6.size)
        clear o7 b7 rb6 r6
        go_wp2_with fail
        (with_reducible refine (equal_any _ _ d d _ r7 r7b (by omega) (by omega)).mono ?_); rintro e w8 ⟨rfl, b8⟩
        rw [show (d == d) = true by simp]
        have r8 := r7.below' b8
        have r8b := r7b.below' b8
        have B8 := B7.trans (b8.mono B7.size)
        clear b8 r7 r7b
        go_wp2_with fail
        (with_reducible refine (fright_any _ d _ r8 (by omega) (fun f hf => Nat.le_trans (okName_le (HTH.out.1 f hf).1) (by decide))).mono ?_); rintro e w9 ⟨rfl, b9⟩
        rw [(right_iff9 d).2 ⟨HTH.out.1, HTH.out.2, by omega⟩]
        have r9 := r8.below' b9
        have r9b := r8b.below' b9
        have B9 := B8.trans (b9.mono B8.size)
        go_wp2_with fail
        go_roundw
        case rel => exact ⟨q + 1, d, by omega, by omega, by go_num, HTH, by omega, Lib.hid r9, Lib.hid r9b, B9⟩
        case measure => simp [intOf]; omega
      · clear HTH hdl hhas hhas2
        have HP0 := Lib.hid (put_zero m (nm, tx))
        have HPE := Lib.hid (put_none m (nm, tx))
        have HPK := Lib.hid (fun h => put_ok (f := (nm, tx)) HM.out.1 hml h)
        have HPO := Lib.hid (ord_put HM.out.2 (nm, tx))
        have HC1 := Lib.hid (fput_any u5 m (nm, tx) W ra5 (by omega) HM.out.2 (by simp only; omega))
        have HC2 := Lib.hid (fun w' (hb : Below W.heap.size W w') => refFput_any u6 m (nm, tx) w' (rb5.below' hb) (by omega) HM.out.2 (by simp only; omega))
        obtain ⟨⟨pl, pe⟩, hp⟩ : ∃ p, p = Fi.put m (nm, tx) := ⟨_, rfl⟩
        rw [← hp] at HP0 HPE HPK HPO HC1 HC2
        simp only at HP0 HPE HPK HPO HC1 HC2
        clear hp
        have hpe : pe = 0 ∨ (pe ≠ 0 ∧ pl = []) := by
          rcases HP0.out with h | h | h
          · exact .inl h
          · exact .inr ⟨by omega, HPE.out (by omega)⟩
          · exact .inr ⟨by omega, HPE.out (by omega)⟩
        have hdd : (∃ b2 o2, a1 = some ⟨b2, o2, none⟩ ∧ W.cell? ⟨b2, o2 + q, none⟩ = some (.bool false) ∧ q < bs.length) ∨ bs.length ≤ q := by
          rcases hcase with ⟨h, h2⟩ | h
          · obtain ⟨b2, o2, e, d0⟩ := rb_at HB5.out h
            rw [h2] at d0
            exact .inl ⟨b2, o2, e, d0, h⟩
          · exact .inr h
        clear hcase HP0 HPE
        have hqr : decide ((q : Int) < (bs.length : Int)) = true ∨ decide ((q : Int) < (bs.length : Int)) = false := by cases decide ((q : Int) < (bs.length : Int)) <;> simp
        rcases hpe with rfl | ⟨hpe, rfl⟩
        · obtain ⟨hpo1, hpo2⟩ := HPK.out rfl
          rcases hdd with ⟨b2, o2, rfl, d0, hqb⟩ | hqb
          all_goals (
            (first | (have hqi2 : (q : Int) < (bs.length : Int) := by omega) | (have hqi3 : (bs.length : Int) ≤ (q : Int) := by omega))
            go_wp2_with fail
            (with_reducible refine HC1.out.mono ?_); rintro e w6 ⟨v6, rfl, o6, b6⟩
            have r6 := rf_own o6
            have g6 := (b6.block _ (row_lt g5)).trans g5
            have x0 := pair_cell0 g6
            have x1 := pair_cell1 g6
            have B6 := B5.trans (b6.mono B5.size)
            clear o6 g6
            go_wp2_with fail
            (with_reducible refine (HC2.out _ b6).mono ?_); rintro e w7 ⟨v7, rfl, o7, b7⟩
            have r7b := rf_own o7
            have r7 := r6.below' b7
            have B7 := B6.trans (b7.mono B6.size)
            clear o7 b7
            go_wp2_with fail
            (with_reducible refine (equal_any _ _ pl pl _ r7 r7b (by omega) (by omega)).mono ?_); rintro e w8 ⟨rfl, b8⟩
            rw [show (pl == pl) = true by simp]
            have r8 := r7.below' b8
            have r8b := r7b.below' b8
            have B8 := B7.trans (b8.mono B7.size)
            clear b8 r7 r7b
            go_wp2_with fail
            (with_reducible refine (fright_any _ pl _ r8 (by omega) (fun f hf => Nat.le_trans (okName_le (hpo1 f hf).1) (by decide))).mono ?_); rintro e w9 ⟨rfl, b9⟩
            rw [(right_iff9 pl).2 ⟨hpo1, HPO.out, by omega⟩]
            have r9 := r8.below' b9
            have r9b := r8b.below' b9
            have B9 := B8.trans (b9.mono B8.size)
            go_wp2_with fail
            go_roundw
            case rel => exact ⟨q + 1, pl, by omega, by omega, by go_num, Lib.hid ⟨hpo1, HPO.out⟩, by omega, Lib.hid r9, Lib.hid r9b, B9⟩
            case measure => simp [intOf]; omega
            )
        · have hp1 : (pe == 0) = false := by simpa using hpe
          have hp2 : (pe != 0) = true := by simpa using hpe
          have hp3 : (pe != pe) = false := by simp
          have hp4 : decide (pe = 0) = false := by simpa using hpe
          clear HPK HPO
          rcases hdd with ⟨b2, o2, rfl, d0, hqb⟩ | hqb
          all_goals (
            (first | (have hqi2 : (q : Int) < (bs.length : Int) := by omega) | (have hqi3 : (bs.length : Int) ≤ (q : Int) := by omega))
            go_wp2_with fail
            (with_reducible refine HC1.out.mono ?_); rintro e w6 ⟨v6, rfl, o6, b6⟩
            obtain ⟨a6, c6, rfl⟩ := own_shape o6
            have g6 := (b6.block _ (row_lt g5)).trans g5
            have x0 := pair_cell0 g6
            have x1 := pair_cell1 g6
            have ra6 := ra5.below' b6
            have rb6 := rb5.below' b6
            have B6 := B5.trans (b6.mono B5.size)
            clear o6 g6
            go_wp2_with fail
            (with_reducible refine (HC2.out _ b6).mono ?_); rintro e w7 ⟨v7, rfl, o7, b7⟩
            have r7b := rb6.below' b7
            have r7 := ra6.below' b7
            have B7 := B6.trans (b7.mono B6.size)
            clear o7 b7
            go_wp2_with fail
            (with_reducible refine (equal_any _ _ m m _ r7 r7b (by omega) (by omega)).mono ?_); rintro e w8 ⟨rfl, b8⟩
            rw [show (m == m) = true by simp]
            have r8 := r7.below' b8
            have r8b := r7b.below' b8
            have B8 := B7.trans (b8.mono B7.size)
            clear b8 r7 r7b
            go_wp2_with fail
            (with_reducible refine (fright_any _ m _ r8 (by omega) (fun f hf => Nat.le_trans (okName_le (HM.out.1 f hf).1) (by decide))).mono ?_); rintro e w9 ⟨rfl, b9⟩
            rw [(right_iff9 m).2 ⟨HM.out.1, HM.out.2, by omega⟩]
            have r9 := r8.below' b9
            have r9b := r8b.below' b9
            have B9 := B8.trans (b9.mono B8.size)
            go_wp2_with fail
            go_roundw
            case rel => exact ⟨q + 1, m, by omega, by omega, by go_num, HM, by omega, Lib.hid r9, Lib.hid r9b, B9⟩
            case measure => simp [intOf]; omega
            )
    · have hstop : q = l.length ∨ (q < l.length ∧ q = 60) := by omega
      have hdec : decide ((q : Int) < (l.length : Int)) = false ∨ decide ((q : Int) < 60) = false := by
        rcases hstop with h | ⟨_, h⟩
        · left; simp; omega
        · right; simp; omega
      rcases hstop with rfl | ⟨h, rfl⟩
      all_goals (
        go_wp2_with fail
        (with_reducible refine (fiFixed_any _).mono ?_); rintro e w6 ⟨rfl, b6⟩
        go_wp2_with fail
        go_ret
        exact ⟨rfl, hbw.trans (b6.mono hsz)⟩
      )

end Go.Proofs.Ytgpifaedcelnnaa
