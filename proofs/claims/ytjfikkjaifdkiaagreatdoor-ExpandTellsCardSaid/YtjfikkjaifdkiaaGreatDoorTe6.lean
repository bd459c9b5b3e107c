/- Walks and plain laws, 6: The program's expansion: include, walked. No condition. The program's expansion: ifdef, walked. No condition. The program's expansion: def, walked. No condition. The program's expansion: undef, walked. No condition. The program's expansion: put, walked. No condition. The commands' map: what 'commands' lays; looks into it. No condition. The program's expansion: note, walked. No condition. -/
import Derived.Test.YtjfikkjaifdkiaaGreatDoorTe5
import Derived.Maps.OwnSet
import Derived.Maps.RangeWalk
import Derived.Maps.Ext
namespace Go.Proofs.YtjfikkjaifdkiaaGreatDoor
open Go.RowKit

theorem Wkg.rest {w : World} {M : List (Nat × Obj)} {bw : Nat} {vf : Value} {fs : List Fl} {most : Nat} {st : Ex.St} {G : Nat → Prop} (h : Wkg M w bw vf fs most st G) (h0 : 0 < st.inn.length) {tq : Nat} (htq : tq ≤ st.inn.length) :
    ∃ b o ci, w.cell? ⟨bw, 1, none⟩ = some (.slice (some ⟨b, o, none⟩) st.inn.length ci) ∧ w.frozen? ⟨bw, 1, none⟩ = false ∧ st.inn.length ≤ ci ∧
      Wkg M (w.setCell ⟨bw, 1, none⟩ (.slice (if ci = tq then some ⟨b, o, none⟩ else some ⟨b, o + tq * 2, none⟩) (st.inn.length - tq) (ci - tq))) bw vf fs most { st with inn := st.inn.drop tq } G := by
  obtain ⟨vin, vm, vL, vR, vN, ps, h1, h2, h3⟩ := h
  have h3 : ∀ u g, G g → ¬ Own4 bw vL vR vN g ∧ g < (w.setCell ⟨bw, 1, none⟩ u).heap.size := fun u g hg => ⟨(h3 g hg).1, by simpa [World.setCell] using (h3 g hg).2⟩
  rcases h2.inn.2 with ⟨_, h9⟩ | ⟨b, o, ci, hv, hlt, hc, hcap⟩
  · omega
  · subst hv
    refine ⟨b, o, ci, h1.cell (i := 1) rfl, h1.free 1, hcap, ?_⟩
    by_cases hct : ci = tq
    · rw [if_pos hct]
      have hlen : st.inn.length - tq = 0 := by omega
      have hdr : st.inn.drop tq = [] := List.drop_eq_nil_of_le (by omega)
      rw [hdr, hlen]
      exact ⟨_, vm, vL, vR, vN, ps, h1.set 1 _, (h2.setIn (l := []) ⟨rfl, .inl ⟨.inr ⟨_, _, rfl⟩, rfl⟩⟩ fun h0' => absurd h0' (by simp)).set 1 _, h3 _⟩
    · rw [if_neg hct]
      have hr := Rt.part h2.inn rfl htq (Nat.le_refl _) (ci - tq) (by omega)
      rw [List.take_length] at hr
      refine ⟨_, vm, vL, vR, vN, ps, h1.set 1 _, (h2.setIn (l := st.inn.drop tq) hr fun h0' b' hb' => ?_).set 1 _, h3 _⟩
      have e : b = b' := by simpa [Value.ownBlock] using hb'
      subst e
      exact h2.ifar h0 b rfl
theorem get_len {fs : List Fl} {T : Nat} (h : ∀ f ∈ fs, f.2.length ≤ T) (name : List UInt8) : (Fi.get fs name).1.length ≤ T := by
  unfold Fi.get
  cases hc : fs.find? fun f => f.1 == name with
  | none => exact Nat.zero_le _
  | some f => exact h f (List.mem_of_find?_eq_some hc)

set_option maxRecDepth 20000 in
set_option maxHeartbeats 8000000 in
/-- 'include'. -/
theorem incl_any {M : List (Nat × Obj)} {bw B T : Nat} {vf : Value} {fs : List Fl} {most : Nat} {st : Ex.St} (w : World) (h : Wk M w bw vf fs most st) (hok : Ex.Ok most B T st) (hB : B ≤ 1000000) (hmB : most ≤ B) (hT : T ≤ 1000000) (hfo : Fi.Ord fs) (hfl : fs.length ≤ 1000000) (hft : ∀ f ∈ fs, f.2.length ≤ T) (hfu : st.fuel + st.used ≤ 1000) :
    Calls Tryz.prog 38 #[.pointer (some ⟨bw, 0, none⟩), .string (S Ex.sInc)] w fun e w' => ∃ v st1 o, e = .returned v ∧ Wk M w' bw vf fs most st1 ∧ Er w' v o ∧ Below bw w w' ∧ Ex.noteO st1 o = Ex.doInclude fs most st := by
  have HG := Lib.hid (groups_at Ex.sInc 1 1 1 w h (by have := hok.inl; omega) (by decide) rfl)
  have HLT := Lib.hid h.lt
  have HOK := Lib.hid hok
  have HW0 := Lib.hid h
  have HFU := Lib.hid hfu
  have HFO := Lib.hid hfo
  have HFT := Lib.hid hft
  clear h hok hfu hfo hft
  cases hgr : Ex.gr st.inn 1 1 with
  | none =>
    have HD : Hid (Ex.doInclude fs most st = Ex.note st 10 Ex.sInc) := Lib.hid (by unfold Ex.doInclude; rw [hgr])
    rw [hgr] at HG
    clear hgr
    go_enter Tryz.func38, Tryz.ntmps38
    go_wp2_with (go_at_call 73; (with_reducible refine HG.out.mono ?_); rintro e w1 ⟨vx, vl, ve, tz, rfl, k1, b1, r1⟩; obtain ⟨bf, hve, hrf⟩ := r1; subst hve)
    go_ret
    exact ⟨_, st, some (10, Ex.sInc), rfl, k1, ⟨bf, rfl, hrf⟩, b1.mono (Nat.le_of_lt HLT.out), HD.out.symm⟩
  | some y =>
    obtain ⟨x, ws, r⟩ := y
    obtain ⟨tq, hr, htq, hx, hin, hws, _, _, hw⟩ := Ex.gr_some hgr
    have HD : Hid (Ex.doInclude fs most st = Ex.incl fs most { st with inn := r } (ws.getD 0 [])) := Lib.hid (by unfold Ex.doInclude; rw [hgr])
    rw [hgr] at HG
    clear hgr
    go_enter Tryz.func38, Tryz.ntmps38
    go_upto_region 4 with (go_at_call 73; (with_reducible refine HG.out.mono ?_); rintro e w1 ⟨vx, vl, ve, tz, rfl, k1, b1, r1⟩; obtain ⟨hve, rx, rl, tq2, htz, htl, hr2⟩ := r1; subst hve)
    have hw1 : ws.length = 1 := by rw [hws]; rfl
    have hi0 : 0 < st.inn.length := by
      have h5 : 0 < x.length := by rw [hx]; decide
      have := (hin _ (List.getElem_mem h5)).1
      omega
    obtain ⟨bl, cl, hvl, hname, hbl, hcl, hBl⟩ := words_first rl (by omega)
    rw [hw1] at hvl hcl
    subst hvl
    have k1g := HW0.out.fresh b1 (fun j => j = bl) (fun g e => by omega)
    obtain ⟨b, o, ci, c1, f1, hci, hfin⟩ := k1g.rest hi0 htl
    obtain ⟨LI, hLI⟩ : ∃ LI, LI = st.inn.length := ⟨_, rfl⟩
    rw [← hLI] at c1 hci hfin htl
    rw [← hr2] at hfin
    have hl2 : (tq2 : Int) ≤ (LI : Int) := by omega
    have hc2 : (LI : Int) ≤ (ci : Int) := by omega
    obtain ⟨vi2, hvi2⟩ : ∃ v, v = Value.slice (if ci = tq2 then some ⟨b, o, none⟩ else some ⟨b, o + tq2 * 2, none⟩) (LI - tq2) (ci - tq2) := ⟨_, rfl⟩
    rw [← hvi2] at hfin
    have HV := Lib.hid hvi2
    have HFIN := Lib.hid hfin
    obtain ⟨nm, hnm⟩ : ∃ nm, nm = ws.getD 0 [] := ⟨_, rfl⟩
    have e0 := hname 0 (by omega)
    rw [← hnm] at e0 HD
    have hnl : nm.length ≤ T := by
      obtain ⟨t, ht, e⟩ := hw nm (by rw [hnm, List.getD_eq_getElem?_getD, List.getElem?_eq_getElem (by omega : 0 < ws.length)]; exact List.getElem_mem _)
      rw [e]
      exact HOK.out.int t ht
    have hcl2 : (1 : Int) ≤ (cl : Int) := by omega
    have HB1 := Lib.hid b1
    have HK1 := Lib.hid k1
    have HBL := Lib.hid (And.intro hbl hBl)
    have HIN : Hid (r.length ≤ 1000000 ∧ st.reads.length ≤ 32) := Lib.hid ⟨by rw [hr2, List.length_drop]; have := HOK.out.inl; omega, HOK.out.rln⟩
    clear hi0 hname hnm hin hws hw k1 b1 hx hr hr2 htq rx rl hfin hLI hvi2 k1g hw1
    go_upto_region 5 with fail
    rw [← HV.out]
    obtain ⟨W2, hW2⟩ : ∃ W2, W2 = w1.setCell ⟨bw, 1, none⟩ vi2 := ⟨_, rfl⟩
    rw [← hW2]
    obtain ⟨st2, hst2⟩ : ∃ st2, st2 = { st with inn := r } := ⟨_, rfl⟩
    have hfin := HFIN.out
    rw [← hW2, ← hst2] at hfin
    rw [← hst2] at HD
    have hfu2 : st2.fuel + st2.used ≤ 1000 := by rw [hst2]; exact HFU.out
    have hin2 : st2.inn.length ≤ 1000000 ∧ st2.reads.length ≤ 32 := by rw [hst2]; exact HIN.out
    have hks : Kw w1 W2 (fun j => j = bw) := by rw [hW2]; exact Kw.set w1 bw 1 _
    have hlt1 : bw < w1.heap.size := HK1.out.lt
    have HB2 : Hid (Below bw w W2) := Lib.hid ((HB1.out.mono (Nat.le_of_lt HLT.out)).trans (hks.below (fun j e => by omega) (Nat.le_of_lt hlt1)))
    have q0 : W2.cell? ⟨bl, 0, none⟩ = some (.string (S nm)) := (World.cell?_of_block (hks.block bl HBL.out.1 (by have := HLT.out; have := HBL.out.2; omega))).trans e0
    have HK2 := Lib.hid hfin
    have HNM := Lib.hid (name_any nm (by omega))
    have hkd : Hid (∀ m, (W2.drewN m).cell? ⟨bl, 0, none⟩ = some (.string (S nm))) := Lib.hid fun _ => q0
    clear HFIN HV hW2 hst2 hfin hks c1 f1 e0 HG HFU HIN hci hc2 hl2 hlt1
    have HFAULT : Hid (∀ (W : World) (k : Int), Wkg M W bw vf fs most st2 (fun j => j = bl) → Below bw w W → Ex.note st2 k nm = Ex.doInclude fs most st → ∃ v st1 o, Ending.returned (Value.iface 57 (.pointer (some ⟨W.heap.size, 0, none⟩))) = Ending.returned v ∧ Wk M (W.alloc (.cells #[.string (S nm), .int .i64 k] 59)) bw vf fs most st1 ∧ Er (W.alloc (.cells #[.string (S nm), .int .i64 k] 59)) v o ∧ Below bw w (W.alloc (.cells #[.string (S nm), .int .i64 k] 59)) ∧ Ex.noteO st1 o = Ex.doInclude fs most st) := Lib.hid fun W k h1 h2 h3 => by
      have hba : Below W.heap.size W (W.alloc (.cells #[.string (S nm), .int .i64 k] 59)) := (Below.refl _ _).alloc (Nat.le_refl _) _
      exact ⟨_, st2, some (k, nm), rfl, h1.wk.below hba, ⟨W.heap.size, rfl, heap_alloc_new W _⟩, h2.trans (hba.mono (Nat.le_of_lt h1.wk.lt)), h3⟩
    obtain ⟨on, hon⟩ : ∃ on, on = Fi.okName nm := ⟨_, rfl⟩
    rw [← hon] at HNM
    cases on
    · -- no name
      have HD2 : Hid (Ex.doInclude fs most st = Ex.note st2 2 nm) := Lib.hid (by rw [HD.out]; unfold Ex.incl; rw [if_pos hon.symm])
      clear hon HD
      go_wp2_with (go_at_call 77; (with_reducible refine (HNM.out _).mono ?_); rintro e w9 ⟨rfl, h9⟩; replace h9 := h9.symm; subst h9)
      (try simp only [Exit.inBlock, Exit.then])
      go_ret
      exact HFAULT.out _ _ HK2.out HB2.out HD2.out.symm
    · have HON := Lib.hid hon.symm
      clear hon
      go_upto_region 7 with (go_at_call 77; (with_reducible refine (HNM.out _).mono ?_); rintro e w9 ⟨rfl, h9⟩; replace h9 := h9.symm; subst h9)
      obtain ⟨LR, hLR⟩ : ∃ LR, LR = st2.reads.length := ⟨_, rfl⟩
      obtain ⟨hc, hhc⟩ : ∃ hc, hc = st2.reads.contains nm := ⟨_, rfl⟩
      have hk2 := HK2.out
      obtain ⟨vin, vm, vL, vR, vN, ps, h1, h2, h3⟩ := hk2
      obtain ⟨aR, cR, hvR⟩ := own_shape h2.reads
      subst hvR
      have c6 : ∀ m, (W2.drewN m).cell? ⟨bw, 6, none⟩ = some (.slice aR LR cR) := fun _ => by rw [hLR]; exact h1.cell (i := 6) rfl
      have d0 : ∀ m, (W2.drewN m).cell? ⟨bl, 0, none⟩ = some (.string (S nm)) := fun _ => q0
      have HCT : Hid (∀ W', W'.heap = W2.heap → Calls Tryz.prog 31 #[.slice aR LR cR, .string (S nm)] W' fun e w' => e = .returned (.bool hc) ∧ w' = W') := Lib.hid fun W' hh => by
        rw [hLR, hhc]
        exact containsX_any _ st2.reads nm W' (by have := own_rd h2.reads; exact this.same (Nat.le_of_eq (by rw [hh])) fun b _ _ => by rw [hh]) (by have := hin2.2; omega)
      have hb32 : LR ≤ 32 := by rw [hLR]; exact hin2.2
      have HLR := Lib.hid hLR
      have HHC := Lib.hid hhc
      clear h1 h2 h3 hLR hhc
      go_cut [44] (fun v44 w' => v44 = .bool (decide (32 ≤ LR ∧ hc = false)) ∧ ∃ m, w' = W2.drewN m)
      case first =>
        by_cases hl : 32 ≤ LR
        · have hli : (32 : Int) ≤ (LR : Int) := by omega
          cases hc
          · go_quiet (first | (go_at_call 31; refine Calls.quiet_of_same (HCT.out _ (by rfl))) | fail)
            go_wp2_with fail
            go_meet
            exact ⟨by simp [hl], _, rfl⟩
          · go_quiet (first | (go_at_call 31; refine Calls.quiet_of_same (HCT.out _ (by rfl))) | fail)
            go_wp2_with fail
            go_meet
            exact ⟨by simp, _, rfl⟩
        · have hli : ¬ (32 : Int) ≤ (LR : Int) := by omega
          go_quiet (fail)
          go_wp2_with fail
          go_meet
          exact ⟨by simp [hl], _, rfl⟩
      case rest =>
        obtain ⟨rfl, m3, hm3⟩ := hcut
        rename World => W3
        have b3 : Below W2.heap.size W2 W3 := by rw [hm3]; exact below_drewN (Below.refl _ _) m3
        have HK3 := Lib.hid (HK2.out.below b3)
        have HB3 : Hid (Below bw w W3) := Lib.hid (HB2.out.trans (b3.mono (Nat.le_of_lt HK2.out.wk.lt)))
        have p0 : W3.cell? ⟨bl, 0, none⟩ = some (.string (S nm)) := by rw [hm3]; exact q0
        have HBLN : Hid (bl ≠ bw ∧ bw < bl) := Lib.hid (by have := HLT.out; have := HBL.out.2; omega)
        clear c6 HCT d0 hm3 q0 hkd b3 HK2 HB2
        by_cases hbz : 32 ≤ LR ∧ hc = false
        · have hz : decide (32 ≤ LR ∧ hc = false) = true := by simpa using hbz
          have HD2 : Hid (Ex.doInclude fs most st = Ex.note st2 3 nm) := Lib.hid (by rw [HD.out]; unfold Ex.incl; rw [if_neg (by rw [HON.out]; decide), if_pos (by rw [← HLR.out, ← HHC.out]; exact hbz)])
          rw [hz]
          clear hbz hz HD
          go_wp2_with fail
          (try simp only [Exit.inBlock, Exit.then])
          go_ret
          exact HFAULT.out _ _ HK3.out HB3.out HD2.out.symm
        · have hz : decide (32 ≤ LR ∧ hc = false) = false := by simpa using hbz
          have HNB : Hid (¬ (32 ≤ st2.reads.length ∧ st2.reads.contains nm = false)) := Lib.hid (by rw [← HLR.out, ← HHC.out]; exact hbz)
          rw [hz]
          clear hbz hz HLR HHC hb32 LR hc
          by_cases hf0 : st2.fuel = 0
          · have HD2 : Hid (Ex.doInclude fs most st = Ex.note st2 9 nm) := Lib.hid (by rw [HD.out]; unfold Ex.incl; rw [if_neg (by rw [HON.out]; decide), if_neg HNB.out, if_pos hf0])
            have HBN := Lib.hid (burn_none nm W3 HK3.out.wk hf0)
            clear HD hf0
            go_wp2_with (go_at_call 78; (with_reducible refine HBN.out.mono ?_); rintro e w4 ⟨v, rfl, k4, r4, b4⟩; obtain ⟨bf, hve, hrf⟩ := r4; subst hve)
            (try simp only [Exit.inBlock, Exit.then])
            go_ret
            exact ⟨_, st2, some (9, nm), rfl, k4, ⟨bf, rfl, hrf⟩, HB3.out.trans (b4.mono (Nat.le_of_lt HK3.out.wk.lt)), HD2.out.symm⟩
          · have HD2 : Hid (Ex.doInclude fs most st = if (Fi.get fs nm).2 = false then Ex.note (Ex.ask (Ex.burnt st2) nm) 4 nm else Ex.come most (Ex.ask (Ex.burnt st2) nm) nm (Lx.lex (Fi.get fs nm).1)) := Lib.hid (by rw [HD.out]; unfold Ex.incl; rw [if_neg (by rw [HON.out]; decide), if_neg HNB.out, if_neg hf0])
            have HBN := Lib.hid (burn9_some nm W3 HK3.out hf0 (by omega) (by omega))
            clear HD hf0
            obtain ⟨st3, hst3⟩ : ∃ st3, st3 = Ex.burnt st2 := ⟨_, rfl⟩
            rw [← hst3] at HD2 HBN
            have hin3 : st3.inn.length ≤ 1000000 ∧ st3.reads.length ≤ 32 := by rw [hst3]; exact hin2
            clear hst3
            go_upto_region 12 with (go_at_call 78; (with_reducible refine HBN.out.mono ?_); rintro e w4 ⟨rfl, k4, kw4⟩)
            have p4 : w4.cell? ⟨bl, 0, none⟩ = some (.string (S nm)) := (World.cell?_of_block (kw4.block bl (by obtain ⟨_, _, _, _, _, _, _, _, hx⟩ := HK3.out; exact (hx bl rfl).2) HBLN.out.1)).trans p0
            have HB4 : Hid (Below bw w w4) := Lib.hid (HB3.out.trans (kw4.below (fun j e => by omega) (Nat.le_of_lt HK3.out.wk.lt)))
            have HK4 := Lib.hid k4
            obtain ⟨gt, hgt⟩ : ∃ gt, gt = (Fi.get fs nm).1 := ⟨_, rfl⟩
            obtain ⟨gb, hgb⟩ : ∃ gb, gb = (Fi.get fs nm).2 := ⟨_, rfl⟩
            have HAK := Lib.hid (ask9_any nm w4 k4 HFO.out hfl (by have := hin3.2; omega))
            rw [← hgt, ← hgb] at HAK HD2
            have hgtl : gt.length ≤ T := by rw [hgt]; exact get_len HFT.out nm
            obtain ⟨st4, hst4⟩ : ∃ st4, st4 = Ex.ask st3 nm := ⟨_, rfl⟩
            rw [← hst4] at HAK HD2
            have hin4 : st4.inn.length ≤ 1000000 := by rw [hst4, (Ex.ask_same st3 nm).2.1]; exact hin3.1
            clear hst4 hgt hgb k4 kw4 p0 HBN
            cases gb
            · rw [if_pos rfl] at HD2
              go_upto_region 14 with (go_at_call 14; (with_reducible refine HAK.out.mono ?_); rintro e w5 ⟨rfl, k5, kg5, b5⟩)
              have p5 : w5.cell? ⟨bl, 0, none⟩ = some (.string (S nm)) := (World.cell?_of_block (kg5 bl rfl)).trans p4
              have hba : Below w5.heap.size w5 (w5.alloc (.cells #[.string (S nm), .int .i64 4] 59)) := (Below.refl _ _).alloc (Nat.le_refl _) _
              have HK5 := Lib.hid k5
              have HB5 := Lib.hid b5
              have HBA := Lib.hid hba
              clear k5 kg5 b5 hba
              go_wp2_with fail
              (try simp only [Exit.inBlock, Exit.then])
              go_ret
              exact ⟨_, st4, some (4, nm), rfl, HK5.out.wk.below HBA.out, ⟨w5.heap.size, rfl, heap_alloc_new w5 _⟩, HB4.out.trans (HB5.out.trans (HBA.out.mono (Nat.le_of_lt HK5.out.wk.lt))), HD2.out.symm⟩
            · rw [if_neg (by decide)] at HD2
              go_upto_region 15 with (go_at_call 14; (with_reducible refine HAK.out.mono ?_); rintro e w5 ⟨rfl, k5, kg5, b5⟩)
              have p5 : w5.cell? ⟨bl, 0, none⟩ = some (.string (S nm)) := (World.cell?_of_block (kg5 bl rfl)).trans p4
              have HK5 := Lib.hid k5
              have HB5 : Hid (Below bw w w5) := Lib.hid (HB4.out.trans b5)
              have hbl5 : Hid (bl < w5.heap.size) := Lib.hid (by obtain ⟨_, _, _, _, _, _, _, _, hx⟩ := k5; exact (hx bl rfl).2)
              have HLX := Lib.hid (lex_any gt (by omega) w5.drew)
              have HLL : Hid ((Lx.lex gt).length ≤ 1000000) := Lib.hid (by have := lex_len gt; omega)
              obtain ⟨LX, hLX⟩ : ∃ LX, LX = Lx.lex gt := ⟨_, rfl⟩
              rw [← hLX] at HLX HLL HD2
              clear k5 kg5 b5 p4 HAK hLX
              by_cases hcm : most < LX.length + st4.inn.length
              · have HD3 : Hid (Ex.doInclude fs most st = Ex.note st4 3 nm) := Lib.hid (by rw [HD2.out]; unfold Ex.come; rw [if_pos hcm])
                have HCM := Lib.hid (fun (vl : Value) (W : World) (hk : Wk M W bw vf fs most st4) (hl : Rt W vl LX) => come_none nm LX W hk hl hcm (by have := HLL.out; omega) (by omega))
                clear HD2 hcm
                go_region_held3 (fun w' => w'.cell? ⟨bl, 0, none⟩ = some (.string (S nm)))
                  (first
                    | exact p5
                    | exact p6
                    | exact p7
                    | fail)
                  (first
                    | (go_at_call 16; (with_reducible refine HLX.out.mono ?_); rintro e w6 ⟨v6, rfl, o6, b6⟩; have p6 := (b6.cell (p := ⟨bl, 0, none⟩) hbl5.out).trans p5; have HO6 := Lib.hid o6; have HB6 : Hid (Below w5.heap.size w5 w6) := Lib.hid ⟨b6.1, b6.2, b6.3, b6.4, b6.5⟩; have HK6 := Lib.hid (HK5.out.below HB6.out); have HC6 := Lib.hid (HCM.out v6 w6 HK6.out.wk (own_rd o6)); clear o6 b6)
                    | (go_at_call 79; (with_reducible refine HC6.out.mono ?_); rintro e w7 ⟨v7, rfl, k7, r7, b7⟩; have p7 := (b7.cell (p := ⟨bl, 0, none⟩) (Nat.lt_of_lt_of_le hbl5.out HB6.out.size)).trans p6; obtain ⟨bf, hve, hrf⟩ := r7; subst hve)
                    | fail)
                go_wp2_with fail
                (try simp only [Exit.inBlock, Exit.then])
                go_ret
                exact ⟨_, st4, some (3, nm), rfl, k7, ⟨bf, rfl, hrf⟩, HB5.out.trans ((HB6.out.trans (b7.mono HB6.out.size)).mono (Nat.le_of_lt HK5.out.wk.lt)), HD3.out.symm⟩
              · have HD3 : Hid (Ex.doInclude fs most st = { st4 with inn := LX ++ st4.inn }) := Lib.hid (by rw [HD2.out]; unfold Ex.come; rw [if_neg hcm])
                have HCM := Lib.hid (fun (vl : Value) (W : World) (hk : Wk M W bw vf fs most st4) (hl : Rt W vl LX) => come_some nm LX W hk hl hcm (by omega))
                clear HD2 hcm
                go_region_held3 (fun w' => w'.cell? ⟨bl, 0, none⟩ = some (.string (S nm)))
                  (first
                    | exact p5
                    | exact p6
                    | exact p7
                    | fail)
                  (first
                    | (go_at_call 16; (with_reducible refine HLX.out.mono ?_); rintro e w6 ⟨v6, rfl, o6, b6⟩; have p6 := (b6.cell (p := ⟨bl, 0, none⟩) hbl5.out).trans p5; have HO6 := Lib.hid o6; have HB6 : Hid (Below w5.heap.size w5 w6) := Lib.hid ⟨b6.1, b6.2, b6.3, b6.4, b6.5⟩; have HK6 := Lib.hid (HK5.out.below HB6.out); have HC6 := Lib.hid (HCM.out v6 w6 HK6.out.wk (own_rd o6)); clear o6 b6)
                    | (go_at_call 79; (with_reducible refine HC6.out.mono ?_); rintro e w7 ⟨rfl, k7, b7, n7⟩; have p7 := (World.cell?_of_block (n7 bl (Nat.lt_of_lt_of_le hbl5.out HB6.out.size) HBLN.out.1)).trans p6)
                    | fail)
                go_wp2_with fail
                (try simp only [Exit.inBlock, Exit.then])
                go_ret
                exact ⟨_, { st4 with inn := LX ++ st4.inn }, none, rfl, k7, rfl, HB5.out.trans ((HB6.out.mono (Nat.le_of_lt HK5.out.wk.lt)).trans b7), HD3.out.symm⟩
end Go.Proofs.YtjfikkjaifdkiaaGreatDoor

namespace Go.Proofs.YtjfikkjaifdkiaaGreatDoor
open Go.RowKit

/-- What stands behind so many, read. -/
theorem Wk.tail {w : World} {M : List (Nat × Obj)} {bw : Nat} {vf : Value} {fs : List Fl} {most : Nat} {st : Ex.St} (h : Wk M w bw vf fs most st) (h0 : 0 < st.inn.length) {tq : Nat} (htq : tq ≤ st.inn.length) :
    ∃ b o ci, w.cell? ⟨bw, 1, none⟩ = some (.slice (some ⟨b, o, none⟩) st.inn.length ci) ∧ w.frozen? ⟨bw, 1, none⟩ = false ∧ st.inn.length ≤ ci ∧
      Rt w (.slice (if ci = tq then some ⟨b, o, none⟩ else some ⟨b, o + tq * 2, none⟩) (st.inn.length - tq) (ci - tq)) (st.inn.drop tq) := by
  obtain ⟨vin, vm, vL, vR, vN, ps, h1, h2⟩ := h
  rcases h2.inn.2 with ⟨_, h9⟩ | ⟨b, o, ci, hv, hlt, hc, hcap⟩
  · omega
  · subst hv
    refine ⟨b, o, ci, h1.cell (i := 1) rfl, h1.free 1, hcap, ?_⟩
    by_cases hct : ci = tq
    · rw [if_pos hct]
      have hlen : st.inn.length - tq = 0 := by omega
      have hdr : st.inn.drop tq = [] := List.drop_eq_nil_of_le (by omega)
      rw [hdr, hlen]
      exact ⟨rfl, .inl ⟨.inr ⟨_, _, rfl⟩, rfl⟩⟩
    · rw [if_neg hct]
      have hr := Rt.part h2.inn rfl htq (Nat.le_refl _) (ci - tq) (by omega)
      rw [List.take_length] at hr
      exact hr

set_option maxRecDepth 20000 in
set_option maxHeartbeats 4000000 in
/-- 'ifdef'. -/
theorem ifdef_any {M : List (Nat × Obj)} {bw B T : Nat} {vf : Value} {fs : List Fl} {most : Nat} {st : Ex.St} (w : World) (h : Wk M w bw vf fs most st) (hok : Ex.Ok most B T st) (hB : B ≤ 1000000) :
    Calls Tryz.prog 37 #[.pointer (some ⟨bw, 0, none⟩), .string (S Ex.sIfdef)] w fun e w' => ∃ v st1 o, e = .returned v ∧ Wk M w' bw vf fs most st1 ∧ Er w' v o ∧ Below bw w w' ∧ Ex.noteO st1 o = Ex.doIfdef st := by
  have HG := Lib.hid (groups_at Ex.sIfdef 3 1 1 w h (by have := hok.inl; omega) (by decide) rfl)
  have HLT := Lib.hid h.lt
  have HOK := Lib.hid hok
  clear h hok
  cases hgr : Ex.gr st.inn 3 1 with
  | none =>
    have HD : Hid (Ex.doIfdef st = Ex.note st 10 Ex.sIfdef) := Lib.hid (by unfold Ex.doIfdef; rw [hgr])
    rw [hgr] at HG
    clear hgr
    go_enter Tryz.func37, Tryz.ntmps37
    go_wp2_with (go_at_call 73; (with_reducible refine HG.out.mono ?_); rintro e w1 ⟨vx, vl, ve, tz, rfl, k1, b1, r1⟩; obtain ⟨bf, hve, hrf⟩ := r1; subst hve)
    go_ret
    exact ⟨_, st, some (10, Ex.sIfdef), rfl, k1, ⟨bf, rfl, hrf⟩, b1.mono (Nat.le_of_lt HLT.out), HD.out.symm⟩
  | some y =>
    obtain ⟨x, ws, r⟩ := y
    obtain ⟨tq, hr, htq, hx, hin, hws, _, _, hw⟩ := Ex.gr_some hgr
    have HD : Hid (Ex.doIfdef st = { st with inn := (if (getM st.macs (ws.getD 0 [])).2 = true then x.getD 1 [] else x.getD 2 []) ++ r }) := Lib.hid (by unfold Ex.doIfdef; rw [hgr])
    rw [hgr] at HG
    clear hgr
    go_enter Tryz.func37, Tryz.ntmps37
    go_upto_region 4 with (go_at_call 73; (with_reducible refine HG.out.mono ?_); rintro e w1 ⟨vx, vl, ve, tz, rfl, k1, b1, r1⟩; obtain ⟨hve, rx, rl, tq2, htz, htl, hr2⟩ := r1; subst hve)
    have hw2 : ws.length = 1 := by rw [hws]; rfl
    have hx3 : x.length = 3 := by rw [hx]; rfl
    have HXB : Hid (∀ g ∈ x, g.length ≤ 1000000) := Lib.hid fun g hg => by have := (hin g hg).1; have := HOK.out.inl; omega
    have hi0 : 0 < st.inn.length := by
      have h5 : 0 < x.length := by omega
      have := (hin _ (List.getElem_mem h5)).1
      omega
    have HK1 := Lib.hid k1
    have HB1 := Lib.hid b1
    have HI0 := Lib.hid hi0
    have HTL := Lib.hid htl
    have HR2 := Lib.hid hr2
    obtain ⟨bl, cl, hvl, hname, hbl, hcl, hBl⟩ := words_first rl (by omega)
    rw [hw2] at hvl hcl
    subst hvl
    obtain ⟨ax, cx, hvx⟩ := rx.shape
    rw [hx3] at hvx
    subst hvx
    obtain ⟨bx, v1, hax, e1, rb1, hbx, hBx, hcx, hf1⟩ := rx.at9 (i := 1) (by omega)
    subst hax
    obtain ⟨bx9, v2, hax, e2, rb2, _, _, _, hf2⟩ := rx.at9 (i := 2) (by omega)
    cases hax
    obtain ⟨nm, hnm⟩ : ∃ nm, nm = ws.getD 0 [] := ⟨_, rfl⟩
    obtain ⟨g1, hg1⟩ : ∃ g, g = x.getD 1 [] := ⟨_, rfl⟩
    obtain ⟨g2, hg2⟩ : ∃ g, g = x.getD 2 [] := ⟨_, rfl⟩
    have e0 := hname 0 (by omega)
    rw [← hnm] at e0 HD
    have hgl1 : g1.length ≤ 1000000 := HXB.out g1 (by rw [hg1, List.getD_eq_getElem?_getD, List.getElem?_eq_getElem (by omega : 1 < x.length)]; exact List.getElem_mem _)
    have hgl2 : g2.length ≤ 1000000 := HXB.out g2 (by rw [hg2, List.getD_eq_getElem?_getD, List.getElem?_eq_getElem (by omega : 2 < x.length)]; exact List.getElem_mem _)
    rw [← hg1] at rb1 HD
    rw [← hg2] at rb2 HD
    obtain ⟨ab1, cb1, hvb⟩ := rb1.shape
    subst hvb
    obtain ⟨ab2, cb2, hvb⟩ := rb2.shape
    subst hvb
    have HRB1 := Lib.hid rb1
    have HRB2 := Lib.hid rb2
    have HGL := Lib.hid (And.intro hgl1 hgl2)
    have HE1 := Lib.hid e1
    have HE2 := Lib.hid e2
    have HBX0 := Lib.hid hbx
    have hcl2 : (1 : Int) ≤ (cl : Int) := by omega
    have hcx3 : (3 : Int) ≤ (cx : Int) := by omega
    obtain ⟨mb, hmb⟩ : ∃ mb, mb = (getM st.macs nm).2 := ⟨_, rfl⟩
    obtain ⟨mm, hmm⟩ : ∃ mm, mm = (getM st.macs nm).1 := ⟨_, rfl⟩
    rw [← hmb] at HD
    have hk1 := k1
    obtain ⟨vin, vm, vL, vR, vN, ps, h1, h2⟩ := hk1
    have HM : Hid (∀ W', Below w1.heap.size w1 W' → Calls Tryz.prog 39 #[vm, .string (S nm)] W' fun e w' => ∃ bv, e = .returned (.tuple #[.agg #[.string (S mm.1), .int .i64 mm.2.1, bv], .bool mb]) ∧ Rt w' bv mm.2.2 ∧ Below W'.heap.size W' w') := Lib.hid (fun W' hb => by
      have h9 := get_any vm ps nm W' (h2.below hb).macs (by have := HOK.out.mln; rw [← h2.fst, List.length_map] at this; omega) (by have := HOK.out.srt; rw [← h2.fst, List.map_map] at this; exact this)
      rw [h2.fst, ← hmb, ← hmm] at h9
      exact h9)
    have c2 := h1.cell (i := 2) rfl
    have HLT1 := Lib.hid k1.lt
    have HKP : Hid (∀ W', Below w1.heap.size w1 W' → W'.cell? ⟨bw, 2, none⟩ = some vm ∧ W'.cell? ⟨bl, 0, none⟩ = some (.string (S nm))) := Lib.hid fun W' hb => ⟨(hb.cell (p := ⟨bw, 2, none⟩) HLT1.out).trans c2, (hb.cell (p := ⟨bl, 0, none⟩) hbl).trans e0⟩
    clear hw2 hx3 hi0 htl hr2 rx rl rb1 rb2 hname hnm hg1 hg2 hin hws hw k1 b1 hx hr htq e1 e2 hf1 hf2 hmb hmm h1 h2 hgl1 hgl2 HG c2 e0
    have HS3 : Hid (∀ (W' : World) (n : Nat) (u1 u2 u3 : Value), Below w1.heap.size w1 W' → w1.heap.size ≤ n → Below w1.heap.size w1 (((W'.setCell ⟨n, 0, none⟩ u1).setCell ⟨n, 1, none⟩ u2).setCell ⟨n, 2, none⟩ u3)) := Lib.hid fun W' n u1 u2 u3 hb hn => by
      have a1 := hb.trans ((Kw.set W' n 0 u1).below (fun j e => by omega) hb.size)
      have a2 := a1.trans ((Kw.set _ n 1 u2).below (fun j e => by omega) a1.size)
      exact a2.trans ((Kw.set _ n 2 u3).below (fun j e => by omega) a2.size)
    obtain ⟨d2, d0⟩ := HKP.out _ (below_drewN (Below.refl w1.heap.size w1) 1)
    have bdr : Below w1.heap.size w1 w1.drew := below_drewN (Below.refl w1.heap.size w1) 1
    have ba : Below w1.heap.size w1 (w1.alloc (.cells #[.string (S []), .int .i64 0, .slice none 0 0] 96)).drew := below_drewN ((Below.refl _ _).alloc (Nat.le_refl _) _) 1
    have gm1 : (w1.alloc (.cells #[.string (S []), .int .i64 0, .slice none 0 0] 96)).drew.heap[w1.heap.size]? = some (.cells #[.string (S []), .int .i64 0, .slice none 0 0] 96 (0, 0)) := heap_alloc_new w1 _
    go_cut [9, 10] (fun v9 v10 w' => v10 = .bool mb ∧ Hid (Below w1.heap.size w1 w'))
    case first =>
      go_region_held3 (fun w' => w'.cell? ⟨bw, 2, none⟩ = some vm ∧ w'.cell? ⟨bl, 0, none⟩ = some (.string (S nm)))
        (first
          | exact HKP.out _ (Below.refl _ _)
          | exact HKP.out _ (below_drewN (Below.refl w1.heap.size w1) 1)
          | exact HKP.out _ b2
          | exact HKP.out _ (b2.alloc b2.size _)
          | exact HKP.out _ ba
          | exact HKP.out _ (HS3.out _ _ _ _ _ b2 (Nat.le_refl _))
          | exact HKP.out _ (HS3.out _ _ _ _ _ (b2.alloc b2.size _) b2.size)
          | go_keep
          | fail)
        (first
          | (go_at_call 39; (with_reducible refine (HM.out _ ba).mono ?_); rintro e w2 ⟨bv, rfl, rbv, b29⟩; have b2 := ba.trans (b29.mono ba.size); obtain ⟨abv, cbv, hbv⟩ := rbv.shape; subst hbv; have gm2 := (b29.block _ (row_lt gm1)).trans gm1; have q2 := b29.size; have z0 : w2.cell? ⟨w1.heap.size, 0, none⟩ = some (.string (S [])) := row_cell gm2 0; have z1 : w2.cell? ⟨w1.heap.size, 1, none⟩ = some (.int .i64 0) := row_cell gm2 1; have z2 : w2.cell? ⟨w1.heap.size, 2, none⟩ = some (.slice none 0 0) := row_cell gm2 2; have f0 := row_free gm2 0; have f1 := row_free gm2 1; have f2 := row_free gm2 2)
          | (go_at_call 39; (with_reducible refine (HM.out w1.drew bdr).mono ?_); rintro e w2 ⟨bv, rfl, rbv, b29⟩; have b2 := bdr.trans (b29.mono bdr.size); obtain ⟨abv, cbv, hbv⟩ := rbv.shape; subst hbv; have q2 := b2.size; have gm3 := heap_alloc_new w2 (.cells #[.string (S []), .int .i64 0, .slice none 0 0] 96); have z0 : (w2.alloc (.cells #[.string (S []), .int .i64 0, .slice none 0 0] 96)).cell? ⟨w2.heap.size, 0, none⟩ = some (.string (S [])) := row_cell gm3 0; have z1 : (w2.alloc (.cells #[.string (S []), .int .i64 0, .slice none 0 0] 96)).cell? ⟨w2.heap.size, 1, none⟩ = some (.int .i64 0) := row_cell gm3 1; have z2 : (w2.alloc (.cells #[.string (S []), .int .i64 0, .slice none 0 0] 96)).cell? ⟨w2.heap.size, 2, none⟩ = some (.slice none 0 0) := row_cell gm3 2; have f0 := row_free gm3 0; have f1 := row_free gm3 1; have f2 := row_free gm3 2)
          | fail)
      all_goals (try go_wp2_with fail)
      all_goals (go_meet; first | exact ⟨rfl, Lib.hid (HS3.out _ _ _ _ _ b2 (Nat.le_refl _))⟩ | exact ⟨rfl, Lib.hid (b2.alloc b2.size _)⟩)
    case rest =>
      obtain ⟨rfl, HB3⟩ := hcut
      rename World => W3
      clear HM HKP HS3 d2 d0 gm1 ba bdr
      have HK3 := Lib.hid (HK1.out.below HB3.out)
      have HBW3 : Hid (Below bw w W3) := Lib.hid ((HB1.out.trans (HB3.out.mono HB1.out.size)).mono (Nat.le_of_lt HLT.out))
      have e1 := (HB3.out.cell (p := ⟨bx, 1, none⟩) HBX0.out).trans HE1.out
      have e2 := (HB3.out.cell (p := ⟨bx, 2, none⟩) HBX0.out).trans HE2.out
      have HRB1 := Lib.hid (HRB1.out.below' HB3.out)
      have HRB2 := Lib.hid (HRB2.out.below' HB3.out)
      obtain ⟨b, o, ci, c1, f1, hci, hrt⟩ := HK3.out.tail HI0.out HTL.out
      obtain ⟨LI, hLI⟩ : ∃ LI, LI = st.inn.length := ⟨_, rfl⟩
      have htl := HTL.out
      rw [← hLI] at c1 hci htl hrt
      rw [← HR2.out] at hrt
      have hl2 : (tq2 : Int) ≤ (LI : Int) := by omega
      have hc2 : (LI : Int) ≤ (ci : Int) := by omega
      have HRLEN : Hid (r.length ≤ 1000000) := Lib.hid (by rw [HR2.out, List.length_drop]; have := HOK.out.inl; omega)
      have HRT := Lib.hid hrt
      clear hLI hrt
      cases mb
      · by_cases hct : ci = tq2
        · obtain rfl : tq2 = ci := hct.symm
          obtain rfl : tq2 = LI := by omega
          have HRT2 : Hid (Rt W3 (.slice (some ⟨b, o, none⟩) 0 0) r) := Lib.hid (by have := HRT.out; rw [if_pos rfl, Nat.sub_self] at this; exact this)
          have hr := rts_two W3 (u1 := .slice ab2 g2.length cb2) (u2 := .slice (some ⟨b, o, none⟩) 0 0) (l1 := g2) (l2 := r) 27 HRB2.out HRT2.out
          obtain ⟨LL, hLL⟩ : ∃ LL, LL = g2 ++ r := ⟨_, rfl⟩
          have hC := concat_any _ [g2, r] _ hr (by simp) (by intro q hq; simp at hq; rcases hq with rfl | rfl; exact HGL.out.2; exact HRLEN.out)
          rw [show [g2, r].flatten = LL by rw [hLL]; simp] at hC
          have HC := Lib.hid hC
          have HLE := Lib.hid hLL
          clear hC hLL
          have hba : Below W3.heap.size W3 (W3.alloc (.cells #[.slice ab2 g2.length cb2, .slice (some ⟨b, o, none⟩) 0 0] 27)) := (Below.refl _ _).alloc (Nat.le_refl _) _
          have HBA := Lib.hid hba
          have HK4 := Lib.hid (HK3.out.below hba)
          have hlt4 := HK4.out.lt
          clear hr hba
          go_wp2_with (first
            | (go_at_call 76
               (with_reducible refine HC.out.mono ?_)
               rintro e w5 ⟨v5, rfl, o5, b5⟩
               have HO5 := Lib.hid o5
               have HB5 := Lib.hid b5
               obtain ⟨vin9, vm9, vL9, vR9, vN9, ps9, h19, h29⟩ := HK4.out
               have HX9 := Lib.hid (h19.kw (Kw.of_below b5) (by omega))
               have HS9 := Lib.hid (h29.below b5)
               have HS8 := Lib.hid h29
               obtain ⟨a5, c5, hv5⟩ := own_shape o5
               subst hv5
               have k1 := HX9.out.cell (i := 1) rfl
               have kf := HX9.out.free 1
               clear o5 b5 h19 h29)
            | fail)
          (try simp only [Exit.inBlock, Exit.then])
          go_ret
          have h8 := HBW3.out.trans ((HBA.out.trans (HB5.out.mono HBA.out.size)).mono (Nat.le_of_lt HK3.out.lt))
          refine ⟨.nilIface, { st with inn := LL }, none, rfl, ⟨_, vm9, vL9, vR9, vN9, ps9, HX9.out.set 1 _, (HS9.out.setIn (l := LL) (own_rd HO5.out) (fun _ b hb => ?_)).set 1 _⟩, rfl, ?_, by rw [HLE.out]; exact HD.out.symm⟩
          · have h9 := HO5.out.lt b hb
            exact ⟨h9.2, fun hx => HS8.out.fresh hlt4 h9.1 hx⟩
          · exact h8.trans ((Kw.set w5 bw 1 _).below (fun j e => by omega) (Nat.le_trans (Nat.le_of_lt HLT.out) h8.size))
        · have hct2 : ¬ (ci : Int) = (tq2 : Int) := by omega
          have HRT2 : Hid (Rt W3 (.slice (some ⟨b, o + tq2 * 2, none⟩) (LI - tq2) (ci - tq2)) r) := Lib.hid (by have := HRT.out; rw [if_neg hct] at this; exact this)
          have hr := rts_two W3 (u1 := .slice ab2 g2.length cb2) (u2 := .slice (some ⟨b, o + tq2 * 2, none⟩) (LI - tq2) (ci - tq2)) (l1 := g2) (l2 := r) 27 HRB2.out HRT2.out
          obtain ⟨LL, hLL⟩ : ∃ LL, LL = g2 ++ r := ⟨_, rfl⟩
          have hC := concat_any _ [g2, r] _ hr (by simp) (by intro q hq; simp at hq; rcases hq with rfl | rfl; exact HGL.out.2; exact HRLEN.out)
          rw [show [g2, r].flatten = LL by rw [hLL]; simp] at hC
          have HC := Lib.hid hC
          have HLE := Lib.hid hLL
          clear hC hLL
          have hba : Below W3.heap.size W3 (W3.alloc (.cells #[.slice ab2 g2.length cb2, .slice (some ⟨b, o + tq2 * 2, none⟩) (LI - tq2) (ci - tq2)] 27)) := (Below.refl _ _).alloc (Nat.le_refl _) _
          have HBA := Lib.hid hba
          have HK4 := Lib.hid (HK3.out.below hba)
          have hlt4 := HK4.out.lt
          clear hr hba
          go_wp2_with (first
            | (go_at_call 76
               (with_reducible refine HC.out.mono ?_)
               rintro e w5 ⟨v5, rfl, o5, b5⟩
               have HO5 := Lib.hid o5
               have HB5 := Lib.hid b5
               obtain ⟨vin9, vm9, vL9, vR9, vN9, ps9, h19, h29⟩ := HK4.out
               have HX9 := Lib.hid (h19.kw (Kw.of_below b5) (by omega))
               have HS9 := Lib.hid (h29.below b5)
               have HS8 := Lib.hid h29
               obtain ⟨a5, c5, hv5⟩ := own_shape o5
               subst hv5
               have k1 := HX9.out.cell (i := 1) rfl
               have kf := HX9.out.free 1
               clear o5 b5 h19 h29)
            | fail)
          (try simp only [Exit.inBlock, Exit.then])
          go_ret
          have h8 := HBW3.out.trans ((HBA.out.trans (HB5.out.mono HBA.out.size)).mono (Nat.le_of_lt HK3.out.lt))
          refine ⟨.nilIface, { st with inn := LL }, none, rfl, ⟨_, vm9, vL9, vR9, vN9, ps9, HX9.out.set 1 _, (HS9.out.setIn (l := LL) (own_rd HO5.out) (fun _ b hb => ?_)).set 1 _⟩, rfl, ?_, by rw [HLE.out]; exact HD.out.symm⟩
          · have h9 := HO5.out.lt b hb
            exact ⟨h9.2, fun hx => HS8.out.fresh hlt4 h9.1 hx⟩
          · exact h8.trans ((Kw.set w5 bw 1 _).below (fun j e => by omega) (Nat.le_trans (Nat.le_of_lt HLT.out) h8.size))
      · by_cases hct : ci = tq2
        · obtain rfl : tq2 = ci := hct.symm
          obtain rfl : tq2 = LI := by omega
          have HRT2 : Hid (Rt W3 (.slice (some ⟨b, o, none⟩) 0 0) r) := Lib.hid (by have := HRT.out; rw [if_pos rfl, Nat.sub_self] at this; exact this)
          have hr := rts_two W3 (u1 := .slice ab1 g1.length cb1) (u2 := .slice (some ⟨b, o, none⟩) 0 0) (l1 := g1) (l2 := r) 27 HRB1.out HRT2.out
          obtain ⟨LL, hLL⟩ : ∃ LL, LL = g1 ++ r := ⟨_, rfl⟩
          have hC := concat_any _ [g1, r] _ hr (by simp) (by intro q hq; simp at hq; rcases hq with rfl | rfl; exact HGL.out.1; exact HRLEN.out)
          rw [show [g1, r].flatten = LL by rw [hLL]; simp] at hC
          have HC := Lib.hid hC
          have HLE := Lib.hid hLL
          clear hC hLL
          have hba : Below W3.heap.size W3 (W3.alloc (.cells #[.slice ab1 g1.length cb1, .slice (some ⟨b, o, none⟩) 0 0] 27)) := (Below.refl _ _).alloc (Nat.le_refl _) _
          have HBA := Lib.hid hba
          have HK4 := Lib.hid (HK3.out.below hba)
          have hlt4 := HK4.out.lt
          clear hr hba
          go_wp2_with (first
            | (go_at_call 76
               (with_reducible refine HC.out.mono ?_)
               rintro e w5 ⟨v5, rfl, o5, b5⟩
               have HO5 := Lib.hid o5
               have HB5 := Lib.hid b5
               obtain ⟨vin9, vm9, vL9, vR9, vN9, ps9, h19, h29⟩ := HK4.out
               have HX9 := Lib.hid (h19.kw (Kw.of_below b5) (by omega))
               have HS9 := Lib.hid (h29.below b5)
               have HS8 := Lib.hid h29
               obtain ⟨a5, c5, hv5⟩ := own_shape o5
               subst hv5
               have k1 := HX9.out.cell (i := 1) rfl
               have kf := HX9.out.free 1
               clear o5 b5 h19 h29)
            | fail)
          (try simp only [Exit.inBlock, Exit.then])
          go_ret
          have h8 := HBW3.out.trans ((HBA.out.trans (HB5.out.mono HBA.out.size)).mono (Nat.le_of_lt HK3.out.lt))
          refine ⟨.nilIface, { st with inn := LL }, none, rfl, ⟨_, vm9, vL9, vR9, vN9, ps9, HX9.out.set 1 _, (HS9.out.setIn (l := LL) (own_rd HO5.out) (fun _ b hb => ?_)).set 1 _⟩, rfl, ?_, by rw [HLE.out]; exact HD.out.symm⟩
          · have h9 := HO5.out.lt b hb
            exact ⟨h9.2, fun hx => HS8.out.fresh hlt4 h9.1 hx⟩
          · exact h8.trans ((Kw.set w5 bw 1 _).below (fun j e => by omega) (Nat.le_trans (Nat.le_of_lt HLT.out) h8.size))
        · have hct2 : ¬ (ci : Int) = (tq2 : Int) := by omega
          have HRT2 : Hid (Rt W3 (.slice (some ⟨b, o + tq2 * 2, none⟩) (LI - tq2) (ci - tq2)) r) := Lib.hid (by have := HRT.out; rw [if_neg hct] at this; exact this)
          have hr := rts_two W3 (u1 := .slice ab1 g1.length cb1) (u2 := .slice (some ⟨b, o + tq2 * 2, none⟩) (LI - tq2) (ci - tq2)) (l1 := g1) (l2 := r) 27 HRB1.out HRT2.out
          obtain ⟨LL, hLL⟩ : ∃ LL, LL = g1 ++ r := ⟨_, rfl⟩
          have hC := concat_any _ [g1, r] _ hr (by simp) (by intro q hq; simp at hq; rcases hq with rfl | rfl; exact HGL.out.1; exact HRLEN.out)
          rw [show [g1, r].flatten = LL by rw [hLL]; simp] at hC
          have HC := Lib.hid hC
          have HLE := Lib.hid hLL
          clear hC hLL
          have hba : Below W3.heap.size W3 (W3.alloc (.cells #[.slice ab1 g1.length cb1, .slice (some ⟨b, o + tq2 * 2, none⟩) (LI - tq2) (ci - tq2)] 27)) := (Below.refl _ _).alloc (Nat.le_refl _) _
          have HBA := Lib.hid hba
          have HK4 := Lib.hid (HK3.out.below hba)
          have hlt4 := HK4.out.lt
          clear hr hba
          go_wp2_with (first
            | (go_at_call 76
               (with_reducible refine HC.out.mono ?_)
               rintro e w5 ⟨v5, rfl, o5, b5⟩
               have HO5 := Lib.hid o5
               have HB5 := Lib.hid b5
               obtain ⟨vin9, vm9, vL9, vR9, vN9, ps9, h19, h29⟩ := HK4.out
               have HX9 := Lib.hid (h19.kw (Kw.of_below b5) (by omega))
               have HS9 := Lib.hid (h29.below b5)
               have HS8 := Lib.hid h29
               obtain ⟨a5, c5, hv5⟩ := own_shape o5
               subst hv5
               have k1 := HX9.out.cell (i := 1) rfl
               have kf := HX9.out.free 1
               clear o5 b5 h19 h29)
            | fail)
          (try simp only [Exit.inBlock, Exit.then])
          go_ret
          have h8 := HBW3.out.trans ((HBA.out.trans (HB5.out.mono HBA.out.size)).mono (Nat.le_of_lt HK3.out.lt))
          refine ⟨.nilIface, { st with inn := LL }, none, rfl, ⟨_, vm9, vL9, vR9, vN9, ps9, HX9.out.set 1 _, (HS9.out.setIn (l := LL) (own_rd HO5.out) (fun _ b hb => ?_)).set 1 _⟩, rfl, ?_, by rw [HLE.out]; exact HD.out.symm⟩
          · have h9 := HO5.out.lt b hb
            exact ⟨h9.2, fun hx => HS8.out.fresh hlt4 h9.1 hx⟩
          · exact h8.trans ((Kw.set w5 bw 1 _).below (fun j e => by omega) (Nat.le_trans (Nat.le_of_lt HLT.out) h8.size))
end Go.Proofs.YtjfikkjaifdkiaaGreatDoor

namespace Go.Proofs.YtjfikkjaifdkiaaGreatDoor
open Go.RowKit

theorem less_one (a b : UInt8) : Op.bytesLess [a] [b] = decide (a < b) := by
  rw [Op.bytesLess]
  by_cases h : a < b <;> simp [h, Op.bytesLess]
/-- One digit, or not. -/
theorem okd_no {d : List UInt8} (h : Ex.okd d = false) : d.length ≠ 1 ∨ ∃ c, d = [c] ∧ (Op.bytesLess [c] [48] = true ∨ Op.bytesLess [c] [48] = false ∧ (!Op.bytesLess [c] [57] && !c == 57) = true) := by
  match d, h with
  | [], _ => exact .inl (by simp)
  | [c], h =>
    refine .inr ⟨c, rfl, ?_⟩
    rw [less_one, less_one]
    simp only [Ex.okd, Bool.and_eq_false_iff, decide_eq_false_iff_not] at h
    have e1 : (48 : UInt8).toNat = 48 := rfl
    have e2 : (57 : UInt8).toNat = 57 := rfl
    simp only [UInt8.lt_iff_toNat_lt, e1, e2, decide_eq_true_eq, decide_eq_false_iff_not, Bool.and_eq_true, Bool.not_eq_true', beq_eq_false_iff_ne, ne_eq]
    by_cases h3 : c.toNat < 48
    · exact .inl h3
    · refine .inr ⟨h3, by omega, fun e => ?_⟩
      rw [e, e2] at h
      omega
  | _ :: _ :: _, _ => exact .inl (by simp)
theorem okd_yes {d : List UInt8} (h : Ex.okd d = true) : ∃ c : UInt8, d = [c] ∧ 48 ≤ c.toNat ∧ c.toNat ≤ 57 ∧ Op.bytesLess [c] [48] = false ∧ (!Op.bytesLess [c] [57] && !c == 57) = false := by
  match d, h with
  | [c], h =>
    simp only [Ex.okd, Bool.and_eq_true, decide_eq_true_eq] at h
    have e1 : (48 : UInt8).toNat = 48 := rfl
    have e2 : (57 : UInt8).toNat = 57 := rfl
    refine ⟨c, rfl, h.1, h.2, ?_, ?_⟩
    · rw [less_one, decide_eq_false_iff_not, UInt8.lt_iff_toNat_lt, e1]
      omega
    · rw [less_one]
      by_cases h3 : c = 57
      · subst h3; decide
      · have : c.toNat ≠ 57 := fun e => h3 (UInt8.toNat_inj.1 (e.trans e2.symm))
        have h4 : c < 57 := by rw [UInt8.lt_iff_toNat_lt, e2]; omega
        simp [h4]
  | [], h => cases h
  | _ :: _ :: _, h => cases h

set_option maxRecDepth 20000 in
set_option maxHeartbeats 4000000 in
/-- 'def'. -/
theorem def_any {M : List (Nat × Obj)} {bw B T : Nat} {vf : Value} {fs : List Fl} {most : Nat} {st : Ex.St} (w : World) (h : Wk M w bw vf fs most st) (hok : Ex.Ok most B T st) (hB : B ≤ 1000000) (hT : T ≤ 1000000) :
    Calls Tryz.prog 35 #[.pointer (some ⟨bw, 0, none⟩), .string (S Ex.sDef)] w fun e w' => ∃ v st1 o, e = .returned v ∧ Wk M w' bw vf fs most st1 ∧ Er w' v o ∧ Below bw w w' ∧ Ex.noteO st1 o = Ex.doDef st := by
  have HG := Lib.hid (groups_at Ex.sDef 3 2 2 w h (by have := hok.inl; omega) (by decide) rfl)
  have HLT := Lib.hid h.lt
  have HOK := Lib.hid hok
  clear h hok
  cases hgr : Ex.gr st.inn 3 2 with
  | none =>
    have HD : Hid (Ex.doDef st = Ex.note st 10 Ex.sDef) := Lib.hid (by unfold Ex.doDef; rw [hgr])
    rw [hgr] at HG
    clear hgr
    go_enter Tryz.func35, Tryz.ntmps35
    go_wp2_with (go_at_call 73; (with_reducible refine HG.out.mono ?_); rintro e w1 ⟨vx, vl, ve, tz, rfl, k1, b1, r1⟩; obtain ⟨bf, hve, hrf⟩ := r1; subst hve)
    go_ret
    exact ⟨_, st, some (10, Ex.sDef), rfl, k1, ⟨bf, rfl, hrf⟩, b1.mono (Nat.le_of_lt HLT.out), HD.out.symm⟩
  | some y =>
    obtain ⟨x, ws, r⟩ := y
    obtain ⟨tq, hr, htq, hx, hin, hws, _, _, hw⟩ := Ex.gr_some hgr
    have HD : Hid (Ex.doDef st = if Ex.okd (ws.getD 1 []) = true then
      if (putM st.macs (ws.getD 0 [], Ex.digit (ws.getD 1 []), x.getD 2 [])).2 = 0 then { st with inn := r, macs := (putM st.macs (ws.getD 0 [], Ex.digit (ws.getD 1 []), x.getD 2 [])).1 }
      else Ex.note { st with inn := r } (putM st.macs (ws.getD 0 [], Ex.digit (ws.getD 1 []), x.getD 2 [])).2 (ws.getD 0 [])
    else Ex.note st 10 Ex.sDef) := Lib.hid (by unfold Ex.doDef; rw [hgr])
    rw [hgr] at HG
    clear hgr
    go_enter Tryz.func35, Tryz.ntmps35
    go_upto_region 4 with (go_at_call 73; (with_reducible refine HG.out.mono ?_); rintro e w1 ⟨vx, vl, ve, tz, rfl, k1, b1, r1⟩; obtain ⟨hve, rx, rl, tq2, htz, htl, hr2⟩ := r1; subst hve)
    have hw2 : ws.length = 2 := by rw [hws]; rfl
    have hx3 : x.length = 3 := by rw [hx]; rfl
    have HTS : Hid ((∀ s ∈ ws, s.length ≤ T) ∧ ∀ g ∈ x, g.length ≤ B) := Lib.hid ⟨fun s hs => by obtain ⟨t, ht, rfl⟩ := hw s hs; exact HOK.out.int t ht, fun g hg => by have := (hin g hg).1; have := HOK.out.inl; omega⟩
    have hi0 : 0 < st.inn.length := by
      have h5 : 0 < x.length := by omega
      have := (hin _ (List.getElem_mem h5)).1
      omega
    have HK1 := Lib.hid k1
    have HB1 := Lib.hid b1
    obtain ⟨b, o, ci, c1, f1, hci, hfin⟩ := k1.rest hi0 htl
    obtain ⟨LI, hLI⟩ : ∃ LI, LI = st.inn.length := ⟨_, rfl⟩
    rw [← hLI] at c1 hci hfin htl
    rw [← hr2] at hfin
    have hl2 : (tq2 : Int) ≤ (LI : Int) := by omega
    have hc2 : (LI : Int) ≤ (ci : Int) := by omega
    obtain ⟨vi2, hvi2⟩ : ∃ v, v = Value.slice (if ci = tq2 then some ⟨b, o, none⟩ else some ⟨b, o + tq2 * 2, none⟩) (LI - tq2) (ci - tq2) := ⟨_, rfl⟩
    rw [← hvi2] at hfin
    have HV := Lib.hid hvi2
    have HFIN := Lib.hid hfin
    obtain ⟨bl, cl, hvl, hname, hbl, hcl, hBl⟩ := words_first rl (by omega)
    rw [hw2] at hvl hcl
    subst hvl
    obtain ⟨ax, cx, hvx⟩ := rx.shape
    rw [hx3] at hvx
    subst hvx
    obtain ⟨bx, vb, hax, e2, rb, hbx, hBx, hcx, hfb⟩ := rx.at9 (i := 2) (by omega)
    subst hax
    obtain ⟨nm, hnm⟩ : ∃ nm, nm = ws.getD 0 [] := ⟨_, rfl⟩
    obtain ⟨d, hd⟩ : ∃ d, d = ws.getD 1 [] := ⟨_, rfl⟩
    obtain ⟨bd, hbd⟩ : ∃ bd, bd = x.getD 2 [] := ⟨_, rfl⟩
    have e0 := hname 0 (by omega)
    have e1 := hname 1 (by omega)
    rw [← hnm] at e0 HD
    rw [← hd] at e1 HD
    rw [← hbd] at rb HD
    have hnl : nm.length ≤ 1000000000 := by
      have := HTS.out.1 nm (by rw [hnm, List.getD_eq_getElem?_getD, List.getElem?_eq_getElem (by omega : 0 < ws.length)]; exact List.getElem_mem _)
      omega
    have hbl9 : bd.length ≤ 1000000 := by
      have := HTS.out.2 bd (by rw [hbd, List.getD_eq_getElem?_getD, List.getElem?_eq_getElem (by omega : 2 < x.length)]; exact List.getElem_mem _)
      omega
    obtain ⟨ab, cb, hvb⟩ := rb.shape
    subst hvb
    have HRX := Lib.hid rx
    have HRL := Lib.hid rl
    have HRB := Lib.hid rb
    have HFB := Lib.hid hfb
    have HLI := Lib.hid hLI
    have hbb : bl ≠ bw ∧ bx ≠ bw := by
      have := HLT.out
      omega
    have HBB := Lib.hid hbb
    have hcl2 : (2 : Int) ≤ (cl : Int) := by omega
    have hcx3 : (3 : Int) ≤ (cx : Int) := by omega
    clear hw2 hx3 hfin hLI hvi2 rx rl rb hname hnm hd hbd hin hws hw k1 b1 hx hr hr2 hbb hfb
    by_cases hokd : Ex.okd d = true
    · obtain ⟨c, rfl, hc1, hc2, hs1, hs2⟩ := okd_yes hokd
      have HO := Lib.hid hokd
      have hc9 : (c.toNat : Int) ≤ 57 := by omega
      have hc8 : 48 ≤ (c.toNat : Int) := by omega
      clear hokd hc1 hc2
      rw [HO.out, if_pos rfl] at HD
      have hw8 : IntKind.u8.wrap ((c.toNat : Int) - 48) = (c.toNat : Int) - 48 := by
        obtain ⟨m, hm⟩ : ∃ m, c.toNat = 48 + m := ⟨c.toNat - 48, by omega⟩
        have : m = 0 ∨ m = 1 ∨ m = 2 ∨ m = 3 ∨ m = 4 ∨ m = 5 ∨ m = 6 ∨ m = 7 ∨ m = 8 ∨ m = 9 := by omega
        rw [hm]
        rcases this with rfl | rfl | rfl | rfl | rfl | rfl | rfl | rfl | rfl | rfl <;> rfl
      have hw9 : IntKind.i64.wrap ((c.toNat : Int) - 48) = (c.toNat : Int) - 48 := by
        obtain ⟨m, hm⟩ : ∃ m, c.toNat = 48 + m := ⟨c.toNat - 48, by omega⟩
        have : m = 0 ∨ m = 1 ∨ m = 2 ∨ m = 3 ∨ m = 4 ∨ m = 5 ∨ m = 6 ∨ m = 7 ∨ m = 8 ∨ m = 9 := by omega
        rw [hm]
        rcases this with rfl | rfl | rfl | rfl | rfl | rfl | rfl | rfl | rfl | rfl <;> rfl
      go_upto_region 7 with fail
      rw [← HV.out]
      obtain ⟨W2, hW2⟩ : ∃ W2, W2 = w1.setCell ⟨bw, 1, none⟩ vi2 := ⟨_, rfl⟩
      rw [← hW2]
      have hfin := HFIN.out
      rw [← hW2] at hfin
      have hks : Kw w1 W2 (fun j => j = bw) := by rw [hW2]; exact Kw.set w1 bw 1 _
      have hlt1 : bw < w1.heap.size := HK1.out.lt
      have HB2 : Hid (Below bw w W2) := Lib.hid ((HB1.out.mono (Nat.le_of_lt HLT.out)).trans (hks.below (fun j e => by omega) (Nat.le_of_lt hlt1)))
      have q0 : W2.cell? ⟨bl, 0, none⟩ = some (.string (S nm)) := (World.cell?_of_block (hks.block bl hbl HBB.out.1)).trans e0
      have q1 : W2.cell? ⟨bl, 1, none⟩ = some (.string (S [c])) := (World.cell?_of_block (hks.block bl hbl HBB.out.1)).trans e1
      have q2 : W2.cell? ⟨bx, 2, none⟩ = some (.slice ab bd.length cb) := (World.cell?_of_block (hks.block bx hbx HBB.out.2)).trans e2
      have hbl2 : bl < W2.heap.size := Nat.lt_of_lt_of_le hbl hks.size
      have hrb2 : Rt W2 (.slice ab bd.length cb) bd := Rd.keep HRB.out hks fun _ g hg e => by
        have h1 := HLT.out
        have h2 := HFB.out g hg
        omega
      obtain ⟨vin, vm, vL, vR, vN, ps, h1, h2⟩ := hfin
      obtain ⟨pz, hpz⟩ : ∃ pz, pz = (putM st.macs (nm, (c.toNat : Int) - 48, bd)).2 := ⟨_, rfl⟩
      have HM : Hid (Calls Tryz.prog 74 #[vm, .agg #[.string (S nm), .int .i64 ((c.toNat : Int) - 48), .slice ab bd.length cb]] W2.drew fun e w' => ∃ v' qs, e = .returned (.tuple #[v', .int .i64 pz]) ∧ qs.map Prod.fst = (putM st.macs (nm, (c.toNat : Int) - 48, bd)).1 ∧ OwnM w' W2.heap.size v' qs ∧ Frs W2.heap.size qs ∧ Below W2.heap.size W2 w') := Lib.hid (by
        have h9 := mput9_any vm (.slice ab bd.length cb) ps (nm, (c.toNat : Int) - 48, bd) W2.drew h2.macs hrb2 hbl9 hnl (by have := HOK.out.mln; rw [← h2.fst, List.length_map] at this; omega) (by have := HOK.out.srt; rw [← h2.fst, List.map_map] at this; exact this)
        rw [h2.fst, ← hpz] at h9
        exact h9.mono fun e w' ⟨v', qs, a1, a2, a3, a4, a5⟩ => ⟨v', qs, a1, a2, a3, a4, ⟨a5.1, a5.2, a5.3, a5.4, a5.5⟩⟩)
      have HX := Lib.hid h1
      have HS := Lib.hid h2
      have k2 := h1.cell (i := 2) rfl
      have HPZ := Lib.hid hpz
      have HBL2 := Lib.hid hbl2
      have hbx2 : bx < W2.heap.size := Nat.lt_of_lt_of_le hbx hks.size
      have HBX2 := Lib.hid hbx2
      clear hW2 hks h1 h2 hpz hrb2 c1 f1 e0 e1 e2 hbl2 hbx2
      go_region_held3 (fun w' => w'.cell? ⟨bw, 2, none⟩ = some vm ∧ w'.cell? ⟨bl, 0, none⟩ = some (.string (S nm)) ∧ w'.cell? ⟨bl, 1, none⟩ = some (.string (S [c])) ∧ w'.cell? ⟨bx, 2, none⟩ = some (.slice ab bd.length cb))
        (first
          | exact ⟨k2, q0, q1, q2⟩
          | exact ⟨(HX5.out.cell (i := 2) rfl), f0, f1, f2⟩
          | fail)
        (first
          | (go_at_call 74; (with_reducible refine HM.out.mono ?_); rintro e w5 ⟨v5, qs, rfl, hq, ho5, fr5, hb5⟩; have HX5 := Lib.hid (HX.out.kw (Kw.of_below hb5) (by have := HX.out.lt; omega)); have f0 := (hb5.cell (p := ⟨bl, 0, none⟩) HBL2.out).trans q0; have f1 := (hb5.cell (p := ⟨bl, 1, none⟩) HBL2.out).trans q1; have f2 := (hb5.cell (p := ⟨bx, 2, none⟩) HBX2.out).trans q2)
          | fail)
      have HS5 := Lib.hid (HS.out.below hb5)
      have HQ := Lib.hid hq
      have HO5 := Lib.hid ho5
      have HFR := Lib.hid fr5
      have HB5 := Lib.hid hb5
      have k5 := HX5.out.cell (i := 2) rfl
      have kf := HX5.out.free 2
      obtain ⟨am, cm, hv5⟩ := own_shape ho5.1
      subst hv5
      clear hq ho5 fr5 hb5 q0 q1 q2 k2 HG
      by_cases hz : pz = 0
      · subst hz
        have HD2 : Hid (Ex.doDef st = { st with inn := r, macs := (putM st.macs (nm, (c.toNat : Int) - 48, bd)).1 }) := Lib.hid (by rw [HD.out]; exact if_pos HPZ.out.symm)
        clear HD
        go_wp2_with fail
        (try simp only [Exit.inBlock, Exit.then])
        go_ret
        refine ⟨.nilIface, { st with inn := r, macs := (putM st.macs (nm, (c.toNat : Int) - 48, bd)).1 }, none, rfl, ?_, rfl, ?_, HD2.out.symm⟩
        · have hsz := HX.out.lt
          have key : ∀ v n, (∀ b, v.ownBlock = some b → W2.heap.size ≤ b ∧ b < w5.heap.size) → Far w5 bw vL vR vN v n := fun v n hv _ b hb => ⟨(hv b hb).2, HS.out.fresh hsz (hv b hb).1⟩
          have hm := HS5.out.setMacs (qs := qs) ⟨own_rd HO5.out.1, fun p hp => ⟨(HO5.out.2 p hp).1, (HO5.out.2 p hp).2.1⟩⟩ (key _ _ fun b hb => HO5.out.1.lt b hb) (fun p hp => ?_)
          · rw [HQ.out] at hm
            exact ⟨vin, _, vL, vR, vN, qs, HX5.out.set 2 _, hm.set 2 _⟩
          · exact fun h0 b hb => ⟨((HO5.out.2 p hp).2.2 h0 b hb).1, HS.out.fresh hsz (HFR.out p hp b hb)⟩
        · exact (HB2.out.trans (HB5.out.mono (Nat.le_of_lt HX.out.lt))).trans ((Kw.set w5 bw 2 _).below (fun j e => by omega) (Nat.le_of_lt HX5.out.lt))
      · have hzz : (pz != 0) = true := by simpa using hz
        have HD2 : Hid (Ex.doDef st = Ex.note { st with inn := r } pz nm) := Lib.hid (by rw [HD.out, HPZ.out]; exact if_neg fun e => hz (HPZ.out.trans e))
        clear HD
        go_wp2_with fail
        (try simp only [Exit.inBlock, Exit.then])
        go_ret
        have hba : Below w5.heap.size w5 (w5.alloc (.cells #[.string (S nm), .int .i64 pz] 59)) := (Below.refl _ _).alloc (Nat.le_refl _) _
        exact ⟨_, { st with inn := r }, some (pz, nm), rfl, Wk.below ⟨vin, vm, vL, vR, vN, ps, HX5.out, HS5.out⟩ hba, ⟨w5.heap.size, rfl, heap_alloc_new w5 _⟩, HB2.out.trans ((HB5.out.trans (hba.mono HB5.out.size)).mono (Nat.le_of_lt HX.out.lt)), HD2.out.symm⟩
    · have HO : Hid (Ex.okd d = false) := Lib.hid (by simpa using hokd)
      clear hokd
      rw [HO.out, if_neg (by decide)] at HD
      have hba : Below w1.heap.size w1 (w1.alloc (.cells #[.string (S Ex.sDef), .int .i64 10] 59)) := (Below.refl _ _).alloc (Nat.le_refl _) _
      have HEND : Hid (∀ v, v = Value.iface 57 (.pointer (some ⟨w1.heap.size, 0, none⟩)) → ∃ v9 st1 o, Ending.returned v = Ending.returned v9 ∧ Wk M (w1.alloc (.cells #[.string (S Ex.sDef), .int .i64 10] 59)) bw vf fs most st1 ∧ Er (w1.alloc (.cells #[.string (S Ex.sDef), .int .i64 10] 59)) v9 o ∧ Below bw w (w1.alloc (.cells #[.string (S Ex.sDef), .int .i64 10] 59)) ∧ Ex.noteO st1 o = Ex.doDef st) := Lib.hid fun v hv => ⟨_, st, some (10, Ex.sDef), rfl, HK1.out.below hba, ⟨w1.heap.size, hv, heap_alloc_new w1 _⟩, (HB1.out.trans (hba.mono HB1.out.size)).mono (Nat.le_of_lt HLT.out), HD.out.symm⟩
      rcases okd_no HO.out with hd1 | ⟨c, rfl, hs1 | hs1⟩
      · have hdd : ((d.length : Int) == 1) = false := by simp; omega
        go_wp2_with fail
        (try simp only [Exit.inBlock, Exit.then])
        go_ret
        exact HEND.out _ rfl
      · go_wp2_with fail
        (try simp only [Exit.inBlock, Exit.then])
        go_ret
        exact HEND.out _ rfl
      · obtain ⟨hs1, hs2⟩ := hs1
        go_wp2_with fail
        (try simp only [Exit.inBlock, Exit.then])
        go_ret
        exact HEND.out _ rfl
end Go.Proofs.YtjfikkjaifdkiaaGreatDoor

namespace Go.Proofs.YtjfikkjaifdkiaaGreatDoor
open Go.RowKit

set_option maxRecDepth 20000 in
set_option maxHeartbeats 4000000 in
/-- 'undef'. -/
theorem undef_any {M : List (Nat × Obj)} {bw B T : Nat} {vf : Value} {fs : List Fl} {most : Nat} {st : Ex.St} (w : World) (h : Wk M w bw vf fs most st) (hok : Ex.Ok most B T st) (hB : B ≤ 1000000) :
    Calls Tryz.prog 36 #[.pointer (some ⟨bw, 0, none⟩), .string (S Ex.sUndef)] w fun e w' => ∃ v st1 o, e = .returned v ∧ Wk M w' bw vf fs most st1 ∧ Er w' v o ∧ Below bw w w' ∧ Ex.noteO st1 o = Ex.doUndef st := by
  have HG := Lib.hid (groups_at Ex.sUndef 1 1 1 w h (by have := hok.inl; omega) (by decide) rfl)
  have HLT := Lib.hid h.lt
  have HOK := Lib.hid hok
  clear h hok
  cases hgr : Ex.gr st.inn 1 1 with
  | none =>
    have HD : Hid (Ex.doUndef st = Ex.note st 10 Ex.sUndef) := Lib.hid (by unfold Ex.doUndef; rw [hgr])
    rw [hgr] at HG
    clear hgr
    go_enter Tryz.func36, Tryz.ntmps36
    go_wp2_with (go_at_call 73; (with_reducible refine HG.out.mono ?_); rintro e w1 ⟨vx, vl, ve, tz, rfl, k1, b1, r1⟩; obtain ⟨bf, hve, hrf⟩ := r1; subst hve)
    go_ret
    exact ⟨_, st, some (10, Ex.sUndef), rfl, k1, ⟨bf, rfl, hrf⟩, b1.mono (Nat.le_of_lt HLT.out), HD.out.symm⟩
  | some y =>
    obtain ⟨x, ws, r⟩ := y
    have HD : Hid (Ex.doUndef st = { st with inn := r, macs := dropM st.macs (ws.getD 0 []) }) := Lib.hid (by unfold Ex.doUndef; rw [hgr])
    obtain ⟨tq, hr, htq, hx, hin, hws, _, _, hw⟩ := Ex.gr_some hgr
    rw [hgr] at HG
    clear hgr
    go_enter Tryz.func36, Tryz.ntmps36
    go_upto_region 4 with (go_at_call 73; (with_reducible refine HG.out.mono ?_); rintro e w1 ⟨vx, vl, ve, tz, rfl, k1, b1, r1⟩; obtain ⟨hve, rx, rl, tq2, htz, htl, hr2⟩ := r1; subst hve)
    have hi0 : 0 < st.inn.length := by
      have h5 : 0 < x.length := by rw [hx]; decide
      have := (hin _ (List.getElem_mem h5)).1
      omega
    obtain ⟨b, o, ci, c1, f1, hci, hfin⟩ := k1.rest hi0 htl
    have hw0 : 0 < ws.length := by rw [hws]; decide
    obtain ⟨LI, hLI⟩ : ∃ LI, LI = st.inn.length := ⟨_, rfl⟩
    rw [← hLI] at c1 hci hfin htl
    rw [← hr2] at hfin
    have hl2 : (tq2 : Int) ≤ (LI : Int) := by omega
    have hc2 : (LI : Int) ≤ (ci : Int) := by omega
    obtain ⟨vi2, hvi2⟩ : ∃ v, v = Value.slice (if ci = tq2 then some ⟨b, o, none⟩ else some ⟨b, o + tq2 * 2, none⟩) (LI - tq2) (ci - tq2) := ⟨_, rfl⟩
    rw [← hvi2] at hfin
    have HV := Lib.hid hvi2
    clear hvi2
    obtain ⟨W2, hW2⟩ : ∃ W2, W2 = w1.setCell ⟨bw, 1, none⟩ vi2 := ⟨_, rfl⟩
    have hks : Kw w1 W2 (fun j => j = bw) := by rw [hW2]; exact Kw.set w1 bw 1 _
    rw [← hW2] at hfin
    have hlt1 : bw < w1.heap.size := k1.lt
    have HK2 := Lib.hid hfin
    have HB2 : Hid (Below bw w W2) := Lib.hid ((b1.mono (Nat.le_of_lt HLT.out)).trans (hks.below (fun j e => by omega) (Nat.le_of_lt hlt1)))
    have rl2 := hks.row rl fun g hg e => by have := (rl.lt g hg).1; have := HLT.out; omega
    obtain ⟨bl, cl, hvl, hname, hbl, hcl, hBl⟩ := words_first rl2 hw0
    subst hvl
    obtain ⟨nm, hnm⟩ : ∃ nm, nm = ws.getD 0 [] := ⟨_, rfl⟩
    have e0 := hname 0 hw0
    rw [← hnm] at e0 HD
    have HRL := Lib.hid rl2
    have hwl : (0 : Int) < (ws.length : Int) := by omega
    obtain ⟨vin, vm, vL, vR, vN, ps, h1, h2⟩ := hfin
    have HD9 := Lib.hid (drop9_any vm ps nm W2.drew h2.macs (by have := HOK.out.mln; rw [← h2.fst, List.length_map] at this; omega) (by have := HOK.out.srt; rw [← h2.fst, List.map_map] at this; exact this))
    have HX := Lib.hid h1
    have HS := Lib.hid h2
    have c2 := h1.cell (i := 2) rfl
    have HBL : Hid (bl ≠ bw) := Lib.hid (by have := HLT.out; omega)
    clear hLI k1 b1 hnm hname hx hin hws hw hks rl rl2 h1 h2 rx
    go_upto_region 5 with fail
    rw [← HV.out, ← hW2]
    clear hW2 c1 f1
    refine Code.wp_mono NoPanic.imp ?_
    refine wp_region_held_drew (S := fun w' => w'.cell? ⟨bl, 0, none⟩ = some (.string (S nm))) (by kernel_rfl) e0 (fun hHeld => ?_)
    (refine takeL 0 rfl (by kernel_rfl) (by kernel_rfl) (by kernel_rfl) (fun _ _ _ h => h) hHeld rfl (by intro w hSw; go_simp; try rfl) ?_); (simp only [Act.put, List.setIfInBounds_toArray, List.set_cons_zero, List.set_cons_succ])
    (refine takeL 1 rfl (by kernel_rfl) (by kernel_rfl) (by kernel_rfl) (fun _ _ _ h => h) hHeld rfl (by intro w hSw; go_simp; try rfl) ?_); (simp only [Act.put, List.setIfInBounds_toArray, List.set_cons_zero, List.set_cons_succ])
    (refine takeL 2 rfl (by kernel_rfl) (by kernel_rfl) (by kernel_rfl) (fun _ _ _ h => h) hHeld rfl (by intro w hSw; go_simp; try rfl) ?_); (simp only [Act.put, List.setIfInBounds_toArray, List.set_cons_zero, List.set_cons_succ])
    (refine takeL 3 rfl (by kernel_rfl) (by kernel_rfl) (by kernel_rfl) (fun _ _ _ h => h) hHeld rfl (by intro w hSw; go_simp; try rfl) ?_); (simp only [Act.put, List.setIfInBounds_toArray, List.set_cons_zero, List.set_cons_succ])
    (refine takeL 5 rfl (by kernel_rfl) (by kernel_rfl) (by kernel_rfl) (fun _ _ _ h => h) hHeld rfl (by intro w hSw; go_simp; try rfl) ?_); (simp only [Act.put, List.setIfInBounds_toArray, List.set_cons_zero, List.set_cons_succ])
    (refine takeL 6 rfl (by kernel_rfl) (by kernel_rfl) (by kernel_rfl) (fun _ _ _ h => h) hHeld rfl (by intro w hSw; go_simp; try rfl) ?_); (simp only [Act.put, List.setIfInBounds_toArray, List.set_cons_zero, List.set_cons_succ])
    (refine takeL 7 rfl (by kernel_rfl) (by kernel_rfl) (by kernel_rfl) (fun _ _ _ h => h) hHeld rfl (by intro w hSw; go_simp; try rfl) ?_); (simp only [Act.put, List.setIfInBounds_toArray, List.set_cons_zero, List.set_cons_succ])
    refine wpAnyH_ready (rs := [4]) (by kernel_rfl) (by simp) ?_
    refine consL rfl (fun K hK => ?_) AllReadyH.nil
    go_simp
    refine hK.out _ _ ?_ (fun hHeld => ?_)
    · exact e0
    clear hK K
    try simp only [Act.put, List.setIfInBounds_toArray, List.set_cons_zero, List.set_cons_succ]
    refine wpAnyH_ready (rs := [8]) (by kernel_rfl) (by simp) ?_
    refine consL rfl (fun K hK => ?_) AllReadyH.nil
    go_simp
    (with_reducible refine HD9.out.mono ?_); rintro e w5 ⟨v5, qs, rfl, hq, ho5, fr5, b5⟩
    have hb5 : Below W2.heap.size W2 w5 := ⟨b5.1, b5.2, b5.3, b5.4, b5.5⟩
    have HX5 := Lib.hid (HX.out.kw (Kw.of_below hb5) (by have := HX.out.lt; omega))
    have HS5 := Lib.hid (HS.out.below hb5)
    have f0 : w5.cell? ⟨bl, 0, none⟩ = some (.string (S nm)) := (hb5.cell (p := ⟨bl, 0, none⟩) hbl).trans e0
    have k2 := HX5.out.cell (i := 2) rfl
    have kf := HX5.out.free 2
    have g0 : (w5.setCell ⟨bw, 2, none⟩ v5).cell? ⟨bl, 0, none⟩ = some (.string (S nm)) := (World.cell?_of_block ((Kw.set w5 bw 2 v5).block bl (Nat.lt_of_lt_of_le hbl hb5.size) HBL.out)).trans f0
    have HQ := Lib.hid hq
    have HO5 := Lib.hid ho5
    have HFR := Lib.hid fr5
    have HB5 := Lib.hid hb5
    obtain ⟨am, cm, hv5⟩ := own_shape ho5.1
    subst hv5
    clear hq ho5 fr5 b5 hb5
    go_wp2_with fail
    refine hK.out _ _ ?_ (fun hHeld => ?_)
    · exact f0
    clear hK K
    try simp only [Act.put, List.setIfInBounds_toArray, List.set_cons_zero, List.set_cons_succ]
    (refine takeL 9 rfl (by kernel_rfl) (by kernel_rfl) (by kernel_rfl) (fun _ _ _ h => h) hHeld rfl (by intro w hSw; go_simp; try rfl) ?_); (simp only [Act.put, List.setIfInBounds_toArray, List.set_cons_zero, List.set_cons_succ])
    (refine takeL 10 rfl (by kernel_rfl) (by kernel_rfl) (by kernel_rfl) (fun _ _ _ h => h) hHeld rfl (by intro w hSw; go_simp; try rfl) ?_); (simp only [Act.put, List.setIfInBounds_toArray, List.set_cons_zero, List.set_cons_succ])
    refine wpAnyH_ready (rs := [11]) (by kernel_rfl) (by simp) ?_
    refine consL rfl (fun K hK => ?_) AllReadyH.nil
    go_simp
    refine hK.out _ _ ?_ (fun hHeld => ?_)
    · exact g0
    clear hK K
    refine wpAnyH_done (by kernel_rfl) ?_ _
    refine NoPanic.normal ?_
    go_wp2_with fail
    go_ret
    refine ⟨.nilIface, { st with inn := r, macs := dropM st.macs nm }, none, rfl, ?_, rfl, ?_, HD.out.symm⟩
    · have hsz := HX.out.lt
      have key : ∀ v n, (∀ b, v.ownBlock = some b → W2.heap.size ≤ b ∧ b < w5.heap.size) → Far w5 bw vL vR vN v n := fun v n hv _ b hb => ⟨(hv b hb).2, HS.out.fresh hsz (hv b hb).1⟩
      have hm := HS5.out.setMacs (qs := qs) ⟨own_rd HO5.out.1, fun p hp => ⟨(HO5.out.2 p hp).1, (HO5.out.2 p hp).2.1⟩⟩ (key _ _ fun b hb => HO5.out.1.lt b hb) (fun p hp => ?_)
      · have h9 : qs.map Prod.fst = dropM st.macs nm := by rw [HQ.out, HS.out.fst]
        rw [h9] at hm
        exact ⟨vin, _, vL, vR, vN, qs, HX5.out.set 2 _, hm.set 2 _⟩
      · exact fun h0 b hb => ⟨((HO5.out.2 p hp).2.2 h0 b hb).1, HS.out.fresh hsz (HFR.out p hp b hb)⟩
    · exact (HB2.out.trans (HB5.out.mono (Nat.le_of_lt HX.out.lt))).trans ((Kw.set w5 bw 2 _).below (fun j e => by omega) (Nat.le_of_lt HX5.out.lt))
end Go.Proofs.YtjfikkjaifdkiaaGreatDoor

namespace Go.Proofs.YtjfikkjaifdkiaaGreatDoor
open Go.RowKit

set_option maxRecDepth 20000 in
set_option maxHeartbeats 2000000 in
/-- 'put': no room. -/
theorem put_none {M : List (Nat × Obj)} {bw : Nat} {vf : Value} {fs : List Fl} {most : Nat} {st : Ex.St} (t : Lx.Tok) (w : World) (h : Wk M w bw vf fs most st) (h0 : most ≤ st.outL.length) :
    Calls Tryz.prog 41 #[.pointer (some ⟨bw, 0, none⟩), .agg #[.int .i64 t.1, .string (S t.2)]] w fun e w' => ∃ v, e = .returned v ∧ Wk M w' bw vf fs most st ∧ Er w' v (some (3, [])) ∧ Below w.heap.size w w' := by
  obtain ⟨k, s⟩ := t
  obtain ⟨W1, hW1⟩ : ∃ W1, W1 = w.alloc (.cells #[.int .i64 k, .string (S s)] 64) := ⟨_, rfl⟩
  have hba : Below w.heap.size w W1 := by rw [hW1]; exact (Below.refl _ _).alloc (Nat.le_refl _) _
  have HK1 := Lib.hid (h.below hba)
  have HB1 := Lib.hid hba
  obtain ⟨n, hn⟩ : ∃ n, n = st.outL.length := ⟨_, rfl⟩
  rw [← hn] at h0
  obtain ⟨vin, vm, vL, vR, vN, ps, h1, h2⟩ := HK1.out
  obtain ⟨aL, cL, hvL⟩ := own_shape h2.outL
  subst hvL
  rw [← hn] at h1
  have c5 : ∀ m, (W1.drewN m).cell? ⟨bw, 5, none⟩ = some (.slice aL n cL) := fun _ => h1.cell (i := 5) rfl
  have c4 : ∀ m, (W1.drewN m).cell? ⟨bw, 4, none⟩ = some (.int .i64 (most : Int)) := fun _ => h1.cell (i := 4) rfl
  have l1 : (most : Int) ≤ (n : Int) := by omega
  clear h1 h2 h hba hn h0
  go_enter Tryz.func41, Tryz.ntmps41
  go_upto_region 1 with fail
  rw [← hW1]
  clear hW1
  go_quiet (fail)
  revert nq; intro m1
  obtain ⟨W2, hW2⟩ : ∃ W2, W2 = W1.drewN m1 := ⟨_, rfl⟩
  have hb2 : Below W1.heap.size W1 W2 := by rw [hW2]; exact below_drewN (Below.refl _ _) m1
  have hba : Below W2.heap.size W2 (W2.alloc (.cells #[.string (S []), .int .i64 3] 59)) := (Below.refl _ _).alloc (Nat.le_refl _) _
  have HK2 := Lib.hid ((HK1.out.below hb2).below hba)
  have HB2 := Lib.hid ((HB1.out.trans (hb2.mono HB1.out.size)).trans (hba.mono (HB1.out.trans (hb2.mono HB1.out.size)).size))
  have HE : Hid (Er (W2.alloc (.cells #[.string (S []), .int .i64 3] 59)) (.iface 57 (.pointer (some ⟨W2.heap.size, 0, none⟩))) (some (3, []))) := Lib.hid ⟨W2.heap.size, rfl, heap_alloc_new W2 _⟩
  rw [← hW2]
  clear hW2 hb2 hba c4 c5
  go_wp2_with fail
  go_ret
  exact ⟨_, rfl, HK2.out, HE.out, HB2.out⟩

set_option maxRecDepth 20000 in
set_option maxHeartbeats 8000000 in
/-- 'put': room. -/
theorem put_some {M : List (Nat × Obj)} {bw : Nat} {vf : Value} {fs : List Fl} {most : Nat} {st : Ex.St} (t : Lx.Tok) (w : World) (h : Wk M w bw vf fs most st) (h0 : st.outL.length < most) (hm : most ≤ 1000000) :
    Calls Tryz.prog 41 #[.pointer (some ⟨bw, 0, none⟩), .agg #[.int .i64 t.1, .string (S t.2)]] w fun e w' => e = .returned .nilIface ∧ Wk M w' bw vf fs most { st with outL := st.outL ++ [t] } ∧ Below bw w w' := by
  obtain ⟨k, s⟩ := t
  obtain ⟨W1, hW1⟩ : ∃ W1, W1 = w.alloc (.cells #[.int .i64 k, .string (S s)] 64) := ⟨_, rfl⟩
  obtain ⟨bt, hbt⟩ : ∃ bt, bt = w.heap.size := ⟨_, rfl⟩
  have hlt := h.lt
  have hba : Below w.heap.size w W1 := by rw [hW1]; exact (Below.refl _ _).alloc (Nat.le_refl _) _
  have HRT : Hid (Ro W1 bt 64 [.int .i64 k, .string (S s)]) := Lib.hid (by rw [hW1, hbt]; exact heap_alloc_new w _)
  obtain ⟨vin, vm, vL, vR, vN, ps, h1, h2⟩ := h
  have HNE : Hid (vL.ownBlock ≠ some bt) := Lib.hid fun e => by have := (h2.outL.lt _ e).2; omega
  have HBT : Hid (bt ≠ bw) := Lib.hid (by omega)
  have HBX := Lib.hid (h1.kw (Kw.of_below hba) (by omega))
  have HWS := Lib.hid (h2.below hba)
  have HBB : Hid (Below bw w W1) := Lib.hid (hba.mono (by omega))
  obtain ⟨LN, hLN⟩ : ∃ LN, LN = st.outL.length := ⟨_, rfl⟩
  obtain ⟨aL, cL, hvL⟩ := own_shape h2.outL
  subst hvL
  have HLN := Lib.hid hLN
  rw [← hLN] at h0 HBX HWS HNE
  have hL9 : LN ≤ 1000000 := by omega
  have c5 : ∀ m, (W1.drewN m).cell? ⟨bw, 5, none⟩ = some (.slice aL LN cL) := fun _ => HBX.out.cell (i := 5) rfl
  have c4 : ∀ m, (W1.drewN m).cell? ⟨bw, 4, none⟩ = some (.int .i64 (most : Int)) := fun _ => HBX.out.cell (i := 4) rfl
  have l1 : ¬ ((most : Int) ≤ (LN : Int)) := by omega
  clear h1 h2 hba hlt hLN h0
  go_enter Tryz.func41, Tryz.ntmps41
  go_upto_region 1 with fail
  rw [← hW1, ← hbt]
  clear hW1 hbt
  go_quiet (fail)
  revert nq; intro m1
  obtain ⟨W2, hW2⟩ : ∃ W2, W2 = W1.drewN m1 := ⟨_, rfl⟩
  have hb2 : Below W1.heap.size W1 W2 := by rw [hW2]; exact below_drewN (Below.refl _ _) m1
  have HRT := Lib.hid (HRT.out.kw (Kw.of_below hb2) (by have := HRT.out.lt; omega))
  have HBX := Lib.hid (HBX.out.kw (Kw.of_below hb2) (by have := HBX.out.lt; omega))
  have HWS := Lib.hid (HWS.out.below hb2)
  have HBB := Lib.hid (HBB.out.trans (hb2.mono (by have := HBX.out.lt; rw [hW2] at this; exact Nat.le_of_lt this)))
  have HFIN : Hid (∀ (gg cap : Nat) (w9 : World), Kw W2 w9 (fun j => (Value.slice aL LN cL).ownBlock = some j) → Near W2 (.slice aL LN cL) (.slice (some ⟨gg, 0, none⟩) (LN + 1) cap) → w9.ownsRow (bw + 1) 64 2 (.slice (some ⟨gg, 0, none⟩) (LN + 1) cap) (LN + 1) (tcs st.outL ++ [.int .i64 k, .string (S s)]) →
      Wk M (w9.setCell ⟨bw, 5, none⟩ (.slice (some ⟨gg, 0, none⟩) (LN + 1) cap)) bw vf fs most { st with outL := st.outL ++ [(k, s)] } ∧ Below bw w (w9.setCell ⟨bw, 5, none⟩ (.slice (some ⟨gg, 0, none⟩) (LN + 1) cap))) := Lib.hid fun gg cap w9 hk hn ho => by
    refine ⟨⟨vin, vm, _, vR, vN, ps, (HBX.out.kw hk (HBX.out.ne_own (by decide) HWS.out.outL)).set 5 _, (HWS.out.growL (k, s) hk hn (by rw [← HLN.out]; exact ho)).set 5 _⟩, ?_⟩
    have h9 := HBB.out.trans (hk.below (B := bw) (fun j e => by have := (HWS.out.outL.lt j e).1; omega) (Nat.le_of_lt HBX.out.lt))
    exact h9.trans ((Kw.set w9 bw 5 _).below (fun j e => by omega) (Nat.le_trans (Nat.le_of_lt HBX.out.lt) hk.size))
  have hws := HWS.out.outL
  rw [← HLN.out] at hws
  have HWL := Lib.hid hws
  rw [← hW2]
  clear hW2 hb2 hws c4 c5
  go_upto_region 3 with fail
  have e0 := HRT.out.cell (i := 0) rfl
  have e1 := HRT.out.cell (i := 1) rfl
  have cx := HBX.out.cell (i := 5) rfl
  have hka := Kw.alloc W2 (.cells #[.int .i64 k, .string (S s)] 64) (fun _ => False)
  have ea0 := (HRT.out.kw hka id).cell (i := 0) rfl
  have ea1 := (HRT.out.kw hka id).cell (i := 1) rfl
  have cxa := (HBX.out.kw hka id).cell (i := 5) rfl
  clear hka
  refine Code.wp_mono NoPanic.imp ?_
  refine wp_region_held_drew (S := fun w' => w'.cell? ⟨bt, 0, none⟩ = some (.int .i64 k) ∧ w'.cell? ⟨bt, 1, none⟩ = some (.string (S s))) (by kernel_rfl) ⟨e0, e1⟩ (fun hHeld => ?_)
  (refine takeL 0 rfl (by kernel_rfl) (by kernel_rfl) (by kernel_rfl) (fun _ _ _ h => h) hHeld rfl (by intro w hSw; go_simp; try rfl) ?_); (simp only [Act.put, List.setIfInBounds_toArray, List.set_cons_zero, List.set_cons_succ])
  (refine takeL 1 rfl (by kernel_rfl) (by kernel_rfl) (by kernel_rfl) (fun _ _ _ h => h) hHeld rfl (by intro w hSw; go_simp; try rfl) ?_); (simp only [Act.put, List.setIfInBounds_toArray, List.set_cons_zero, List.set_cons_succ])
  (refine takeL 2 rfl (by kernel_rfl) (by kernel_rfl) (by kernel_rfl) (fun _ _ _ h => h) hHeld rfl (by intro w hSw; go_simp; try rfl) ?_); (simp only [Act.put, List.setIfInBounds_toArray, List.set_cons_zero, List.set_cons_succ])
  (refine takeL 3 rfl (by kernel_rfl) (by kernel_rfl) (by kernel_rfl) (fun _ _ _ h => h) hHeld rfl (by intro w hSw; go_simp; try rfl) ?_); (simp only [Act.put, List.setIfInBounds_toArray, List.set_cons_zero, List.set_cons_succ])
  (refine takeL 4 rfl (by kernel_rfl) (by kernel_rfl) (by kernel_rfl) (fun _ _ _ h => h) hHeld rfl (by intro w hSw; go_simp; try rfl) ?_); (simp only [Act.put, List.setIfInBounds_toArray, List.set_cons_zero, List.set_cons_succ])
  (refine takeL 6 rfl (by kernel_rfl) (by kernel_rfl) (by kernel_rfl) (fun _ _ _ h => h) hHeld rfl (by intro w hSw; go_simp; try rfl) ?_); (simp only [Act.put, List.setIfInBounds_toArray, List.set_cons_zero, List.set_cons_succ])
  refine wpAnyH_ready (rs := [5, 7]) (by kernel_rfl) (by simp) ?_
  refine consL rfl (fun K hK => ?_) (consL rfl (fun K hK => ?_) AllReadyH.nil)
  · go_simp
    refine hK.out _ _ ?_ (fun hHeld => ?_)
    · exact ⟨e0, e1⟩
    clear hK K
    try simp only [Act.put, List.setIfInBounds_toArray, List.set_cons_zero, List.set_cons_succ]
    refine wpAnyH_ready (rs := [7]) (by kernel_rfl) (by simp) ?_
    refine consL rfl (fun K hK => ?_) AllReadyH.nil
    go_simp
    refine hK.out _ _ ?_ (fun hHeld => ?_)
    · exact ⟨ea0, ea1⟩
    clear hK K
    try simp only [Act.put, List.setIfInBounds_toArray, List.set_cons_zero, List.set_cons_succ]
    refine wpAnyH_ready (rs := [8]) (by kernel_rfl) (by simp) ?_
    refine consL rfl (fun K hK => ?_) AllReadyH.nil
    refine step_grow tyTok (by rfl) _ _ (by rfl) (bw + 1) (w0 := W2.drew) HWL.out (by rfl) (by rfl) rfl (news := [.int .i64 k, .string (S s)]) rfl (by rfl) tc_one (by omega) (by omega) (by have := HBX.out.lt; exact this) ?_
    intro gg cap w9 ho9 hg9 hn9 _
    have k3 : Kw W2 w9 (fun j => (Value.slice aL LN cL).ownBlock = some j) := (Kw.drewN W2 1 (fun j => (Value.slice aL LN cL).ownBlock = some j)).trans (Kw.of_grown hg9) fun _ _ h => h
    have HK3 := Lib.hid k3
    have HO9 := Lib.hid ho9
    have HN9 : Hid (Near W2 (.slice aL LN cL) (.slice (some ⟨gg, 0, none⟩) (LN + 1) cap)) := Lib.hid hn9
    clear ho9 hg9 hn9
    have r9HRT := HRT.out.kw k3 HNE.out
    have f0 := r9HRT.cell (i := 0) rfl
    have f1 := r9HRT.cell (i := 1) rfl
    have bx9 := HBX.out.kw k3 (HBX.out.ne_own (by decide) HWS.out.outL)
    have k4 := bx9.cell (i := 5) rfl
    have kf := bx9.free 5
    have r10HRT := r9HRT.far HBT.out 5 (.slice (some ⟨gg, 0, none⟩) (LN + 1) cap)
    have g0 := r10HRT.cell (i := 0) rfl
    have g1 := r10HRT.cell (i := 1) rfl
    clear k3 bx9 r9HRT r10HRT
    refine hK.out _ _ ?_ (fun hHeld => ?_)
    · exact ⟨f0, f1⟩
    clear hK K
    try simp only [Act.put, List.setIfInBounds_toArray, List.set_cons_zero, List.set_cons_succ]
    (refine takeL 9 rfl (by kernel_rfl) (by kernel_rfl) (by kernel_rfl) (fun _ _ _ h => h) hHeld rfl (by intro w hSw; go_simp; try rfl) ?_); (simp only [Act.put, List.setIfInBounds_toArray, List.set_cons_zero, List.set_cons_succ])
    (refine takeL 10 rfl (by kernel_rfl) (by kernel_rfl) (by kernel_rfl) (fun _ _ _ h => h) hHeld rfl (by intro w hSw; go_simp; try rfl) ?_); (simp only [Act.put, List.setIfInBounds_toArray, List.set_cons_zero, List.set_cons_succ])
    (refine takeL 11 rfl (by kernel_rfl) (by kernel_rfl) (by kernel_rfl) (fun _ _ _ h => h) hHeld rfl (by intro w hSw; go_simp; try rfl) ?_); (simp only [Act.put, List.setIfInBounds_toArray, List.set_cons_zero, List.set_cons_succ])
    refine wpAnyH_ready (rs := [12]) (by kernel_rfl) (by simp) ?_
    refine consL rfl (fun K hK => ?_) AllReadyH.nil
    go_simp
    refine hK.out _ _ ?_ (fun hHeld => ?_)
    · exact ⟨g0, g1⟩
    clear hK K
    refine wpAnyH_done (by kernel_rfl) ?_ _
    refine NoPanic.normal ?_
    go_wp2_with fail
    go_ret
    exact ⟨rfl, HFIN.out gg cap w9 HK3.out HN9.out HO9.out⟩
  · go_simp
    refine hK.out _ _ ?_ (fun hHeld => ?_)
    · exact ⟨ea0, ea1⟩
    clear hK K
    try simp only [Act.put, List.setIfInBounds_toArray, List.set_cons_zero, List.set_cons_succ]
    refine wpAnyH_ready (rs := [5]) (by kernel_rfl) (by simp) ?_
    refine consL rfl (fun K hK => ?_) AllReadyH.nil
    go_simp
    refine hK.out _ _ ?_ (fun hHeld => ?_)
    · exact ⟨ea0, ea1⟩
    clear hK K
    try simp only [Act.put, List.setIfInBounds_toArray, List.set_cons_zero, List.set_cons_succ]
    refine wpAnyH_ready (rs := [8]) (by kernel_rfl) (by simp) ?_
    refine consL rfl (fun K hK => ?_) AllReadyH.nil
    refine step_grow tyTok (by rfl) _ _ (by rfl) (bw + 1) (w0 := W2.drew) HWL.out (by rfl) (by rfl) rfl (news := [.int .i64 k, .string (S s)]) rfl (by rfl) tc_one (by omega) (by omega) (by have := HBX.out.lt; exact this) ?_
    intro gg cap w9 ho9 hg9 hn9 _
    have k3 : Kw W2 w9 (fun j => (Value.slice aL LN cL).ownBlock = some j) := (Kw.drewN W2 1 (fun j => (Value.slice aL LN cL).ownBlock = some j)).trans (Kw.of_grown hg9) fun _ _ h => h
    have HK3 := Lib.hid k3
    have HO9 := Lib.hid ho9
    have HN9 : Hid (Near W2 (.slice aL LN cL) (.slice (some ⟨gg, 0, none⟩) (LN + 1) cap)) := Lib.hid hn9
    clear ho9 hg9 hn9
    have r9HRT := HRT.out.kw k3 HNE.out
    have f0 := r9HRT.cell (i := 0) rfl
    have f1 := r9HRT.cell (i := 1) rfl
    have bx9 := HBX.out.kw k3 (HBX.out.ne_own (by decide) HWS.out.outL)
    have k4 := bx9.cell (i := 5) rfl
    have kf := bx9.free 5
    have r10HRT := r9HRT.far HBT.out 5 (.slice (some ⟨gg, 0, none⟩) (LN + 1) cap)
    have g0 := r10HRT.cell (i := 0) rfl
    have g1 := r10HRT.cell (i := 1) rfl
    clear k3 bx9 r9HRT r10HRT
    refine hK.out _ _ ?_ (fun hHeld => ?_)
    · exact ⟨f0, f1⟩
    clear hK K
    try simp only [Act.put, List.setIfInBounds_toArray, List.set_cons_zero, List.set_cons_succ]
    (refine takeL 9 rfl (by kernel_rfl) (by kernel_rfl) (by kernel_rfl) (fun _ _ _ h => h) hHeld rfl (by intro w hSw; go_simp; try rfl) ?_); (simp only [Act.put, List.setIfInBounds_toArray, List.set_cons_zero, List.set_cons_succ])
    (refine takeL 10 rfl (by kernel_rfl) (by kernel_rfl) (by kernel_rfl) (fun _ _ _ h => h) hHeld rfl (by intro w hSw; go_simp; try rfl) ?_); (simp only [Act.put, List.setIfInBounds_toArray, List.set_cons_zero, List.set_cons_succ])
    (refine takeL 11 rfl (by kernel_rfl) (by kernel_rfl) (by kernel_rfl) (fun _ _ _ h => h) hHeld rfl (by intro w hSw; go_simp; try rfl) ?_); (simp only [Act.put, List.setIfInBounds_toArray, List.set_cons_zero, List.set_cons_succ])
    refine wpAnyH_ready (rs := [12]) (by kernel_rfl) (by simp) ?_
    refine consL rfl (fun K hK => ?_) AllReadyH.nil
    go_simp
    refine hK.out _ _ ?_ (fun hHeld => ?_)
    · exact ⟨g0, g1⟩
    clear hK K
    refine wpAnyH_done (by kernel_rfl) ?_ _
    refine NoPanic.normal ?_
    go_wp2_with fail
    go_ret
    exact ⟨rfl, HFIN.out gg cap w9 HK3.out HN9.out HO9.out⟩
end Go.Proofs.YtjfikkjaifdkiaaGreatDoor

namespace Go.Proofs.YtjfikkjaifdkiaaGreatDoor
open Go.RowKit Go.Maps Go.WideMaps

theorem lawSX : Keyed Tryz.prog 9 := string_keyed Tryz.underlying9
/-- How a function reads: its number. -/
def readF : Value → Option (DataW Unit × List MemPlace)
  | .func (.func g) ⟨[]⟩ ⟨[]⟩ => some (.lit (.int .i64 (g : Int)), [])
  | .nilFunc => some (.lit (.int .i64 (-1)), [])
  | _ => none
def dF (g : Nat) : DataW Unit := .lit (.int .i64 (g : Int))
theorem readF_mk (g : Nat) : readF (.func (.func g) #[] #[]) = some (dF g, []) := rfl
theorem readF_nil : readF .nilFunc = some (.lit (.int .i64 (-1)), []) := rfl
theorem readF_inv {v : Value} {g : Nat} {ps : List MemPlace} (h : readF v = some (dF g, ps)) : v = .func (.func g) #[] #[] := by
  unfold readF at h
  split at h
  · simp only [Option.some.injEq, Prod.mk.injEq, dF, DataW.lit.injEq, Lit.int.injEq, true_and] at h
    have h9 := Int.ofNat.inj h.1
    rw [h9]
  · simp only [Option.some.injEq, Prod.mk.injEq, dF, DataW.lit.injEq, Lit.int.injEq, true_and] at h
    have := h.1
    omega
  · cases h
theorem readF_inv0 {v : Value} {ps : List MemPlace} (h : readF v = some (.lit (.int .i64 (-1)), ps)) : v = .nilFunc := by
  unfold readF at h
  split at h
  · simp only [Option.some.injEq, Prod.mk.injEq, DataW.lit.injEq, Lit.int.injEq, true_and] at h
    have := h.1
    omega
  · rfl
  · cases h
theorem keyX (s : List UInt8) (h : s.length ≤ maxLen) : keyOf Tryz.prog 9 (.string (S s)) = some (.string s) := keyOf_string_mk Tryz.underlying9 h
/-- A map literal's element, laid at the operation. -/
theorem wpX_insert {P : Program} (w : World) {ops : Array Oper} {rest : List Oper} {o : Oper} {a : Act} {Q : Exit → Act → World → Prop}
    (hg : o.guard = none) (m x v : Operand) (t : TypeId) (hop : o.op = Op.insert t m x v)
    (k e : TypeId) (K : Keyed P k) (ht : P.underlying t = some (.map k e)) (R : Value → Option (DataW Unit × List MemPlace)) (b n : Nat) (D : DataW Unit)
    (hm : a.eval m = .map (some b)) (hown : w.ownsMap P k R b n D) (hn : n < maxLen) (key val : Value) (kl : Lit) (hx : a.eval x = key) (hv : a.eval v = val) (hkey : keyOf P k key = some kl)
    (d : DataW Unit) (ps : List MemPlace) (hval : R val = some (d, ps))
    (hK : ∀ w', w'.ownsMap P k R b (n + 1) (D.put kl d) → w.grownBy w' (some b) → wpList P ops Q rest (a.put o.dst undef) w') :
    wpList P ops Q (o :: rest) a w := by
  refine wpList_plain hg fun K' hK' => ?_
  obtain ⟨w', hrun, r1, r2⟩ := hown.update K ht hn hkey hval
  unfold Oper.wp
  simp [execOp, hop, hm, hx, hv, hrun, Result.andThen]
  exact hK' _ _ (hK w' r1 r2)
/-- The commands as a map reads. -/
def exD : DataW Unit := DataW.put (DataW.put (DataW.put (DataW.put (.map []) (.string [100, 101, 102]) (dF 35)) (.string [117, 110, 100, 101, 102]) (dF 36)) (.string [105, 102, 100, 101, 102]) (dF 37)) (.string [105, 110, 99, 108, 117, 100, 101]) (dF 38)

set_option maxRecDepth 20000 in
set_option maxHeartbeats 4000000 in
/-- 'commands'. -/
theorem excom_any (w : World) :
    Calls Tryz.prog 17 #[] w fun e w' => e = .returned (.map (some w.heap.size)) ∧ w'.ownsMap Tryz.prog 9 readF w.heap.size 4 exD ∧ Below w.heap.size w w' := by
  have hmm := @run_makeMap Tryz.prog
  have hown := World.ownsMap_made w Tryz.prog 9 readF
  have hbw : Below w.heap.size w (w.alloc (.map #[] 0)) := (Below.refl _ _).alloc (Nat.le_refl _) _
  go_enter Tryz.func17, Tryz.ntmps17
  simp only [S_lit]
  go_wp2_with (first
    | (refine wpX_insert _ rfl _ _ _ 61 rfl 9 92 lawSX Tryz.underlying61 readF w.heap.size _ _ rfl hown (by unfold maxLen; omega) _ _ _ rfl rfl (keyX _ (by decide)) _ [] (readF_mk _) ?_; clear hown; intro w1 hown hg1; have hbw := hbw.grown hg1 hbw.size (fun j hj => by cases hj; exact Nat.le_refl _); clear hg1)
    | fail)
  go_ret
  exact ⟨rfl, hown, hbw⟩

theorem zeroF (w : World) : (zeroValue 92).run Tryz.prog w = .ok .nilFunc w := by kernel_rfl
def Ex.cmds : List (List UInt8 × Nat) := [(Ex.sDef, 35), (Ex.sUndef, 36), (Ex.sIfdef, 37), (Ex.sInc, 38)]
theorem exD_hit : ∀ x ∈ Ex.cmds, has exD (.string x.1) = true ∧ ∀ zd, exD.atKey (.string x.1) zd = dF x.2 := by
  intro x hx
  simp only [Ex.cmds, List.mem_cons, List.not_mem_nil, or_false] at hx
  rcases hx with rfl | rfl | rfl | rfl
  all_goals exact ⟨rfl, fun _ => rfl⟩
theorem exD_miss {s : List UInt8} (h : s ≠ Ex.sDef ∧ s ≠ Ex.sUndef ∧ s ≠ Ex.sIfdef ∧ s ≠ Ex.sInc) : has exD (.string s) = false ∧ ∀ zd, exD.atKey (.string s) zd = zd := by
  have h1 : (Lit.string s) ≠ (Lit.string [100, 101, 102]) := fun e => h.1 (by injection e)
  have h2 : (Lit.string s) ≠ (Lit.string [117, 110, 100, 101, 102]) := fun e => h.2.1 (by injection e)
  have h3 : (Lit.string s) ≠ (Lit.string [105, 102, 100, 101, 102]) := fun e => h.2.2.1 (by injection e)
  have h4 : (Lit.string s) ≠ (Lit.string [105, 110, 99, 108, 117, 100, 101]) := fun e => h.2.2.2 (by injection e)
  refine ⟨?_, fun zd => ?_⟩
  · unfold exD
    rw [has_put_other h4, has_put_other h3, has_put_other h2, has_put_other h1]
    rfl
  · unfold exD
    rw [atKey_put_other h4, atKey_put_other h3, atKey_put_other h2, atKey_put_other h1]
    rfl
section
variable (w : World) {ops : Array Oper} {rest : List Oper} {o : Oper} {a : Act} {Q : Exit → Act → World → Prop}
/-- 'does, is := all[s]', s a command. -/
theorem wpX_hit (hg : o.guard = none) (m x : Operand) (hop : o.op = Op.lookup 61 m x true) (b : Nat)
    (hm : a.eval m = .map (some b)) (hown : w.ownsMap Tryz.prog 9 readF b 4 exD) (c : List UInt8 × Nat) (hx : a.eval x = .string (S c.1)) (hc : c ∈ Ex.cmds)
    (hK : wpList Tryz.prog ops Q rest (a.put o.dst (.tuple #[.func (.func c.2) #[] #[], .bool true])) w) :
    wpList Tryz.prog ops Q (o :: rest) a w := by
  have hl : c.1.length ≤ maxLen := by
    simp only [Ex.cmds, List.mem_cons, List.not_mem_nil, or_false] at hc
    rcases hc with rfl | rfl | rfl | rfl <;> decide
  refine wpList_lookup_own_ok w hg m x _ hop 9 92 lawSX Tryz.underlying61 readF (zeroF w) _ [] readF_nil b 4 exD hm hown _ _ hx (keyX c.1 hl) fun v ps hv => ?_
  obtain ⟨h1, h2⟩ := exD_hit c hc
  rw [h2] at hv
  rw [readF_inv hv, h1]
  exact hK
theorem wpX_miss (hg : o.guard = none) (m x : Operand) (hop : o.op = Op.lookup 61 m x true) (b : Nat)
    (hm : a.eval m = .map (some b)) (hown : w.ownsMap Tryz.prog 9 readF b 4 exD) (s : List UInt8) (hx : a.eval x = .string (S s)) (hl : s.length ≤ 1000000000) (hc : s ≠ Ex.sDef ∧ s ≠ Ex.sUndef ∧ s ≠ Ex.sIfdef ∧ s ≠ Ex.sInc)
    (hK : wpList Tryz.prog ops Q rest (a.put o.dst (.tuple #[.nilFunc, .bool false])) w) :
    wpList Tryz.prog ops Q (o :: rest) a w := by
  refine wpList_lookup_own_ok w hg m x _ hop 9 92 lawSX Tryz.underlying61 readF (zeroF w) _ [] readF_nil b 4 exD hm hown _ _ hx (keyX s (by unfold maxLen; omega)) fun v ps hv => ?_
  obtain ⟨h1, h2⟩ := exD_miss hc
  rw [h2] at hv
  rw [readF_inv0 hv, h1]
  exact hK
end
end Go.Proofs.YtjfikkjaifdkiaaGreatDoor

namespace Go.Proofs.YtjfikkjaifdkiaaGreatDoor
open Go.RowKit

/-- What errors.As looks at, of the package errors. -/
def Gl (w : World) : Prop := w.cell? ⟨0, 0, none⟩ = some (.iface 171 (.agg #[.pointer (some ⟨2, 87, none⟩)]))
theorem Gl.below {w w' : World} {B : Nat} (h : Gl w) (hB : 0 < B) (hb : Below B w w') : Gl w' := (hb.cell (p := ⟨0, 0, none⟩) hB).trans h

set_option maxRecDepth 20000 in
set_option maxHeartbeats 2000000 in
/-- 'note': nothing is wrong. -/
theorem note_nil {M : List (Nat × Obj)} {bw : Nat} {vf : Value} {fs : List Fl} {most : Nat} {st : Ex.St} (w : World) (h : Wk M w bw vf fs most st) :
    Calls Tryz.prog 15 #[.pointer (some ⟨bw, 0, none⟩), .nilIface] w fun e w' => e = .returned (.tuple #[]) ∧ Wk M w' bw vf fs most st ∧ Below w.heap.size w w' := by
  have hba : Below w.heap.size w (w.alloc (.cells #[.pointer none] 57)) := (Below.refl _ _).alloc (Nat.le_refl _) _
  have HK := Lib.hid (h.below hba)
  have HB := Lib.hid hba
  clear hba h
  have HA := Lib.hid (as_nil (.iface 89 (.pointer (some ⟨w.heap.size, 0, none⟩))) (w.alloc (.cells #[.pointer none] 57)))
  go_enter Tryz.func15, Tryz.ntmps15
  go_wp2_with (go_at_call 33; (with_reducible refine HA.out.mono ?_); rintro e w1 ⟨rfl, rfl⟩)
  go_end0
  exact ⟨rfl, HK.out, HB.out⟩

set_option maxRecDepth 20000 in
set_option maxHeartbeats 8000000 in
/-- 'note': something is wrong. -/
theorem note_some {M : List (Nat × Obj)} {bw : Nat} {vf v : Value} {fs : List Fl} {most : Nat} {st : Ex.St} (x : Int × List UInt8) (w : World) (h : Wk M w bw vf fs most st) (hv : Er w v (some x)) (hg : Gl w) (hl : st.notes.length ≤ 1000000) (hb0 : 0 < bw) :
    Calls Tryz.prog 15 #[.pointer (some ⟨bw, 0, none⟩), v] w fun e w' => e = .returned (.tuple #[]) ∧ Wk M w' bw vf fs most (Ex.note st x.1 x.2) ∧ Below bw w w' := by
  obtain ⟨k, s⟩ := x
  obtain ⟨bf, rfl, hRF⟩ := hv
  have hlt := h.lt
  obtain ⟨bt, hbt⟩ : ∃ bt, bt = w.heap.size := ⟨_, rfl⟩
  obtain ⟨W1, hW1⟩ : ∃ W1, W1 = w.alloc (.cells #[.pointer none] 57) := ⟨_, rfl⟩
  have hba : Below w.heap.size w W1 := by rw [hW1]; exact (Below.refl _ _).alloc (Nat.le_refl _) _
  have hR1 : Ro W1 bt 57 [.pointer none] := by rw [hW1, hbt]; exact heap_alloc_new w _
  have HW9 : Hid (∀ W2, W2 = ((((W1.alloc (.cells #[.pointer (some ⟨bt, 0, none⟩)] 89)).alloc (.cells #[.pointer (some ⟨2, 89, none⟩), .pointer (some ⟨W1.heap.size, 0, none⟩), .int .u64 150] 132)).alloc (.cells #[.pointer (some ⟨2, 89, none⟩), .pointer (some ⟨W1.heap.size, 0, none⟩), .int .u64 150] 132)).alloc (.cells #[.pointer (some ⟨bf, 0, none⟩)] 57)).setCell ⟨bt, 0, none⟩ (.pointer (some ⟨bf, 0, none⟩)) →
      Ro W2 bt 57 [.pointer (some ⟨bf, 0, none⟩)] ∧ Below w.heap.size w W2) := Lib.hid fun W2 hW2 => by
    have b4 : Below W1.heap.size W1 ((((W1.alloc (.cells #[.pointer (some ⟨bt, 0, none⟩)] 89)).alloc (.cells #[.pointer (some ⟨2, 89, none⟩), .pointer (some ⟨W1.heap.size, 0, none⟩), .int .u64 150] 132)).alloc (.cells #[.pointer (some ⟨2, 89, none⟩), .pointer (some ⟨W1.heap.size, 0, none⟩), .int .u64 150] 132)).alloc (.cells #[.pointer (some ⟨bf, 0, none⟩)] 57)) :=
      ((((Below.refl _ _).alloc (Nat.le_refl _) _).alloc (by simp) _).alloc (by simp; omega) _).alloc (by simp; omega) _
    rw [hW2]
    refine ⟨(hR1.kw (Kw.of_below b4) (by have := hR1.lt; omega)).set 0 _, ?_⟩
    have b5 := hba.trans (b4.mono hba.size)
    exact b5.trans ((Kw.set _ bt 0 _).below (fun j e => by omega) b5.size)
  have HA : Hid (Calls Tryz.prog 33 #[.iface 57 (.pointer (some ⟨bf, 0, none⟩)), .iface 89 (.pointer (some ⟨bt, 0, none⟩))] W1 fun e w' => e = .returned (.bool true) ∧ Ro w' bt 57 [.pointer (some ⟨bf, 0, none⟩)] ∧ Below w.heap.size w w') := Lib.hid ((as_hit ⟨bf, 0, none⟩ ⟨bt, 0, none⟩ (.pointer none) W1 (hg.below (by omega) hba) (hR1.cell (i := 0) rfl) (hR1.free 0)).mono fun _ w' hx => ⟨hx.1, HW9.out w' hx.2⟩)
  obtain ⟨vin, vm, vL, vR, vN, ps, h1, h2⟩ := h
  obtain ⟨LN, hLN⟩ : ∃ LN, LN = st.notes.length := ⟨_, rfl⟩
  obtain ⟨aN, cN, hvN⟩ := own_shape h2.notes
  subst hvN
  have HLN := Lib.hid hLN
  rw [← hLN] at hl h1 h2
  have HNE : Hid ((Value.slice aN LN cN).ownBlock ≠ some bt) := Lib.hid fun e => by have := (h2.notes.lt _ e).2; omega
  have HNF : Hid ((Value.slice aN LN cN).ownBlock ≠ some bf) := Lib.hid (hRF.ne_own (by decide) h2.notes)
  have HBT : Hid (bt ≠ bw) := Lib.hid (by omega)
  have HBF : Hid (bf ≠ bw) := Lib.hid (hRF.ne h1 (by decide))
  have HBX := Lib.hid h1
  have HWS := Lib.hid h2
  have HRF := Lib.hid hRF
  clear h1 h2 hba hLN hg hR1 hRF
  go_enter Tryz.func15, Tryz.ntmps15
  go_upto_region 1 with fail
  rw [← hW1, ← hbt]
  have HBT9 := Lib.hid hbt
  have HLT := Lib.hid hlt
  clear hW1 hbt hlt
  go_upto_region 2 with (go_at_call 33; (with_reducible refine HA.out.mono ?_); rintro e W2 ⟨rfl, hr9, hb9⟩)
  have HRT := Lib.hid hr9
  have HBX := Lib.hid (HBX.out.kw (Kw.of_below hb9) (by have := HBX.out.lt; omega))
  have HWS := Lib.hid (HWS.out.below hb9)
  have HRF := Lib.hid (HRF.out.kw (Kw.of_below hb9) (by have := HRF.out.lt; omega))
  have HBB : Hid (Below bw w W2) := Lib.hid (hb9.mono (by have := HLT.out; omega))
  have HFIN : Hid (∀ (gg cap : Nat) (w9 : World), Kw W2 w9 (fun j => (Value.slice aN LN cN).ownBlock = some j) → Near W2 (.slice aN LN cN) (.slice (some ⟨gg, 0, none⟩) (LN + 1) cap) → w9.ownsRow (bw + 1) 81 2 (.slice (some ⟨gg, 0, none⟩) (LN + 1) cap) (LN + 1) (tcs st.notes ++ [.int .i64 k, .string (S s)]) →
      Wk M (w9.setCell ⟨bw, 7, none⟩ (.slice (some ⟨gg, 0, none⟩) (LN + 1) cap)) bw vf fs most (Ex.note st k s) ∧ Below bw w (w9.setCell ⟨bw, 7, none⟩ (.slice (some ⟨gg, 0, none⟩) (LN + 1) cap))) := Lib.hid fun gg cap w9 hk hn ho => by
    refine ⟨⟨vin, vm, vL, vR, _, ps, (HBX.out.kw hk (HBX.out.ne_own (by decide) HWS.out.notes)).set 7 _, (HWS.out.growN (k, s) hk hn (by rw [← HLN.out]; exact ho)).set 7 _⟩, ?_⟩
    have h9 := HBB.out.trans (hk.below (B := bw) (fun j e => by have := (HWS.out.notes.lt j e).1; omega) (Nat.le_of_lt HBX.out.lt))
    exact h9.trans ((Kw.set w9 bw 7 _).below (fun j e => by omega) (Nat.le_trans (Nat.le_of_lt HBX.out.lt) hk.size))
  have hws := HWS.out.notes
  rw [← HLN.out] at hws
  have HWL := Lib.hid hws
  clear hr9 hb9 hws HW9 HA
  have e0 := HRT.out.cell (i := 0) rfl
  have e1 := HRF.out.cell (i := 0) rfl
  have e2 := HRF.out.cell (i := 1) rfl
  have cx := HBX.out.cell (i := 7) rfl
  have hka := Kw.alloc W2 (.cells #[.int .i64 k, .string (S s)] 81) (fun _ => False)
  have ea0 := (HRT.out.kw hka id).cell (i := 0) rfl
  have ea1 := (HRF.out.kw hka id).cell (i := 0) rfl
  have ea2 := (HRF.out.kw hka id).cell (i := 1) rfl
  have cxa := (HBX.out.kw hka id).cell (i := 7) rfl
  clear hka
  refine Code.wp_mono NoPanic.imp ?_
  refine wp_region_held_drew (S := fun w' => w'.cell? ⟨bt, 0, none⟩ = some (.pointer (some ⟨bf, 0, none⟩)) ∧ w'.cell? ⟨bf, 0, none⟩ = some (.string (S s)) ∧ w'.cell? ⟨bf, 1, none⟩ = some (.int .i64 k)) (by kernel_rfl) ⟨e0, e1, e2⟩ (fun hHeld => ?_)
  (refine takeL 0 rfl (by kernel_rfl) (by kernel_rfl) (by kernel_rfl) (fun _ _ _ h => h) hHeld rfl (by intro w hSw; go_simp; try rfl) ?_); (simp only [Act.put, List.setIfInBounds_toArray, List.set_cons_zero, List.set_cons_succ])
  (refine takeL 1 rfl (by kernel_rfl) (by kernel_rfl) (by kernel_rfl) (fun _ _ _ h => h) hHeld rfl (by intro w hSw; go_simp; try rfl) ?_); (simp only [Act.put, List.setIfInBounds_toArray, List.set_cons_zero, List.set_cons_succ])
  (refine takeL 2 rfl (by kernel_rfl) (by kernel_rfl) (by kernel_rfl) (fun _ _ _ h => h) hHeld rfl (by intro w hSw; go_simp; try rfl) ?_); (simp only [Act.put, List.setIfInBounds_toArray, List.set_cons_zero, List.set_cons_succ])
  (refine takeL 3 rfl (by kernel_rfl) (by kernel_rfl) (by kernel_rfl) (fun _ _ _ h => h) hHeld rfl (by intro w hSw; go_simp; try rfl) ?_); (simp only [Act.put, List.setIfInBounds_toArray, List.set_cons_zero, List.set_cons_succ])
  (refine takeL 4 rfl (by kernel_rfl) (by kernel_rfl) (by kernel_rfl) (fun _ _ _ h => h) hHeld rfl (by intro w hSw; go_simp; try rfl) ?_); (simp only [Act.put, List.setIfInBounds_toArray, List.set_cons_zero, List.set_cons_succ])
  (refine takeL 6 rfl (by kernel_rfl) (by kernel_rfl) (by kernel_rfl) (fun _ _ _ h => h) hHeld rfl (by intro w hSw; go_simp; try rfl) ?_); (simp only [Act.put, List.setIfInBounds_toArray, List.set_cons_zero, List.set_cons_succ])
  (refine takeL 7 rfl (by kernel_rfl) (by kernel_rfl) (by kernel_rfl) (fun _ _ _ h => h) hHeld rfl (by intro w hSw; go_simp; try rfl) ?_); (simp only [Act.put, List.setIfInBounds_toArray, List.set_cons_zero, List.set_cons_succ])
  (refine takeL 8 rfl (by kernel_rfl) (by kernel_rfl) (by kernel_rfl) (fun _ _ _ h => h) hHeld rfl (by intro w hSw; go_simp; try rfl) ?_); (simp only [Act.put, List.setIfInBounds_toArray, List.set_cons_zero, List.set_cons_succ])
  (refine takeL 9 rfl (by kernel_rfl) (by kernel_rfl) (by kernel_rfl) (fun _ _ _ h => h) hHeld rfl (by intro w hSw; go_simp; try rfl) ?_); (simp only [Act.put, List.setIfInBounds_toArray, List.set_cons_zero, List.set_cons_succ])
  (refine takeL 10 rfl (by kernel_rfl) (by kernel_rfl) (by kernel_rfl) (fun _ _ _ h => h) hHeld rfl (by intro w hSw; go_simp; try rfl) ?_); (simp only [Act.put, List.setIfInBounds_toArray, List.set_cons_zero, List.set_cons_succ])
  (refine takeL 11 rfl (by kernel_rfl) (by kernel_rfl) (by kernel_rfl) (fun _ _ _ h => h) hHeld rfl (by intro w hSw; go_simp; try rfl) ?_); (simp only [Act.put, List.setIfInBounds_toArray, List.set_cons_zero, List.set_cons_succ])
  (refine takeL 12 rfl (by kernel_rfl) (by kernel_rfl) (by kernel_rfl) (fun _ _ _ h => h) hHeld rfl (by intro w hSw; go_simp; try rfl) ?_); (simp only [Act.put, List.setIfInBounds_toArray, List.set_cons_zero, List.set_cons_succ])
  (refine takeL 13 rfl (by kernel_rfl) (by kernel_rfl) (by kernel_rfl) (fun _ _ _ h => h) hHeld rfl (by intro w hSw; go_simp; try rfl) ?_); (simp only [Act.put, List.setIfInBounds_toArray, List.set_cons_zero, List.set_cons_succ])
  (refine takeL 14 rfl (by kernel_rfl) (by kernel_rfl) (by kernel_rfl) (fun _ _ _ h => h) hHeld rfl (by intro w hSw; go_simp; try rfl) ?_); (simp only [Act.put, List.setIfInBounds_toArray, List.set_cons_zero, List.set_cons_succ])
  refine wpAnyH_ready (rs := [5, 15]) (by kernel_rfl) (by simp) ?_
  refine consL rfl (fun K hK => ?_) (consL rfl (fun K hK => ?_) AllReadyH.nil)
  · go_simp
    refine hK.out _ _ ?_ (fun hHeld => ?_)
    · exact ⟨e0, e1, e2⟩
    clear hK K
    try simp only [Act.put, List.setIfInBounds_toArray, List.set_cons_zero, List.set_cons_succ]
    refine wpAnyH_ready (rs := [15]) (by kernel_rfl) (by simp) ?_
    refine consL rfl (fun K hK => ?_) AllReadyH.nil
    go_simp
    refine hK.out _ _ ?_ (fun hHeld => ?_)
    · exact ⟨ea0, ea1, ea2⟩
    clear hK K
    try simp only [Act.put, List.setIfInBounds_toArray, List.set_cons_zero, List.set_cons_succ]
    refine wpAnyH_ready (rs := [16]) (by kernel_rfl) (by simp) ?_
    refine consL rfl (fun K hK => ?_) AllReadyH.nil
    refine step_grow tyNote (by rfl) _ _ (by rfl) (bw + 1) (w0 := W2.drew) HWL.out (by rfl) (by rfl) rfl (news := [.int .i64 k, .string (S s)]) rfl (by rfl) tc_one (by omega) (by omega) (by have := HBX.out.lt; exact this) ?_
    intro gg cap w9 ho9 hg9 hn9 _
    have k3 : Kw W2 w9 (fun j => (Value.slice aN LN cN).ownBlock = some j) := (Kw.drewN W2 1 (fun j => (Value.slice aN LN cN).ownBlock = some j)).trans (Kw.of_grown hg9) fun _ _ h => h
    have HK3 := Lib.hid k3
    have HO9 := Lib.hid ho9
    have HN9 : Hid (Near W2 (.slice aN LN cN) (.slice (some ⟨gg, 0, none⟩) (LN + 1) cap)) := Lib.hid hn9
    clear ho9 hg9 hn9
    have r9HRT := HRT.out.kw k3 HNE.out
    have f0 := r9HRT.cell (i := 0) rfl
    have r9HRF := HRF.out.kw k3 HNF.out
    have f1 := r9HRF.cell (i := 0) rfl
    have f2 := r9HRF.cell (i := 1) rfl
    have bx9 := HBX.out.kw k3 (HBX.out.ne_own (by decide) HWS.out.notes)
    have k4 := bx9.cell (i := 7) rfl
    have kf := bx9.free 7
    have r10HRT := r9HRT.far HBT.out 7 (.slice (some ⟨gg, 0, none⟩) (LN + 1) cap)
    have r10HRF := r9HRF.far HBF.out 7 (.slice (some ⟨gg, 0, none⟩) (LN + 1) cap)
    have g0 := r10HRT.cell (i := 0) rfl
    have g1 := r10HRF.cell (i := 0) rfl
    have g2 := r10HRF.cell (i := 1) rfl
    clear k3 bx9 r9HRT r10HRT r9HRF r10HRF
    refine hK.out _ _ ?_ (fun hHeld => ?_)
    · exact ⟨f0, f1, f2⟩
    clear hK K
    try simp only [Act.put, List.setIfInBounds_toArray, List.set_cons_zero, List.set_cons_succ]
    (refine takeL 17 rfl (by kernel_rfl) (by kernel_rfl) (by kernel_rfl) (fun _ _ _ h => h) hHeld rfl (by intro w hSw; go_simp; try rfl) ?_); (simp only [Act.put, List.setIfInBounds_toArray, List.set_cons_zero, List.set_cons_succ])
    (refine takeL 18 rfl (by kernel_rfl) (by kernel_rfl) (by kernel_rfl) (fun _ _ _ h => h) hHeld rfl (by intro w hSw; go_simp; try rfl) ?_); (simp only [Act.put, List.setIfInBounds_toArray, List.set_cons_zero, List.set_cons_succ])
    (refine takeL 19 rfl (by kernel_rfl) (by kernel_rfl) (by kernel_rfl) (fun _ _ _ h => h) hHeld rfl (by intro w hSw; go_simp; try rfl) ?_); (simp only [Act.put, List.setIfInBounds_toArray, List.set_cons_zero, List.set_cons_succ])
    refine wpAnyH_ready (rs := [20]) (by kernel_rfl) (by simp) ?_
    refine consL rfl (fun K hK => ?_) AllReadyH.nil
    go_simp
    refine hK.out _ _ ?_ (fun hHeld => ?_)
    · exact ⟨g0, g1, g2⟩
    clear hK K
    refine wpAnyH_done (by kernel_rfl) ?_ _
    refine NoPanic.normal ?_
    go_wp2_with fail
    go_end0
    exact ⟨rfl, HFIN.out gg cap w9 HK3.out HN9.out HO9.out⟩
  · go_simp
    refine hK.out _ _ ?_ (fun hHeld => ?_)
    · exact ⟨ea0, ea1, ea2⟩
    clear hK K
    try simp only [Act.put, List.setIfInBounds_toArray, List.set_cons_zero, List.set_cons_succ]
    refine wpAnyH_ready (rs := [5]) (by kernel_rfl) (by simp) ?_
    refine consL rfl (fun K hK => ?_) AllReadyH.nil
    go_simp
    refine hK.out _ _ ?_ (fun hHeld => ?_)
    · exact ⟨ea0, ea1, ea2⟩
    clear hK K
    try simp only [Act.put, List.setIfInBounds_toArray, List.set_cons_zero, List.set_cons_succ]
    refine wpAnyH_ready (rs := [16]) (by kernel_rfl) (by simp) ?_
    refine consL rfl (fun K hK => ?_) AllReadyH.nil
    refine step_grow tyNote (by rfl) _ _ (by rfl) (bw + 1) (w0 := W2.drew) HWL.out (by rfl) (by rfl) rfl (news := [.int .i64 k, .string (S s)]) rfl (by rfl) tc_one (by omega) (by omega) (by have := HBX.out.lt; exact this) ?_
    intro gg cap w9 ho9 hg9 hn9 _
    have k3 : Kw W2 w9 (fun j => (Value.slice aN LN cN).ownBlock = some j) := (Kw.drewN W2 1 (fun j => (Value.slice aN LN cN).ownBlock = some j)).trans (Kw.of_grown hg9) fun _ _ h => h
    have HK3 := Lib.hid k3
    have HO9 := Lib.hid ho9
    have HN9 : Hid (Near W2 (.slice aN LN cN) (.slice (some ⟨gg, 0, none⟩) (LN + 1) cap)) := Lib.hid hn9
    clear ho9 hg9 hn9
    have r9HRT := HRT.out.kw k3 HNE.out
    have f0 := r9HRT.cell (i := 0) rfl
    have r9HRF := HRF.out.kw k3 HNF.out
    have f1 := r9HRF.cell (i := 0) rfl
    have f2 := r9HRF.cell (i := 1) rfl
    have bx9 := HBX.out.kw k3 (HBX.out.ne_own (by decide) HWS.out.notes)
    have k4 := bx9.cell (i := 7) rfl
    have kf := bx9.free 7
    have r10HRT := r9HRT.far HBT.out 7 (.slice (some ⟨gg, 0, none⟩) (LN + 1) cap)
    have r10HRF := r9HRF.far HBF.out 7 (.slice (some ⟨gg, 0, none⟩) (LN + 1) cap)
    have g0 := r10HRT.cell (i := 0) rfl
    have g1 := r10HRF.cell (i := 0) rfl
    have g2 := r10HRF.cell (i := 1) rfl
    clear k3 bx9 r9HRT r10HRT r9HRF r10HRF
    refine hK.out _ _ ?_ (fun hHeld => ?_)
    · exact ⟨f0, f1, f2⟩
    clear hK K
    try simp only [Act.put, List.setIfInBounds_toArray, List.set_cons_zero, List.set_cons_succ]
    (refine takeL 17 rfl (by kernel_rfl) (by kernel_rfl) (by kernel_rfl) (fun _ _ _ h => h) hHeld rfl (by intro w hSw; go_simp; try rfl) ?_); (simp only [Act.put, List.setIfInBounds_toArray, List.set_cons_zero, List.set_cons_succ])
    (refine takeL 18 rfl (by kernel_rfl) (by kernel_rfl) (by kernel_rfl) (fun _ _ _ h => h) hHeld rfl (by intro w hSw; go_simp; try rfl) ?_); (simp only [Act.put, List.setIfInBounds_toArray, List.set_cons_zero, List.set_cons_succ])
    (refine takeL 19 rfl (by kernel_rfl) (by kernel_rfl) (by kernel_rfl) (fun _ _ _ h => h) hHeld rfl (by intro w hSw; go_simp; try rfl) ?_); (simp only [Act.put, List.setIfInBounds_toArray, List.set_cons_zero, List.set_cons_succ])
    refine wpAnyH_ready (rs := [20]) (by kernel_rfl) (by simp) ?_
    refine consL rfl (fun K hK => ?_) AllReadyH.nil
    go_simp
    refine hK.out _ _ ?_ (fun hHeld => ?_)
    · exact ⟨g0, g1, g2⟩
    clear hK K
    refine wpAnyH_done (by kernel_rfl) ?_ _
    refine NoPanic.normal ?_
    go_wp2_with fail
    go_end0
    exact ⟨rfl, HFIN.out gg cap w9 HK3.out HN9.out HO9.out⟩
end Go.Proofs.YtjfikkjaifdkiaaGreatDoor
