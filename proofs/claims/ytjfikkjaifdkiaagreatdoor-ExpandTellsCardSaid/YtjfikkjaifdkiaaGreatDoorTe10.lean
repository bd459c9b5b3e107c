/- Walks and plain laws, 10: The reference's expansion: call, walked. No condition. The reference's expansion: command, walked. No condition. The reference's Expand, walked. No condition. -/
import Derived.Test.YtjfikkjaifdkiaaGreatDoorTe9
namespace Go.Proofs.YtjfikkjaifdkiaaGreatDoor
open Go.RowKit

/-- A list of tokens does not lie in the expansion's box: no text lies there. -/
theorem rt_box8 {T : TypeId} {w : World} {bw : Nat} {v : Value} {l : List Lx.Tok} (h : Rt w v l) {vf vin vm vL vR vN : Value} {f m u : Int} (hb : Ro w bw T [vf, vin, vm, .int .i64 f, .int .i64 m, vL, vR, vN, .int .i64 u])
    (hs : ∀ s, vf ≠ .string s ∧ vin ≠ .string s ∧ vm ≠ .string s ∧ vL ≠ .string s ∧ vR ≠ .string s ∧ vN ≠ .string s) (h0 : 0 < l.length) : ∀ b, v.ownBlock = some b → b ≠ bw := by
  intro b hv e
  subst e
  rcases h.2 with ⟨_, h9⟩ | ⟨b', o, cap, rfl, hlt, hc, hcap⟩
  · omega
  · have e : b' = b := by simpa [Value.ownBlock] using hv
    subst e
    have h1 : (tcs l)[1]? = some (.string (S l[0].2)) := by
      match l, h0 with
      | t :: r, _ => rfl
    have h2 := hc 1 _ h1
    rw [row_cell hb] at h2
    obtain ⟨j, hj⟩ : ∃ j, j = o + 1 := ⟨_, rfl⟩
    rw [← hj] at h2
    have h3 := hs (S l[0].2)
    match j, h2 with
    | 0, h2 => simp at h2; exact h3.1 h2
    | 1, h2 => simp at h2; exact h3.2.1 h2
    | 2, h2 => simp at h2; exact h3.2.2.1 h2
    | 3, h2 => simp at h2
    | 4, h2 => simp at h2
    | 5, h2 => simp at h2; exact h3.2.2.2.1 h2
    | 6, h2 => simp at h2; exact h3.2.2.2.2.1 h2
    | 7, h2 => simp at h2; exact h3.2.2.2.2.2 h2
    | 8, h2 => simp at h2
    | _ + 9, h2 => simp at h2

set_option maxRecDepth 20000 in
set_option maxHeartbeats 16000000 in
/-- The reference's 'call'. -/
theorem call8_any {M : List (Nat × Obj)} {bw B T : Nat} {vf bv : Value} {fs : List Fl} {most : Nat} {st : Ex.St} (m : Mac) (w : World) (h : Wx M w bw vf fs most st) (hok : Ex.Ok most B T st) (hB : B ≤ 5000) (hnl : st.notes.length ≤ 1000000) (hfu : st.fuel ≤ 1000000) (hus : st.used ≤ 1000000) (hm : m ∈ st.macs) (hbv : Rt w bv m.2.2) :
    Calls Tryz.prog 55 #[.pointer (some ⟨bw, 0, none⟩), .agg #[.string (S m.1), .int .i64 m.2.1, bv]] w fun e w' => e = .returned (.tuple #[]) ∧ Wx M w' bw vf fs most (Ex.doCall most st m) ∧ Below bw w w' := by
  obtain ⟨nm, pn, bd⟩ := m
  obtain ⟨hm1, hm2, hm3, hm4, _⟩ := hok.mac _ hm
  simp only at hm1 hm2 hm3 hm4 hbv ⊢
  clear hm
  have hlt := h.lt
  obtain ⟨ab, cb, rfl⟩ := hbv.shape
  obtain ⟨bx, hbx⟩ : ∃ b, b = w.heap.size := ⟨_, rfl⟩
  obtain ⟨W0, hW0⟩ : ∃ W0, W0 = w.alloc (.cells #[.string (S nm), .int .i64 pn, .slice ab bd.length cb] 107) := ⟨_, rfl⟩
  have b0 : Below w.heap.size w W0 := by rw [hW0]; exact (Below.refl _ _).alloc (Nat.le_refl _) _
  have rx : Ro W0 bx 107 [.string (S nm), .int .i64 pn, .slice ab bd.length cb] := by rw [hW0, hbx]; exact heap_alloc_new w _
  obtain ⟨vin, vm, vL, vR, vN, ps, h1, h2⟩ := h
  have r0 := h1.kw (Kw.of_below b0) (by omega)
  have s0 := h2.below b0
  have hb0 := hbv.below' b0
  have hbw2 : 0 < bd.length → ∀ b, (Value.slice ab bd.length cb).ownBlock = some b → b ≠ bw := fun h9 => rt_box8 hbv h1 (fun s => ⟨Rd.ne_str h2.files s, Rd.ne_str h2.inn s, Rd.ne_str h2.macs.1 s, Rd.ne_str (own_rd h2.outL) s, Rd.ne_str (own_rd h2.reads) s, Rd.ne_str (own_rd h2.notes) s⟩) h9
  obtain ⟨ai, ci, rfl⟩ := s0.inn.shape
  have hin0 := s0.inn
  obtain ⟨LI, hLI⟩ : ∃ n, n = st.inn.length := ⟨_, rfl⟩
  have HLI := Lib.hid hLI
  have hil := hok.inl
  rw [← hLI] at s0 r0 hin0 hil
  have HA := Lib.hid (refArgsO_any (.slice ai LI ci) st.inn 0 pn W0.drew hin0 (by have := hok.inl; omega))
  have HOK := Lib.hid hok
  have HX := Lib.hid rx
  have HR0 := Lib.hid r0
  have HS0 := Lib.hid s0
  have HBD := Lib.hid hb0
  have HBW2 := Lib.hid hbw2
  have HLT := Lib.hid hlt
  have HB0 := Lib.hid b0
  have HBX := Lib.hid hbx
  have HARG := Lib.hid (args_ok (l := st.inn) (n := pn))
  have c1 : W0.cell? ⟨bw, 1, none⟩ = some (.slice ai LI ci) := r0.cell (i := 1) rfl
  have x1 : W0.cell? ⟨bx, 1, none⟩ = some (.int .i64 pn) := rx.cell (i := 1) rfl
  have hgr0 : (argsAt st.inn 0 pn).2.2 ≠ 0 → Ex.gr st.inn pn 0 = none := fun h9 => gr_not fun h8 => h9 h8.1
  have hgr1 : ∀ tq : Nat, (argsAt st.inn 0 pn).2.2 = 0 → (argsAt st.inn 0 pn).2.1 = (tq : Int) → Ex.gr st.inn pn 0 = some ((argsAt st.inn 0 pn).1, [], st.inn.drop tq) := fun tq h9 h8 => by rw [gr_of (k := 0) h9 h8 (by simp)]; simp
  have HG := Lib.hid (And.intro hgr0 hgr1)
  have HW0 := Lib.hid hW0
  clear hLI hin0
  clear hbv b0 rx r0 s0 hb0 hbw2 h1 h2 hlt hok hgr0 hgr1 hW0
  rcases hA : argsAt st.inn 0 pn with ⟨x, tz, er⟩
  rw [hA] at HA HARG HG
  simp only at HG
  clear hA
  have bd0 : Below W0.heap.size W0 W0.drew := below_drewN (Below.refl W0.heap.size W0) 1
  have d1 : W0.drew.cell? ⟨bw, 1, none⟩ = some (.slice ai LI ci) := c1
  have d2 : W0.drew.cell? ⟨bx, 1, none⟩ = some (.int .i64 pn) := x1
  by_cases he : er = 0
  · subst he
    obtain ⟨tq, htz, htq, hxl, hin, _, _⟩ := HARG.out rfl
    simp only at htz hxl hin
    subst htz
    have hgr := HG.out.2 tq rfl rfl
    obtain ⟨st2, hst2⟩ : ∃ s, s = { st with inn := st.inn.drop tq } := ⟨_, rfl⟩
    have HD : Hid (Ex.doCall most st (nm, pn, bd) = if st2.fuel = 0 then Ex.note st2 9 nm else Ex.come most (Ex.burnt st2) nm (Mx.fill x bd)) := Lib.hid (by unfold Ex.doCall; simp only; rw [hgr, hst2])
    obtain ⟨r, hr⟩ : ∃ r, r = st.inn.drop tq := ⟨_, rfl⟩
    rw [← hr] at hst2
    have HR2 := Lib.hid hr
    have HST2 := Lib.hid hst2
    have htl : tq ≤ st.inn.length := htq
    have HXB : Hid (∀ g ∈ x, g.length ≤ B) := Lib.hid fun g hg => by have := (hin g hg).1; have := HOK.out.inl; omega
    have HIN : Hid (r.length ≤ B) := Lib.hid (by rw [hr, List.length_drop]; have := HOK.out.inl; omega)
    have hkk : Wx M W0 bw vf fs most st := ⟨_, vm, vL, vR, vN, ps, HR0.out, HS0.out⟩
    have HKK := Lib.hid hkk
    have HXL := Lib.hid hxl
    clear HG HARG hgr hr hst2 hin hxl htq hkk
    go_enter Tryz.func55, Tryz.ntmps55
    go_upto_region 1 with fail
    rw [← HW0.out, ← hbx]
    clear hbx
    go_region_held3 (fun w' => w'.cell? ⟨bw, 1, none⟩ = some (.slice ai LI ci) ∧ w'.cell? ⟨bx, 1, none⟩ = some (.int .i64 pn))
      (first
        | exact ⟨c1, x1⟩
        | exact ⟨k1, k2⟩
        | go_keep
        | fail)
      (first
        | (go_at_call 89; (with_reducible refine HA.out.mono ?_); rintro e w1 ⟨v, rfl, ox, b1⟩; have b01 := bd0.trans (b1.mono bd0.size); have r1 := HR0.out.kw (Kw.of_below b01) (by have := HR0.out.lt; omega); have k1 := r1.cell (i := 1) rfl; have q1 := HX.out.kw (Kw.of_below b01) (by have := HX.out.lt; omega); have k2 := q1.cell (i := 1) rfl; obtain ⟨ax, cx, rfl⟩ := ox.shape; have HRX := Lib.hid ox; have HB1 := Lib.hid b01; have HG1 := Lib.hid q1; clear ox r1 q1 b1)
        | fail)
    go_upto_region 4 with fail
    have HK1 : Hid (Wx M w1 bw vf fs most st) := Lib.hid (HKK.out.below HB1.out)
    clear c1 x1 d1 d2 k1 k2
    go_cut [24] (fun _ w' => Hid (Wx M w' bw vf fs most st2 ∧ Kw w1 w' fun j => j = bw))
    case first =>
      have hr1 := HR0.out.kw (Kw.of_below HB1.out) (by have := HR0.out.lt; omega)
      have hs1 := HS0.out.below HB1.out
      have c1 := hr1.cell (i := 1) rfl
      have f1 := hr1.free 1
      have HR1 := Lib.hid hr1
      have HS1 := Lib.hid hs1
      have hcl : ∀ v, Rt w1 v r → (0 < r.length → ∀ b, v.ownBlock = some b → b < w1.heap.size ∧ ¬ Own4 bw vL vR vN b) → Hid (Wx M (w1.setCell ⟨bw, 1, none⟩ v) bw vf fs most st2 ∧ Kw w1 (w1.setCell ⟨bw, 1, none⟩ v) fun j => j = bw) := fun v hv hf => Lib.hid ⟨by rw [HST2.out]; exact ⟨v, vm, vL, vR, vN, ps, HR1.out.set 1 v, (HS1.out.setIn hv hf).set 1 v⟩, Kw.set _ _ _ _⟩
      have HCL := Lib.hid hcl
      clear hcl hr1
      by_cases hi0 : 0 < st.inn.length
      · obtain ⟨b, o, ci9, hv, hci, hrest⟩ := hs1.rest hi0 htl
        have hri := hrest.inn
        have hrf := hrest.ifar
        have hdr : ({ st with inn := st.inn.drop tq } : Ex.St).inn = r := HR2.out.symm
        rw [hdr] at hri hrf
        clear hrest hs1 hdr
        cases hv
        have hl2 : (tq : Int) ≤ (st.inn.length : Int) := by omega
        have hc2 : (st.inn.length : Int) ≤ (ci : Int) := by omega
        have HRI := Lib.hid hri
        have HRF := Lib.hid hrf
        clear hri hrf
        by_cases hct : ci = tq
        · obtain rfl : tq = ci := hct.symm
          have hle : st.inn.length = tq := by omega
          have h9 := HRI.out
          have h8 := HRF.out
          rw [if_pos rfl, hle, Nat.sub_self] at h9 h8
          have HFIN := Lib.hid (HCL.out _ h9 h8)
          rw [hle] at c1
          clear h9 h8 hct HRI HRF HCL
          have HLE := Lib.hid hle
          go_wp2_with fail
          go_meet
          first
            | exact HFIN.out
            | (rw [HLE.out, Nat.sub_self]; exact HFIN.out)
        · have h9 := HRI.out
          have h8 := HRF.out
          rw [if_neg hct] at h9 h8
          have hct2 : ¬ (ci : Int) = (tq : Int) := by omega
          have HFIN := Lib.hid (HCL.out _ h9 h8)
          clear h9 h8 HRI HRF HCL
          go_wp2_with fail
          go_meet
          exact HFIN.out
      · have h00 : st.inn = [] := List.eq_nil_of_length_eq_zero (by omega)
        have htq0 : tq = 0 := by rw [h00] at htl; simpa using htl
        subst htq0
        have hr0 : r = [] := by rw [HR2.out, h00]; rfl
        obtain rfl : LI = 0 := by rw [HLI.out, h00]; rfl
        have hsh := hs1.inn.2
        rw [h00] at hsh
        have HCL2 : Hid (∀ v, (v = .slice none 0 0 ∨ ∃ p c, v = .slice (some p) 0 c) → Hid (Wx M (w1.setCell ⟨bw, 1, none⟩ v) bw vf fs most st2 ∧ Kw w1 (w1.setCell ⟨bw, 1, none⟩ v) fun j => j = bw)) := Lib.hid fun v hv => HCL.out v (by rw [hr0]; exact ⟨rfl, .inl ⟨hv, rfl⟩⟩) (by rw [hr0]; intro h9; exact absurd h9 (by simp))
        clear hr0 h00 hs1 HCL
        rcases hsh with ⟨h9 | ⟨⟨pb, po, pp⟩, c, h9⟩, _⟩ | ⟨b, o, cap, h9, _, _, _⟩
        · cases h9
          go_wp2_with fail
          go_meet
          exact HCL2.out _ (.inl rfl)
        · cases h9
          by_cases hc0 : ci = 0
          · subst hc0
            go_wp2_with fail
            go_meet
            exact HCL2.out _ (.inr ⟨_, _, rfl⟩)
          · have hc1 : ¬ (ci : Int) = 0 := by omega
            go_wp2_with fail
            go_meet
            exact HCL2.out _ (.inr ⟨_, _, rfl⟩)
        · cases h9
          by_cases hc0 : ci = 0
          · subst hc0
            go_wp2_with fail
            go_meet
            exact HCL2.out _ (.inr ⟨_, _, rfl⟩)
          · have hc1 : ¬ (ci : Int) = 0 := by omega
            go_wp2_with fail
            go_meet
            exact HCL2.out _ (.inr ⟨_, _, rfl⟩)
    case rest =>
      have HK2 := hcut
      rename World => W2
      have HBW : Hid (bw < bx ∧ bx < w1.heap.size ∧ W0.heap.size ≤ w1.heap.size ∧ bx < W0.heap.size) := Lib.hid (by have h1 := HLT.out; have h2 := HB1.out.size; have h3 := HX.out.lt; have h4 := HBX.out; omega)
      have HB2 : Hid (Below bw w W2) := Lib.hid (((HB0.out.trans (HB1.out.mono HB0.out.size)).mono (Nat.le_of_lt HLT.out)).trans (HK2.out.2.below (fun j e => by omega) (by have := HBW.out; omega)))
      have hro2 := HG1.out.kw HK2.out.2 (by have := HBW.out; omega)
      have y0 := hro2.cell (i := 0) rfl
      have HRO2 := Lib.hid hro2
      have HRX2 := Lib.hid (HRX.out.kw HK2.out.2 fun j e => by have := HBW.out; have : W0.drew.heap.size = W0.heap.size := rfl; omega)
      have HBV2 : Hid (Rt W2 (.slice ab bd.length cb) bd) := Lib.hid (Rd.keep (HBD.out.below' HB1.out) HK2.out.2 fun h0 b hb e => HBW2.out h0 b hb e)
      have HWK2 := Lib.hid HK2.out.1
      have hfu2 : st2.fuel ≤ 1000000 := by rw [HST2.out]; exact hfu
      have hus2 : st2.used ≤ 1000000 := by rw [HST2.out]; exact hus
      have hnl2 : st2.notes.length ≤ 1000000 := by rw [HST2.out]; exact hnl
      have hin2 : st2.inn.length ≤ B := by rw [HST2.out]; exact HIN.out
      have HBN := Lib.hid (burn8_any nm W2 HWK2.out hnl2 hfu2 hus2)
      clear hro2 HK2 HST2 HR2 HIN
      by_cases hf0 : st2.fuel = 0
      · rw [if_pos hf0] at HBN HD
        rw [show decide (st2.fuel ≠ 0) = false by simp [hf0]] at HBN
        clear hf0
        go_wp2_with (go_at_call 90; (with_reducible refine HBN.out.mono ?_); rintro e w4 ⟨rfl, k4, b4, _⟩)
        go_end0
        exact ⟨rfl, by rw [HD.out]; exact k4, HB2.out.trans b4⟩
      · have HKW : Hid (st2.fuel ≠ 0) := Lib.hid hf0
        rw [if_neg hf0] at HBN HD
        rw [show decide (st2.fuel ≠ 0) = true by simp [hf0]] at HBN
        clear hf0
        obtain ⟨st3, hst3⟩ : ∃ st3, st3 = Ex.burnt st2 := ⟨_, rfl⟩
        rw [← hst3] at HD HBN
        have hin3 : st3.inn.length ≤ B := by rw [hst3]; exact hin2
        have hnl3 : st3.notes.length ≤ 1000000 := by rw [hst3]; exact hnl2
        clear hst3
        go_upto_region 6 with (go_at_call 90; (with_reducible refine HBN.out.mono ?_); rintro e w4 ⟨rfl, k4, b4, kw4⟩)
        have kw4 := kw4 HKW.out
        have hro4 := HRO2.out.kw kw4 (by have := HBW.out; omega)
        have HRX4 := (HRX2.out.kw kw4 fun j e => by have := HBW.out; have : W0.drew.heap.size = W0.heap.size := rfl; omega)
        have HBV4 : Rt w4 (.slice ab bd.length cb) bd := Rd.keep HBV2.out kw4 fun h0 b hb e => HBW2.out h0 b hb e
        have HFL : Hid (∀ W, Below w4.heap.size w4 W → Calls Tryz.prog 92 #[.slice ab bd.length cb, .slice ax x.length cx] W fun e w' => ∃ v', e = .returned v' ∧ w'.ownsRow W.heap.size 72 2 v' (Mx.fill x bd).length (tcs (Mx.fill x bd)) ∧ Below W.heap.size W w') := Lib.hid fun W hb => refFill_any _ _ bd x W (HBV4.below' hb) (HRX4.rts.below' hb) (by omega) (by have h9 : x.length = pn.toNat := HXL.out; omega) (fun l hl => by have := HXB.out l hl; omega)
        have HLEN : Hid ((Mx.fill x bd).length ≤ 100000000) := Lib.hid (by
          have h1 := fill_le HXB.out bd
          have h2 : bd.length * (B + 1) ≤ 5000 * 5001 := Nat.mul_le_mul (by omega) (by omega)
          omega)
        have HB4 : Hid (Below bw w w4) := Lib.hid (HB2.out.trans b4)
        have HK4 := Lib.hid k4
        have HRO4 := Lib.hid hro4
        obtain ⟨FL, hFL⟩ : ∃ FL, FL = Mx.fill x bd := ⟨_, rfl⟩
        rw [← hFL] at HFL HLEN HD
        obtain ⟨vi5, vm5, vL5, vR5, vN5, ps5, y1, y2⟩ := HK4.out
        obtain ⟨ai5, ci5, rfl⟩ := y2.inn.shape
        have HI5 := Lib.hid y2.inn
        have HY1 := Lib.hid y1
        have HCL : Hid (∀ W, Below w4.heap.size w4 W → W.cell? ⟨bw, 1, none⟩ = some (.slice ai5 st3.inn.length ci5) ∧ W.cell? ⟨bx, 0, none⟩ = some (.string (S nm)) ∧ W.cell? ⟨bx, 2, none⟩ = some (.slice ab bd.length cb)) := Lib.hid fun W hb => by
          have h8 := HRO4.out.kw (Kw.of_below hb) (by have := HRO4.out.lt; omega)
          exact ⟨(HY1.out.kw (Kw.of_below hb) (by have := HY1.out.lt; omega)).cell (i := 1) rfl, h8.cell (i := 0) rfl, h8.cell (i := 2) rfl⟩
        have HCM : Hid (∀ W v, Below w4.heap.size w4 W → Rt W v FL → Calls Tryz.prog 91 #[.pointer (some ⟨bw, 0, none⟩), .string (S nm), v, .slice ai5 st3.inn.length ci5] W fun e w' => e = .returned (.tuple #[]) ∧ Wx M w' bw vf fs most (Ex.come most st3 nm FL) ∧ Below bw W w') := Lib.hid fun W v hb hv => come8_any nm FL W (HK4.out.below hb) hv (HI5.out.below' hb) HLEN.out (by omega) hnl3
        have bd4 : Below w4.heap.size w4 w4.drew := below_drewN (Below.refl w4.heap.size w4) 1
        obtain ⟨p1, p2, p3⟩ := HCL.out _ (Below.refl _ _)
        obtain ⟨q1, q2, q3⟩ := HCL.out _ bd4
        clear k4 kw4 hro4 HRX4 HBV4 HBN y0 y1 y2 HRX2 HBV2 HRO2 hFL b4
        go_region_with (first
          | (go_at_call 92; (with_reducible refine (HFL.out _ bd4).mono ?_); rintro e w6 ⟨v6, rfl, o6, b6⟩; have b46 := bd4.trans (b6.mono bd4.size); obtain ⟨u1, u2, u3⟩ := HCL.out _ b46; have r6 : Rt w6 v6 FL := own_rd o6)
          | (go_at_call 91; (with_reducible refine (HCM.out _ _ b46 r6).mono ?_); rintro e w7 ⟨rfl, k7, b7⟩)
          | fail)
        all_goals (
          go_wp2_with fail
          go_end0
          exact ⟨rfl, by rw [HD.out]; exact k7, (HB4.out.trans (b46.mono (Nat.le_of_lt HY1.out.lt))).trans b7⟩)
  · have HD : Hid (Ex.doCall most st (nm, pn, bd) = Ex.note st 10 nm) := Lib.hid (by unfold Ex.doCall; simp only; rw [HG.out.1 he])
    have e1 : (er != 0) = true := by simp [bne, he]
    have e2 : (er == 0) = false := by simp [he]
    have hkk : Wx M W0 bw vf fs most st := ⟨_, vm, vL, vR, vN, ps, HR0.out, HS0.out⟩
    have HNT : Hid (∀ W, Below W0.heap.size W0 W → Calls Tryz.prog 20 #[.pointer (some ⟨bw, 0, none⟩), .int .i64 10, .string (S nm)] W fun e w' => e = .returned (.tuple #[]) ∧ Wx M w' bw vf fs most (Ex.note st 10 nm) ∧ Below bw W w') := Lib.hid fun W hb => note8_any 10 nm W (hkk.below hb) hnl
    clear HG HARG he hkk
    go_enter Tryz.func55, Tryz.ntmps55
    go_upto_region 1 with fail
    rw [← HW0.out, ← hbx]
    clear hbx
    go_region_held3 (fun w' => w'.cell? ⟨bw, 1, none⟩ = some (.slice ai LI ci) ∧ w'.cell? ⟨bx, 1, none⟩ = some (.int .i64 pn))
      (first
        | exact ⟨c1, x1⟩
        | exact ⟨k1, k2⟩
        | go_keep
        | fail)
      (first
        | (go_at_call 89; (with_reducible refine HA.out.mono ?_); rintro e w1 ⟨v, rfl, ox, b1⟩; have b01 := bd0.trans (b1.mono bd0.size); have r1 := HR0.out.kw (Kw.of_below b01) (by have := HR0.out.lt; omega); have k1 := r1.cell (i := 1) rfl; have q1 := HX.out.kw (Kw.of_below b01) (by have := HX.out.lt; omega); have k2 := q1.cell (i := 1) rfl; have k3 : w1.cell? ⟨bx, 0, none⟩ = some (.string (S nm)) := q1.cell (i := 0) rfl; obtain ⟨ax, cx, rfl⟩ := ox.shape)
        | fail)
    go_wp2_with (first
      | (go_at_call 20; (with_reducible refine (HNT.out _ b01).mono ?_); rintro e w3 ⟨rfl, k4, b3⟩)
      | fail)
    (try simp only [Exit.inBlock, Exit.then])
    exact bodyPost_ret (results_none rfl _ _ _) rfl ⟨rfl, by rw [HD.out]; exact k4, ((HB0.out.mono (Nat.le_of_lt HLT.out)).trans (b01.mono (Nat.le_trans (Nat.le_of_lt HLT.out) HB0.out.size))).trans b3⟩
end Go.Proofs.YtjfikkjaifdkiaaGreatDoor

namespace Go.Proofs.YtjfikkjaifdkiaaGreatDoor
open Go.RowKit


set_option maxRecDepth 20000 in
set_option maxHeartbeats 16000000 in
/-- 'command': def. -/
theorem cmd8_def {M : List (Nat × Obj)} {bw B T : Nat} {vf : Value} {fs : List Fl} {most : Nat} {st : Ex.St} (w : World) (h : Wx M w bw vf fs most st) (hok : Ex.Ok most B T st) (hB : B ≤ 5000) (hT : T ≤ 1000000) (hnl : st.notes.length ≤ 1000000)  :
    Calls Tryz.prog 22 #[.pointer (some ⟨bw, 0, none⟩), .string (S [100, 101, 102])] w fun e w' => e = .returned (.bool true) ∧ Wx M w' bw vf fs most (Ex.doDef st) ∧ Below bw w w' := by
  have hlt := h.lt
  have HK := Lib.hid h
  have HLT := Lib.hid hlt
  have HOK := Lib.hid hok
  obtain ⟨vin, vm, vL, vR, vN, ps, h1, h2⟩ := h
  have c2 : w.cell? ⟨bw, 2, none⟩ = some vm := h1.cell (i := 2) rfl
  have HGET := Lib.hid (refMget_any vm ps [100, 101, 102] w h2.macs (by have := hok.mln; rw [← h2.fst, List.length_map] at this; omega))
  rw [h2.fst] at HGET
  clear h1 h2 hlt
  rcases hg : getM st.macs [100, 101, 102] with ⟨⟨gn, gp, gbd⟩, gis⟩
  rw [hg] at HGET
  clear hok hg
  go_enter Tryz.func22, Tryz.ntmps22
  simp only [S_lit]
  go_upto_region 2 with (first
    | (go_at_call 49; (with_reducible refine HGET.out.mono ?_); rintro e w1 ⟨bv, rfl, rbv, b1⟩; obtain ⟨ab, cb, rfl⟩ := rbv.shape; have HRB := Lib.hid rbv; clear rbv)
    | fail)
  obtain ⟨V1, hV1⟩ : ∃ V, V = w1.alloc (.cells #[.string (S gn), .int .i64 gp, .slice ab gbd.length cb] 107) := ⟨_, rfl⟩
  rw [← hV1]
  have b1v : Below w.heap.size w V1 := by rw [hV1]; exact b1.alloc b1.size _
  have hx : Ro V1 w1.heap.size 107 [.string (S gn), .int .i64 gp, .slice ab gbd.length cb] := by rw [hV1]; exact heap_alloc_new w1 _
  have HX := Lib.hid hx
  have HK1 := Lib.hid (HK.out.below b1v)
  have HB1 : Hid (Below bw w V1) := Lib.hid (b1v.mono (Nat.le_of_lt HLT.out))
  have HBV : Hid (Rt V1 (.slice ab gbd.length cb) gbd) := Lib.hid (by rw [hV1]; exact HRB.out.below' ((Below.refl _ _).alloc (Nat.le_refl _) _))
  clear hV1 b1v hx b1 c2
  have HD := Lib.hid (def8_any V1 HK1.out HOK.out (by omega) hT hnl)
  go_wp2_with (first
    | (go_at_call 50; (with_reducible refine HD.out.mono ?_); rintro e w2 ⟨rfl, k2, b2⟩)
    | fail)
  (try simp only [Exit.inBlock, Exit.then])
  go_ret
  exact ⟨rfl, k2, HB1.out.trans b2⟩


set_option maxRecDepth 20000 in
set_option maxHeartbeats 16000000 in
/-- 'command': include. -/
theorem cmd8_inc {M : List (Nat × Obj)} {bw B T : Nat} {vf : Value} {fs : List Fl} {most : Nat} {st : Ex.St} (w : World) (h : Wx M w bw vf fs most st) (hok : Ex.Ok most B T st) (hB : B ≤ 5000) (hT : T ≤ 1000000) (hnl : st.notes.length ≤ 1000000) (hfu : st.fuel ≤ 1000000) (hus : st.used ≤ 1000000) (hfl : fs.length ≤ 1000000) (hft : ∀ f ∈ fs, f.2.length ≤ T) :
    Calls Tryz.prog 22 #[.pointer (some ⟨bw, 0, none⟩), .string (S [105, 110, 99, 108, 117, 100, 101])] w fun e w' => e = .returned (.bool true) ∧ Wx M w' bw vf fs most (Ex.doInclude fs most st) ∧ Below bw w w' := by
  have hlt := h.lt
  have HK := Lib.hid h
  have HLT := Lib.hid hlt
  have HOK := Lib.hid hok
  obtain ⟨vin, vm, vL, vR, vN, ps, h1, h2⟩ := h
  have c2 : w.cell? ⟨bw, 2, none⟩ = some vm := h1.cell (i := 2) rfl
  have HGET := Lib.hid (refMget_any vm ps [105, 110, 99, 108, 117, 100, 101] w h2.macs (by have := hok.mln; rw [← h2.fst, List.length_map] at this; omega))
  rw [h2.fst] at HGET
  clear h1 h2 hlt
  rcases hg : getM st.macs [105, 110, 99, 108, 117, 100, 101] with ⟨⟨gn, gp, gbd⟩, gis⟩
  rw [hg] at HGET
  clear hok hg
  go_enter Tryz.func22, Tryz.ntmps22
  simp only [S_lit]
  go_upto_region 2 with (first
    | (go_at_call 49; (with_reducible refine HGET.out.mono ?_); rintro e w1 ⟨bv, rfl, rbv, b1⟩; obtain ⟨ab, cb, rfl⟩ := rbv.shape; have HRB := Lib.hid rbv; clear rbv)
    | fail)
  obtain ⟨V1, hV1⟩ : ∃ V, V = w1.alloc (.cells #[.string (S gn), .int .i64 gp, .slice ab gbd.length cb] 107) := ⟨_, rfl⟩
  rw [← hV1]
  have b1v : Below w.heap.size w V1 := by rw [hV1]; exact b1.alloc b1.size _
  have hx : Ro V1 w1.heap.size 107 [.string (S gn), .int .i64 gp, .slice ab gbd.length cb] := by rw [hV1]; exact heap_alloc_new w1 _
  have HX := Lib.hid hx
  have HK1 := Lib.hid (HK.out.below b1v)
  have HB1 : Hid (Below bw w V1) := Lib.hid (b1v.mono (Nat.le_of_lt HLT.out))
  have HBV : Hid (Rt V1 (.slice ab gbd.length cb) gbd) := Lib.hid (by rw [hV1]; exact HRB.out.below' ((Below.refl _ _).alloc (Nat.le_refl _) _))
  clear hV1 b1v hx b1 c2
  have HD := Lib.hid (include8_any V1 HK1.out HOK.out (by omega) hT hnl hfu hus hfl hft)
  go_wp2_with (first
    | (go_at_call 54; (with_reducible refine HD.out.mono ?_); rintro e w2 ⟨rfl, k2, b2⟩)
    | fail)
  (try simp only [Exit.inBlock, Exit.then])
  go_ret
  exact ⟨rfl, k2, HB1.out.trans b2⟩


set_option maxRecDepth 20000 in
set_option maxHeartbeats 16000000 in
/-- 'command': a macro, or none. -/
theorem cmd8_other {M : List (Nat × Obj)} {bw B T : Nat} {vf : Value} {fs : List Fl} {most : Nat} {st : Ex.St} (s : List UInt8) (n1 : s ≠ Ex.sDef) (n2 : s ≠ Ex.sUndef) (n3 : s ≠ Ex.sIfdef) (n4 : s ≠ Ex.sInc) (w : World) (h : Wx M w bw vf fs most st) (hok : Ex.Ok most B T st) (hB : B ≤ 5000) (hnl : st.notes.length ≤ 1000000) (hfu : st.fuel ≤ 1000000) (hus : st.used ≤ 1000000) :
    Calls Tryz.prog 22 #[.pointer (some ⟨bw, 0, none⟩), .string (S s)] w fun e w' => e = .returned (.bool (getM st.macs s).2) ∧ Wx M w' bw vf fs most (if (getM st.macs s).2 = true then Ex.doCall most st (getM st.macs s).1 else st) ∧ Below bw w w' := by
  have hlt := h.lt
  have HK := Lib.hid h
  have HLT := Lib.hid hlt
  have HOK := Lib.hid hok
  obtain ⟨vin, vm, vL, vR, vN, ps, h1, h2⟩ := h
  have c2 : w.cell? ⟨bw, 2, none⟩ = some vm := h1.cell (i := 2) rfl
  have HGET := Lib.hid (refMget_any vm ps s w h2.macs (by have := hok.mln; rw [← h2.fst, List.length_map] at this; omega))
  rw [h2.fst] at HGET
  clear h1 h2 hlt
  rcases hg : getM st.macs s with ⟨⟨gn, gp, gbd⟩, gis⟩
  rw [hg] at HGET
  have e1 : (s == [100, 101, 102]) = false := by rw [beq_eq_false_iff_ne]; exact n1
  have e2 : (s == [117, 110, 100, 101, 102]) = false := by rw [beq_eq_false_iff_ne]; exact n2
  have e3 : (s == [105, 102, 100, 101, 102]) = false := by rw [beq_eq_false_iff_ne]; exact n3
  have e4 : (s == [105, 110, 99, 108, 117, 100, 101]) = false := by rw [beq_eq_false_iff_ne]; exact n4
  have HMEM : Hid (gis = true → (gn, gp, gbd) ∈ st.macs) := Lib.hid fun h9 => by
    have h8 := Ex.getM_mem (l := st.macs) (s := s) (by rw [hg]; exact h9)
    rw [hg] at h8
    exact h8.1
  simp only
  clear hok hg n1 n2 n3 n4
  go_enter Tryz.func22, Tryz.ntmps22
  simp only [S_lit]
  go_upto_region 2 with (first
    | (go_at_call 49; (with_reducible refine HGET.out.mono ?_); rintro e w1 ⟨bv, rfl, rbv, b1⟩; obtain ⟨ab, cb, rfl⟩ := rbv.shape; have HRB := Lib.hid rbv; clear rbv)
    | fail)
  obtain ⟨V1, hV1⟩ : ∃ V, V = w1.alloc (.cells #[.string (S gn), .int .i64 gp, .slice ab gbd.length cb] 107) := ⟨_, rfl⟩
  rw [← hV1]
  have b1v : Below w.heap.size w V1 := by rw [hV1]; exact b1.alloc b1.size _
  have hx : Ro V1 w1.heap.size 107 [.string (S gn), .int .i64 gp, .slice ab gbd.length cb] := by rw [hV1]; exact heap_alloc_new w1 _
  have HX := Lib.hid hx
  have HK1 := Lib.hid (HK.out.below b1v)
  have HB1 : Hid (Below bw w V1) := Lib.hid (b1v.mono (Nat.le_of_lt HLT.out))
  have HBV : Hid (Rt V1 (.slice ab gbd.length cb) gbd) := Lib.hid (by rw [hV1]; exact HRB.out.below' ((Below.refl _ _).alloc (Nat.le_refl _) _))
  clear hV1 b1v hx b1 c2
  cases gis
  · clear HMEM
    go_wp2_with fail
    (try simp only [Exit.inBlock, Exit.then])
    go_ret
    exact ⟨rfl, HK1.out, HB1.out⟩
  · have HD := Lib.hid (call8_any (gn, gp, gbd) V1 HK1.out HOK.out hB hnl hfu hus (HMEM.out rfl) HBV.out)
    have y0 := HX.out.cell (i := 0) rfl
    have y1 := HX.out.cell (i := 1) rfl
    have y2 := HX.out.cell (i := 2) rfl
    simp only at HD
    clear HMEM
    go_wp2_with (first
      | (go_at_call 55; (with_reducible refine HD.out.mono ?_); rintro e w2 ⟨rfl, k2, b2⟩)
      | fail)
    (try simp only [Exit.inBlock, Exit.then])
    go_ret
    exact ⟨rfl, k2, HB1.out.trans b2⟩


set_option maxRecDepth 20000 in
set_option maxHeartbeats 16000000 in
/-- 'command': undef. -/
theorem cmd8_undef {M : List (Nat × Obj)} {bw B T : Nat} {vf : Value} {fs : List Fl} {most : Nat} {st : Ex.St} (w : World) (h : Wx M w bw vf fs most st) (hok : Ex.Ok most B T st) (hB : B ≤ 5000) (hnl : st.notes.length ≤ 1000000)  :
    Calls Tryz.prog 22 #[.pointer (some ⟨bw, 0, none⟩), .string (S [117, 110, 100, 101, 102])] w fun e w' => e = .returned (.bool true) ∧ Wx M w' bw vf fs most (Ex.doUndef st) ∧ Below bw w w' := by
  have hlt := h.lt
  have HK := Lib.hid h
  have HLT := Lib.hid hlt
  have HOK := Lib.hid hok
  obtain ⟨vin, vm, vL, vR, vN, ps, h1, h2⟩ := h
  have c2 : w.cell? ⟨bw, 2, none⟩ = some vm := h1.cell (i := 2) rfl
  have HGET := Lib.hid (refMget_any vm ps [117, 110, 100, 101, 102] w h2.macs (by have := hok.mln; rw [← h2.fst, List.length_map] at this; omega))
  rw [h2.fst] at HGET
  clear h1 h2 hlt
  rcases hg : getM st.macs [117, 110, 100, 101, 102] with ⟨⟨gn, gp, gbd⟩, gis⟩
  rw [hg] at HGET
  clear hok hg
  go_enter Tryz.func22, Tryz.ntmps22
  simp only [S_lit]
  go_upto_region 2 with (first
    | (go_at_call 49; (with_reducible refine HGET.out.mono ?_); rintro e w1 ⟨bv, rfl, rbv, b1⟩; obtain ⟨ab, cb, rfl⟩ := rbv.shape; have HRB := Lib.hid rbv; clear rbv)
    | fail)
  obtain ⟨V1, hV1⟩ : ∃ V, V = w1.alloc (.cells #[.string (S gn), .int .i64 gp, .slice ab gbd.length cb] 107) := ⟨_, rfl⟩
  rw [← hV1]
  have b1v : Below w.heap.size w V1 := by rw [hV1]; exact b1.alloc b1.size _
  have hx : Ro V1 w1.heap.size 107 [.string (S gn), .int .i64 gp, .slice ab gbd.length cb] := by rw [hV1]; exact heap_alloc_new w1 _
  have HX := Lib.hid hx
  have HK1 := Lib.hid (HK.out.below b1v)
  have HB1 : Hid (Below bw w V1) := Lib.hid (b1v.mono (Nat.le_of_lt HLT.out))
  have HBV : Hid (Rt V1 (.slice ab gbd.length cb) gbd) := Lib.hid (by rw [hV1]; exact HRB.out.below' ((Below.refl _ _).alloc (Nat.le_refl _) _))
  clear hV1 b1v hx b1 c2
  have HW := Lib.hid (word8_any 1 (by decide) V1 HK1.out (by have := HOK.out.inl; omega) (z := 1) rfl)
  cases hw : (W8 st.inn 1).2.2.2
  · have HD : Hid (Ex.doUndef st = Ex.note st 10 Ex.sUndef) := Lib.hid (by unfold Ex.doUndef; rw [w8_not (by decide) hw (by decide)])
    have HNT : Hid (∀ W, Wx M W bw vf fs most st → Calls Tryz.prog 20 #[.pointer (some ⟨bw, 0, none⟩), .int .i64 10, .string (S [117, 110, 100, 101, 102])] W fun e w' => e = .returned (.tuple #[]) ∧ Wx M w' bw vf fs most (Ex.note st 10 Ex.sUndef) ∧ Below bw W w') := Lib.hid fun W hW => note8_any 10 [117, 110, 100, 101, 102] W hW hnl
    rw [hw] at HW
    clear hw
    go_wp2_with (first
      | (go_at_call 51; (with_reducible refine HW.out.mono ?_); rintro e w2 ⟨v, rfl, ox, b2⟩; obtain ⟨ax, cx, rfl⟩ := ox.shape; clear ox)
      | (go_at_call 20; (with_reducible refine (HNT.out _ (HK1.out.below b2)).mono ?_); rintro e w3 ⟨rfl, k3, b3⟩)
      | fail)
    (try simp only [Exit.inBlock, Exit.then])
    go_ret
    exact ⟨rfl, by rw [HD.out]; exact k3, (HB1.out.trans (b2.mono (Nat.le_of_lt HK1.out.lt))).trans b3⟩
  · obtain ⟨g, tq, eW, hgr, htq, hgl, hgin⟩ := w8_one hw
    obtain ⟨nm, hnm⟩ : ∃ n, n = (wordOf g).1 := ⟨_, rfl⟩
    rw [← hnm] at eW hgr
    rw [eW] at HW
    obtain ⟨st2, hst2⟩ : ∃ s, s = { st with inn := st.inn.drop tq } := ⟨_, rfl⟩
    have HD : Hid (Ex.doUndef st = { st2 with macs := dropM st2.macs nm }) := Lib.hid (by unfold Ex.doUndef; rw [hgr, hst2]; rfl)
    have HMS : Hid (st2.macs = st.macs ∧ st2.fuel = st.fuel ∧ st2.used = st.used) := Lib.hid (by rw [hst2]; exact ⟨rfl, rfl, rfl⟩)
    obtain ⟨vi9, vm9, vL9, vR9, vN9, ps9, h1, h2⟩ := HK1.out
    have hi0 : 0 < st.inn.length := by omega
    obtain ⟨bi, oi, ci, rfl, hci, hrest⟩ := h2.rest hi0 htq
    have HR1 := Lib.hid h1
    obtain ⟨LI, hLI⟩ : ∃ LI, LI = st.inn.length := ⟨_, rfl⟩
    rw [← hLI] at hci hrest htq
    have hl2 : (tq : Int) ≤ (LI : Int) := by omega
    have hc2 : (LI : Int) ≤ (ci : Int) := by omega
    obtain ⟨vi2, hvi2⟩ : ∃ v, v = Value.slice (if ci = tq then some ⟨bi, oi, none⟩ else some ⟨bi, oi + tq * 2, none⟩) (LI - tq) (ci - tq) := ⟨_, rfl⟩
    rw [← hvi2, ← hst2] at hrest
    have HV := Lib.hid hvi2
    have HRE := Lib.hid hrest
    have HLI := Lib.hid hLI
    clear hvi2 hrest hLI h1 h2 hgr hgl hgin hnm eW hw hst2
    go_upto_region 13 with (first
      | (go_at_call 51; (with_reducible refine HW.out.mono ?_); rintro e w2 ⟨v, rfl, ox, b2⟩; obtain ⟨ax, cx, rfl⟩ := ox.shape; clear ox)
      | fail)
    have hr1 := HR1.out.kw (Kw.of_below b2) (by have := HR1.out.lt; omega)
    have c1 := hr1.cell (i := 1) rfl
    have f1 := hr1.free 1
    rw [← HLI.out] at c1
    have HR1B := Lib.hid hr1
    have HBB := Lib.hid b2
    clear hr1 b2
    go_upto_region 14 with fail
    rw [← HV.out]
    obtain ⟨W2, hW2⟩ : ∃ W2, W2 = w2.setCell ⟨bw, 1, none⟩ vi2 := ⟨_, rfl⟩
    rw [← hW2]
    have hr2 : Ro W2 bw 69 [vf, vi2, vm9, .int .i64 (st.fuel : Int), .int .i64 (most : Int), vL9, vR9, vN9, .int .i64 (st.used : Int)] := by rw [hW2]; exact HR1B.out.set 1 vi2
    have hs2 : Wr M W2 bw vf vi2 vm9 vL9 vR9 vN9 fs ps9 st2 := by rw [hW2]; exact (HRE.out.below HBB.out).set 1 vi2
    have HB2 : Hid (Below bw w W2) := Lib.hid (by
      rw [hW2]
      have h9 := HB1.out.trans (HBB.out.mono (Nat.le_of_lt HK1.out.lt))
      exact h9.trans ((Kw.set w2 bw 1 vi2).below (fun j e => by omega) (Nat.le_trans (Nat.le_of_lt HLT.out) h9.size)))
    have c2 : W2.cell? ⟨bw, 2, none⟩ = some vm9 := hr2.cell (i := 2) rfl
    have HDR := Lib.hid (refMdrop_any vm9 ps9 nm W2 hs2.macs (by have := HOK.out.mln; rw [← HMS.out.1, ← hs2.fst, List.length_map] at this; omega))
    have HR2 := Lib.hid hr2
    have HS2 := Lib.hid hs2
    clear hW2 hr2 hs2 c1 f1 HR1B HRE HV HLI HR1 HBB hl2 hc2 hci htq
    go_wp2_with (first
      | (go_at_call 52; (with_reducible refine HDR.out.mono ?_); rintro e w5 ⟨v5, rfl, o5, b5⟩; have HO5 := Lib.hid o5; have HB5 := Lib.hid b5; have h5 := HR2.out.kw (Kw.of_below b5) (by have := HR2.out.lt; omega); have k2 := h5.cell (i := 2) rfl; have kf := h5.free 2; have HR5 := Lib.hid h5; obtain ⟨a5, c5, rfl⟩ := own_shape o5; clear o5 b5 h5)
      | fail)
    (try simp only [Exit.inBlock, Exit.then])
    go_ret
    have hlt9 := HR2.out.lt
    have hs5 := HS2.out.below HB5.out
    have hm := hs5.setMacs (qs := dropP ps9 nm) (rdM_of HS2.out.macs HB5.out HO5.out fun p hp => (List.mem_filter.1 hp).1) (fun _ b hb => ⟨(HO5.out.lt b hb).2, HS2.out.fresh hlt9 (HO5.out.lt b hb).1⟩) (fun p hp => hs5.bfar p (List.mem_filter.1 hp).1)
    rw [dropP_fst, HS2.out.fst] at hm
    refine ⟨rfl, ?_, (HB2.out.trans (HB5.out.mono (Nat.le_of_lt hlt9))).trans ((Kw.set w5 bw 2 _).below (fun j e => by omega) (Nat.le_of_lt HR5.out.lt))⟩
    rw [HD.out]
    refine ⟨vi2, _, vL9, vR9, vN9, dropP ps9 nm, ?_, hm.set 2 _⟩
    have h9 := HR5.out.set 2 (.slice a5 (dropP ps9 nm).length c5)
    show Ro _ bw 69 [vf, vi2, _, .int .i64 (st2.fuel : Int), .int .i64 (most : Int), vL9, vR9, vN9, .int .i64 (st2.used : Int)]
    rw [HMS.out.2.1, HMS.out.2.2]
    exact h9


theorem w8_three {l : List Lx.Tok} (h : (W8 l 3).2.2.2 = true) : ∃ (g0 g1 g2 : List Lx.Tok) (tq : Nat), W8 l 3 = ([g0, g1, g2], (wordOf g0).1, (tq : Int), true) ∧ Ex.gr l 3 1 = some ([g0, g1, g2], [(wordOf g0).1], l.drop tq) ∧ tq ≤ l.length ∧ g0.length + 2 ≤ tq ∧ g1.length + 2 ≤ tq ∧ g2.length + 2 ≤ tq := by
  have h0 : (argsAt l 0 3).2.2 = 0 := by
    unfold W8 at h
    split at h
    · assumption
    · cases h
  obtain ⟨tq, htz, htq, hxl, hin, _, _⟩ := args_ok h0
  unfold W8 at h ⊢
  rw [if_pos h0] at h ⊢
  have HG := gr_of (k := 1) h0 htz
  obtain ⟨x, hx⟩ : ∃ x, x = (argsAt l 0 3).1 := ⟨_, rfl⟩
  rw [← hx] at h hxl hin HG ⊢
  obtain ⟨g0, g1, g2, rfl⟩ : ∃ a b c, x = [a, b, c] := by
    match x, hxl with
    | [a, b, c], _ => exact ⟨a, b, c, rfl⟩
  simp only [List.getD_cons_zero] at h ⊢
  refine ⟨g0, g1, g2, tq, by rw [h, htz], ?_, htq, (hin g0 (by simp)).1, (hin g1 (by simp)).1, (hin g2 (by simp)).1⟩
  rw [HG (by simp [h])]
  rfl


set_option maxRecDepth 20000 in
set_option maxHeartbeats 16000000 in
/-- 'command': ifdef. -/
theorem cmd8_ifdef {M : List (Nat × Obj)} {bw B T : Nat} {vf : Value} {fs : List Fl} {most : Nat} {st : Ex.St} (w : World) (h : Wx M w bw vf fs most st) (hok : Ex.Ok most B T st) (hB : B ≤ 5000) (hnl : st.notes.length ≤ 1000000)  :
    Calls Tryz.prog 22 #[.pointer (some ⟨bw, 0, none⟩), .string (S [105, 102, 100, 101, 102])] w fun e w' => e = .returned (.bool true) ∧ Wx M w' bw vf fs most (Ex.doIfdef st) ∧ Below bw w w' := by
  have hlt := h.lt
  have HK := Lib.hid h
  have HLT := Lib.hid hlt
  have HOK := Lib.hid hok
  obtain ⟨vin, vm, vL, vR, vN, ps, h1, h2⟩ := h
  have c2 : w.cell? ⟨bw, 2, none⟩ = some vm := h1.cell (i := 2) rfl
  have HGET := Lib.hid (refMget_any vm ps [105, 102, 100, 101, 102] w h2.macs (by have := hok.mln; rw [← h2.fst, List.length_map] at this; omega))
  rw [h2.fst] at HGET
  clear h1 h2 hlt
  rcases hg : getM st.macs [105, 102, 100, 101, 102] with ⟨⟨gn, gp, gbd⟩, gis⟩
  rw [hg] at HGET
  clear hok hg
  go_enter Tryz.func22, Tryz.ntmps22
  simp only [S_lit]
  go_upto_region 2 with (first
    | (go_at_call 49; (with_reducible refine HGET.out.mono ?_); rintro e w1 ⟨bv, rfl, rbv, b1⟩; obtain ⟨ab, cb, rfl⟩ := rbv.shape; have HRB := Lib.hid rbv; clear rbv)
    | fail)
  obtain ⟨V1, hV1⟩ : ∃ V, V = w1.alloc (.cells #[.string (S gn), .int .i64 gp, .slice ab gbd.length cb] 107) := ⟨_, rfl⟩
  rw [← hV1]
  have b1v : Below w.heap.size w V1 := by rw [hV1]; exact b1.alloc b1.size _
  have hx : Ro V1 w1.heap.size 107 [.string (S gn), .int .i64 gp, .slice ab gbd.length cb] := by rw [hV1]; exact heap_alloc_new w1 _
  have HX := Lib.hid hx
  have HK1 := Lib.hid (HK.out.below b1v)
  have HB1 : Hid (Below bw w V1) := Lib.hid (b1v.mono (Nat.le_of_lt HLT.out))
  have HBV : Hid (Rt V1 (.slice ab gbd.length cb) gbd) := Lib.hid (by rw [hV1]; exact HRB.out.below' ((Below.refl _ _).alloc (Nat.le_refl _) _))
  clear hV1 b1v hx b1 c2
  have HW := Lib.hid (word8_any 3 (by decide) V1 HK1.out (by have := HOK.out.inl; omega) (z := 3) rfl)
  cases hw : (W8 st.inn 3).2.2.2
  · have HD : Hid (Ex.doIfdef st = Ex.note st 10 Ex.sIfdef) := Lib.hid (by unfold Ex.doIfdef; rw [w8_not (by decide) hw (by decide)])
    have HNT : Hid (∀ W, Wx M W bw vf fs most st → Calls Tryz.prog 20 #[.pointer (some ⟨bw, 0, none⟩), .int .i64 10, .string (S [105, 102, 100, 101, 102])] W fun e w' => e = .returned (.tuple #[]) ∧ Wx M w' bw vf fs most (Ex.note st 10 Ex.sIfdef) ∧ Below bw W w') := Lib.hid fun W hW => note8_any 10 [105, 102, 100, 101, 102] W hW hnl
    rw [hw] at HW
    clear hw
    go_wp2_with (first
      | (go_at_call 51; (with_reducible refine HW.out.mono ?_); rintro e w2 ⟨v, rfl, ox, b2⟩; obtain ⟨ax, cx, rfl⟩ := ox.shape; clear ox)
      | (go_at_call 20; (with_reducible refine (HNT.out _ (HK1.out.below b2)).mono ?_); rintro e w3 ⟨rfl, k3, b3⟩)
      | fail)
    (try simp only [Exit.inBlock, Exit.then])
    go_ret
    exact ⟨rfl, by rw [HD.out]; exact k3, (HB1.out.trans (b2.mono (Nat.le_of_lt HK1.out.lt))).trans b3⟩
  · obtain ⟨g0, g1, g2, tq, eW, hgr, htq, hl0, hl1, hl3⟩ := w8_three hw
    obtain ⟨nm, hnm⟩ : ∃ n, n = (wordOf g0).1 := ⟨_, rfl⟩
    rw [← hnm] at eW hgr
    rw [eW] at HW
    have HDI : Hid (Ex.doIfdef st = { st with inn := (if (getM st.macs nm).2 = true then g1 else g2) ++ st.inn.drop tq }) := Lib.hid (by unfold Ex.doIfdef; rw [hgr]; rfl)
    have HTQ : Hid (tq ≤ st.inn.length ∧ g1.length + 2 ≤ tq ∧ g2.length + 2 ≤ tq) := Lib.hid ⟨htq, hl1, hl3⟩
    have hi0 : 0 < st.inn.length := by omega
    clear hgr hnm eW hw
    rcases hg2 : getM st.macs nm with ⟨⟨hn, hp, hbd⟩, his⟩
    have HI9 : Hid ((getM st.macs nm).2 = his) := Lib.hid (by rw [hg2])
    have HGT : Hid (∀ W vm9 (ps9 : List (Mac × Value)), RdM W vm9 ps9 → ps9.map Prod.fst = st.macs → Calls Tryz.prog 49 #[vm9, .string (S nm)] W fun e w' => ∃ bv, e = .returned (.tuple #[.agg #[.string (S hn), .int .i64 hp, bv], .bool his]) ∧ Rt w' bv hbd ∧ Below W.heap.size W w') := Lib.hid fun W vm9 ps9 hr hp9 => by
      have h9 := refMget_any vm9 ps9 nm W hr (by have := HOK.out.mln; rw [← hp9, List.length_map] at this; omega)
      rw [hp9, hg2] at h9
      exact h9
    clear hg2
    go_upto_region 20 with (first
      | (go_at_call 51; (with_reducible refine HW.out.mono ?_); rintro e w2 ⟨v, rfl, ox, b2⟩; obtain ⟨ax, cx, rfl⟩ := ox.shape; obtain ⟨gb9, u1, rfl, x1, rt1, hg9, hgB, hxc, _⟩ := Oll.at9 ox (i := 1) (by simp); obtain ⟨gb8, u2, hg8, x2, rt2, _⟩ := Oll.at9 ox (i := 2) (by simp); cases hg8; have rt1 : Rt w2 u1 g1 := rt1; have rt2 : Rt w2 u2 g2 := rt2; obtain ⟨a1, c1, rfl⟩ := rt1.shape; obtain ⟨a2, c2, rfl⟩ := rt2.shape; have HX12 := Lib.hid (And.intro x1 (And.intro x2 (And.intro rt1 (And.intro rt2 hg9)))); have HB2 := Lib.hid b2; clear ox x1 x2 rt1 rt2 hg9 hgB b2)
      | fail)
    have HK2 := Lib.hid (HK1.out.below HB2.out)
    obtain ⟨vi9, vm9, vL9, vR9, vN9, ps9, h1, h2⟩ := HK2.out
    have m2 : w2.cell? ⟨bw, 2, none⟩ = some vm9 := h1.cell (i := 2) rfl
    have HG9 := Lib.hid (HGT.out w2 vm9 ps9 h2.macs h2.fst)
    clear h1 h2
    go_upto_region 21 with (first
      | (go_at_call 49; (with_reducible refine HG9.out.mono ?_); rintro e w3 ⟨bv9, rfl, rbv9, b3⟩; obtain ⟨ab9, cb9, rfl⟩ := rbv9.shape; clear rbv9)
      | fail)
    obtain ⟨V3, hV3⟩ : ∃ V, V = w3.alloc (.cells #[.string (S hn), .int .i64 hp, .slice ab9 hbd.length cb9] 107) := ⟨_, rfl⟩
    rw [← hV3]
    have b23 : Below w2.heap.size w2 V3 := by rw [hV3]; exact b3.alloc b3.size _
    have HK3 := Lib.hid (HK2.out.below b23)
    have HB3 : Hid (Below bw w V3) := Lib.hid ((HB1.out.trans (HB2.out.mono (Nat.le_of_lt HK1.out.lt))).trans (b23.mono (Nat.le_of_lt HK2.out.lt)))
    have HU1 : Hid (Rt V3 (.slice a1 g1.length c1) g1) := Lib.hid (HX12.out.2.2.1.below' b23)
    have HU2 : Hid (Rt V3 (.slice a2 g2.length c2) g2) := Lib.hid (HX12.out.2.2.2.1.below' b23)
    obtain ⟨bi, oi, ci, t1, _, hci, htl⟩ := HK3.out.tail hi0 HTQ.out.1
    have HT1 := Lib.hid t1
    have HTL := Lib.hid htl
    have HLE : Hid (tq ≤ st.inn.length ∧ st.inn.length ≤ ci) := Lib.hid ⟨HTQ.out.1, hci⟩
    have HCL : Hid (∀ W, Below V3.heap.size V3 W → W.cell? ⟨bw, 1, none⟩ = some (.slice (some ⟨bi, oi, none⟩) st.inn.length ci) ∧ W.cell? ⟨gb9, 1, none⟩ = some (.slice a1 g1.length c1) ∧ W.cell? ⟨gb9, 2, none⟩ = some (.slice a2 g2.length c2)) := Lib.hid fun W hb => by
      have h9 := b23.trans (hb.mono b23.size)
      exact ⟨(hb.cell (p := ⟨bw, 1, none⟩) HK3.out.lt).trans HT1.out, (h9.cell (p := ⟨gb9, 1, none⟩) HX12.out.2.2.2.2).trans HX12.out.1, (h9.cell (p := ⟨gb9, 2, none⟩) HX12.out.2.2.2.2).trans HX12.out.2.1⟩
    have HB23 := Lib.hid b23
    clear hV3 b23 t1 htl hci b3 m2 hl0 hl1 hl3 htq hi0
    cases his
    · have HD : Hid (Ex.doIfdef st = { st with inn := g2 ++ st.inn.drop tq }) := Lib.hid (by rw [HDI.out]; rw [HI9.out]; rfl)
      have HFR : Hid (∀ W u, Below V3.heap.size V3 W → Rt W u (st.inn.drop tq) → Calls Tryz.prog 53 #[.pointer (some ⟨bw, 0, none⟩), .slice a2 g2.length c2, u] W fun e w' => e = .returned (.tuple #[]) ∧ Wx M w' bw vf fs most { st with inn := g2 ++ st.inn.drop tq } ∧ Below bw W w') := Lib.hid fun W u hb hu => front8_any g2 (st.inn.drop tq) W (HK3.out.below hb) (HU2.out.below' hb) hu (by have := HTQ.out; have := HOK.out.inl; omega) (by rw [List.length_drop]; have := HOK.out.inl; omega)
      have bd : Below V3.heap.size V3 V3.drew := below_drewN (Below.refl V3.heap.size V3) 1
      obtain ⟨p1, p2, p3⟩ := HCL.out _ (Below.refl _ _)
      obtain ⟨q1, q2, q3⟩ := HCL.out _ bd
      have hrt := HTL.out.below' bd
      clear HDI HI9
      by_cases hct : ci = tq
      · obtain rfl : tq = ci := hct.symm
        have hle : st.inn.length = tq := by have := HLE.out; omega
        rw [if_pos rfl, hle, Nat.sub_self] at hrt
        rw [hle] at p1 q1
        have HRT := Lib.hid hrt
        clear hrt hct
        go_upto_region 23 with fail
        go_region_with (first
          | (go_at_call 53; (with_reducible refine (HFR.out _ _ bd (by first | exact HRT.out | (rw [Nat.sub_self]; exact HRT.out))).mono ?_); rintro e w7 ⟨rfl, k7, b7⟩)
          | fail)
        all_goals (
          go_wp2_with fail
          (try simp only [Exit.inBlock, Exit.then])
          go_ret
          exact ⟨rfl, by rw [HD.out]; exact k7, (HB3.out.trans (bd.mono (Nat.le_of_lt HK3.out.lt))).trans b7⟩)
      · rw [if_neg hct] at hrt
        have hct2 : ¬ (ci : Int) = (tq : Int) := by omega
        have hl2 : (tq : Int) ≤ (st.inn.length : Int) := by have := HLE.out; omega
        have hc2 : (st.inn.length : Int) ≤ (ci : Int) := by have := HLE.out; omega
        have HRT := Lib.hid hrt
        clear hrt
        go_upto_region 23 with fail
        go_region_with (first
          | (go_at_call 53; (with_reducible refine (HFR.out _ _ bd HRT.out).mono ?_); rintro e w7 ⟨rfl, k7, b7⟩)
          | fail)
        all_goals (
          go_wp2_with fail
          (try simp only [Exit.inBlock, Exit.then])
          go_ret
          exact ⟨rfl, by rw [HD.out]; exact k7, (HB3.out.trans (bd.mono (Nat.le_of_lt HK3.out.lt))).trans b7⟩)
    · have HD : Hid (Ex.doIfdef st = { st with inn := g1 ++ st.inn.drop tq }) := Lib.hid (by rw [HDI.out]; rw [HI9.out]; rfl)
      have HFR : Hid (∀ W u, Below V3.heap.size V3 W → Rt W u (st.inn.drop tq) → Calls Tryz.prog 53 #[.pointer (some ⟨bw, 0, none⟩), .slice a1 g1.length c1, u] W fun e w' => e = .returned (.tuple #[]) ∧ Wx M w' bw vf fs most { st with inn := g1 ++ st.inn.drop tq } ∧ Below bw W w') := Lib.hid fun W u hb hu => front8_any g1 (st.inn.drop tq) W (HK3.out.below hb) (HU1.out.below' hb) hu (by have := HTQ.out; have := HOK.out.inl; omega) (by rw [List.length_drop]; have := HOK.out.inl; omega)
      have bd : Below V3.heap.size V3 V3.drew := below_drewN (Below.refl V3.heap.size V3) 1
      obtain ⟨p1, p2, p3⟩ := HCL.out _ (Below.refl _ _)
      obtain ⟨q1, q2, q3⟩ := HCL.out _ bd
      have hrt := HTL.out.below' bd
      clear HDI HI9
      by_cases hct : ci = tq
      · obtain rfl : tq = ci := hct.symm
        have hle : st.inn.length = tq := by have := HLE.out; omega
        rw [if_pos rfl, hle, Nat.sub_self] at hrt
        rw [hle] at p1 q1
        have HRT := Lib.hid hrt
        clear hrt hct
        go_upto_region 22 with fail
        go_region_with (first
          | (go_at_call 53; (with_reducible refine (HFR.out _ _ bd (by first | exact HRT.out | (rw [Nat.sub_self]; exact HRT.out))).mono ?_); rintro e w7 ⟨rfl, k7, b7⟩)
          | fail)
        all_goals (
          go_wp2_with fail
          (try simp only [Exit.inBlock, Exit.then])
          go_ret
          exact ⟨rfl, by rw [HD.out]; exact k7, (HB3.out.trans (bd.mono (Nat.le_of_lt HK3.out.lt))).trans b7⟩)
      · rw [if_neg hct] at hrt
        have hct2 : ¬ (ci : Int) = (tq : Int) := by omega
        have hl2 : (tq : Int) ≤ (st.inn.length : Int) := by have := HLE.out; omega
        have hc2 : (st.inn.length : Int) ≤ (ci : Int) := by have := HLE.out; omega
        have HRT := Lib.hid hrt
        clear hrt
        go_upto_region 22 with fail
        go_region_with (first
          | (go_at_call 53; (with_reducible refine (HFR.out _ _ bd HRT.out).mono ?_); rintro e w7 ⟨rfl, k7, b7⟩)
          | fail)
        all_goals (
          go_wp2_with fail
          (try simp only [Exit.inBlock, Exit.then])
          go_ret
          exact ⟨rfl, by rw [HD.out]; exact k7, (HB3.out.trans (bd.mono (Nat.le_of_lt HK3.out.lt))).trans b7⟩)

end Go.Proofs.YtjfikkjaifdkiaaGreatDoor

namespace Go.Proofs.YtjfikkjaifdkiaaGreatDoor
open Go.RowKit

/-- 'command': whatever the text. -/
theorem command8_any {M : List (Nat × Obj)} {bw B T : Nat} {vf : Value} {fs : List Fl} {most : Nat} {st : Ex.St} (s : List UInt8) (w : World) (h : Wx M w bw vf fs most st) (hok : Ex.Ok most B T st) (hB : B ≤ 5000) (hT : T ≤ 1000000) (hnl : st.notes.length ≤ 1000000) (hfu : st.fuel ≤ 1000000) (hus : st.used ≤ 1000000) (hfl : fs.length ≤ 1000000) (hft : ∀ f ∈ fs, f.2.length ≤ T) :
    Calls Tryz.prog 22 #[.pointer (some ⟨bw, 0, none⟩), .string (S s)] w fun e w' => e = .returned (.bool (Ex.cmd fs most st s).isSome) ∧ Wx M w' bw vf fs most ((Ex.cmd fs most st s).getD st) ∧ Below bw w w' := by
  by_cases h1 : s = Ex.sDef
  · subst h1
    have e : Ex.cmd fs most st Ex.sDef = some (Ex.doDef st) := if_pos rfl
    rw [e]
    exact cmd8_def w h hok hB hT hnl
  by_cases h2 : s = Ex.sUndef
  · subst h2
    have e : Ex.cmd fs most st Ex.sUndef = some (Ex.doUndef st) := by unfold Ex.cmd; rw [if_neg (by decide), if_pos rfl]
    rw [e]
    exact cmd8_undef w h hok hB hnl
  by_cases h3 : s = Ex.sIfdef
  · subst h3
    have e : Ex.cmd fs most st Ex.sIfdef = some (Ex.doIfdef st) := by unfold Ex.cmd; rw [if_neg (by decide), if_neg (by decide), if_pos rfl]
    rw [e]
    exact cmd8_ifdef w h hok hB hnl
  by_cases h4 : s = Ex.sInc
  · subst h4
    have e : Ex.cmd fs most st Ex.sInc = some (Ex.doInclude fs most st) := by unfold Ex.cmd; rw [if_neg (by decide), if_neg (by decide), if_neg (by decide), if_pos rfl]
    rw [e]
    exact cmd8_inc w h hok hB hT hnl hfu hus hfl hft
  have e : Ex.cmd fs most st s = if (getM st.macs s).2 = true then some (Ex.doCall most st (getM st.macs s).1) else none := by unfold Ex.cmd; rw [if_neg h1, if_neg h2, if_neg h3, if_neg h4]
  have h9 := cmd8_other s h1 h2 h3 h4 w h hok hB hnl hfu hus
  rw [e]
  cases hc : (getM st.macs s).2 with
  | false => rw [hc] at h9; exact h9
  | true => rw [hc] at h9; exact h9

theorem step8 (fs : List Fl) (most : Nat) (st : Ex.St) (t : Lx.Tok) : Ex.step fs most st t = if (decide (t.1 = 4) && (Ex.cmd fs most st t.2).isSome) = true then ((Ex.cmd fs most st t.2).getD st, true) else Ex.put most st t := by
  unfold Ex.step
  by_cases h : t.1 = 4
  · rw [if_pos h, decide_eq_true h, Bool.true_and]
    cases Ex.cmd fs most st t.2 <;> rfl
  · rw [if_neg h, decide_eq_false h, Bool.false_and, if_neg (by decide)]

set_option maxRecDepth 20000 in
set_option maxHeartbeats 16000000 in
/-- 'Expand' of the reference. -/
theorem expand8_any (vf : Value) (fs : List Fl) (main : List UInt8) (fuel most : Nat) (w : World) (hf : Rf w vf fs) (hfl : fs.length ≤ 1000) (hft : ∀ f ∈ fs, f.2.length ≤ 1000) (hfu : fuel ≤ 100) (hmo : most ≤ 1000) :
    Calls Tryz.prog 8 #[vf, .string (S main), .int .i64 (fuel : Int), .int .i64 (most : Int)] w fun e w' => ∃ o, e = .returned (.tuple #[o, .int .i64 0]) ∧ RdO w' o (Ex.expand fs main fuel most) ∧ Below w.heap.size w w' := by
  obtain ⟨af, cf, hvf⟩ := hf.shape
  subst hvf
  obtain ⟨nf, hnf⟩ : ∃ nf, nf = fs.length := ⟨_, rfl⟩
  have hf9 := hf
  rw [← hnf] at hf9 ⊢
  obtain ⟨W1, hW1⟩ : ∃ W1, W1 = w.alloc (.cells #[.slice none 0 0, .slice none 0 0, .slice none 0 0, .int .i64 0] 37) := ⟨_, rfl⟩
  obtain ⟨W2, hW2⟩ : ∃ W2, W2 = W1.alloc (.cells #[.slice af nf cf, .slice none 0 0, .slice none 0 0, .int .i64 (fuel : Int), .int .i64 (most : Int), .slice none 0 0, .slice none 0 0, .slice none 0 0, .int .i64 0] 69) := ⟨_, rfl⟩
  obtain ⟨b8, hb8⟩ : ∃ b8, b8 = w.heap.size := ⟨_, rfl⟩
  have hs1 : W1.heap.size = b8 + 1 := by rw [hW1, hb8]; simp
  have hs2 : W2.heap.size = b8 + 2 := by rw [hW2]; simp; omega
  have hb1 : Below w.heap.size w W1 := by rw [hW1]; exact (Below.refl _ _).alloc (Nat.le_refl _) _
  have hb12 : Below W1.heap.size W1 W2 := by rw [hW2]; exact (Below.refl _ _).alloc (Nat.le_refl _) _
  have hb2 : Below w.heap.size w W2 := hb1.trans (hb12.mono hb1.size)
  have hr8 : Ro W1 b8 37 [.slice none 0 0, .slice none 0 0, .slice none 0 0, .int .i64 0] := by rw [hW1, hb8]; exact heap_alloc_new w _
  have hr9 : Ro W2 (b8 + 1) 69 [.slice af nf cf, .slice none 0 0, .slice none 0 0, .int .i64 (fuel : Int), .int .i64 (most : Int), .slice none 0 0, .slice none 0 0, .slice none 0 0, .int .i64 0] := by rw [hW2, ← hs1]; exact heap_alloc_new W1 _
  have hno : ∀ v b, v = Value.slice none 0 0 → v.ownBlock = some b → False := fun v b e h => by subst e; cases h
  have hwk : Wx [] W2 (b8 + 1) (.slice af nf cf) fs most (Ex.zero fuel) := by
    refine ⟨.slice none 0 0, .slice none 0 0, .slice none 0 0, .slice none 0 0, .slice none 0 0, [], hr9, ?_, ⟨rfl, .inl ⟨.inl rfl, rfl⟩⟩, ⟨⟨rfl, .inl ⟨.inl rfl, rfl⟩⟩, fun p hp => (by cases hp)⟩, rfl, World.ownsRow_nil _ _ _ _, World.ownsRow_nil _ _ _ _, World.ownsRow_nil _ _ _ _, ?_, fun h => absurd h (by simp [Ex.zero]), fun h => absurd h (by simp), fun p hp => (by cases hp), fun x hx => (by cases hx)⟩
    · have := hf9.below' hb2
      exact this
    · intro h0 b hb
      have hlt : b < b8 := by
        rcases hf.2 with ⟨_, h9⟩ | ⟨b', o, cap, hv, hlt, _, _⟩
        · omega
        · rw [hnf, hv] at hb
          have e : b' = b := by simpa [Value.ownBlock] using hb
          rw [← e, hb8]
          exact hlt h0
      refine ⟨by omega, ?_⟩
      rintro (e | e | e | e)
      · omega
      · exact hno _ _ rfl e
      · exact hno _ _ rfl e
      · exact hno _ _ rfl e
  have HWK := Lib.hid hwk
  have HB12 := Lib.hid hb12
  have HB1 := Lib.hid hb1
  have HR8 := Lib.hid hr8
  have HSZ := Lib.hid (And.intro hs1 hs2)
  have HF := Lib.hid (And.intro hfl hft)
  have HW1 := Lib.hid hW1
  have HW2 := Lib.hid hW2
  have HB8 := Lib.hid hb8
  have HOK := Lib.hid (ok_start (fs := fs) (main := main) (fuel := fuel) (most := most) hft)
  obtain ⟨gt, hgt⟩ : ∃ gt, gt = (Fi.get fs main).1 := ⟨_, rfl⟩
  obtain ⟨gb, hgb⟩ : ∃ gb, gb = (Fi.get fs main).2 := ⟨_, rfl⟩
  have hgl9 : gt.length ≤ 1000 := by rw [hgt]; exact get_len hft main
  have HAK := Lib.hid (ask8_any main W2 hwk (by omega) (by simp [Ex.zero]))
  rw [← hgt, ← hgb] at HAK
  have HST : Hid (Ex.start fs main fuel = if gb = true then { Ex.ask (Ex.zero fuel) main with inn := Lx.lex gt } else Ex.note (Ex.ask (Ex.zero fuel) main) 4 main) := Lib.hid (by rw [hgt, hgb]; rfl)
  have HNOT : Hid (gb = false → gt = []) := Lib.hid fun e => by
    rw [hgt]
    rw [hgb] at e
    unfold Fi.get at e ⊢
    cases hc : fs.find? fun f => f.1 == main with
    | none => rfl
    | some f => rw [hc] at e; cases e
  obtain ⟨sta, hsta⟩ : ∃ sta, sta = Ex.ask (Ex.zero fuel) main := ⟨_, rfl⟩
  rw [← hsta] at HAK HST
  have HSTA : Hid (sta.fuel + sta.used ≤ 100 ∧ sta.notes = [] ∧ sta.inn = []) := Lib.hid (by rw [hsta, ask_zero]; exact ⟨hfu, rfl, rfl⟩)
  obtain ⟨E, hE⟩ : ∃ E, E = Ex.expand fs main fuel most := ⟨_, rfl⟩
  rw [← hE]
  have HE : Hid (E = Ex.run fs most (Ex.mu (most + (Ex.start fs main fuel).inn.length) (Ex.start fs main fuel)) (Ex.start fs main fuel)) := Lib.hid hE
  have l0 : ¬ ((fuel : Int) < 0) := by omega
  have l1 : ¬ (1000 < (fuel : Int)) := by omega
  have l2 : ¬ ((most : Int) < 0) := by omega
  have l3 : ¬ (20000 < (most : Int)) := by omega
  clear hf hf9 hfl hft hW1 hW2 hs1 hs2 hb1 hb12 hb2 hr8 hr9 hno hwk hgt hgb hsta hnf hE
  rw [← hb8]
  clear hb8
  cases gb
  · have HCUT := Lib.hid (HNOT.out rfl)
    rw [if_neg (by decide)] at HST
    go_enter Tryz.func8, Tryz.ntmps8
    go_upto_region 3 with fail
    rw [← HW1.out]
    rw [← HB8.out]
    go_upto_region 4 with fail
    rw [show W1.heap.size = b8 + 1 from HSZ.out.1, ← HW2.out]
    go_upto_region 6 with (first
      | (go_at_call 19; (with_reducible refine HAK.out.mono ?_); rintro e WZ ⟨rfl, kz, bz⟩; have HKZ := Lib.hid kz; have HBZ := Lib.hid bz; clear kz bz)
      | fail)
    have HNQ := Lib.hid (note8_any 4 main WZ HKZ.out (by rw [HSTA.out.2.1]; simp))
    go_upto_region 7 with (first
      | (go_at_call 20; (with_reducible refine HNQ.out.mono ?_); rintro e WX ⟨rfl, kx, bx⟩; have HKX := Lib.hid kx; have HBX := Lib.hid (HBZ.out.trans bx); clear kx bx)
      | fail)
    have hE9 : E = Ex.note sta 4 main := by
      rw [HE.out, HST.out]
      exact run_nil HSTA.out.2.2
    have HKE : Hid (Wx [] WX (b8 + 1) (.slice af nf cf) fs most E) := Lib.hid (by rw [hE9]; exact HKX.out)
    have HBE : Hid (Below (b8 + 1) W2 WX) := HBX
    clear hE9 HNQ HKX HBX HKZ HBZ HAK HCUT HST HNOT
    obtain ⟨vin9, vm9, vL9, vR9, vN9, ps9, x1, x2⟩ := HKE.out
    obtain ⟨aL, cL, hL⟩ := own_shape x2.outL
    obtain ⟨aR, cR, hR⟩ := own_shape x2.reads
    obtain ⟨aN, cN, hN⟩ := own_shape x2.notes
    subst hL
    subst hR
    subst hN
    have HX2 := Lib.hid x2
    obtain ⟨nL, hnL⟩ : ∃ n, n = E.outL.length := ⟨_, rfl⟩
    obtain ⟨nR, hnR⟩ : ∃ n, n = E.reads.length := ⟨_, rfl⟩
    obtain ⟨nN, hnN⟩ : ∃ n, n = E.notes.length := ⟨_, rfl⟩
    obtain ⟨nU, hnU⟩ : ∃ n, n = E.used := ⟨_, rfl⟩
    rw [← hnL, ← hnR, ← hnN, ← hnU] at x1
    have e5 := x1.cell (i := 5) rfl
    have e6 := x1.cell (i := 6) rfl
    have e7 := x1.cell (i := 7) rfl
    have e8 := x1.cell (i := 8) rfl
    have HB9 : Hid (Below (b8 + 1) W1 WX) := Lib.hid ((HB12.out.mono (by have := HSZ.out.1; omega)).trans HBE.out)
    have hr8 : Ro WX b8 37 [.slice none 0 0, .slice none 0 0, .slice none 0 0, .int .i64 0] := HR8.out.kw (Kw.of_below HB9.out) (by omega)
    have g0 := hr8.cell (i := 0) rfl
    have g1 := hr8.cell (i := 1) rfl
    have g2 := hr8.cell (i := 2) rfl
    have g3 := hr8.cell (i := 3) rfl
    have j0 := hr8.free 0
    have j1 := hr8.free 1
    have j2 := hr8.free 2
    have j3 := hr8.free 3
    have HNN := Lib.hid (And.intro hnL (And.intro hnR (And.intro hnN hnU)))
    obtain ⟨WF, hWF⟩ : ∃ WF, WF = (((WX.setCell ⟨b8, 0, none⟩ (.slice aL nL cL)).setCell ⟨b8, 1, none⟩ (.slice aR nR cR)).setCell ⟨b8, 2, none⟩ (.slice aN nN cN)).setCell ⟨b8, 3, none⟩ (.int .i64 (nU : Int)) := ⟨_, rfl⟩
    have hrF : Ro WF b8 37 [.slice aL nL cL, .slice aR nR cR, .slice aN nN cN, .int .i64 (nU : Int)] := by rw [hWF]; exact (((hr8.set 0 _).set 1 _).set 2 _).set 3 _
    have hkF : Kw WX WF fun j => j = b8 := by
      rw [hWF]
      exact (((Kw.set _ b8 0 _).trans (Kw.set _ b8 1 _) fun _ _ e => e).trans (Kw.set _ b8 2 _) fun _ _ e => e).trans (Kw.set _ b8 3 _) fun _ _ e => e
    have HKF := Lib.hid hkF
    have HWF := Lib.hid hWF
    have r0 := hrF.cell (i := 0) rfl
    have r1 := hrF.cell (i := 1) rfl
    have r2 := hrF.cell (i := 2) rfl
    have r3 := hrF.cell (i := 3) rfl
    clear x1 x2 hr8 hnL hnR hnN hnU hWF hrF hkF
    go_wp2_with fail
    (try simp only [Exit.inBlock, Exit.then])
    rw [← HWF.out]
    refine bodyPost_ret (v := .tuple #[.agg #[.slice aL nL cL, .slice aR nR cR, .slice aN nN cN, .int .i64 (nU : Int)], .int .i64 0]) ?_ rfl ?_
    · rw [results_cell_tmp rfl]
      go_simp
    · have hbF : Below b8 WX WF := HKF.out.below (fun j e => by omega) (by have := HBE.out.size; have := HSZ.out.2; omega)
      have hbW : Below b8 w WF := by
        have h1 := HB1.out
        rw [← HB8.out] at h1
        have h2 := h1.trans (HB12.out.mono (by have := HSZ.out.1; omega))
        have h3 : Below b8 W2 WX := ⟨HBE.out.1, HBE.out.2, HBE.out.3, HBE.out.4, fun j hj => HBE.out.block j (by omega)⟩
        exact (h2.trans h3).trans hbF
      refine ⟨_, rfl, ⟨_, _, _, by rw [HNN.out.2.2.2], ?_, ?_, ?_⟩, hbW⟩
      · have := HKF.out.row HX2.out.outL fun g hg e => by have := (HX2.out.outL.lt g hg).1; omega
        rw [HNN.out.1]
        exact own_rd this
      · have := HKF.out.row HX2.out.reads fun g hg e => by have := (HX2.out.reads.lt g hg).1; omega
        rw [HNN.out.2.1]
        exact own_rd this
      · have := HKF.out.row HX2.out.notes fun g hg e => by have := (HX2.out.notes.lt g hg).1; omega
        rw [HNN.out.2.2.1]
        exact own_rd this
  · clear HNOT
    rw [if_pos rfl] at HST
    go_enter Tryz.func8, Tryz.ntmps8
    go_upto_region 3 with fail
    rw [← HW1.out]
    rw [← HB8.out]
    go_upto_region 4 with fail
    rw [show W1.heap.size = b8 + 1 from HSZ.out.1, ← HW2.out]
    go_upto_region 8 with (first
      | (go_at_call 19; (with_reducible refine HAK.out.mono ?_); rintro e WX ⟨rfl, kx, bx⟩; have HKX := Lib.hid kx; have HBX := Lib.hid bx; clear kx bx)
      | fail)
    have HLX := Lib.hid (refLex_any gt (by omega) WX)
    obtain ⟨LX, hLX⟩ : ∃ LX, LX = Lx.lex gt := ⟨_, rfl⟩
    have hlx9 : LX.length ≤ 1000 := by rw [hLX]; have := lex_len gt; omega
    rw [← hLX] at HLX HST
    clear hLX
    obtain ⟨s0, hs0⟩ : ∃ s0, s0 = Ex.start fs main fuel := ⟨_, rfl⟩
    rw [← hs0] at HE HOK
    have HS0 : Hid (s0 = { sta with inn := LX }) := Lib.hid (by rw [hs0, HST.out])
    clear hs0 HST HAK
    obtain ⟨vin, vm, vL, vR, vN, ps, h1, h2⟩ := HKX.out
    have HX1 := Lib.hid h1
    have HX2 := Lib.hid h2
    clear h1 h2
    go_wp2_with (first
      | (go_at_call 21; (with_reducible refine HLX.out.mono ?_); rintro e w4 ⟨v4, rfl, o4, b4⟩; have HO4 := Lib.hid o4; have HB4 := Lib.hid b4; have HX4 := Lib.hid (HX1.out.kw (Kw.of_below b4) (by have := HX1.out.lt; omega)); have k1 := HX4.out.cell (i := 1) rfl; have kf := HX4.out.free 1; obtain ⟨a4, c4, hv4⟩ := own_shape o4; subst hv4; clear o4 b4)
      | fail)
    obtain ⟨W5, hW5⟩ : ∃ W5, W5 = w4.setCell ⟨b8 + 1, 1, none⟩ (.slice a4 LX.length c4) := ⟨_, rfl⟩
    rw [← hW5]
    have hk5 : Wx [] W5 (b8 + 1) (.slice af nf cf) fs most s0 := by
      rw [HS0.out, hW5]
      exact ⟨_, vm, vL, vR, vN, ps, HX4.out.set 1 _, ((HX2.out.below HB4.out).setIn (l := LX) (own_rd HO4.out) fun _ b hb => ⟨(HO4.out.lt b hb).2, HX2.out.fresh HX1.out.lt (HO4.out.lt b hb).1⟩).set 1 _⟩
    have HB5 : Hid (Below (b8 + 1) W2 W5) := Lib.hid (by
      have h9 := HBX.out.trans (HB4.out.mono (by have := HX1.out.lt; omega))
      rw [hW5]
      exact h9.trans ((Kw.set w4 (b8 + 1) 1 _).below (fun j e => by omega) (by have := h9.size; have := HSZ.out.2; omega)))
    have HK5 := Lib.hid hk5
    have HS9 : Hid (s0.fuel + s0.used ≤ 100 ∧ s0.notes.length ≤ 1) := Lib.hid (by rw [HS0.out]; exact ⟨HSTA.out.1, by show sta.notes.length ≤ 1; rw [HSTA.out.2.1]; exact Nat.zero_le _⟩)
    have HLEN : Hid (s0.inn.length = LX.length) := Lib.hid (by rw [HS0.out])
    clear hW5 hk5 k1 kf HX1 HX2 HX4 HO4 HB4 HLX HKX HBX
    obtain ⟨B, hBB⟩ : ∃ B, B = most + s0.inn.length := ⟨_, rfl⟩
    rw [← hBB] at HE HOK
    have HBB : Hid (B ≤ 2000 ∧ most ≤ B) := Lib.hid (by have := HLEN.out; omega)
    clear hBB
    go_loopg [13] (Ex.mu B s0 - 0) (fun n v13 wr => ∃ st : Ex.St, Hid (Wx [] wr (b8 + 1) (.slice af nf cf) fs most st) ∧ Hid (Ex.Ok most B 1000 st) ∧ Hid (st.fuel + st.used ≤ 1000) ∧ Hid (st.notes.length + Ex.mu B st ≤ Ex.mu B s0 + 1) ∧ Hid (Ex.mu B st = n ∧ Ex.run fs most (Ex.mu B st) st = E) ∧ Hid (Below (b8 + 1) W2 wr))
    case atStart => exact ⟨s0, HK5, HOK, Lib.hid (by have := HS9.out.1; omega), Lib.hid (by have := HS9.out.2; omega), Lib.hid ⟨rfl, HE.out.symm⟩, HB5⟩
    case round =>
      obtain ⟨st, HK, HOKR, HFU, HNT, HRUN, HBR⟩ := hrel
      rename World => wr
      obtain ⟨ii, hii⟩ : ∃ ii, ii = st.inn := ⟨_, rfl⟩
      cases ii with
      | nil =>
        have hE9 : E = st := by rw [← HRUN.out.2]; exact run_nil hii.symm
        have HKE : Hid (Wx [] wr (b8 + 1) (.slice af nf cf) fs most E) := Lib.hid (by rw [hE9]; exact HK.out)
        have HIN0 : Hid (E.inn = []) := Lib.hid (by rw [hE9]; exact hii.symm)
        have HBE := HBR
        clear HK HOKR HFU HNT HRUN HBR hE9 hii
        obtain ⟨vin9, vm9, vL9, vR9, vN9, ps9, x1, x2⟩ := HKE.out
        obtain ⟨aL, cL, hL⟩ := own_shape x2.outL
        obtain ⟨aR, cR, hR⟩ := own_shape x2.reads
        obtain ⟨aN, cN, hN⟩ := own_shape x2.notes
        subst hL
        subst hR
        subst hN
        have HX2 := Lib.hid x2
        obtain ⟨nL, hnL⟩ : ∃ n, n = E.outL.length := ⟨_, rfl⟩
        obtain ⟨nR, hnR⟩ : ∃ n, n = E.reads.length := ⟨_, rfl⟩
        obtain ⟨nN, hnN⟩ : ∃ n, n = E.notes.length := ⟨_, rfl⟩
        obtain ⟨nU, hnU⟩ : ∃ n, n = E.used := ⟨_, rfl⟩
        rw [← hnL, ← hnR, ← hnN, ← hnU] at x1
        have e5 := x1.cell (i := 5) rfl
        have e6 := x1.cell (i := 6) rfl
        have e7 := x1.cell (i := 7) rfl
        have e8 := x1.cell (i := 8) rfl
        have e1 : wr.cell? ⟨b8 + 1, 1, none⟩ = some vin9 := x1.cell (i := 1) rfl
        obtain ⟨ai9, ci9, hv9⟩ := HX2.out.inn.shape
        rw [HIN0.out] at hv9
        subst hv9
        clear HIN0
        have HB9 : Hid (Below (b8 + 1) W1 wr) := Lib.hid ((HB12.out.mono (by have := HSZ.out.1; omega)).trans HBE.out)
        have hr8 : Ro wr b8 37 [.slice none 0 0, .slice none 0 0, .slice none 0 0, .int .i64 0] := HR8.out.kw (Kw.of_below HB9.out) (by omega)
        have g0 := hr8.cell (i := 0) rfl
        have g1 := hr8.cell (i := 1) rfl
        have g2 := hr8.cell (i := 2) rfl
        have g3 := hr8.cell (i := 3) rfl
        have j0 := hr8.free 0
        have j1 := hr8.free 1
        have j2 := hr8.free 2
        have j3 := hr8.free 3
        have HNN := Lib.hid (And.intro hnL (And.intro hnR (And.intro hnN hnU)))
        obtain ⟨WF, hWF⟩ : ∃ WF, WF = (((wr.setCell ⟨b8, 0, none⟩ (.slice aL nL cL)).setCell ⟨b8, 1, none⟩ (.slice aR nR cR)).setCell ⟨b8, 2, none⟩ (.slice aN nN cN)).setCell ⟨b8, 3, none⟩ (.int .i64 (nU : Int)) := ⟨_, rfl⟩
        have hrF : Ro WF b8 37 [.slice aL nL cL, .slice aR nR cR, .slice aN nN cN, .int .i64 (nU : Int)] := by rw [hWF]; exact (((hr8.set 0 _).set 1 _).set 2 _).set 3 _
        have hkF : Kw wr WF fun j => j = b8 := by
          rw [hWF]
          exact (((Kw.set _ b8 0 _).trans (Kw.set _ b8 1 _) fun _ _ e => e).trans (Kw.set _ b8 2 _) fun _ _ e => e).trans (Kw.set _ b8 3 _) fun _ _ e => e
        have HKF := Lib.hid hkF
        have HWF := Lib.hid hWF
        have r0 := hrF.cell (i := 0) rfl
        have r1 := hrF.cell (i := 1) rfl
        have r2 := hrF.cell (i := 2) rfl
        have r3 := hrF.cell (i := 3) rfl
        clear x1 x2 hr8 hnL hnR hnN hnU hWF hrF hkF
        go_wp2_with fail
        (try simp only [Exit.inBlock, Exit.then])
        rw [← HWF.out]
        refine bodyPost_ret (v := .tuple #[.agg #[.slice aL nL cL, .slice aR nR cR, .slice aN nN cN, .int .i64 (nU : Int)], .int .i64 0]) ?_ rfl ?_
        · rw [results_cell_tmp rfl]
          go_simp
        · have hbF : Below b8 wr WF := HKF.out.below (fun j e => by omega) (by have := HBE.out.size; have := HSZ.out.2; omega)
          have hbW : Below b8 w WF := by
            have h1 := HB1.out
            rw [← HB8.out] at h1
            have h2 := h1.trans (HB12.out.mono (by have := HSZ.out.1; omega))
            have h3 : Below b8 W2 wr := ⟨HBE.out.1, HBE.out.2, HBE.out.3, HBE.out.4, fun j hj => HBE.out.block j (by omega)⟩
            exact (h2.trans h3).trans hbF
          refine ⟨_, rfl, ⟨_, _, _, by rw [HNN.out.2.2.2], ?_, ?_, ?_⟩, hbW⟩
          · have := HKF.out.row HX2.out.outL fun g hg e => by have := (HX2.out.outL.lt g hg).1; omega
            rw [HNN.out.1]
            exact own_rd this
          · have := HKF.out.row HX2.out.reads fun g hg e => by have := (HX2.out.reads.lt g hg).1; omega
            rw [HNN.out.2.1]
            exact own_rd this
          · have := HKF.out.row HX2.out.notes fun g hg e => by have := (HX2.out.notes.lt g hg).1; omega
            rw [HNN.out.2.2.1]
            exact own_rd this
      | cons t r =>
        obtain ⟨b, o, ci, c1, f1, hci, t0, t1, hbl⟩ := HK.out.first hii.symm
        obtain ⟨q1, q2, q3, q4⟩ := Ex.lt_next HOKR.out HBB.out.2 HF.out.2 hii.symm
        obtain ⟨st1, hst1⟩ : ∃ st1, st1 = { st with inn := r } := ⟨_, rfl⟩
        rw [← hst1] at q1 q2 q3 q4
        have htl : t.2.length ≤ 1000 := HOKR.out.int t (by rw [← hii]; exact List.mem_cons_self ..)
        have hnt1 : st1.notes.length ≤ 500000 := by
          have h0 := HNT.out
          have h1 := HS9.out.1
          have h2 := HLEN.out
          have h3 := HBB.out.1
          have h4 : s0.fuel * (B + 1) ≤ 100 * 2001 := Nat.mul_le_mul (by omega) (by omega)
          unfold Ex.mu at h0
          have : st1.notes = st.notes := by rw [hst1]
          rw [this]
          omega
        obtain ⟨k, s⟩ := t
        obtain ⟨WA, hWA⟩ : ∃ WA, WA = wr.alloc (.cells #[.int .i64 k, .string (S s)] 72) := ⟨_, rfl⟩
        have hba : Below wr.heap.size wr WA := by rw [hWA]; exact (Below.refl _ _).alloc (Nat.le_refl _) _
        have hga : Ro WA wr.heap.size 72 [.int .i64 k, .string (S s)] := by rw [hWA]; exact heap_alloc_new wr _
        have hka : Wx [(wr.heap.size, .cells #[.int .i64 k, .string (S s)] 72 (0, 0))] WA (b8 + 1) (.slice af nf cf) fs most st := HK.out.add hba hga (Nat.le_refl _)
        obtain ⟨bz, oz, cz, d1, df, hdc, hkr⟩ := hka.rest (tq := 1) (by rw [← hii]; simp) (by rw [← hii]; simp)
        have hcz : some (Value.slice (some ⟨b, o, none⟩) (r.length + 1) ci) = some (Value.slice (some ⟨bz, oz, none⟩) st.inn.length cz) := by
          rw [← d1]
          exact ((hba.cell (p := ⟨b8 + 1, 1, none⟩) HK.out.lt).trans c1).symm
        simp only [Option.some.injEq, Value.slice.injEq, Addr.mk.injEq, and_true] at hcz
        obtain ⟨⟨rfl, rfl⟩, _, rfl⟩ := hcz
        have hdr : st.inn.drop 1 = r := by rw [← hii]; rfl
        have hln : st.inn.length = r.length + 1 := by rw [← hii]; rfl
        rw [hln] at d1
        rw [hdr, hln, ← hst1] at hkr
        have HKR := Lib.hid hkr
        have HGA := Lib.hid hga
        have HBA := Lib.hid hba
        have HQ := Lib.hid (And.intro q1 (And.intro q2 (And.intro q3 q4)))
        have HFU1 : Hid (st1.fuel + st1.used ≤ 1000) := Lib.hid (by rw [hst1]; exact HFU.out)
        have HRN : Hid (E = if (Ex.step fs most st1 (k, s)).2 = true then Ex.run fs most (Ex.mu B (Ex.step fs most st1 (k, s)).1) (Ex.step fs most st1 (k, s)).1 else (Ex.step fs most st1 (k, s)).1) := Lib.hid (by
          rw [← HRUN.out.2]
          obtain ⟨m, hm⟩ : ∃ m, Ex.mu B st = m + 1 := ⟨Ex.mu B st - 1, by omega⟩
          rw [hm, run_cons hii.symm, ← hst1]
          split
          · exact Ex.run_stable HBB.out.2 HF.out.2 _ _ _ q2 (by omega) (Nat.le_refl _)
          · rfl)
        have HN1 := Lib.hid hnt1
        have HNS : Hid (st1.notes.length = st.notes.length) := Lib.hid (by rw [hst1])
        have hc9 : (r.length : Int) + 1 ≤ (ci : Int) := by omega
        have hla : Hid (b8 + 1 < wr.heap.size) := Lib.hid HK.out.lt
        have HTL := Lib.hid htl
        have HWA := Lib.hid hWA
        obtain ⟨rl, hrl⟩ : ∃ rl, rl = r.length := ⟨_, rfl⟩
        rw [← hrl] at c1 d1 hci hc9 HKR
        have e0 := hga.cell (i := 0) rfl
        have e1 := hga.cell (i := 1) rfl
        clear hii hst1 htl hnt1 hba hga hka hkr hdr hln q1 q2 q3 q4 hWA hrl
        go_upto_region 11 with fail
        rw [← HWA.out]

        obtain ⟨bt, hbt⟩ : ∃ bt, bt = wr.heap.size := ⟨_, rfl⟩
        rw [← hbt] at HKR ⊢
        clear hbt
        obtain ⟨bc, hbc⟩ : ∃ bc, bc = (decide (k = 4) && (Ex.cmd fs most st1 s).isSome) := ⟨_, rfl⟩
        obtain ⟨st2, hst2⟩ : ∃ x, x = if bc = true then (Ex.cmd fs most st1 s).getD st1 else st1 := ⟨_, rfl⟩
        have HSTEP : Hid (Ex.step fs most st1 (k, s) = if bc = true then (st2, true) else Ex.put most st1 (k, s)) := Lib.hid (by
          rw [step8, ← hbc, hst2]
          cases bc <;> rfl)
        have HBCX := Lib.hid hbc
        have HST2 := Lib.hid hst2
        clear hbc hst2
        go_cut [71] (fun _ w' => Hid (Wx [(bt, .cells #[.int .i64 k, .string (S s)] 72 (0, 0))] w' (b8 + 1) (.slice af nf cf) fs most st1 ∧ Below (b8 + 1) W2 w'))
        case first =>
          have hbx : ∀ u : Value, Below (b8 + 1) W2 (WA.setCell ⟨b8 + 1, 1, none⟩ u) := fun u => (HBR.out.trans (HBA.out.mono (Nat.le_of_lt hla.out))).trans ((Kw.set WA (b8 + 1) 1 u).below (fun j e => by omega) (by have := hla.out; have := HBA.out.size; omega))
          have HBX9 := Lib.hid hbx
          clear hbx
          by_cases hct : ci = 1
          · subst hct
            obtain rfl : rl = 0 := by omega
            have hkr := HKR.out
            rw [if_pos rfl] at hkr
            have HKR := Lib.hid hkr
            clear hkr
            go_wp2_with fail
            go_meet
            exact Lib.hid ⟨HKR.out, HBX9.out _⟩
          · have hct2 : ¬ (ci : Int) = 1 := by omega
            have hkr := HKR.out
            rw [if_neg hct, Nat.add_sub_cancel, Nat.one_mul] at hkr
            have HKR := Lib.hid hkr
            clear hkr
            go_wp2_with fail
            go_meet
            exact Lib.hid ⟨HKR.out, HBX9.out _⟩
        case rest =>
          rename World => wc
          have HWC := Lib.hid hcut.out.1
          have HBWC := Lib.hid hcut.out.2
          clear hcut HKR
          have hro : Ro wc bt 72 [.int .i64 k, .string (S s)] := HWC.out.obj (List.mem_cons_self ..)
          have e0 := hro.cell (i := 0) rfl
          have e1 := hro.cell (i := 1) rfl
          have HSS : Hid (st1.notes.length ≤ 1000000 ∧ st1.fuel ≤ 1000000 ∧ st1.used ≤ 1000000) := Lib.hid ⟨by have := HN1.out; omega, by have := HFU1.out; omega, by have := HFU1.out; omega⟩
          clear hro
          go_upto_region 12 with fail
          go_cut [82] (fun v w' => Hid (v = .bool bc ∧ Wx [(bt, .cells #[.int .i64 k, .string (S s)] 72 (0, 0))] w' (b8 + 1) (.slice af nf cf) fs most st2 ∧ Below (b8 + 1) W2 w'))
          case first =>
            by_cases hk4 : k = 4
            · have HCM := Lib.hid (command8_any s wc HWC.out HQ.out.1 (by have := HBB.out.1; omega) (by omega) HSS.out.1 HSS.out.2.1 HSS.out.2.2 (by have := HF.out.1; omega) HF.out.2)
              subst hk4
              have HEB : Hid (bc = (Ex.cmd fs most st1 s).isSome ∧ st2 = (Ex.cmd fs most st1 s).getD st1) := Lib.hid (by
                have h1 := HBCX.out
                have h2 := HST2.out
                rw [decide_eq_true rfl, Bool.true_and] at h1
                rw [h1] at h2
                refine ⟨h1, h2.trans ?_⟩
                cases Ex.cmd fs most st1 s <;> rfl)
              obtain ⟨xb, hxb⟩ : ∃ x, x = (Ex.cmd fs most st1 s).isSome := ⟨_, rfl⟩
              obtain ⟨xs, hxs⟩ : ∃ x, x = (Ex.cmd fs most st1 s).getD st1 := ⟨_, rfl⟩
              rw [← hxb, ← hxs] at HCM HEB
              clear hxb hxs
              go_wp2_with (first
                | (go_at_call 22; (with_reducible refine HCM.out.mono ?_); rintro e w9 ⟨rfl, k9, b9⟩)
                | fail)
              all_goals (go_meet; exact Lib.hid ⟨by rw [HEB.out.1], by rw [HEB.out.2]; exact k9, HBWC.out.trans b9⟩)
            · have hk5 : (k == 4) = false := by simpa using hk4
              have HEB : Hid (bc = false ∧ st2 = st1) := Lib.hid (by
                have h1 := HBCX.out
                have h2 := HST2.out
                rw [decide_eq_false hk4, Bool.false_and] at h1
                rw [h1] at h2
                exact ⟨h1, h2⟩)
              go_wp2_with fail
              go_meet
              exact Lib.hid ⟨by rw [HEB.out.1], by rw [HEB.out.2]; exact HWC.out, HBWC.out⟩
          case rest =>
            obtain ⟨rfl, kx, bx⟩ := hcut.out
            rename World => wd
            have HKX := Lib.hid kx
            have HBX := Lib.hid bx
            clear kx bx hcut e0 e1
            cases bc
            · have hst : Ex.step fs most st1 (k, s) = Ex.put most st1 (k, s) := HSTEP.out.trans (if_neg (by decide))
              have hs21 : st2 = st1 := HST2.out.trans (if_neg (by decide))
              rw [hs21] at HKX
              rw [hst] at HRN HQ
              have HFS := Lib.hid (fu_step fs most st1 (k, s))
              rw [hst] at HFS
              clear hst hs21 HSTEP HST2 HBCX
              by_cases hroom : most ≤ st1.outL.length
              · have hput : Ex.put most st1 (k, s) = (Ex.note st1 3 [], false) := if_pos hroom
                have hE9 : E = Ex.note st1 3 [] := by
                  have := HRN.out
                  rw [hput] at this
                  exact this.trans (if_neg Bool.false_ne_true)
                have HNQ : Hid (Calls Tryz.prog 20 #[.pointer (some ⟨b8 + 1, 0, none⟩), .int .i64 3, .string (S [])] wd fun e w' => e = .returned (.tuple #[]) ∧ Wx [(bt, .cells #[.int .i64 k, .string (S s)] 72 (0, 0))] w' (b8 + 1) (.slice af nf cf) fs most (Ex.note st1 3 []) ∧ Below (b8 + 1) wd w') := Lib.hid (note8_any 3 [] wd HKX.out HSS.out.1)
                rw [← hE9] at HNQ
                obtain ⟨vin, vm, vL, vR, vN, ps, h1, h2⟩ := HKX.out
                obtain ⟨aL0, cL0, hvL⟩ := own_shape h2.outL
                subst hvL
                obtain ⟨n0, hn0⟩ : ∃ n, n = st1.outL.length := ⟨_, rfl⟩
                rw [← hn0] at h1 hroom
                have c5 := h1.cell (i := 5) rfl
                have l1 : (most : Int) ≤ (n0 : Int) := by omega
                clear h1 h2 hn0 hput hE9 HRN HQ HFS hroom
                go_upto_region 15 with (first
                  | (go_at_call 20; (with_reducible refine HNQ.out.mono ?_); rintro e WX ⟨rfl, kx, bx⟩; have HKE := Lib.hid kx.less; have HBE := Lib.hid (HBX.out.trans bx); clear kx bx)
                  | fail)
                obtain ⟨vin9, vm9, vL9, vR9, vN9, ps9, x1, x2⟩ := HKE.out
                obtain ⟨aL, cL, hL⟩ := own_shape x2.outL
                obtain ⟨aR, cR, hR⟩ := own_shape x2.reads
                obtain ⟨aN, cN, hN⟩ := own_shape x2.notes
                subst hL
                subst hR
                subst hN
                have HX2 := Lib.hid x2
                obtain ⟨nL, hnL⟩ : ∃ n, n = E.outL.length := ⟨_, rfl⟩
                obtain ⟨nR, hnR⟩ : ∃ n, n = E.reads.length := ⟨_, rfl⟩
                obtain ⟨nN, hnN⟩ : ∃ n, n = E.notes.length := ⟨_, rfl⟩
                obtain ⟨nU, hnU⟩ : ∃ n, n = E.used := ⟨_, rfl⟩
                rw [← hnL, ← hnR, ← hnN, ← hnU] at x1
                have e5 := x1.cell (i := 5) rfl
                have e6 := x1.cell (i := 6) rfl
                have e7 := x1.cell (i := 7) rfl
                have e8 := x1.cell (i := 8) rfl
                have HB9 : Hid (Below (b8 + 1) W1 WX) := Lib.hid ((HB12.out.mono (by have := HSZ.out.1; omega)).trans HBE.out)
                have hr8 : Ro WX b8 37 [.slice none 0 0, .slice none 0 0, .slice none 0 0, .int .i64 0] := HR8.out.kw (Kw.of_below HB9.out) (by omega)
                have g0 := hr8.cell (i := 0) rfl
                have g1 := hr8.cell (i := 1) rfl
                have g2 := hr8.cell (i := 2) rfl
                have g3 := hr8.cell (i := 3) rfl
                have j0 := hr8.free 0
                have j1 := hr8.free 1
                have j2 := hr8.free 2
                have j3 := hr8.free 3
                have HNN := Lib.hid (And.intro hnL (And.intro hnR (And.intro hnN hnU)))
                obtain ⟨WF, hWF⟩ : ∃ WF, WF = (((WX.setCell ⟨b8, 0, none⟩ (.slice aL nL cL)).setCell ⟨b8, 1, none⟩ (.slice aR nR cR)).setCell ⟨b8, 2, none⟩ (.slice aN nN cN)).setCell ⟨b8, 3, none⟩ (.int .i64 (nU : Int)) := ⟨_, rfl⟩
                have hrF : Ro WF b8 37 [.slice aL nL cL, .slice aR nR cR, .slice aN nN cN, .int .i64 (nU : Int)] := by rw [hWF]; exact (((hr8.set 0 _).set 1 _).set 2 _).set 3 _
                have hkF : Kw WX WF fun j => j = b8 := by
                  rw [hWF]
                  exact (((Kw.set _ b8 0 _).trans (Kw.set _ b8 1 _) fun _ _ e => e).trans (Kw.set _ b8 2 _) fun _ _ e => e).trans (Kw.set _ b8 3 _) fun _ _ e => e
                have HKF := Lib.hid hkF
                have HWF := Lib.hid hWF
                have r0 := hrF.cell (i := 0) rfl
                have r1 := hrF.cell (i := 1) rfl
                have r2 := hrF.cell (i := 2) rfl
                have r3 := hrF.cell (i := 3) rfl
                clear x1 x2 hr8 hnL hnR hnN hnU hWF hrF hkF
                go_wp2_with fail
                (try simp only [Exit.inBlock, Exit.then])
                rw [← HWF.out]
                refine bodyPost_ret (v := .tuple #[.agg #[.slice aL nL cL, .slice aR nR cR, .slice aN nN cN, .int .i64 (nU : Int)], .int .i64 0]) ?_ rfl ?_
                · rw [results_cell_tmp rfl]
                  go_simp
                · have hbF : Below b8 WX WF := HKF.out.below (fun j e => by omega) (by have := HBE.out.size; have := HSZ.out.2; omega)
                  have hbW : Below b8 w WF := by
                    have h1 := HB1.out
                    rw [← HB8.out] at h1
                    have h2 := h1.trans (HB12.out.mono (by have := HSZ.out.1; omega))
                    have h3 : Below b8 W2 WX := ⟨HBE.out.1, HBE.out.2, HBE.out.3, HBE.out.4, fun j hj => HBE.out.block j (by omega)⟩
                    exact (h2.trans h3).trans hbF
                  refine ⟨_, rfl, ⟨_, _, _, by rw [HNN.out.2.2.2], ?_, ?_, ?_⟩, hbW⟩
                  · have := HKF.out.row HX2.out.outL fun g hg e => by have := (HX2.out.outL.lt g hg).1; omega
                    rw [HNN.out.1]
                    exact own_rd this
                  · have := HKF.out.row HX2.out.reads fun g hg e => by have := (HX2.out.reads.lt g hg).1; omega
                    rw [HNN.out.2.1]
                    exact own_rd this
                  · have := HKF.out.row HX2.out.notes fun g hg e => by have := (HX2.out.notes.lt g hg).1; omega
                    rw [HNN.out.2.2.1]
                    exact own_rd this
              · have hput : Ex.put most st1 (k, s) = ({ st1 with outL := st1.outL ++ [(k, s)] }, true) := if_neg hroom
                obtain ⟨sp, hsp⟩ : ∃ sp, sp = { st1 with outL := st1.outL ++ [(k, s)] } := ⟨_, rfl⟩
                rw [hput, ← hsp] at HRN HQ HFS
                have HRN9 : Hid (Ex.run fs most (Ex.mu B sp) sp = E) := Lib.hid (HRN.out.trans (if_pos rfl)).symm
                have HSP := Lib.hid hsp
                clear hput hsp HRN
                have HRT : Hid (Ro wd bt 72 [.int .i64 k, .string (S s)]) := Lib.hid (HKX.out.obj (List.mem_cons_self ..))
                obtain ⟨vin, vm, vL, vR, vN, ps, h1, h2⟩ := HKX.out
                have hmp := (h2.mp _ (List.mem_cons_self ..)).2
                have HNE : Hid (vL.ownBlock ≠ some bt) := Lib.hid fun e => hmp (.inr (.inl e))
                have HBT : Hid (bt ≠ b8 + 1) := Lib.hid fun e => hmp (.inl e)
                have HBO := Lib.hid h1
                have HWS := Lib.hid h2
                obtain ⟨LN, hLN⟩ : ∃ LN, LN = st1.outL.length := ⟨_, rfl⟩
                obtain ⟨aL, cL, hvL⟩ := own_shape h2.outL
                subst hvL
                have HLN := Lib.hid hLN
                rw [← hLN] at hroom HBO HWS HNE
                have hL9 : LN ≤ 1000000 := by omega
                have c5 := HBO.out.cell (i := 5) rfl
                have l1 : ¬ ((most : Int) ≤ (LN : Int)) := by omega
                have HFIN : Hid (∀ (gg cap : Nat) (w9 : World), Kw wd w9 (fun j => (Value.slice aL LN cL).ownBlock = some j) → Near wd (.slice aL LN cL) (.slice (some ⟨gg, 0, none⟩) (LN + 1) cap) → w9.ownsRow (b8 + 1 + 1) 72 2 (.slice (some ⟨gg, 0, none⟩) (LN + 1) cap) (LN + 1) (tcs st1.outL ++ [.int .i64 k, .string (S s)]) →
                    Wx [] (w9.setCell ⟨b8 + 1, 5, none⟩ (.slice (some ⟨gg, 0, none⟩) (LN + 1) cap)) (b8 + 1) (.slice af nf cf) fs most sp ∧ Below (b8 + 1) W2 (w9.setCell ⟨b8 + 1, 5, none⟩ (.slice (some ⟨gg, 0, none⟩) (LN + 1) cap))) := Lib.hid fun gg cap w9 hk hn ho => by
                  rw [HSP.out]
                  refine ⟨Wx.less (x := (bt, .cells #[.int .i64 k, .string (S s)] 72 (0, 0))) ⟨vin, vm, _, vR, vN, ps, (HBO.out.kw hk (HBO.out.ne_own (by decide) HWS.out.outL)).set 5 _, (HWS.out.growL (k, s) hk hn (by rw [← HLN.out]; exact ho)).set 5 _⟩, ?_⟩
                  have h9 := HBX.out.trans (hk.below (B := b8 + 1) (fun j e => by have := (HWS.out.outL.lt j e).1; omega) (Nat.le_of_lt HBO.out.lt))
                  exact h9.trans ((Kw.set w9 (b8 + 1) 5 _).below (fun j e => by omega) (Nat.le_trans (Nat.le_of_lt HBO.out.lt) hk.size))
                have hws := HWS.out.outL
                rw [← HLN.out] at hws
                have HWL := Lib.hid hws
                clear hws h1 h2 hmp hLN hroom
                go_upto_region 16 with fail
                clear c5 l1
                have e0 := HRT.out.cell (i := 0) rfl
                have e1 := HRT.out.cell (i := 1) rfl
                have cx := HBO.out.cell (i := 5) rfl
                have hka := Kw.alloc wd (.cells #[.int .i64 k, .string (S s)] 72) (fun _ => False)
                have ea0 := (HRT.out.kw hka id).cell (i := 0) rfl
                have ea1 := (HRT.out.kw hka id).cell (i := 1) rfl
                have cxa := (HBO.out.kw hka id).cell (i := 5) rfl
                clear hka
                refine Code.wp_mono NoPanic.imp ?_
                refine wp_region_held_drew (S := fun w' => w'.cell? ⟨bt, 0, none⟩ = some (.int .i64 k) ∧ w'.cell? ⟨bt, 1, none⟩ = some (.string (S s))) (by kernel_rfl) ⟨e0, e1⟩ (fun hHeld => ?_)
                (refine takeL 0 rfl (by kernel_rfl) (by kernel_rfl) (by kernel_rfl) (fun _ _ _ h => h) hHeld rfl (by intro w hSw; go_simp; try rfl) ?_); (simp only [Act.put, List.setIfInBounds_toArray, List.set_cons_zero, List.set_cons_succ])
                (refine takeL 1 rfl (by kernel_rfl) (by kernel_rfl) (by kernel_rfl) (fun _ _ _ h => h) hHeld rfl (by intro w hSw; go_simp; try rfl) ?_); (simp only [Act.put, List.setIfInBounds_toArray, List.set_cons_zero, List.set_cons_succ])
                (refine takeL 2 rfl (by kernel_rfl) (by kernel_rfl) (by kernel_rfl) (fun _ _ _ h => h) hHeld rfl (by intro w hSw; go_simp; try rfl) ?_); (simp only [Act.put, List.setIfInBounds_toArray, List.set_cons_zero, List.set_cons_succ])
                (refine takeL 3 rfl (by kernel_rfl) (by kernel_rfl) (by kernel_rfl) (fun _ _ _ h => h) hHeld rfl (by intro w hSw; go_simp; try rfl) ?_); (simp only [Act.put, List.setIfInBounds_toArray, List.set_cons_zero, List.set_cons_succ])
                (refine takeL 4 rfl (by kernel_rfl) (by kernel_rfl) (by kernel_rfl) (fun _ _ _ h => h) hHeld rfl (by intro w hSw; go_simp; try rfl) ?_); (simp only [Act.put, List.setIfInBounds_toArray, List.set_cons_zero, List.set_cons_succ])
                (refine takeL 6 rfl (by kernel_rfl) (by kernel_rfl) (by kernel_rfl) (fun _ _ _ h => h) hHeld rfl (by intro w hSw; go_simp; try rfl) ?_); (simp only [Act.put, List.setIfInBounds_toArray, List.set_cons_zero, List.set_cons_succ])
                refine wpAnyH_ready (rs := [5, 7]) (by kernel_rfl) (by simp) ?_
                refine consL rfl (fun K hK => ?_) (consL rfl (fun K hK => ?_) AllReadyH.nil)
                · go_simp
                  refine hK.out _ _ ?_ (fun hHeld => ?_)
                  · exact ⟨e0, e1⟩
                  clear hK K
                  try simp only [Act.put, List.setIfInBounds_toArray, List.set_cons_zero, List.set_cons_succ]
                  refine wpAnyH_ready (rs := [7]) (by kernel_rfl) (by simp) ?_
                  refine consL rfl (fun K hK => ?_) AllReadyH.nil
                  go_simp
                  refine hK.out _ _ ?_ (fun hHeld => ?_)
                  · exact ⟨ea0, ea1⟩
                  clear hK K
                  try simp only [Act.put, List.setIfInBounds_toArray, List.set_cons_zero, List.set_cons_succ]
                  refine wpAnyH_ready (rs := [8]) (by kernel_rfl) (by simp) ?_
                  refine consL rfl (fun K hK => ?_) AllReadyH.nil
                  refine step_grow tyRef (by rfl) _ _ (by rfl) (b8 + 1 + 1) (w0 := wd.drew) HWL.out (by rfl) (by rfl) rfl (news := [.int .i64 k, .string (S s)]) rfl (by rfl) tc_one (by omega) (by omega) (by have := HBO.out.lt; exact this) ?_
                  intro gg cap w9 ho9 hg9 hn9 _
                  have k3 : Kw wd w9 (fun j => (Value.slice aL LN cL).ownBlock = some j) := (Kw.drewN wd 1 (fun j => (Value.slice aL LN cL).ownBlock = some j)).trans (Kw.of_grown hg9) fun _ _ h => h
                  have HK3 := Lib.hid k3
                  have HO9 := Lib.hid ho9
                  have HN9 : Hid (Near wd (.slice aL LN cL) (.slice (some ⟨gg, 0, none⟩) (LN + 1) cap)) := Lib.hid hn9
                  clear ho9 hg9 hn9
                  have r9HRT := HRT.out.kw k3 HNE.out
                  have f0 := r9HRT.cell (i := 0) rfl
                  have f1 := r9HRT.cell (i := 1) rfl
                  have bx9 := HBO.out.kw k3 (HBO.out.ne_own (by decide) HWS.out.outL)
                  have k4 := bx9.cell (i := 5) rfl
                  have kf := bx9.free 5
                  have r10HRT := r9HRT.far HBT.out 5 (.slice (some ⟨gg, 0, none⟩) (LN + 1) cap)
                  have g0 := r10HRT.cell (i := 0) rfl
                  have g1 := r10HRT.cell (i := 1) rfl
                  clear k3 bx9 r9HRT r10HRT
                  refine hK.out _ _ ?_ (fun hHeld => ?_)
                  · exact ⟨f0, f1⟩
                  clear hK K
                  try simp only [Act.put, List.setIfInBounds_toArray, List.set_cons_zero, List.set_cons_succ]
                  (refine takeL 9 rfl (by kernel_rfl) (by kernel_rfl) (by kernel_rfl) (fun _ _ _ h => h) hHeld rfl (by intro w hSw; go_simp; try rfl) ?_); (simp only [Act.put, List.setIfInBounds_toArray, List.set_cons_zero, List.set_cons_succ])
                  (refine takeL 10 rfl (by kernel_rfl) (by kernel_rfl) (by kernel_rfl) (fun _ _ _ h => h) hHeld rfl (by intro w hSw; go_simp; try rfl) ?_); (simp only [Act.put, List.setIfInBounds_toArray, List.set_cons_zero, List.set_cons_succ])
                  (refine takeL 11 rfl (by kernel_rfl) (by kernel_rfl) (by kernel_rfl) (fun _ _ _ h => h) hHeld rfl (by intro w hSw; go_simp; try rfl) ?_); (simp only [Act.put, List.setIfInBounds_toArray, List.set_cons_zero, List.set_cons_succ])
                  refine wpAnyH_ready (rs := [12]) (by kernel_rfl) (by simp) ?_
                  refine consL rfl (fun K hK => ?_) AllReadyH.nil
                  go_simp
                  refine hK.out _ _ ?_ (fun hHeld => ?_)
                  · exact ⟨g0, g1⟩
                  clear hK K
                  refine wpAnyH_done (by kernel_rfl) ?_ _
                  refine NoPanic.normal ?_
                  go_wp2_with fail
                  go_roundg (Ex.mu B sp)
                  case measure => have h1 := HQ.out.2.2.1; have h2 := HRUN.out.1; omega
                  case rel => exact ⟨sp, Lib.hid (HFIN.out gg cap w9 HK3.out HN9.out HO9.out).1, Lib.hid HQ.out.2.1, Lib.hid (by have h1 := HFS.out; have h2 := HFU1.out; omega), Lib.hid (by have h1 := HQ.out.2.2.1; have h2 := HQ.out.2.2.2; have h3 := HNT.out; omega), Lib.hid ⟨rfl, HRN9.out⟩, Lib.hid (HFIN.out gg cap w9 HK3.out HN9.out HO9.out).2⟩
                · go_simp
                  refine hK.out _ _ ?_ (fun hHeld => ?_)
                  · exact ⟨ea0, ea1⟩
                  clear hK K
                  try simp only [Act.put, List.setIfInBounds_toArray, List.set_cons_zero, List.set_cons_succ]
                  refine wpAnyH_ready (rs := [5]) (by kernel_rfl) (by simp) ?_
                  refine consL rfl (fun K hK => ?_) AllReadyH.nil
                  go_simp
                  refine hK.out _ _ ?_ (fun hHeld => ?_)
                  · exact ⟨ea0, ea1⟩
                  clear hK K
                  try simp only [Act.put, List.setIfInBounds_toArray, List.set_cons_zero, List.set_cons_succ]
                  refine wpAnyH_ready (rs := [8]) (by kernel_rfl) (by simp) ?_
                  refine consL rfl (fun K hK => ?_) AllReadyH.nil
                  refine step_grow tyRef (by rfl) _ _ (by rfl) (b8 + 1 + 1) (w0 := wd.drew) HWL.out (by rfl) (by rfl) rfl (news := [.int .i64 k, .string (S s)]) rfl (by rfl) tc_one (by omega) (by omega) (by have := HBO.out.lt; exact this) ?_
                  intro gg cap w9 ho9 hg9 hn9 _
                  have k3 : Kw wd w9 (fun j => (Value.slice aL LN cL).ownBlock = some j) := (Kw.drewN wd 1 (fun j => (Value.slice aL LN cL).ownBlock = some j)).trans (Kw.of_grown hg9) fun _ _ h => h
                  have HK3 := Lib.hid k3
                  have HO9 := Lib.hid ho9
                  have HN9 : Hid (Near wd (.slice aL LN cL) (.slice (some ⟨gg, 0, none⟩) (LN + 1) cap)) := Lib.hid hn9
                  clear ho9 hg9 hn9
                  have r9HRT := HRT.out.kw k3 HNE.out
                  have f0 := r9HRT.cell (i := 0) rfl
                  have f1 := r9HRT.cell (i := 1) rfl
                  have bx9 := HBO.out.kw k3 (HBO.out.ne_own (by decide) HWS.out.outL)
                  have k4 := bx9.cell (i := 5) rfl
                  have kf := bx9.free 5
                  have r10HRT := r9HRT.far HBT.out 5 (.slice (some ⟨gg, 0, none⟩) (LN + 1) cap)
                  have g0 := r10HRT.cell (i := 0) rfl
                  have g1 := r10HRT.cell (i := 1) rfl
                  clear k3 bx9 r9HRT r10HRT
                  refine hK.out _ _ ?_ (fun hHeld => ?_)
                  · exact ⟨f0, f1⟩
                  clear hK K
                  try simp only [Act.put, List.setIfInBounds_toArray, List.set_cons_zero, List.set_cons_succ]
                  (refine takeL 9 rfl (by kernel_rfl) (by kernel_rfl) (by kernel_rfl) (fun _ _ _ h => h) hHeld rfl (by intro w hSw; go_simp; try rfl) ?_); (simp only [Act.put, List.setIfInBounds_toArray, List.set_cons_zero, List.set_cons_succ])
                  (refine takeL 10 rfl (by kernel_rfl) (by kernel_rfl) (by kernel_rfl) (fun _ _ _ h => h) hHeld rfl (by intro w hSw; go_simp; try rfl) ?_); (simp only [Act.put, List.setIfInBounds_toArray, List.set_cons_zero, List.set_cons_succ])
                  (refine takeL 11 rfl (by kernel_rfl) (by kernel_rfl) (by kernel_rfl) (fun _ _ _ h => h) hHeld rfl (by intro w hSw; go_simp; try rfl) ?_); (simp only [Act.put, List.setIfInBounds_toArray, List.set_cons_zero, List.set_cons_succ])
                  refine wpAnyH_ready (rs := [12]) (by kernel_rfl) (by simp) ?_
                  refine consL rfl (fun K hK => ?_) AllReadyH.nil
                  go_simp
                  refine hK.out _ _ ?_ (fun hHeld => ?_)
                  · exact ⟨g0, g1⟩
                  clear hK K
                  refine wpAnyH_done (by kernel_rfl) ?_ _
                  refine NoPanic.normal ?_
                  go_wp2_with fail
                  go_roundg (Ex.mu B sp)
                  case measure => have h1 := HQ.out.2.2.1; have h2 := HRUN.out.1; omega
                  case rel => exact ⟨sp, Lib.hid (HFIN.out gg cap w9 HK3.out HN9.out HO9.out).1, Lib.hid HQ.out.2.1, Lib.hid (by have h1 := HFS.out; have h2 := HFU1.out; omega), Lib.hid (by have h1 := HQ.out.2.2.1; have h2 := HQ.out.2.2.2; have h3 := HNT.out; omega), Lib.hid ⟨rfl, HRN9.out⟩, Lib.hid (HFIN.out gg cap w9 HK3.out HN9.out HO9.out).2⟩
            · have hst : Ex.step fs most st1 (k, s) = (st2, true) := HSTEP.out.trans (if_pos rfl)
              rw [hst] at HRN HQ
              have HFS := Lib.hid (fu_step fs most st1 (k, s))
              rw [hst] at HFS
              have HRN9 : Hid (Ex.run fs most (Ex.mu B st2) st2 = E) := Lib.hid (HRN.out.trans (if_pos rfl)).symm
              clear hst HRN HSTEP HST2 HBCX
              go_wp2_with fail
              go_roundg (Ex.mu B st2)
              case measure => have h1 := HQ.out.2.2.1; have h2 := HRUN.out.1; omega
              case rel => exact ⟨st2, Lib.hid HKX.out.less, Lib.hid HQ.out.2.1, Lib.hid (by have h1 := HFS.out; have h2 := HFU1.out; omega), Lib.hid (by have h1 := HQ.out.2.2.1; have h2 := HQ.out.2.2.2; have h3 := HNT.out; omega), Lib.hid ⟨rfl, HRN9.out⟩, HBX⟩
end Go.Proofs.YtjfikkjaifdkiaaGreatDoor
