/- Walks and plain laws, 11: 'ExpandTells', walked: it answers true at every input. No condition. -/
import Derived.Test.YtjfikkjaifdkiaaGreatDoorTe10
namespace Go.Proofs.YtjfikkjaifdkiaaGreatDoor
open Go.RowKit

theorem sameO_refl (E : Ex.St) : sameO E E = true := by simp [sameO]
/-- A box that holds the reference's expansion, ever after. -/
theorem box8 {w1 V : World} {a b c d : Value} {E : Ex.St} (hV : V = w1.alloc (.cells #[a, b, c, d] 37)) (h : RdO w1 (.agg #[a, b, c, d]) E) {W' : World} (hb : Below V.heap.size V W') :
    (W'.cell? ⟨w1.heap.size, 0, none⟩ = some a ∧ W'.cell? ⟨w1.heap.size, 1, none⟩ = some b ∧ W'.cell? ⟨w1.heap.size, 2, none⟩ = some c ∧ W'.cell? ⟨w1.heap.size, 3, none⟩ = some d) ∧ RdO W' (.agg #[a, b, c, d]) E := by
  have hv : Below w1.heap.size w1 V := by rw [hV]; exact (Below.refl _ _).alloc (Nat.le_refl _) _
  have r : Ro V w1.heap.size 37 [a, b, c, d] := by rw [hV]; exact heap_alloc_new w1 _
  have r9 := r.kw (Kw.of_below hb) (by have := r.lt; omega)
  exact ⟨⟨r9.cell (i := 0) rfl, r9.cell (i := 1) rfl, r9.cell (i := 2) rfl, r9.cell (i := 3) rfl⟩, h.below' (hv.trans (hb.mono hv.size))⟩
theorem rdO_zero (w : World) : RdO w (.agg #[.slice none 0 0, .slice none 0 0, .slice none 0 0, .int .i64 0]) (Ex.zero 0) :=
  ⟨_, _, _, rfl, ⟨rfl, .inl ⟨.inl rfl, rfl⟩⟩, ⟨rfl, .inl ⟨.inl rfl, rfl⟩⟩, ⟨rfl, .inl ⟨.inl rfl, rfl⟩⟩⟩

set_option maxHeartbeats 1000000 in
/-- The reference's 'Expand': what may not be asked for. -/
theorem exp8_bad (vf : Value) (main : List UInt8) (zf zm : Int) (w : World) (hz : zf < 0 ∨ 1000 < zf ∨ zm < 0 ∨ 20000 < zm) :
    Calls Tryz.prog 8 #[vf, .string (S main), .int .i64 zf, .int .i64 zm] w fun e w' => e = .returned (.tuple #[.agg #[.slice none 0 0, .slice none 0 0, .slice none 0 0, .int .i64 0], .int .i64 1]) ∧ Below w.heap.size w w' := by
  have hba : Below w.heap.size w (w.alloc (.cells #[.slice none 0 0, .slice none 0 0, .slice none 0 0, .int .i64 0] 37)) := (Below.refl _ _).alloc (Nat.le_refl _) _
  by_cases h1 : zf < 0
  · go_enter Tryz.func8, Tryz.ntmps8
    go_wp2_with fail
    (try simp only [Exit.inBlock, Exit.then])
    refine bodyPost_ret (v := .tuple #[.agg #[.slice none 0 0, .slice none 0 0, .slice none 0 0, .int .i64 0], .int .i64 1]) ?_ rfl ⟨rfl, hba⟩
    rw [results_cell_tmp rfl]
    go_simp
  · by_cases h2 : 1000 < zf
    · go_enter Tryz.func8, Tryz.ntmps8
      go_wp2_with fail
      (try simp only [Exit.inBlock, Exit.then])
      refine bodyPost_ret (v := .tuple #[.agg #[.slice none 0 0, .slice none 0 0, .slice none 0 0, .int .i64 0], .int .i64 1]) ?_ rfl ⟨rfl, hba⟩
      rw [results_cell_tmp rfl]
      go_simp
    · by_cases h3 : zm < 0
      · go_enter Tryz.func8, Tryz.ntmps8
        go_wp2_with fail
        (try simp only [Exit.inBlock, Exit.then])
        refine bodyPost_ret (v := .tuple #[.agg #[.slice none 0 0, .slice none 0 0, .slice none 0 0, .int .i64 0], .int .i64 1]) ?_ rfl ⟨rfl, hba⟩
        rw [results_cell_tmp rfl]
        go_simp
      · have h4 : 20000 < zm := by omega
        go_enter Tryz.func8, Tryz.ntmps8
        go_wp2_with fail
        (try simp only [Exit.inBlock, Exit.then])
        refine bodyPost_ret (v := .tuple #[.agg #[.slice none 0 0, .slice none 0 0, .slice none 0 0, .int .i64 0], .int .i64 1]) ?_ rfl ⟨rfl, hba⟩
        rw [results_cell_tmp rfl]
        go_simp

/-- What 'bound' tells. -/
def Bd (a b : Int) : Prop := (∃ f q : Nat, a = (f : Int) ∧ b = (q : Int) ∧ f ≤ 40 ∧ q ≤ 300) ∨ (a < 0 ∨ 1000 < a ∨ b < 0 ∨ 20000 < b)
def bdF (y : Int) : Int := if 40 < y ∧ y ≤ 1000 then y % 40 else y
def bdM (z : Int) : Int := if 300 < z ∧ z ≤ 20000 then z % 300 else z
theorem bd_bd (y z : Int) : Bd (bdF y) (bdM z) := by
  unfold Bd bdF bdM
  by_cases h : (y < 0 ∨ 1000 < y ∨ z < 0 ∨ 20000 < z)
  · right
    split <;> split <;> omega
  · left
    refine ⟨(if 40 < y ∧ y ≤ 1000 then y % 40 else y).toNat, (if 300 < z ∧ z ≤ 20000 then z % 300 else z).toNat, ?_, ?_, ?_, ?_⟩ <;> split <;> omega
theorem cutM_any (y z : Int) (w : World) : Calls Tryz.prog 6 #[.int .i64 y, .int .i64 z] w fun e w' => e = .returned (.tuple #[.int .i64 (bdF y), .int .i64 (bdM z)]) ∧ w = w' := by
  have hy : (∃ n : Nat, y = (n : Int) ∧ (40 : Int) < (n : Int) ∧ (n : Int) ≤ 1000) ∨ ¬ 40 < y ∨ (40 < y ∧ ¬ y ≤ 1000) := by
    by_cases h1 : 40 < y
    · by_cases h2 : y ≤ 1000
      · exact .inl ⟨y.toNat, by omega, by omega, by omega⟩
      · exact .inr (.inr ⟨h1, h2⟩)
    · exact .inr (.inl h1)
  have hz : (∃ n : Nat, z = (n : Int) ∧ (300 : Int) < (n : Int) ∧ (n : Int) ≤ 20000) ∨ ¬ 300 < z ∨ (300 < z ∧ ¬ z ≤ 20000) := by
    by_cases h1 : 300 < z
    · by_cases h2 : z ≤ 20000
      · exact .inl ⟨z.toNat, by omega, by omega, by omega⟩
      · exact .inr (.inr ⟨h1, h2⟩)
    · exact .inr (.inl h1)
  rcases hy with ⟨n, rfl, y1, y2⟩ | y1 | ⟨y1, y2⟩
  · have e1 : bdF (n : Int) = (n : Int) % 40 := if_pos ⟨y1, y2⟩
    rcases hz with ⟨k, rfl, z1, z2⟩ | z1 | ⟨z1, z2⟩
    · have e2 : bdM (k : Int) = (k : Int) % 300 := if_pos ⟨z1, z2⟩
      rw [e1, e2]
      clear e1 e2
      go_enter Tryz.func6, Tryz.ntmps6
      go_wp2_with fail
      (try simp only [Exit.inBlock, Exit.then])
      exact bodyPost_ret (results_tmp2 rfl _ _ _) rfl ⟨rfl, rfl⟩
    · have e2 : bdM z = z := if_neg fun h => z1 h.1
      rw [e1, e2]
      clear e1 e2
      go_enter Tryz.func6, Tryz.ntmps6
      go_wp2_with fail
      (try simp only [Exit.inBlock, Exit.then])
      exact bodyPost_ret (results_tmp2 rfl _ _ _) rfl ⟨rfl, rfl⟩
    · have e2 : bdM z = z := if_neg fun h => z2 h.2
      rw [e1, e2]
      clear e1 e2
      go_enter Tryz.func6, Tryz.ntmps6
      go_wp2_with fail
      (try simp only [Exit.inBlock, Exit.then])
      exact bodyPost_ret (results_tmp2 rfl _ _ _) rfl ⟨rfl, rfl⟩
  · have e1 : bdF y = y := if_neg fun h => y1 h.1
    rcases hz with ⟨k, rfl, z1, z2⟩ | z1 | ⟨z1, z2⟩
    · have e2 : bdM (k : Int) = (k : Int) % 300 := if_pos ⟨z1, z2⟩
      rw [e1, e2]
      clear e1 e2
      go_enter Tryz.func6, Tryz.ntmps6
      go_wp2_with fail
      (try simp only [Exit.inBlock, Exit.then])
      exact bodyPost_ret (results_tmp2 rfl _ _ _) rfl ⟨rfl, rfl⟩
    · have e2 : bdM z = z := if_neg fun h => z1 h.1
      rw [e1, e2]
      clear e1 e2
      go_enter Tryz.func6, Tryz.ntmps6
      go_wp2_with fail
      (try simp only [Exit.inBlock, Exit.then])
      exact bodyPost_ret (results_tmp2 rfl _ _ _) rfl ⟨rfl, rfl⟩
    · have e2 : bdM z = z := if_neg fun h => z2 h.2
      rw [e1, e2]
      clear e1 e2
      go_enter Tryz.func6, Tryz.ntmps6
      go_wp2_with fail
      (try simp only [Exit.inBlock, Exit.then])
      exact bodyPost_ret (results_tmp2 rfl _ _ _) rfl ⟨rfl, rfl⟩
  · have e1 : bdF y = y := if_neg fun h => y2 h.2
    rcases hz with ⟨k, rfl, z1, z2⟩ | z1 | ⟨z1, z2⟩
    · have e2 : bdM (k : Int) = (k : Int) % 300 := if_pos ⟨z1, z2⟩
      rw [e1, e2]
      clear e1 e2
      go_enter Tryz.func6, Tryz.ntmps6
      go_wp2_with fail
      (try simp only [Exit.inBlock, Exit.then])
      exact bodyPost_ret (results_tmp2 rfl _ _ _) rfl ⟨rfl, rfl⟩
    · have e2 : bdM z = z := if_neg fun h => z1 h.1
      rw [e1, e2]
      clear e1 e2
      go_enter Tryz.func6, Tryz.ntmps6
      go_wp2_with fail
      (try simp only [Exit.inBlock, Exit.then])
      exact bodyPost_ret (results_tmp2 rfl _ _ _) rfl ⟨rfl, rfl⟩
    · have e2 : bdM z = z := if_neg fun h => z2 h.2
      rw [e1, e2]
      clear e1 e2
      go_enter Tryz.func6, Tryz.ntmps6
      go_wp2_with fail
      (try simp only [Exit.inBlock, Exit.then])
      exact bodyPost_ret (results_tmp2 rfl _ _ _) rfl ⟨rfl, rfl⟩

set_option maxRecDepth 20000 in
set_option maxHeartbeats 8000000 in
/-- 'ExpandTells'. -/
theorem expandTells_any (v0 : Value) (l : List Fl) (main : List UInt8) (y z : Int) (w : World) (hl : Rf w v0 l) (hs : ∀ f ∈ l, f.1.length ≤ 9223372036854775807 ∧ f.2.length ≤ 9223372036854775807) (hgl : Gl w) (hw0 : 0 < w.heap.size) :
    Calls Tryz.prog 3 #[v0, .string (S main), .agg #[.int .i64 y, .int .i64 z]] w fun e w' => e = .returned (.bool true) ∧ Below w.heap.size w w' := by
  obtain ⟨m, hm⟩ : ∃ m, m = Fi.map l 6 200 := ⟨_, rfl⟩
  obtain ⟨hm1, hm2, hm3⟩ := map_keeps l 6 200
  rw [← hm] at hm1 hm2 hm3
  obtain ⟨W0, hW0⟩ : ∃ W0, W0 = w.alloc (.cells #[.int .i64 y, .int .i64 z] 23) := ⟨_, rfl⟩
  have b0 : Below w.heap.size w W0 := by rw [hW0]; exact (Below.refl _ _).alloc (Nat.le_refl _) _
  have HF := Lib.hid (files8_any v0 l W0 (hl.below' b0) hs)
  rw [← hm] at HF
  have HR0 : Hid (Ro W0 w.heap.size 23 [.int .i64 y, .int .i64 z]) := Lib.hid (by rw [hW0]; exact heap_alloc_new w _)
  have HW0 := Lib.hid hW0
  have HB0 := Lib.hid b0
  have HBO := Lib.hid (cutM_any y z)
  have hbd := bd_bd y z
  obtain ⟨ya, hya⟩ : ∃ a, a = bdF y := ⟨_, rfl⟩
  obtain ⟨za, hza⟩ : ∃ a, a = bdM z := ⟨_, rfl⟩
  rw [← hya, ← hza] at HBO hbd
  clear hya hza
  obtain ⟨E, ec, hsm, hx1, hx2⟩ : ∃ (E : Ex.St) (ec : Int), Small E ∧ (∀ (v : Value) W, Rf W v m → Below w.heap.size w W → Calls Tryz.prog 7 #[v, .string (S main), .int .i64 ya, .int .i64 za] W fun e w' => ∃ o, e = .returned (.tuple #[o, .int .i64 ec]) ∧ RdO w' o E ∧ Below W.heap.size W w') ∧
      (∀ (v : Value) W, Rf W v m → Below w.heap.size w W → Calls Tryz.prog 8 #[v, .string (S main), .int .i64 ya, .int .i64 za] W fun e w' => ∃ o, e = .returned (.tuple #[o, .int .i64 ec]) ∧ RdO w' o E ∧ Below W.heap.size W w') := by
    rcases hbd with ⟨f, q, rfl, rfl, hf, hq⟩ | hbd
    · refine ⟨Ex.expand m main f q, 0, small_expand (fun g hg => by have := hm2 g hg; omega) (by omega) (by omega), fun v W hv hb => ?_, fun v W hv hb => ?_⟩
      · exact (exp9_any v m main f q W hv hm1 (by omega) (fun g hg => by have := hm2 g hg; omega) (by omega) (by omega) (hgl.below hw0 hb) (Nat.lt_of_lt_of_le hw0 hb.size) rfl rfl).mono fun e w' ⟨o, a1, a2, a3, _⟩ => ⟨o, a1, a2, a3⟩
      · exact expand8_any v m main f q W hv (by omega) (fun g hg => by have := hm2 g hg; omega) (by omega) (by omega)
    · refine ⟨Ex.zero 0, 1, ⟨Nat.zero_le _, Nat.zero_le _, Nat.zero_le _⟩, fun v W hv hb => ?_, fun v W hv hb => ?_⟩
      · exact (exp_bad v main ya za W hbd).mono fun e w' ⟨a1, a2⟩ => ⟨_, a1, rdO_zero w', a2⟩
      · exact (exp8_bad v main ya za W hbd).mono fun e w' ⟨a1, a2⟩ => ⟨_, a1, rdO_zero w', a2⟩
  have HSM := Lib.hid hsm
  have HX1 := Lib.hid hx1
  have HX2 := Lib.hid hx2
  have HFX : Hid (∀ W, Below w.heap.size w W → Calls Tryz.prog 11 #[] W fun e w' => e = .returned (.bool true) ∧ Below W.heap.size W w') := Lib.hid fun W hb => exFixed_any W (hgl.below hw0 hb) (Nat.lt_of_lt_of_le hw0 hb.size)
  clear hbd hsm hx1 hx2 hgl hm hW0 b0 hs hm1 hm2 hm3
  obtain ⟨a0, c0, rfl⟩ := hl.shape
  clear hl
  go_enter Tryz.func3, Tryz.ntmps3
  go_upto_region 1 with fail
  rw [← HW0.out]
  go_upto_region 2 with (go_at_call 5; (with_reducible refine HF.out.mono ?_); rintro e w1 ⟨vm, rfl, om, b1⟩; obtain ⟨am, cm, rfl⟩ := own_shape om; have HOM := Lib.hid om; have HB1 := Lib.hid b1; clear om b1)
  have r1 := HR0.out.kw (Kw.of_below HB1.out) (by have := HR0.out.lt; omega)
  have c0 : w1.cell? ⟨w.heap.size, 0, none⟩ = some (.int .i64 y) := r1.cell (i := 0) rfl
  have c1 : w1.cell? ⟨w.heap.size, 1, none⟩ = some (.int .i64 z) := r1.cell (i := 1) rfl
  have HB01 : Hid (Below w.heap.size w w1) := Lib.hid (HB0.out.trans (HB1.out.mono HB0.out.size))
  clear r1
  go_upto_region 3 with (go_at_call 6; (with_reducible refine (HBO.out w1).mono ?_); rintro e w9 ⟨rfl, rfl⟩)
  clear c0 c1
  have H1 := Lib.hid (HX1.out (.slice am m.length cm) w1 (rf_own HOM.out) HB01.out)
  go_upto_region 4 with (go_at_call 7; (with_reducible refine H1.out.mono ?_); rintro e w2 ⟨o, rfl, ro, b9⟩; obtain ⟨vL, vR, vN, rfl, h1, h2, h3⟩ := ro; obtain ⟨aL, cL, rfl⟩ := h1.shape; obtain ⟨aR, cR, rfl⟩ := Rd.shape h2; obtain ⟨aN, cN, rfl⟩ := h3.shape; have HH := Lib.hid (show RdO w2 (.agg #[.slice aL E.outL.length cL, .slice aR E.reads.length cR, .slice aN E.notes.length cN, .int .i64 (E.used : Int)]) E from ⟨_, _, _, rfl, h1, h2, h3⟩); have HB2 := Lib.hid b9; clear h1 h2 h3 b9)
  obtain ⟨nL, hnL⟩ : ∃ n, n = E.outL.length := ⟨_, rfl⟩
  obtain ⟨nR, hnR⟩ : ∃ n, n = E.reads.length := ⟨_, rfl⟩
  obtain ⟨nN, hnN⟩ : ∃ n, n = E.notes.length := ⟨_, rfl⟩
  obtain ⟨nU, hnU⟩ : ∃ n, n = E.used := ⟨_, rfl⟩
  rw [← hnL, ← hnR, ← hnN, ← hnU] at HH ⊢
  have HNN := Lib.hid (And.intro hnL (And.intro hnR (And.intro hnN hnU)))
  obtain ⟨V1, hV1⟩ : ∃ V, V = w2.alloc (.cells #[.slice aL nL cL, .slice aR nR cR, .slice aN nN cN, .int .i64 (nU : Int)] 31) := ⟨_, rfl⟩
  rw [← hV1]
  have HC1 : Hid (∀ W', Below V1.heap.size V1 W' → (W'.cell? ⟨w2.heap.size, 0, none⟩ = some (.slice aL nL cL) ∧ W'.cell? ⟨w2.heap.size, 1, none⟩ = some (.slice aR nR cR) ∧ W'.cell? ⟨w2.heap.size, 2, none⟩ = some (.slice aN nN cN) ∧ W'.cell? ⟨w2.heap.size, 3, none⟩ = some (.int .i64 (nU : Int))) ∧ RdO W' (.agg #[.slice aL nL cL, .slice aR nR cR, .slice aN nN cN, .int .i64 (nU : Int)]) E) := Lib.hid fun W' hb => box9 hV1 HH.out hb
  have HBV : Hid (Below w1.heap.size w1 V1) := Lib.hid (by rw [hV1]; exact HB2.out.alloc HB2.out.size _)
  have HBVW : Hid (Below w.heap.size w V1) := Lib.hid (HB01.out.trans (HBV.out.mono HB01.out.size))
  have H2 := Lib.hid (HX2.out (.slice am m.length cm) V1 ((rf_own HOM.out).below' HBV.out) HBVW.out)
  clear hnL hnR hnN hnU hV1 H1 HH
  go_upto_region 5 with (go_at_call 8; (with_reducible refine H2.out.mono ?_); rintro e w3 ⟨o, rfl, ro, b9⟩; obtain ⟨vL, vR, vN, rfl, h1, h2, h3⟩ := ro; obtain ⟨bL, dL, rfl⟩ := h1.shape; obtain ⟨bR, dR, rfl⟩ := Rd.shape h2; obtain ⟨bN, dN, rfl⟩ := h3.shape; have HH := Lib.hid (show RdO w3 (.agg #[.slice bL E.outL.length dL, .slice bR E.reads.length dR, .slice bN E.notes.length dN, .int .i64 (E.used : Int)]) E from ⟨_, _, _, rfl, h1, h2, h3⟩); have HB3 := Lib.hid b9; clear h1 h2 h3 b9)
  rw [← HNN.out.1, ← HNN.out.2.1, ← HNN.out.2.2.1, ← HNN.out.2.2.2] at HH ⊢
  obtain ⟨V2, hV2⟩ : ∃ V, V = w3.alloc (.cells #[.slice bL nL dL, .slice bR nR dR, .slice bN nN dN, .int .i64 (nU : Int)] 37) := ⟨_, rfl⟩
  rw [← hV2]
  have HBV2 : Hid (Below V1.heap.size V1 V2) := Lib.hid (by rw [hV2]; exact HB3.out.alloc HB3.out.size _)
  have HBW : Hid (Below w.heap.size w V2) := Lib.hid (HBVW.out.trans (HBV2.out.mono HBVW.out.size))
  have HC : Hid (∀ W', Below V2.heap.size V2 W' → ((W'.cell? ⟨w2.heap.size, 0, none⟩ = some (.slice aL nL cL) ∧ W'.cell? ⟨w2.heap.size, 1, none⟩ = some (.slice aR nR cR) ∧ W'.cell? ⟨w2.heap.size, 2, none⟩ = some (.slice aN nN cN) ∧ W'.cell? ⟨w2.heap.size, 3, none⟩ = some (.int .i64 (nU : Int))) ∧
      (W'.cell? ⟨w3.heap.size, 0, none⟩ = some (.slice bL nL dL) ∧ W'.cell? ⟨w3.heap.size, 1, none⟩ = some (.slice bR nR dR) ∧ W'.cell? ⟨w3.heap.size, 2, none⟩ = some (.slice bN nN dN) ∧ W'.cell? ⟨w3.heap.size, 3, none⟩ = some (.int .i64 (nU : Int)))) ∧
      RdO W' (.agg #[.slice aL nL cL, .slice aR nR cR, .slice aN nN cN, .int .i64 (nU : Int)]) E ∧ RdO W' (.agg #[.slice bL nL dL, .slice bR nR dR, .slice bN nN dN, .int .i64 (nU : Int)]) E) := Lib.hid fun W' hb => by
    have h1 := HC1.out W' (HBV2.out.trans (hb.mono HBV2.out.size))
    have h2 := box8 hV2 HH.out hb
    exact ⟨⟨h1.1, h2.1⟩, h1.2, h2.2⟩
  have HSMM : Hid (∀ W o1 o2, RdO W o1 E → RdO W o2 E → Calls Tryz.prog 9 #[o1, o2] W fun e w' => e = .returned (.bool true) ∧ Below W.heap.size W w') := Lib.hid fun W o1 o2 k1 k2 => by
    have h9 := same8_any o1 o2 E E W k1 k2 HSM.out HSM.out
    rw [sameO_refl] at h9
    exact h9
  have HR1 : Hid (∀ W' o1, RdO W' o1 E → Calls Tryz.prog 10 #[o1] W' fun e w' => ∃ o, e = .returned o ∧ RdO w' o E ∧ Below W'.heap.size W' w') := Lib.hid fun W' o1 hb => ref8_any _ E W' hb HSM.out.1
  have bd : Below V2.heap.size V2 V2.drew := below_drewN (Below.refl V2.heap.size V2) 1
  clear H2 hV2
  go_region_held3 (fun w' => ((w'.cell? ⟨w2.heap.size, 0, none⟩ = some (.slice aL nL cL) ∧ w'.cell? ⟨w2.heap.size, 1, none⟩ = some (.slice aR nR cR) ∧ w'.cell? ⟨w2.heap.size, 2, none⟩ = some (.slice aN nN cN) ∧ w'.cell? ⟨w2.heap.size, 3, none⟩ = some (.int .i64 (nU : Int))) ∧
      (w'.cell? ⟨w3.heap.size, 0, none⟩ = some (.slice bL nL dL) ∧ w'.cell? ⟨w3.heap.size, 1, none⟩ = some (.slice bR nR dR) ∧ w'.cell? ⟨w3.heap.size, 2, none⟩ = some (.slice bN nN dN) ∧ w'.cell? ⟨w3.heap.size, 3, none⟩ = some (.int .i64 (nU : Int)))))
    (first
      | exact (HC.out _ (Below.refl _ _)).1
      | exact (HC.out _ bd).1
      | exact (HC.out _ bd4).1
      | exact (HC.out _ bd6).1
      | exact (HC.out _ bd7).1
      | go_keep
      | fail)
    (first
      | (go_at_call 10; (with_reducible refine (HR1.out _ _ (HC.out _ bd).2.1).mono ?_); rintro e w4 ⟨o1, rfl, ro1, b4⟩; have bd4 := bd.trans (b4.mono bd.size))
      | (go_at_call 9; (with_reducible refine (HSMM.out _ _ _ ro1 (HC.out _ bd4).2.2).mono ?_); rintro e w6 ⟨rfl, b6⟩; have bd6 := bd4.trans (b6.mono bd4.size))
      | (go_at_call 11; (with_reducible refine (HFX.out _ (HBW.out.trans (bd6.mono HBW.out.size))).mono ?_); rintro e w7 ⟨rfl, b7⟩; have bd7 := bd6.trans (b7.mono bd6.size))
      | fail)
  all_goals (go_wp2_with fail; go_ret; exact ⟨rfl, HBW.out.trans (bd7.mono HBW.out.size)⟩)
end Go.Proofs.YtjfikkjaifdkiaaGreatDoor
