/- 'ExpandBounds' holds; its tied card. -/
import Derived.Test.YteahcmgdlbpmiaaGreatDoorBa8
import Derived.Test.YteahcmgdlbpmiaaGreatDoorRows
import Derived.ChangeSame
import Derived.ChangeVars
import Derived.JoinedOf
import Derived.RowKit
import Derived.RowKitTokens
import Derived.LaidLaws
import Derived.LaidHandle
import Derived.Stop.Joined
import Derived.ProofKit
import Derived.Deep.SlicePairs
import Derived.Deep.Grids
import Derived.OpenShut
import Derived.Test.YteahcmgdlbpmiaaGreatDoorCards
import Derived.Test.YteahcmgdlbpmiaaGreatDoorTie
import Derived.Test.YteahcmgdlbpmiaaGreatDoorChecked
import Derived.SevenTiedAt
namespace Go.Proofs.YteahcmgdlbpmiaaGreatDoor
open Go.RowKit

theorem sameO_plus (E : Ex.St) : sameO E (Ex.plus E) = true := by simp [sameO, Ex.plus]
/-- A box that holds an expansion, ever after. -/
theorem box9 {w1 V : World} {a b c d : Value} {E : Ex.St} (hV : V = w1.alloc (.cells #[a, b, c, d] 31)) (h : RdO w1 (.agg #[a, b, c, d]) E) {W' : World} (hb : Below V.heap.size V W') :
    (W'.cell? ⟨w1.heap.size, 0, none⟩ = some a ∧ W'.cell? ⟨w1.heap.size, 1, none⟩ = some b ∧ W'.cell? ⟨w1.heap.size, 2, none⟩ = some c ∧ W'.cell? ⟨w1.heap.size, 3, none⟩ = some d) ∧ RdO W' (.agg #[a, b, c, d]) E := by
  have hv : Below w1.heap.size w1 V := by rw [hV]; exact (Below.refl _ _).alloc (Nat.le_refl _) _
  have r : Ro V w1.heap.size 31 [a, b, c, d] := by rw [hV]; exact heap_alloc_new w1 _
  have r9 := r.kw (Kw.of_below hb) (by have := r.lt; omega)
  exact ⟨⟨r9.cell (i := 0) rfl, r9.cell (i := 1) rfl, r9.cell (i := 2) rfl, r9.cell (i := 3) rfl⟩, h.below' (hv.trans (hb.mono hv.size))⟩

set_option maxRecDepth 20000 in
set_option maxHeartbeats 8000000 in
/-- 'ExpandBounds'. -/
theorem expandBounds_any (v0 : Value) (l : List Fl) (main : List UInt8) (y z : Int) (w : World) (hl : Rf w v0 l) (hs : ∀ f ∈ l, f.1.length ≤ 9223372036854775807 ∧ f.2.length ≤ 9223372036854775807) (hy : 0 ≤ y ∧ y ≤ 255) (hz : 0 ≤ z ∧ z ≤ 255) (hgl : Gl w) (hw0 : 0 < w.heap.size) :
    Calls Tryz.prog 5 #[v0, .string (S main), .agg #[.int .u8 y, .int .u8 z]] w fun e w' => e = .returned (.bool true) ∧ Below w.heap.size w w' := by
  obtain ⟨y, rfl⟩ := Int.eq_ofNat_of_zero_le hy.1
  obtain ⟨z, rfl⟩ := Int.eq_ofNat_of_zero_le hz.1
  obtain ⟨fu, hfu⟩ : ∃ fu, fu = y % 41 := ⟨_, rfl⟩
  have hfl : fu ≤ 40 := by omega
  have hzl : z ≤ 255 := by omega
  have hrem : (y : Int) % 41 = (fu : Int) := by omega
  obtain ⟨m, hm⟩ : ∃ m, m = Fi.map l 6 200 := ⟨_, rfl⟩
  obtain ⟨hm1, hm2, hm3⟩ := map_keeps l 6 200
  rw [← hm] at hm1 hm2 hm3
  obtain ⟨W0, hW0⟩ : ∃ W0, W0 = w.alloc (.cells #[.int .u8 (y : Int), .int .u8 (z : Int)] 49) := ⟨_, rfl⟩
  have b0 : Below w.heap.size w W0 := by rw [hW0]; exact (Below.refl _ _).alloc (Nat.le_refl _) _
  have HF := Lib.hid (files8_any v0 l W0 (hl.below' b0) hs)
  rw [← hm] at HF
  have HW0 := Lib.hid hW0
  have HM := Lib.hid hm
  clear hW0 hm
  obtain ⟨a0, c0, rfl⟩ := hl.shape
  go_enter Tryz.func5, Tryz.ntmps5
  go_upto_region 1 with fail
  rw [← HW0.out]
  go_upto_region 2 with (go_at_call 9; (with_reducible refine HF.out.mono ?_); rintro e w1 ⟨vm, rfl, om, b1⟩; obtain ⟨am, cm, rfl⟩ := own_shape om; have HOM := Lib.hid om; have HB1 := Lib.hid b1; clear om b1)
  have r0 : Ro W0 w.heap.size 49 [.int .u8 (y : Int), .int .u8 (z : Int)] := by rw [HW0.out]; exact heap_alloc_new w _
  have r1 := r0.kw (Kw.of_below HB1.out) (by have := r0.lt; omega)
  have c0 : ∀ k, (w1.drewN k).cell? ⟨w.heap.size, 0, none⟩ = some (.int .u8 (y : Int)) := fun _ => r1.cell (i := 0) rfl
  have c1 : ∀ k, (w1.drewN k).cell? ⟨w.heap.size, 1, none⟩ = some (.int .u8 (z : Int)) := fun _ => r1.cell (i := 1) rfl
  have HB01 := Lib.hid (b0.trans (HB1.out.mono b0.size))
  clear r0 r1 b0
  obtain ⟨E1, hE1⟩ : ∃ E, E = Ex.expand m main fu z := ⟨_, rfl⟩
  obtain ⟨E2, hE2⟩ : ∃ E, E = Ex.expand m main (fu + 1) (z + 45) := ⟨_, rfl⟩
  have HX : Hid (∀ (f q : Nat) (zf zm : Int), f ≤ 100 → q ≤ 1000 → zf = (f : Int) → zm = (q : Int) → ∀ W, Below w1.heap.size w1 W → Calls Tryz.prog 11 #[.slice am m.length cm, .string (S main), .int .i64 zf, .int .i64 zm] W fun e w' => ∃ o, e = .returned (.tuple #[o, .int .i64 0]) ∧ RdO w' o (Ex.expand m main f q) ∧ Below W.heap.size W w') := Lib.hid fun f q zf zm hf hq ef em W hb =>
    (exp9_any (.slice am m.length cm) m main f q W ((rf_own HOM.out).below' hb) hm1 (by omega) (fun g hg => by have := hm2 g hg; omega) hf hq (hgl.below hw0 (HB01.out.trans (hb.mono HB01.out.size))) (Nat.lt_of_lt_of_le hw0 (Nat.le_trans HB01.out.size hb.size)) ef em).mono fun e w' ⟨o, q1, q2, q3, _⟩ => ⟨o, q1, q2, q3⟩
  have H1 := Lib.hid fun W hb => HX.out fu z (fu : Int) (z : Int) (by omega) (by omega) rfl rfl W hb
  have H2 := Lib.hid fun W hb => HX.out (fu + 1) (z + 45) ((fu : Int) + 1) ((z : Int) + 45) (by omega) (by omega) (by omega) (by omega) W hb
  rw [← hE1] at H1
  rw [← hE2] at H2
  have HE1 := Lib.hid hE1
  have HE2 := Lib.hid hE2
  clear hE1 hE2 HX hm1 hm3 hfu
  go_quiet (fail)
  rw [hrem]
  clear hrem c0 c1
  have arm := True.intro
  go_upto_region 4 with (go_at_call 11; (with_reducible refine (H1.out _ (below_drewN (Below.refl w1.heap.size w1) nq)).mono ?_); rintro e w2 ⟨o, rfl, ro, b2⟩; obtain ⟨vL, vR, vN, rfl, h1, h2, h3⟩ := ro; obtain ⟨aL, cL, rfl⟩ := h1.shape; obtain ⟨aR, cR, rfl⟩ := Rd.shape h2; obtain ⟨aN, cN, rfl⟩ := h3.shape; have HH := Lib.hid (show RdO w2 (.agg #[.slice aL E1.outL.length cL, .slice aR E1.reads.length cR, .slice aN E1.notes.length cN, .int .i64 (E1.used : Int)]) E1 from ⟨_, _, _, rfl, h1, h2, h3⟩); have HB2 := Lib.hid b2; clear h1 h2 h3 b2)
  clear arm
  obtain ⟨nL, hnL⟩ : ∃ n, n = E1.outL.length := ⟨_, rfl⟩
  obtain ⟨nR, hnR⟩ : ∃ n, n = E1.reads.length := ⟨_, rfl⟩
  obtain ⟨nN, hnN⟩ : ∃ n, n = E1.notes.length := ⟨_, rfl⟩
  obtain ⟨nU, hnU⟩ : ∃ n, n = E1.used := ⟨_, rfl⟩
  rw [← hnL, ← hnR, ← hnN, ← hnU] at HH ⊢
  obtain ⟨V1, hV1⟩ : ∃ V, V = w2.alloc (.cells #[.slice aL nL cL, .slice aR nR cR, .slice aN nN cN, .int .i64 (nU : Int)] 31) := ⟨_, rfl⟩
  rw [← hV1]
  have HX1 : Hid (∀ W', Below V1.heap.size V1 W' → (W'.cell? ⟨w2.heap.size, 0, none⟩ = some (.slice aL nL cL) ∧ W'.cell? ⟨w2.heap.size, 1, none⟩ = some (.slice aR nR cR) ∧ W'.cell? ⟨w2.heap.size, 2, none⟩ = some (.slice aN nN cN) ∧ W'.cell? ⟨w2.heap.size, 3, none⟩ = some (.int .i64 (nU : Int))) ∧ RdO W' (.agg #[.slice aL nL cL, .slice aR nR cR, .slice aN nN cN, .int .i64 (nU : Int)]) E1) := Lib.hid fun W' hb => box9 hV1 HH.out hb
  have bq : Below w1.heap.size w1 (w1.drewN nq) := below_drewN (Below.refl w1.heap.size w1) nq
  have HBA : Hid (Below w1.heap.size w1 V1) := Lib.hid (by
    have h9 := bq.trans (HB2.out.mono bq.size)
    rw [hV1]
    exact h9.alloc h9.size _)
  have HLE : Hid (nU ≤ fu ∧ nL ≤ z) := Lib.hid ⟨by rw [hnU, HE1.out]; exact Ex.used_le m main fu z, by rw [hnL, HE1.out]; exact Ex.outL_le m main fu z⟩
  have HNS : Hid (nN = E1.notes.length ∧ nL = E1.outL.length ∧ nR = E1.reads.length) := Lib.hid ⟨hnN, hnL, hnR⟩
  clear hnL hnR hnN hnU hV1 bq H1
  go_upto_region 5 with (go_at_call 11; (with_reducible refine (H2.out _ HBA.out).mono ?_); rintro e w3 ⟨o, rfl, ro, b3⟩; obtain ⟨vL, vR, vN, rfl, h1, h2, h3⟩ := ro; obtain ⟨bL, dL, rfl⟩ := h1.shape; obtain ⟨bR, dR, rfl⟩ := Rd.shape h2; obtain ⟨bN, dN, rfl⟩ := h3.shape; have HH2 := Lib.hid (show RdO w3 (.agg #[.slice bL E2.outL.length dL, .slice bR E2.reads.length dR, .slice bN E2.notes.length dN, .int .i64 (E2.used : Int)]) E2 from ⟨_, _, _, rfl, h1, h2, h3⟩); have HB3 := Lib.hid b3; clear h1 h2 h3 b3)
  obtain ⟨mL, hmL⟩ : ∃ n, n = E2.outL.length := ⟨_, rfl⟩
  obtain ⟨mR, hmR⟩ : ∃ n, n = E2.reads.length := ⟨_, rfl⟩
  obtain ⟨mN, hmN⟩ : ∃ n, n = E2.notes.length := ⟨_, rfl⟩
  obtain ⟨mU, hmU⟩ : ∃ n, n = E2.used := ⟨_, rfl⟩
  rw [← hmL, ← hmR, ← hmN, ← hmU] at HH2 ⊢
  obtain ⟨V2, hV2⟩ : ∃ V, V = w3.alloc (.cells #[.slice bL mL dL, .slice bR mR dR, .slice bN mN dN, .int .i64 (mU : Int)] 31) := ⟨_, rfl⟩
  rw [← hV2]
  have HX2 : Hid (∀ W', Below V2.heap.size V2 W' → (W'.cell? ⟨w3.heap.size, 0, none⟩ = some (.slice bL mL dL) ∧ W'.cell? ⟨w3.heap.size, 1, none⟩ = some (.slice bR mR dR) ∧ W'.cell? ⟨w3.heap.size, 2, none⟩ = some (.slice bN mN dN) ∧ W'.cell? ⟨w3.heap.size, 3, none⟩ = some (.int .i64 (mU : Int))) ∧ RdO W' (.agg #[.slice bL mL dL, .slice bR mR dR, .slice bN mN dN, .int .i64 (mU : Int)]) E2) := Lib.hid fun W' hb => box9 hV2 HH2.out hb
  have HBV : Hid (Below V1.heap.size V1 V2) := Lib.hid (by
    rw [hV2]
    exact HB3.out.alloc HB3.out.size _)
  have HC : Hid (∀ W', Below V2.heap.size V2 W' → ((W'.cell? ⟨w2.heap.size, 0, none⟩ = some (.slice aL nL cL) ∧ W'.cell? ⟨w2.heap.size, 1, none⟩ = some (.slice aR nR cR) ∧ W'.cell? ⟨w2.heap.size, 2, none⟩ = some (.slice aN nN cN) ∧ W'.cell? ⟨w2.heap.size, 3, none⟩ = some (.int .i64 (nU : Int))) ∧
      (W'.cell? ⟨w3.heap.size, 0, none⟩ = some (.slice bL mL dL) ∧ W'.cell? ⟨w3.heap.size, 1, none⟩ = some (.slice bR mR dR) ∧ W'.cell? ⟨w3.heap.size, 2, none⟩ = some (.slice bN mN dN) ∧ W'.cell? ⟨w3.heap.size, 3, none⟩ = some (.int .i64 (mU : Int)))) ∧
      RdO W' (.agg #[.slice aL nL cL, .slice aR nR cR, .slice aN nN cN, .int .i64 (nU : Int)]) E1 ∧ RdO W' (.agg #[.slice bL mL dL, .slice bR mR dR, .slice bN mN dN, .int .i64 (mU : Int)]) E2) := Lib.hid fun W' hb => by
    have h1 := HX1.out W' (HBV.out.trans (hb.mono HBV.out.size))
    have h2 := HX2.out W' hb
    exact ⟨⟨h1.1, h2.1⟩, h1.2, h2.2⟩
  have HBW : Hid (Below w.heap.size w V2) := Lib.hid ((HB01.out.trans (HBA.out.mono HB01.out.size)).trans (HBV.out.mono (Nat.le_trans HB01.out.size HBA.out.size)))
  clear hmL hmR hmN hmU hV2 H2 HX1 HX2
  have g1 : (nU : Int) ≤ (fu : Int) := by have := HLE.out.1; omega
  have g2 : (nL : Int) ≤ (z : Int) := by have := HLE.out.2; omega
  obtain ⟨⟨⟨c0, c1, c2, c3⟩, d0, d1, d2, d3⟩, _⟩ := HC.out V2 (Below.refl _ _)
  go_upto_region 7 with fail
  have HFX : Hid (∀ W', Below V2.heap.size V2 W' → Calls Tryz.prog 15 #[] W' fun e w' => e = .returned (.bool true) ∧ Below W'.heap.size W' w') := Lib.hid fun W' hb => exFixed_any W' (hgl.below hw0 (HBW.out.trans (hb.mono HBW.out.size))) (Nat.lt_of_lt_of_le hw0 (Nat.le_trans HBW.out.size hb.size))
  rcases Nat.eq_zero_or_pos nN with h0 | h0
  · have hnil : E1.notes = [] := List.eq_nil_of_length_eq_zero (by rw [← HNS.out.1]; exact h0)
    have HSM : Hid (∀ W o1 o2, RdO W o1 E1 → RdO W o2 E2 → Calls Tryz.prog 13 #[o1, o2] W fun e w' => e = .returned (.bool true) ∧ Below W.heap.size W w') := Lib.hid fun W o1 o2 k1 k2 => by
      have e1 := HE1.out
      have e2 := HE2.out
      have e3 : E2 = Ex.plus E1 := by rw [e2, e1]; exact Ex.expand_more hm2 (by rw [← e1]; exact hnil)
      have h9 := same8_any o1 o2 E1 E2 W k1 k2 (by rw [e1]; exact small_expand (fun g hg => by have := hm2 g hg; omega) (by omega) (by omega)) (by rw [e2]; exact small_expand (fun g hg => by have := hm2 g hg; omega) (by omega) (by omega))
      rw [e3, sameO_plus] at h9
      exact h9
    have HR1 : Hid (∀ W', Below V2.heap.size V2 W' → Calls Tryz.prog 14 #[.agg #[.slice aL nL cL, .slice aR nR cR, .slice aN nN cN, .int .i64 (nU : Int)]] W' fun e w' => ∃ o, e = .returned o ∧ RdO w' o E1 ∧ Below W'.heap.size W' w') := Lib.hid fun W' hb => ref8_any _ E1 W' (HC.out W' hb).2.1 (by rw [← HNS.out.2.1]; omega)
    have HR2 : Hid (∀ W', Below V2.heap.size V2 W' → Calls Tryz.prog 14 #[.agg #[.slice bL mL dL, .slice bR mR dR, .slice bN mN dN, .int .i64 (mU : Int)]] W' fun e w' => ∃ o, e = .returned o ∧ RdO w' o E2 ∧ Below W'.heap.size W' w') := Lib.hid fun W' hb => ref8_any _ E2 W' (HC.out W' hb).2.2 (by have := Ex.outL_le m main (fu + 1) (z + 45); rw [← HE2.out] at this; omega)
    have bd : Below V2.heap.size V2 V2.drew := below_drewN (Below.refl V2.heap.size V2) 1
    subst h0
    clear hnil hm2
    go_region_held3 (fun w' => ((w'.cell? ⟨w2.heap.size, 0, none⟩ = some (.slice aL nL cL) ∧ w'.cell? ⟨w2.heap.size, 1, none⟩ = some (.slice aR nR cR) ∧ w'.cell? ⟨w2.heap.size, 2, none⟩ = some (.slice aN 0 cN) ∧ w'.cell? ⟨w2.heap.size, 3, none⟩ = some (.int .i64 (nU : Int))) ∧
      (w'.cell? ⟨w3.heap.size, 0, none⟩ = some (.slice bL mL dL) ∧ w'.cell? ⟨w3.heap.size, 1, none⟩ = some (.slice bR mR dR) ∧ w'.cell? ⟨w3.heap.size, 2, none⟩ = some (.slice bN mN dN) ∧ w'.cell? ⟨w3.heap.size, 3, none⟩ = some (.int .i64 (mU : Int)))))
      (first
        | exact (HC.out _ (Below.refl _ _)).1
        | exact (HC.out _ bd).1
        | exact (HC.out _ bd4).1
        | exact (HC.out _ bd5).1
        | exact (HC.out _ bd6).1
        | go_keep
        | fail)
      (first
        | (go_at_call 14; (with_reducible refine (HR1.out _ bd).mono ?_); rintro e w4 ⟨o1, rfl, ro1, b4⟩; have bd4 := bd.trans (b4.mono bd.size))
        | (go_at_call 14; (with_reducible refine (HR2.out _ bd4).mono ?_); rintro e w5 ⟨o2, rfl, ro2, b5⟩; have bd5 := bd4.trans (b5.mono bd4.size); have ro9 := ro1.below' b5)
        | (go_at_call 13; (with_reducible refine (HSM.out _ _ _ ro9 ro2).mono ?_); rintro e w6 ⟨rfl, b6⟩; have bd6 := bd5.trans (b6.mono bd5.size))
        | fail)
    go_wp2_with (go_at_call 15; (with_reducible refine (HFX.out _ bd6).mono ?_); rintro e w7 ⟨rfl, b7⟩)
    go_ret
    exact ⟨rfl, HBW.out.trans ((bd6.trans (b7.mono bd6.size)).mono HBW.out.size)⟩
  · have g9 : ((nN : Int) == 0) = false := by rw [beq_eq_false_iff_ne]; omega
    have bd : ∀ k, Below V2.heap.size V2 (V2.drewN k) := fun k => below_drewN (Below.refl V2.heap.size V2) k
    have c2q : ∀ k, (V2.drewN k).cell? ⟨w2.heap.size, 2, none⟩ = some (.slice aN nN cN) := fun _ => c2
    clear hm2
    go_quiet (fail)
    go_wp2_with (go_at_call 15; (with_reducible refine (HFX.out _ (bd _)).mono ?_); rintro e w7 ⟨rfl, b7⟩)
    go_ret
    exact ⟨rfl, HBW.out.trans (((bd _).trans (b7.mono (bd _).size)).mono HBW.out.size)⟩
end Go.Proofs.YteahcmgdlbpmiaaGreatDoor

namespace Go.Proofs.YteahcmgdlbpmiaaGreatDoor
open Go.ChangeShapes Go.WideShapes Go.RowKit

theorem own : ownKnob Tryz.prog.godebug = none := by kernel_rfl
theorem laidOut : laidOutB Tryz.prog = true := by kernel_rfl
theorem et8 : Tryz.prog.globalNamed "errors.errorType" = some 0 := by kernel_rfl
theorem rt8 : (Tryz.prog.cutTypes.find? (·.1 == "internal/reflectlite.rtype")).map (·.2) = some 176 := by kernel_rfl
theorem oneRow8 : ((List.range 242).filter fun t => Tryz.prog.rowNamed t [101, 114, 114, 111, 114]) = [100] := by kernel_rfl
theorem size8 : Tryz.prog.types.size = 242 := by kernel_rfl

/-- What the condition gives a walk: the variable's one cell. -/
theorem gl_of_laid {W : World} (h : laidMetH Tryz.prog [("errors.errorType", Rows.laid_errors_errorType)] W) : Gl W := by
  have h' : laidMet Tryz.prog [] W ∧ handlesMet Tryz.prog [("errors.errorType", Rows.laid_errors_errorType)] W := h
  obtain ⟨name, u, ty, e1, e2, e3, e4, e5⟩ := h'.2 _ (List.mem_singleton.2 rfl)
  have en : name = [101, 114, 114, 111, 114] := (Option.some.inj e1).symm
  subst en
  obtain rfl := Option.some.inj (rt8.symm.trans e2)
  have hm : ty ∈ (List.range 242).filter fun t => Tryz.prog.rowNamed t [101, 114, 114, 111, 114] := List.mem_filter.2 ⟨List.mem_range.2 (by rw [← size8]; exact e3), e4⟩
  rw [oneRow8] at hm
  obtain rfl := List.mem_singleton.1 hm
  have hh : typeHandle Tryz.prog 100 = .pointer (some ⟨2, 100, none⟩) := by kernel_rfl
  rw [hh] at e5
  have h9 := World.var?_cell et8 e5 0
  unfold Gl
  simpa using h9
theorem gl_pos {W : World} (h : Gl W) : 0 < W.heap.size := by
  rcases Nat.eq_zero_or_pos W.heap.size with h0 | h9
  · simp [Gl, World.cell?, h0] at h
  · exact h9

/-- A world that meets the condition: the settled one, the variable's cell laid. -/
noncomputable def laidWorld (os : Os) : World :=
  let w0 := World.holding Tryz.prog os ⟨#[], #[], []⟩
  { w0 with heap := w0.heap.modify 0 fun
      | .cells _ t frozen => .cells #[.iface 176 (.agg #[.pointer (some ⟨2, 100, none⟩)])] t frozen
      | o => o }
theorem laidWorld_met (os : Os) (args : Array Value) : laidMetH Tryz.prog [("errors.errorType", Rows.laid_errors_errorType)] ((laidWorld os).forCall (fun _ _ => 0) ⟨#[], args, []⟩).memory :=
  laidMetH_of_parts (laidMet_nil _ _) (by kernel_rfl)
end Go.Proofs.YteahcmgdlbpmiaaGreatDoor

namespace Go.Proofs.YteahcmgdlbpmiaaGreatDoor
open Go.ChangeShapes Go.WideShapes Go.ChangeAt Go.RowKit Go.ChangeMaps

section
variable {H : Type} {enc : TypeId × Value → H} {P : Program} {W : World}

/-- ARGS, all at once: below the heap's old size nothing has turned. -/
theorem Below.trodAll (hl : laidOutB P = true) {W' : World} (hb : Below W.heap.size W W') : ∀ {ts : List TypeId} {vs : List Value} {ds : List (DataW H)} {ps : List MemPlace}, (∀ t ∈ ts, P.readableRec t = true ∧ t < P.types.size) →
    DataW.TrodAll enc P W 0 (fun _ => true) true ts vs ds ps → (∀ x ∈ ps, x.block < W.heap.size) → DataW.TrodAll enc P W' 0 (fun b => decide (b < W.heap.size)) true ts vs ds ps
  | [], [], [], _, _, h, _ => h
  | _ :: _, _ :: _, _ :: _, _, ht, ⟨p, q, h1, h2, e⟩, hlt =>
    ⟨p, q, h1.elim fun n hn => Below.trod hl (ht _ (by simp)).1 (ht _ (by simp)).2 ⟨n, hn⟩ hb (fun x hx => hlt x (by rw [e]; exact List.mem_append_left _ hx)),
      Below.trodAll hl hb (fun t h => ht t (by simp [h])) h2 (fun x hx => hlt x (by rw [e]; exact List.mem_append_right _ hx)), e⟩

/-- POST of a law: true; the arguments as they were. -/
theorem law_post (hl : laidOutB P = true) {f : Func} {s : ChangeSpec} {W' : World} {args : Array Value} {ds gs : List (DataW H)} {before : List MemPlace} {tb : TypeId}
    (hts : ∀ t ∈ f.params.toList, P.readableRec t = true ∧ t < P.types.size) (hres : f.resultTypes = #[tb]) (hbt : P.underlying tb = some .bool) (hsv : s.vars = [])
    (hW : DataW.Whole enc P f.params.toList s.vars false W args.toList ds gs before) (hfn : s.fn H (ds ++ gs) = { results := [.lit (.bool true)], args := ds }) (hb : Below W.heap.size W W') :
    s.post enc P f false true false false W args (.bool true) W' := by
  have hlt := hW.lt
  have hW' := hW
  obtain ⟨p, q, hA, hV, rfl, _, _⟩ := hW
  rw [hsv] at hV
  obtain ⟨rfl, rfl⟩ := trodVars_none hV
  refine ⟨ds, [], p ++ [], [], p, [], hW', ?_, ?_, ?_, hb.frame _, fun h => by cases h⟩
  · rw [hfn, hres]
    exact trodAll_mk1 (shut_bool hbt true)
  · rw [hfn]
    exact Below.trodAll hl hb hts hA (fun x hx => by simpa using hlt x (by simpa using hx))
  · rw [hfn, hsv]
    rfl

theorem data_le {s : ByteArray} (h : s.size ≤ maxLen) : s.data.toList.length ≤ 9223372036854775807 := by
  have e : s.data.toList.length = s.size := rfl
  rw [e]; unfold maxLen at h; omega

/-- A text. -/
theorem open_str {r : Reach} {b0 : Nat} {t : TypeId} {v : Value} {d : DataW H} {ps : List MemPlace} (ht : P.underlying t = some .string) (hval : Value.okWide P W r b0 t v) (hd : DataW.Trod enc P W 0 (fun _ => true) true t v d ps) : ∃ l : List UInt8, v = .string (S l) ∧ l.length ≤ 9223372036854775807 := by
  obtain ⟨s, rfl, _, _, hs⟩ := open_string ht hval hd
  exact ⟨s.data.toList, rfl, data_le hs⟩

/-- A list of structs of a number and a text. -/
theorem open_toks {r : Reach} {b0 : Nat} {t e : TypeId} {f0 f1 : Field} {v : Value} {d : DataW H} {ps : List MemPlace} (ht : P.underlying t = some (.slice e)) (hval : Value.okWide P W r b0 t v) (he : P.underlying e = some (.struct #[f0, f1]))
    (ce : P.cellsOf e = 2) (o0 : f0.offset = 0) (o1 : f1.offset = 1) (c0 : P.cellsOf f0.type = 1) (c1 : P.cellsOf f1.type = 1) (u0 : P.underlying f0.type = some (.int .i64)) (u1 : P.underlying f1.type = some .string)
    (hd : DataW.Trod enc P W 0 (fun _ => true) true t v d ps) (hlt : ∀ x ∈ ps, x.block < W.heap.size) :
    ∃ l : List (Int × List UInt8), Rt W v l ∧ l.length ≤ 9223372036854775807 ∧ (∀ x ∈ l, x.2.length ≤ 9223372036854775807) ∧ ∀ x ∈ l, -9223372036854775808 ≤ x.1 ∧ x.1 ≤ 9223372036854775807 := by
  obtain ⟨a', len', cap', rfl⟩ := okWide_slice ht hval
  obtain ⟨fuel, hf⟩ := hd
  rcases Go.Deep.open_slice_pairs ht he ce o0 o1 c0 c1 hf with ⟨hc, _⟩ | ⟨a, len, cap, m, k, V0, V1, D0, D1, P0, P1, hc, _, hl, hm, hmm, hx, hall⟩
  · simp [Value.cells] at hc
    obtain ⟨rfl, rfl, rfl⟩ := hc
    exact ⟨[], ⟨rfl, .inl ⟨.inl rfl, rfl⟩⟩, by simp, by simp, by simp⟩
  · simp [Value.cells] at hc
    obtain ⟨rfl, rfl, rfl⟩ := hc
    simp only [if_true] at hmm
    subst hmm
    have key : ∀ i, i < m → ∃ (z : Int) (s : List UInt8), V0 i = .int .i64 z ∧ V1 i = .string (S s) ∧ s.length ≤ 9223372036854775807 ∧ (Lit.int .i64 z).wf = true := fun i hi => by
      obtain ⟨z, h1, _, h3⟩ := DataW.trod_int u0 (hall i hi).2.2.1
      obtain ⟨s, h4, _, h5⟩ := DataW.trod_string u1 (hall i hi).2.2.2
      simp only [List.cons.injEq, and_true] at h1 h4
      exact ⟨z, s.data.toList, h1, by rw [h4]; rfl, data_le h5, h3⟩
    have key2 : ∃ g : Nat → Int × List UInt8, ∀ i, i < m → V0 i = .int .i64 (g i).1 ∧ V1 i = .string (S (g i).2) ∧ (g i).2.length ≤ 9223372036854775807 ∧ (Lit.int .i64 (g i).1).wf = true := by
      refine ⟨fun i => if h : i < m then ((key i h).choose, (key i h).choose_spec.choose) else (0, []), fun i hi => ?_⟩
      simp only [hi, dite_true]
      exact (key i hi).choose_spec.choose_spec
    obtain ⟨g, hg⟩ := key2
    have hlen : ((List.range len').map g).length = len' := by simp
    refine ⟨(List.range len').map g, ⟨tcs_length _, ?_⟩, by rw [hlen]; unfold maxLen at hm; omega, ?_, ?_⟩
    · rw [hlen]
      by_cases h0 : len' = 0
      · subst h0
        exact .inl ⟨.inr ⟨_, _, rfl⟩, rfl⟩
      · obtain ⟨b, o, spot⟩ := a
        have hspot : spot = none := by simpa [Addr.add] using World.cell?_spot (hall 0 (by omega)).1
        subst hspot
        refine .inr ⟨b, o, m, rfl, fun _ => ?_, fun j u hj => ?_, by omega⟩
        · exact hlt (.cell b o) (by
            simp only [Prod.mk.injEq] at hx
            rw [hx.2]
            exact List.mem_append_left _ (MemPlace.mem_row.2 ⟨0, by omega, by simp⟩))
        · have hj2 : j < len' * 2 := by
            have := (List.getElem?_eq_some_iff.1 hj).1
            rw [tcs_length, hlen] at this
            exact this
          obtain ⟨i, hi, rfl | rfl⟩ : ∃ i, i < len' ∧ (j = i * 2 ∨ j = i * 2 + 1) := ⟨j / 2, by omega, by omega⟩
          · have h1 := (tcs_at ((List.range len').map g) i (by rw [hlen]; exact hi)).1
            rw [h1] at hj
            cases hj
            have h2 := (hall i (by omega)).1
            rw [addr_add] at h2
            rw [h2, (hg i (by omega)).1]
            simp
          · have h1 := (tcs_at ((List.range len').map g) i (by rw [hlen]; exact hi)).2
            rw [h1] at hj
            cases hj
            have h2 := (hall i (by omega)).2.1
            rw [addr_add] at h2
            rw [show o + (i * 2 + 1) = o + (i * 2 + 1) from rfl, h2, (hg i (by omega)).2.1]
            simp
    · intro x hx2
      obtain ⟨i, hi, rfl⟩ := List.mem_map.1 hx2
      exact (hg i (by have := List.mem_range.1 hi; omega)).2.2.1
    · intro x hx2
      obtain ⟨i, hi, rfl⟩ := List.mem_map.1 hx2
      have := (hg i (by have := List.mem_range.1 hi; omega)).2.2.2
      simp [Lit.wf, IntKind.min, IntKind.max, IntKind.signed, IntKind.bits] at this
      exact this
end

end Go.Proofs.YteahcmgdlbpmiaaGreatDoor

namespace Go.Proofs.YteahcmgdlbpmiaaGreatDoor
open Go.ChangeShapes Go.WideShapes Go.ChangeAt Go.RowKit Go.ChangeMaps

section
variable {H : Type} {enc : TypeId × Value → H} {P : Program} {W : World}

/-- A list of structs of two texts. -/
theorem open_files {r : Reach} {b0 : Nat} {t e : TypeId} {f0 f1 : Field} {v : Value} {d : DataW H} {ps : List MemPlace} (ht : P.underlying t = some (.slice e)) (hval : Value.okWide P W r b0 t v) (he : P.underlying e = some (.struct #[f0, f1]))
    (ce : P.cellsOf e = 2) (o0 : f0.offset = 0) (o1 : f1.offset = 1) (c0 : P.cellsOf f0.type = 1) (c1 : P.cellsOf f1.type = 1) (u0 : P.underlying f0.type = some .string) (u1 : P.underlying f1.type = some .string)
    (hd : DataW.Trod enc P W 0 (fun _ => true) true t v d ps) (hlt : ∀ x ∈ ps, x.block < W.heap.size) :
    ∃ l : List Fl, Rf W v l ∧ l.length ≤ 9223372036854775807 ∧ ∀ x ∈ l, x.1.length ≤ 9223372036854775807 ∧ x.2.length ≤ 9223372036854775807 := by
  obtain ⟨a', len', cap', rfl⟩ := okWide_slice ht hval
  obtain ⟨fuel, hf⟩ := hd
  rcases Go.Deep.open_slice_pairs ht he ce o0 o1 c0 c1 hf with ⟨hc, _⟩ | ⟨a, len, cap, m, k, V0, V1, D0, D1, P0, P1, hc, _, hl, hm, hmm, hx, hall⟩
  · simp [Value.cells] at hc
    obtain ⟨rfl, rfl, rfl⟩ := hc
    exact ⟨[], ⟨rfl, .inl ⟨.inl rfl, rfl⟩⟩, by simp, by simp⟩
  · simp [Value.cells] at hc
    obtain ⟨rfl, rfl, rfl⟩ := hc
    simp only [if_true] at hmm
    subst hmm
    have key : ∀ i, i < m → ∃ (z s : List UInt8), V0 i = .string (S z) ∧ V1 i = .string (S s) ∧ s.length ≤ 9223372036854775807 ∧ z.length ≤ 9223372036854775807 := fun i hi => by
      obtain ⟨z, h1, _, h3⟩ := DataW.trod_string u0 (hall i hi).2.2.1
      obtain ⟨s, h4, _, h5⟩ := DataW.trod_string u1 (hall i hi).2.2.2
      simp only [List.cons.injEq, and_true] at h1 h4
      exact ⟨z.data.toList, s.data.toList, by rw [h1]; rfl, by rw [h4]; rfl, data_le h5, data_le h3⟩
    have key2 : ∃ g : Nat → Fl, ∀ i, i < m → V0 i = .string (S (g i).1) ∧ V1 i = .string (S (g i).2) ∧ (g i).2.length ≤ 9223372036854775807 ∧ (g i).1.length ≤ 9223372036854775807 := by
      refine ⟨fun i => if h : i < m then ((key i h).choose, (key i h).choose_spec.choose) else ([], []), fun i hi => ?_⟩
      simp only [hi, dite_true]
      exact (key i hi).choose_spec.choose_spec
    obtain ⟨g, hg⟩ := key2
    have hlen : ((List.range len').map g).length = len' := by simp
    refine ⟨(List.range len').map g, ⟨fcs_length _, ?_⟩, by rw [hlen]; unfold maxLen at hm; omega, ?_⟩
    · rw [hlen]
      by_cases h0 : len' = 0
      · subst h0
        exact .inl ⟨.inr ⟨_, _, rfl⟩, rfl⟩
      · obtain ⟨b, o, spot⟩ := a
        have hspot : spot = none := by simpa [Addr.add] using World.cell?_spot (hall 0 (by omega)).1
        subst hspot
        refine .inr ⟨b, o, m, rfl, fun _ => ?_, fun j u hj => ?_, by omega⟩
        · exact hlt (.cell b o) (by
            simp only [Prod.mk.injEq] at hx
            rw [hx.2]
            exact List.mem_append_left _ (MemPlace.mem_row.2 ⟨0, by omega, by simp⟩))
        · have hj2 : j < len' * 2 := by
            have := (List.getElem?_eq_some_iff.1 hj).1
            rw [fcs_length, hlen] at this
            exact this
          obtain ⟨i, hi, rfl | rfl⟩ : ∃ i, i < len' ∧ (j = i * 2 ∨ j = i * 2 + 1) := ⟨j / 2, by omega, by omega⟩
          · have h1 := (fcs_at ((List.range len').map g) i (by rw [hlen]; exact hi)).1
            rw [h1] at hj
            cases hj
            have h2 := (hall i (by omega)).1
            rw [addr_add] at h2
            rw [h2, (hg i (by omega)).1]
            simp
          · have h1 := (fcs_at ((List.range len').map g) i (by rw [hlen]; exact hi)).2
            rw [h1] at hj
            cases hj
            have h2 := (hall i (by omega)).2.1
            rw [addr_add] at h2
            rw [show o + (i * 2 + 1) = o + (i * 2 + 1) from rfl, h2, (hg i (by omega)).2.1]
            simp
    · intro x hx2
      obtain ⟨i, hi, rfl⟩ := List.mem_map.1 hx2
      have := hg i (by have := List.mem_range.1 hi; omega)
      exact ⟨this.2.2.2, this.2.2.1⟩

/-- A file. -/
theorem open_file {r : Reach} {b0 : Nat} {t : TypeId} {f0 f1 : Field} {v : Value} {d : DataW H} {ps : List MemPlace} (ht : P.underlying t = some (.struct #[f0, f1])) (hval : Value.okWide P W r b0 t v)
    (ce : P.cellsOf t = 2) (o0 : f0.offset = 0) (o1 : f1.offset = 1) (c0 : P.cellsOf f0.type = 1) (c1 : P.cellsOf f1.type = 1) (u0 : P.underlying f0.type = some .string) (u1 : P.underlying f1.type = some .string)
    (hd : DataW.Trod enc P W 0 (fun _ => true) true t v d ps) :
    ∃ f : Fl, v = .agg #[.string (S f.1), .string (S f.2)] ∧ f.1.length ≤ 9223372036854775807 ∧ f.2.length ≤ 9223372036854775807 := by
  have h1 : ∃ cs, v = .agg cs ∧ cs.size = P.cellsOf t ∧ Row.okWide P W r b0 t cs := by
    unfold Value.okWide at hval
    rw [ht] at hval
    exact hval
  obtain ⟨cs, rfl, hsz, _⟩ := h1
  rw [ce] at hsz
  obtain ⟨cl⟩ := cs
  match cl, hsz with
  | [a, b], _ =>
    obtain ⟨fuel, hf⟩ := hd
    have hf : DataW.trod enc P W 0 (fun _ => true) true fuel t [a, b] = some (d, ps) := by simpa [Value.cells] using hf
    obtain ⟨y0, y1, n, _, _, h0, h1⟩ := trod_struct2 ht hf
    rw [o0, c0] at h0
    rw [o1, c1] at h1
    obtain ⟨z, e0, _, l0⟩ := DataW.trod_string u0 h0
    obtain ⟨s, e1, _, l1⟩ := DataW.trod_string u1 h1
    simp at e0 e1
    subst e0 e1
    exact ⟨(z.data.toList, s.data.toList), rfl, data_le l0, data_le l1⟩

/-- A list of truth values. -/
theorem open_boolsR {r : Reach} {b0 : Nat} {t e : TypeId} {v : Value} {d : DataW H} {ps : List MemPlace} (ht : P.underlying t = some (.slice e)) (hval : Value.okWide P W r b0 t v) (he : P.underlying e = some .bool) (ce : P.cellsOf e = 1)
    (hd : DataW.Trod enc P W 0 (fun _ => true) true t v d ps) (hlt : ∀ x ∈ ps, x.block < W.heap.size) :
    ∃ bs : List Bool, Rd W 1 v bs.length (bs.map Value.bool) ∧ bs.length ≤ 9223372036854775807 := by
  obtain ⟨a', len', cap', rfl⟩ := okWide_slice ht hval
  obtain ⟨fuel, hf⟩ := hd
  rcases Go.Deep.open_bools ht he ce hf with ⟨hc, _⟩ | ⟨a, len, cap, B, hc, _, hl, hm, hx, hall⟩
  · simp [Value.cells] at hc
    obtain ⟨rfl, rfl, rfl⟩ := hc
    exact ⟨[], ⟨rfl, .inl ⟨.inl rfl, rfl⟩⟩, by simp⟩
  · simp [Value.cells] at hc
    obtain ⟨rfl, rfl, rfl⟩ := hc
    have hps : ps = MemPlace.row a cap' := by simp only [Prod.mk.injEq] at hx; exact hx.2
    have hlen : ((List.range len').map B).length = len' := by simp
    refine ⟨(List.range len').map B, ⟨by simp, ?_⟩, by rw [hlen]; unfold maxLen at hm; omega⟩
    rw [hlen]
    by_cases h0 : len' = 0
    · subst h0
      exact .inl ⟨.inr ⟨_, _, rfl⟩, rfl⟩
    · obtain ⟨b, o, spot⟩ := a
      have hspot : spot = none := by simpa [Addr.add] using World.cell?_spot (hall 0 (by omega))
      subst hspot
      refine .inr ⟨b, o, cap', rfl, fun _ => ?_, fun j u hj => ?_, by omega⟩
      · exact hlt (.cell b o) (by
          rw [hps]
          exact MemPlace.mem_row.2 ⟨0, by omega, by simp⟩)
      · have hj2 : j < len' := by
          have := (List.getElem?_eq_some_iff.1 hj).1
          simpa using this
        rw [List.getElem?_map, List.getElem?_map, List.getElem?_range hj2] at hj
        simp at hj
        subst hj
        have h2 := hall j (by omega)
        rw [addr_add] at h2
        exact h2
end

end Go.Proofs.YteahcmgdlbpmiaaGreatDoor

namespace Go.Proofs.YteahcmgdlbpmiaaGreatDoor
open Go.ChangeShapes Go.WideShapes Go.ChangeAt Go.RowKit Go.ChangeMaps

theorem u8_rangeX {z : Int} (h : (Lit.int .u8 z).wf = true) : 0 ≤ z ∧ z ≤ 255 := by
  simp [Lit.wf, IntKind.min, IntKind.max, IntKind.signed, IntKind.bits] at h
  exact h
section
variable {H : Type} {enc : TypeId × Value → H} {P : Program} {W : World}

/-- Two numbers. -/
theorem open_ints2 {r : Reach} {b0 : Nat} {t e : TypeId} {k : IntKind} {v : Value} {d : DataW H} {ps : List MemPlace} (ht : P.underlying t = some (.array 2 e)) (ct : P.cellsOf t = 2) (hval : Value.okWide P W r b0 t v) (he : P.underlying e = some (.int k)) (cE : P.cellsOf e = 1)
    (hd : DataW.Trod enc P W 0 (fun _ => true) true t v d ps) :
    ∃ y z, v = .agg #[.int k y, .int k z] ∧ (Lit.int k y).wf = true ∧ (Lit.int k z).wf = true := by
  have h1 : ∃ cs, v = .agg cs ∧ cs.size = P.cellsOf t ∧ Row.okWide P W r b0 t cs := by
    unfold Value.okWide at hval
    rw [ht] at hval
    exact hval
  obtain ⟨cs, rfl, hsz, _⟩ := h1
  rw [ct] at hsz
  obtain ⟨cl⟩ := cs
  match cl, hsz with
  | [a, b], _ =>
    obtain ⟨fuel, hf⟩ := hd
    have hf : DataW.trod enc P W 0 (fun _ => true) true fuel t [a, b] = some (d, ps) := by simpa [Value.cells] using hf
    obtain ⟨xs, m, _, hx, _, hl, hall⟩ := DataW.trod_array ht hf
    have key : ∀ (i : Nat) (hi : i < 2) (u : Value), (([a, b] : List Value).drop (i * 1)).take 1 = [u] → ∃ z, u = .int k z ∧ (Lit.int k z).wf = true := fun i hi u hu => by
      have h := hall i hi
      rw [cE, hu, List.getElem?_eq_getElem (by omega)] at h
      obtain ⟨z, h1, _, h3⟩ := DataW.trod_int he h
      simp only [List.cons.injEq, and_true] at h1
      exact ⟨z, h1, h3⟩
    obtain ⟨y, rfl, h3⟩ := key 0 (by omega) a rfl
    obtain ⟨z, rfl, h5⟩ := key 1 (by omega) b rfl
    exact ⟨y, z, rfl, h3, h5⟩

/-- Two texts. -/
theorem open_strs2 {r : Reach} {b0 : Nat} {t e : TypeId} {v : Value} {d : DataW H} {ps : List MemPlace} (ht : P.underlying t = some (.array 2 e)) (ct : P.cellsOf t = 2) (hval : Value.okWide P W r b0 t v) (he : P.underlying e = some .string) (cE : P.cellsOf e = 1)
    (hd : DataW.Trod enc P W 0 (fun _ => true) true t v d ps) :
    ∃ x y : List UInt8, v = .agg #[.string (S x), .string (S y)] ∧ x.length ≤ 9223372036854775807 ∧ y.length ≤ 9223372036854775807 := by
  have h1 : ∃ cs, v = .agg cs ∧ cs.size = P.cellsOf t ∧ Row.okWide P W r b0 t cs := by
    unfold Value.okWide at hval
    rw [ht] at hval
    exact hval
  obtain ⟨cs, rfl, hsz, _⟩ := h1
  rw [ct] at hsz
  obtain ⟨cl⟩ := cs
  match cl, hsz with
  | [a, b], _ =>
    obtain ⟨fuel, hf⟩ := hd
    have hf : DataW.trod enc P W 0 (fun _ => true) true fuel t [a, b] = some (d, ps) := by simpa [Value.cells] using hf
    obtain ⟨xs, m, _, hx, _, hl, hall⟩ := DataW.trod_array ht hf
    have key : ∀ (i : Nat) (hi : i < 2) (u : Value), (([a, b] : List Value).drop (i * 1)).take 1 = [u] → ∃ z : List UInt8, u = .string (S z) ∧ z.length ≤ 9223372036854775807 := fun i hi u hu => by
      have h := hall i hi
      rw [cE, hu, List.getElem?_eq_getElem (by omega)] at h
      obtain ⟨z, h1, _, h3⟩ := DataW.trod_string he h
      simp only [List.cons.injEq, and_true] at h1
      exact ⟨z.data.toList, by rw [h1]; rfl, data_le h3⟩
    obtain ⟨y, rfl, h3⟩ := key 0 (by omega) a rfl
    obtain ⟨z, rfl, h5⟩ := key 1 (by omega) b rfl
    exact ⟨y, z, rfl, h3, h5⟩
end
end Go.Proofs.YteahcmgdlbpmiaaGreatDoor

namespace Go.Proofs.YteahcmgdlbpmiaaGreatDoor
open Go.ChangeShapes Go.WideShapes Go.ChangeAt Go.RowKit

set_option maxRecDepth 100000 in
theorem expandBounds_lifted (os : Os) (started : os.Started) (H : Type) (enc : TypeId × Value → H) :
    ReturnsInHanded {} Tryz.checked os 5 .any (fun w args => (Rows.expandBoundsSpec.pre enc Tryz.prog Tryz.f5 [] false w args ∧ laidMetH Tryz.prog [("errors.errorType", Rows.laid_errors_errorType)] w) ∧ sizedMet enc Tryz.prog Tryz.f5 (OpenSpec.ofChange Rows.expandBoundsSpec) false w args)
      (Rows.expandBoundsSpec.post enc Tryz.prog Tryz.f5 false true false false) := by
  refine returnsInHanded_of_change_and (C := Tryz.checked) (X := fun w _ => laidMetH Tryz.prog [("errors.errorType", Rows.laid_errors_errorType)] w) (fun _ _ _ hh h => h.of_heap hh) own started (by kernel_rfl) Tryz.func5
    (ChangeSpec.witness_at (enc := enc) (C := Tryz.checked) (os := os) (X := fun w _ => laidMetH Tryz.prog [("errors.errorType", Rows.laid_errors_errorType)] w) false (laidWorld os) #[.slice none 0 0, .string ⟨#[]⟩, .agg #[.int .u8 0, .int .u8 0]] 8 rfl (by kernel_rfl) (by kernel_rfl) (by kernel_rfl) (by kernel_rfl) (by kernel_rfl) (laidWorld_met os _)) ?_
  intro W base args ds gs before hval0 hW _ _ hL _
  have hval : ∀ (j : Nat) t v, Tryz.f5.params[j]? = some t → args[j]? = some v → Value.okWide Tryz.prog W .any base t v := hval0
  clear hval0
  have hg := gl_of_laid hL
  have hg0 := gl_pos hg
  have hW' := hW
  have hlt := hW.lt
  obtain ⟨p, q, hA0, hV, rfl, _, _⟩ := hW'
  have hA : DataW.TrodAll enc Tryz.prog W 0 (fun _ => true) true Tryz.f5.params.toList args.toList ds p := hA0
  rw [Tryz.params5] at hA hval
  obtain ⟨v0, v1, v2, d0, d1, d2, p0, p1, p2, rfl, rfl, rfl, h0, h1, h2⟩ := trodAll_three hA
  obtain ⟨rfl, rfl⟩ := trodVars_none hV
  obtain ⟨l0, hl0, _, hle0⟩ := open_files Tryz.underlying22 (hval 0 22 v0 rfl rfl) Tryz.underlying45 (by kernel_rfl) rfl rfl (by kernel_rfl) (by kernel_rfl) Tryz.underlying9 Tryz.underlying9 h0 (fun x hx => hlt x (by simp [hx]))
  obtain ⟨s1, rfl, hs1⟩ := open_str Tryz.underlying9 (hval 1 9 v1 rfl rfl) h1
  obtain ⟨y2, z2, rfl, hy2, hz2⟩ := open_ints2 Tryz.underlying49 (by kernel_rfl) (hval 2 49 v2 rfl rfl) Tryz.underlying5 (by kernel_rfl) h2
  replace hy2 := u8_rangeX hy2
  replace hz2 := u8_rangeX hz2
  refine (expandBounds_any v0 l0 s1 y2 z2 W hl0 hle0 hy2 hz2 hg hg0).mono fun e W' ⟨he, hb⟩ => ?_
  subst he
  exact ⟨_, rfl, law_post laidOut (by rw [Tryz.params5]; decide +kernel) rfl Tryz.underlying4 rfl hW rfl hb⟩

/-- 'ExpandBounds': WHATEVER THE INPUT: true. -/
theorem expandBounds_holds : Rows.ExpandBoundsSaid :=
  OpenClaim.holds_of_wide 5 Tryz.f5 rfl rfl rfl rfl rfl rfl rfl ⟨rfl, rfl, rfl, rfl, rfl⟩ rfl rfl rfl rfl rfl (by kernel_rfl) Tryz.func5 (by kernel_rfl)
    (of_decide_eq_true (by kernel_rfl)) (by unfold Func.isWrapper; rw [if_neg (of_decide_eq_false (by kernel_rfl))]; exact ⟨rfl, rfl⟩)
    (fun os started H enc _ => expandBounds_lifted os started H enc)

/-- THE TIED CARD of 'ExpandBounds'. -/
theorem expandBounds_card : Rows.ExpandBoundsCardSaid :=
  Claim7.holds_tied_plain_at .later [] [.handle] true (true, "8d427c4657ce2c05cbe287717eb2b8b5561e5d2abbea2bfde373ddf3dc39585d") true
    expandBounds_holds (fun _ h => by cases h) (by kernel_rfl) (fun _ h => by cases h) expandBounds_row_tie rfl ⟨rfl, rfl⟩ (by kernel_rfl) rfl
    (fun f fn hf hfn => by
      obtain rfl : f = 5 := Option.some.inj ((show Tryz.prog.funcNamed "stet/stetlaw08.ExpandBounds" = some 5 by kernel_rfl).symm.trans hf) |>.symm
      obtain rfl : fn = Tryz.f5 := (Option.some.inj (Tryz.func5.symm.trans hfn)).symm
      exact ⟨by kernel_rfl, fun j t ht => by
        rw [Tryz.params5] at ht
        rcases j with _ | _ | _ | j
        · obtain rfl : t = 22 := by simpa using ht.symm
          exact (show Tryz.prog.wantsStandIn 22 = false by kernel_rfl)
        · obtain rfl : t = 9 := by simpa using ht.symm
          exact (show Tryz.prog.wantsStandIn 9 = false by kernel_rfl)
        · obtain rfl : t = 49 := by simpa using ht.symm
          exact (show Tryz.prog.wantsStandIn 49 = false by kernel_rfl)
        · simp at ht⟩)
    (by kernel_rfl)

end Go.Proofs.YteahcmgdlbpmiaaGreatDoor
