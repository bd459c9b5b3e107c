
/- The statements' Seens and Refs of records, walked. No condition. -/
import Derived.Test.YtemdhbeegheefaaGrRec
import Derived.Test.YtemdhbeegheefaaGrStep
import Derived.Test.YtemdhbeegheefaaGrMake
import Derived.Deep.RegionHeld3
import Derived.BigRegion
import Derived.Deep.LoopGhost
import Derived.Deep.CutBlock
import Derived.Deep.DeepCutAuto
namespace Go.Proofs.Ytemdhbeegheefaa
open Go.RowKit

theorem tySeen : SlTy Try.prog 78 102 3 40 := SlTy.mk' (z := .agg #[.string ⟨#[]⟩, .bool false, .string ⟨#[]⟩]) Try.underlying78 (by kernel_rfl) rfl (by decide)
theorem sc_one {a b : ByteArray} {c : Bool} : ∀ u ∈ [Value.string a, .bool c, .string b], u.oneCell' = true := by
  intro u hu; simp at hu; rcases hu with rfl | rfl | rfl <;> rfl

set_option maxRecDepth 20000 in
set_option maxHeartbeats 4000000 in
/-- 'Seens': an own row of the same. -/
theorem seens_any (v : Value) (l : List Sn) (w : World) (h : Rsn w v l) (hl : l.length ≤ 1000000) :
    Calls Try.prog 41 #[v] w fun e w' => ∃ v', e = .returned v' ∧ w'.ownsRow w.heap.size 102 3 v' l.length (scs l) ∧ Below w.heap.size w w' := by
  have H := Lib.hid h
  obtain ⟨a0, c0, rfl⟩ := h.shape
  clear h
  go_enter Try.func41, Try.ntmps41
  have HO0 : Hid ((w.alloc (.cells #[] 102)).ownsRow w.heap.size 102 3 (.slice (some ⟨w.heap.size, 0, none⟩) 0 0) 0 (scs (l.take 0))) := Lib.hid (World.ownsRow_made w #[] 0 (Nat.le_refl _) (by decide) rfl)
  have HB0 := Lib.hid ((Below.refl w.heap.size w).alloc (Nat.le_refl _) (.cells #[] 102))
  go_wp2_with fail
  go_loopg [3, 4] (l.length - 0) (fun n v3 v4 wr => ∃ (j : Nat) (v : Value), v = v3 ∧ v4 = .int .i64 j ∧ Hid (j ≤ l.length ∧ l.length - j = n) ∧ Hid (wr.ownsRow w.heap.size 102 3 v j (scs (l.take j))) ∧ Hid (Below w.heap.size w wr))
  case atStart => exact ⟨0, _, rfl, rfl, Lib.hid ⟨Nat.zero_le _, rfl⟩, HO0, HB0⟩
  case round =>
    clear HO0 HB0
    obtain ⟨j, v, rfl, rfl, HJ, HO, HB⟩ := hrel
    by_cases hj : j < l.length
    · have hjj : (j : Int) < (l.length : Int) := by omega
      obtain ⟨b, o, rfl, c1, c2, c3, hb⟩ := H.out.at hj
      obtain ⟨s, hs⟩ : ∃ s, s = l[j] := ⟨_, rfl⟩
      have HS : Hid (l.take (j + 1) = l.take j ++ [s]) := Lib.hid (by rw [hs]; exact take_snoc l j hj)
      rw [← hs] at c1 c2 c3
      obtain ⟨s1, s2, s3⟩ := s
      have HC1 : Hid (∀ W, Below w.heap.size w W → W.cell? ⟨b, o + j * 3, none⟩ = some (.string (S s1))) := Lib.hid fun W hW => (hW.cell hb).trans c1
      have HC2 : Hid (∀ W, Below w.heap.size w W → W.cell? ⟨b, o + j * 3 + 1, none⟩ = some (.bool s2)) := Lib.hid fun W hW => (hW.cell hb).trans c2
      have HC3 : Hid (∀ W, Below w.heap.size w W → W.cell? ⟨b, o + j * 3 + 2, none⟩ = some (.string (S s3))) := Lib.hid fun W hW => (hW.cell hb).trans c3
      clear c1 c2 c3 hs
      obtain ⟨av, cv, rfl⟩ := own_shape HO.out
      have HBD : Hid (Below w.heap.size w wr.drew) := Lib.hid (below_drewN HB.out 1)
      have c1 := HC1.out _ HB.out
      have c2 := HC2.out _ HB.out
      have c3 := HC3.out _ HB.out
      have hba : Below w.heap.size w (wr.alloc (.cells #[.string (S s1), .bool s2, .string (S s3)] 102)) := HB.out.alloc HB.out.size _
      have d1 := HC1.out _ hba
      have d2 := HC2.out _ hba
      have d3 := HC3.out _ hba
      clear hba
      go_wp2_with fail
      go_region_held3 (fun w' => w'.cell? ⟨b, o + j * 3, none⟩ = some (.string (S s1)) ∧ w'.cell? ⟨b, o + j * 3 + 1, none⟩ = some (.bool s2) ∧ w'.cell? ⟨b, o + j * 3 + 2, none⟩ = some (.string (S s3)))
        (first
          | exact ⟨k1, k2, k3⟩
          | exact ⟨d1, d2, d3⟩
          | exact ⟨c1, c2, c3⟩
          | fail)
        (first
          | (refine step_grow tySeen (by rfl) _ _ (by rfl) w.heap.size (w0 := wr.drew) HO.out (by rfl) (by rfl) rfl (news := [.string (S s1), .bool s2, .string (S s3)]) rfl (by rfl) sc_one (by omega) (by omega) HB.out.size ?_
             intro gg cap w9 hown1 _ _ hb9
             have HO9 := Lib.hid hown1
             have HB9 := Lib.hid (HBD.out.trans hb9)
             have k1 := HC1.out _ HB9.out
             have k2 := HC2.out _ HB9.out
             have k3 := HC3.out _ HB9.out
             clear hown1 hb9)
          | fail)
      all_goals (
        go_wp2_with fail
        go_roundg (l.length - (j + 1)))
      all_goals (first
        | (have := HJ.out.2; omega)
        | exact ⟨j + 1, _, rfl, by simp, Lib.hid ⟨hj, rfl⟩, Lib.hid (by rw [HS.out, scs_snoc]; exact HO9.out), HB9⟩
        | skip)
    · obtain rfl : j = l.length := by have := HJ.out.1; omega
      have HO9 := HO.out
      rw [List.take_length] at HO9
      have HOO := Lib.hid HO9
      clear HO9
      go_wp2_with fail
      go_ret
      exact ⟨_, rfl, HOO.out, HB.out⟩

theorem tyRec20 : SlTy Try.prog 41 80 3 64 := SlTy.mk' (z := .agg #[.string ⟨#[]⟩, .slice none 0 0, .slice none 0 0]) Try.underlying41 (by kernel_rfl) rfl (by decide)
theorem rc_one {a : ByteArray} {x y z x' y' z' : _} : ∀ u ∈ [Value.string a, .slice x y z, .slice x' y' z'], u.oneCell' = true := by
  intro u hu; simp at hu; rcases hu with rfl | rfl | rfl <;> rfl

set_option maxRecDepth 20000 in
set_option maxHeartbeats 4000000 in
/-- 'Refs': the same records. -/
theorem refs_any (v : Value) (l : List Rcd) (w : World) (h : Rr w v l) (hl : l.length ≤ 1000000) (hr : ∀ x ∈ l, x.2.1.length ≤ 1000000) :
    Calls Try.prog 23 #[v] w fun e w' => ∃ v', e = .returned v' ∧ Rr w' v' l ∧ Below w.heap.size w w' := by
  have H := Lib.hid h
  obtain ⟨a0, c0, rfl⟩ := h.shape
  clear h
  go_enter Try.func23, Try.ntmps23
  have HO0 : Hid (OwR (w.alloc (.cells #[] 80)) w.heap.size 80 (.slice (some ⟨w.heap.size, 0, none⟩) 0 0) (l.take 0)) := Lib.hid (OwR.made w w.heap.size _ (Nat.le_refl _))
  have HB0 := Lib.hid ((Below.refl w.heap.size w).alloc (Nat.le_refl _) (.cells #[] 80))
  go_wp2_with fail
  go_loopg [3, 4] (l.length - 0) (fun n v3 v4 wr => ∃ (j : Nat) (v : Value), v = v3 ∧ v4 = .int .i64 j ∧ Hid (j ≤ l.length ∧ l.length - j = n) ∧ Hid (OwR wr w.heap.size 80 v (l.take j)) ∧ Hid (Below w.heap.size w wr))
  case atStart => exact ⟨0, _, rfl, rfl, Lib.hid ⟨Nat.zero_le _, rfl⟩, HO0, HB0⟩
  case round =>
    clear HO0 HB0
    obtain ⟨j, v, rfl, rfl, HJ, HO, HB⟩ := hrel
    by_cases hj : j < l.length
    · have hjj : (j : Int) < (l.length : Int) := by omega
      obtain ⟨b, o, vr, vw, rfl, c1, c2, c3, r1, r2, hb⟩ := H.out.at hj
      obtain ⟨x, hx⟩ : ∃ x, x = l[j] := ⟨_, rfl⟩
      have HS : Hid (l.take (j + 1) = l.take j ++ [x]) := Lib.hid (by rw [hx]; exact take_snoc l j hj)
      have hxl : x.2.1.length ≤ 1000000 := hr x (by rw [hx]; exact List.getElem_mem hj)
      rw [← hx] at c1 r1 r2
      obtain ⟨x1, x2, x3⟩ := x
      have HC1 : Hid (∀ W, Below w.heap.size w W → W.cell? ⟨b, o + j * 3, none⟩ = some (.string (S x1))) := Lib.hid fun W hW => (hW.cell hb).trans c1
      obtain ⟨ar, cr, hvr⟩ := r1.shape
      obtain ⟨aw, cw, hvw⟩ := r2.shape
      subst hvr
      subst hvw
      have HC2 : Hid (∀ W, Below w.heap.size w W → W.cell? ⟨b, o + j * 3 + 1, none⟩ = some (.slice ar x2.length cr)) := Lib.hid fun W hW => (hW.cell hb).trans c2
      have HC3 : Hid (∀ W, Below w.heap.size w W → W.cell? ⟨b, o + j * 3 + 2, none⟩ = some (.slice aw x3.length cw)) := Lib.hid fun W hW => (hW.cell hb).trans c3
      have r2w := fun h0 => Rd.under r2 h0
      have HR1 := Lib.hid (r1.below' HB.out)
      have HR2 := Lib.hid (r2.below' HB.out)
      clear c1 c2 c3 hx r1 r2
      obtain ⟨av, cv, hvv⟩ := HO.out.shape
      rw [List.length_take, Nat.min_eq_left (by omega)] at hvv
      subst hvv
      have HUW : Hid (0 < x3.length → ∀ b, (Value.slice aw x3.length cw).ownBlock = some b → b < w.heap.size) := Lib.hid r2w
      have HBD : Hid (Below w.heap.size w wr.drew) := Lib.hid (below_drewN HB.out 1)
      have HSN := Lib.hid (seens_any (.slice ar x2.length cr) x2 wr.drew HR1.out hxl)
      have c1 := HC1.out _ HB.out
      have c2 := HC2.out _ HB.out
      have c3 := HC3.out _ HB.out
      clear r2w
      go_wp2_with fail
      go_region_held3 (fun w' => w'.cell? ⟨b, o + j * 3, none⟩ = some (.string (S x1)) ∧ w'.cell? ⟨b, o + j * 3 + 1, none⟩ = some (.slice ar x2.length cr) ∧ w'.cell? ⟨b, o + j * 3 + 2, none⟩ = some (.slice aw x3.length cw))
        (first
          | exact ⟨k1, k2, k3⟩
          | exact ⟨d1, d2, d3⟩
          | exact ⟨s1, s2, s3⟩
          | exact ⟨c1, c2, c3⟩
          | fail)
        (first
          | (go_at_call 41
             refine HSN.out.mono ?_
             rintro e w5 ⟨v5, rfl, o5, b5⟩
             obtain ⟨a5, c5, hv5⟩ := own_shape o5
             subst hv5
             have HO5 := Lib.hid o5
             have HB5 := Lib.hid b5
             have HB6 := Lib.hid (HBD.out.trans (HB5.out.mono HBD.out.size))
             have HBW : Hid (Below wr.heap.size wr w5) := Lib.hid ⟨HB5.out.1, HB5.out.2, HB5.out.3, HB5.out.4, HB5.out.5⟩
             obtain ⟨ps, hps, how, hall⟩ := HO.out.below' HBW.out
             have HPS : Hid (ps.map (·.1) = l.take j) := Lib.hid hps
             have hpl : ps.length = j := by have := congrArg List.length hps; rw [List.length_map, List.length_take] at this; omega
             rw [hpl] at how
             have HPL := Lib.hid hpl
             have HOW5 := Lib.hid how
             have HALL := Lib.hid hall
             clear hps how hall hpl
             have s1 := HC1.out _ HB6.out
             have s2 := HC2.out _ HB6.out
             have s3 := HC3.out _ HB6.out
             have hba : Below w.heap.size w (w5.alloc (.cells #[.string (S x1), .slice a5 x2.length c5, .slice aw x3.length cw] 80)) := HB6.out.alloc HB6.out.size _
             have d1 := HC1.out _ hba
             have d2 := HC2.out _ hba
             have d3 := HC3.out _ hba
             clear o5 b5 hba)
          | (refine step_grow tyRec20 (by rfl) _ _ (by rfl) w.heap.size (w0 := w5) HOW5.out (by rfl) (by rfl) rfl (news := [.string (S x1), .slice a5 x2.length c5, .slice aw x3.length cw]) rfl (by rfl) rc_one (by omega) (by omega) HB6.out.size ?_
             intro gg cap w9 hown1 hgr9 hnear9 hb9
             have HO9 := Lib.hid hown1
             have HG9 := Lib.hid hgr9
             have HN9 := Lib.hid hnear9
             have HB9 := Lib.hid (HB6.out.trans hb9)
             have k1 := HC1.out _ HB9.out
             have k2 := HC2.out _ HB9.out
             have k3 := HC3.out _ HB9.out
             clear hown1 hgr9 hnear9 hb9)
          | fail)
      all_goals (
        go_wp2_with fail
        go_roundg (l.length - (j + 1)))
      all_goals (first
        | (have := HJ.out.2; omega)
        | exact ⟨j + 1, _, rfl, by simp, Lib.hid ⟨hj, rfl⟩, Lib.hid (by
            rw [HS.out]
            refine OwR.grow (w1 := w5) (x := (x1, x2, x3)) HPS.out HALL.out (rsn_own HO5.out) (HR2.out.below' HBW.out) (fun _ b hb => ?_) (fun h0 b hb => ?_) (by rw [HPL.out]; exact HO9.out) HG9.out HN9.out
            · have h1 := HO5.out.lt b hb
              refine ⟨h1.2, fun e => ?_⟩
              have h2 := HO.out.under b e
              have h3 : wr.heap.size ≤ b := h1.1
              omega
            · have h1 := HUW.out h0 b hb
              refine ⟨Nat.lt_of_lt_of_le h1 HB6.out.size, fun e => ?_⟩
              have h2 := HO.out.under b e
              omega), HB9⟩
        | skip)
    · obtain rfl : j = l.length := by have := HJ.out.1; omega
      have HO9 := HO.out
      rw [List.take_length] at HO9
      have HOO := Lib.hid HO9.rr
      clear HO9
      go_wp2_with fail
      go_ret
      exact ⟨_, rfl, HOO.out, HB.out⟩
end Go.Proofs.Ytemdhbeegheefaa
