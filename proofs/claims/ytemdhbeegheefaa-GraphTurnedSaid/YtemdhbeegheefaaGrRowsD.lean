
/- 'GraphTurned' holds at every input: turned round, a graph has the same groups; a ring has one, a line as many as it has nodes. No condition. -/
import Derived.Test.YtemdhbeegheefaaGrLawD
import Derived.Test.YtemdhbeegheefaaLawG
import Derived.Test.YtemdhbeegheefaaLaw
import Derived.Test.YtemdhbeegheefaaRows
import Derived.Test.YtemdhbeegheefaaChecked
namespace Go.Proofs.Ytemdhbeegheefaa
open Go.ChangeShapes Go.WideShapes Go.ChangeAt Go.RowKit

theorem own : ownKnob Try.prog.godebug = none := by kernel_rfl
theorem laidOut : laidOutB Try.prog = true := by kernel_rfl

set_option maxRecDepth 100000 in
theorem graphTurned_lifted (os : Os) (started : os.Started) (H : Type) (enc : TypeId × Value → H) :
    ReturnsInHanded {} Try.checked os 5 .any (Rows.graphTurnedSpec.pre6 enc Try.prog Try.f5 Rows.graphTurnedRow.domain false) (Rows.graphTurnedSpec.post enc Try.prog Try.f5 false true false false) := by
  refine returnsInHanded_of_change (C := Try.checked) own started (by kernel_rfl) Try.func5
    (ChangeSpec.witness6 (enc := enc) (C := Try.checked) false ⟨#[], #[.slice none 0 0, .int .u8 0], []⟩ 8 (by kernel_rfl) (by kernel_rfl) (by kernel_rfl) (by kernel_rfl)) ?_
  intro W base args ds gs before hval0 hW hcnd _
  have hval : ∀ (j : Nat) t v, Try.f5.params[j]? = some t → args[j]? = some v → Value.okWide Try.prog W .any base t v := hval0
  clear hcnd hval0
  have hW' := hW
  have hlt := hW.lt
  obtain ⟨p, q, hA0, hV, rfl, _, _⟩ := hW
  have hA : DataW.TrodAll enc Try.prog W 0 (fun _ => true) true Try.f5.params.toList args.toList ds p := hA0
  rw [Try.params5] at hA hval
  obtain ⟨v0, v1, d0, d1, p0, p1, rfl, rfl, rfl, h0, h1⟩ := trodAll_two hA
  obtain ⟨rfl, rfl⟩ := trodVars_none hV
  obtain ⟨l0, hl0, _, hle0⟩ := open_grid Try.underlying22 (hval 0 22 v0 rfl rfl) Try.underlying23 (by kernel_rfl) Try.underlying3 (by kernel_rfl) h0 (fun x hx => hlt x (by simp [hx]))
  obtain ⟨z1, rfl, _, _, hw1⟩ := open_int Try.underlying5 (hval 1 5 v1 rfl rfl) h1
  have hz1 := u8_range hw1
  refine (graphTurned_any v0 l0 z1 W hl0 hle0 hz1).mono fun e W' ⟨he, hb⟩ => ?_
  subst he
  exact ⟨_, rfl, law_post laidOut (by rw [Try.params5]; decide +kernel) rfl Try.underlying4 rfl hW' rfl hb⟩

/-- 'GraphTurned': WHATEVER THE INPUT: true. -/
theorem graphTurned_holds : Rows.GraphTurnedSaid :=
  OpenClaim.holds_of_wide 5 Try.f5 rfl rfl rfl rfl rfl rfl rfl ⟨rfl, rfl, rfl, rfl, rfl⟩ rfl rfl rfl rfl rfl (by kernel_rfl) Try.func5 (by kernel_rfl)
    (of_decide_eq_true (by kernel_rfl)) (by unfold Func.isWrapper; rw [if_neg (by decide +kernel)]; exact ⟨rfl, rfl⟩)
    (fun os started H enc _ => graphTurned_lifted os started H enc)

end Go.Proofs.Ytemdhbeegheefaa
