
/- 'GraphOrder' holds at every input: the groups are in order: no edge leads back, and in a group a way leads from each node to each other one. No condition. -/
import Derived.Test.YtemdhbeegheefaaGrLawC
import Derived.Test.YtemdhbeegheefaaLawG
import Derived.Test.YtemdhbeegheefaaLaw
import Derived.Test.YtemdhbeegheefaaRows
import Derived.Test.YtemdhbeegheefaaChecked
namespace Go.Proofs.Ytemdhbeegheefaa
open Go.ChangeShapes Go.WideShapes Go.ChangeAt Go.RowKit

theorem own : ownKnob Try.prog.godebug = none := by kernel_rfl
theorem laidOut : laidOutB Try.prog = true := by kernel_rfl

set_option maxRecDepth 100000 in
theorem graphOrder_lifted (os : Os) (started : os.Started) (H : Type) (enc : TypeId × Value → H) :
    ReturnsInHanded {} Try.checked os 4 .any (Rows.graphOrderSpec.pre6 enc Try.prog Try.f4 Rows.graphOrderRow.domain false) (Rows.graphOrderSpec.post enc Try.prog Try.f4 false true false false) := by
  refine returnsInHanded_of_change (C := Try.checked) own started (by kernel_rfl) Try.func4
    (ChangeSpec.witness6 (enc := enc) (C := Try.checked) false ⟨#[], #[.slice none 0 0], []⟩ 8 (by kernel_rfl) (by kernel_rfl) (by kernel_rfl) (by kernel_rfl)) ?_
  intro W base args ds gs before hval0 hW hcnd _
  have hval : ∀ (j : Nat) t v, Try.f4.params[j]? = some t → args[j]? = some v → Value.okWide Try.prog W .any base t v := hval0
  clear hcnd hval0
  have hW' := hW
  have hlt := hW.lt
  obtain ⟨p, q, hA0, hV, rfl, _, _⟩ := hW
  have hA : DataW.TrodAll enc Try.prog W 0 (fun _ => true) true Try.f4.params.toList args.toList ds p := hA0
  rw [Try.params4] at hA hval
  obtain ⟨v0, d0, rfl, rfl, h0⟩ := trodAll_one hA
  obtain ⟨rfl, rfl⟩ := trodVars_none hV
  obtain ⟨l0, hl0, _, hle0⟩ := open_grid Try.underlying22 (hval 0 22 v0 rfl rfl) Try.underlying23 (by kernel_rfl) Try.underlying3 (by kernel_rfl) h0 (fun x hx => hlt x (by simp [hx]))
  refine (graphOrder_any v0 l0 W hl0 hle0).mono fun e W' ⟨he, hb⟩ => ?_
  subst he
  exact ⟨_, rfl, law_post laidOut (by rw [Try.params4]; decide +kernel) rfl Try.underlying4 rfl hW' rfl hb⟩

/-- 'GraphOrder': WHATEVER THE INPUT: true. -/
theorem graphOrder_holds : Rows.GraphOrderSaid :=
  OpenClaim.holds_of_wide 4 Try.f4 rfl rfl rfl rfl rfl rfl rfl ⟨rfl, rfl, rfl, rfl, rfl⟩ rfl rfl rfl rfl rfl (by kernel_rfl) Try.func4 (by kernel_rfl)
    (of_decide_eq_true (by kernel_rfl)) (by unfold Func.isWrapper; rw [if_neg (by decide +kernel)]; exact ⟨rfl, rfl⟩)
    (fun os started H enc _ => graphOrder_lifted os started H enc)

end Go.Proofs.Ytemdhbeegheefaa
