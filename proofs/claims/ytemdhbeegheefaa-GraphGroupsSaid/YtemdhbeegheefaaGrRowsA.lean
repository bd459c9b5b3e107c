
/- 'GraphGroups' holds at every input: the groups of any graph, in order, to which nodes ways lead, and whether any nodes are cyclic, is as the document says. No condition. -/
import Derived.Test.YtemdhbeegheefaaGrLawA
import Derived.Test.YtemdhbeegheefaaLawG
import Derived.Test.YtemdhbeegheefaaLaw
import Derived.Test.YtemdhbeegheefaaRows
import Derived.Test.YtemdhbeegheefaaChecked
namespace Go.Proofs.Ytemdhbeegheefaa
open Go.ChangeShapes Go.WideShapes Go.ChangeAt Go.RowKit

theorem own : ownKnob Try.prog.godebug = none := by kernel_rfl
theorem laidOut : laidOutB Try.prog = true := by kernel_rfl

set_option maxRecDepth 100000 in
theorem graphGroups_lifted (os : Os) (started : os.Started) (H : Type) (enc : TypeId × Value → H) :
    ReturnsInHanded {} Try.checked os 3 .any (Rows.graphGroupsSpec.pre6 enc Try.prog Try.f3 Rows.graphGroupsRow.domain false) (Rows.graphGroupsSpec.post enc Try.prog Try.f3 false true false false) := by
  refine returnsInHanded_of_change (C := Try.checked) own started (by kernel_rfl) Try.func3
    (ChangeSpec.witness6 (enc := enc) (C := Try.checked) false ⟨#[], #[.slice none 0 0, .int .i64 0, .slice none 0 0], []⟩ 8 (by kernel_rfl) (by kernel_rfl) (by kernel_rfl) (by kernel_rfl)) ?_
  intro W base args ds gs before hval0 hW hcnd _
  have hval : ∀ (j : Nat) t v, Try.f3.params[j]? = some t → args[j]? = some v → Value.okWide Try.prog W .any base t v := hval0
  clear hcnd hval0
  have hW' := hW
  have hlt := hW.lt
  obtain ⟨p, q, hA0, hV, rfl, _, _⟩ := hW
  have hA : DataW.TrodAll enc Try.prog W 0 (fun _ => true) true Try.f3.params.toList args.toList ds p := hA0
  rw [Try.params3] at hA hval
  obtain ⟨v0, v1, v2, d0, d1, d2, p0, p1, p2, rfl, rfl, rfl, h0, h1, h2⟩ := trodAll_three hA
  obtain ⟨rfl, rfl⟩ := trodVars_none hV
  obtain ⟨l0, hl0, _, hle0⟩ := open_grid Try.underlying22 (hval 0 22 v0 rfl rfl) Try.underlying23 (by kernel_rfl) Try.underlying3 (by kernel_rfl) h0 (fun x hx => hlt x (by simp [hx]))
  obtain ⟨z1, rfl, _, _, _⟩ := open_int Try.underlying3 (hval 1 3 v1 rfl rfl) h1
  obtain ⟨l2, hl2, hle2⟩ := open_intsR (hval 2 23 v2 rfl rfl) Try.underlying23 Try.underlying3 (by kernel_rfl) h2 (fun x hx => hlt x (by simp [hx]))
  refine (graphGroups_any v0 v2 l0 z1 l2 W hl0 hl2 hle0 hle2).mono fun e W' ⟨he, hb⟩ => ?_
  subst he
  exact ⟨_, rfl, law_post laidOut (by rw [Try.params3]; decide +kernel) rfl Try.underlying4 rfl hW' rfl hb⟩

/-- 'GraphGroups': WHATEVER THE INPUT: true. -/
theorem graphGroups_holds : Rows.GraphGroupsSaid :=
  OpenClaim.holds_of_wide 3 Try.f3 rfl rfl rfl rfl rfl rfl rfl ⟨rfl, rfl, rfl, rfl, rfl⟩ rfl rfl rfl rfl rfl (by kernel_rfl) Try.func3 (by kernel_rfl)
    (of_decide_eq_true (by kernel_rfl)) (by unfold Func.isWrapper; rw [if_neg (by decide +kernel)]; exact ⟨rfl, rfl⟩)
    (fun os started H enc _ => graphGroups_lifted os started H enc)

end Go.Proofs.Ytemdhbeegheefaa
