
/- 'FilesOrder' holds at every input: files of unlike names make one map in whatever order they are put; maps are the same just if they differ nowhere, and differ alike from either side. No condition. -/
import Derived.Test.YtgpifaedcelnnaaFiLawB
import Derived.Test.YtgpifaedcelnnaaLawF
import Derived.Test.YtgpifaedcelnnaaLaw
import Derived.Test.YtgpifaedcelnnaaRows
import Derived.Test.YtgpifaedcelnnaaChecked
namespace Go.Proofs.Ytgpifaedcelnnaa
open Go.ChangeShapes Go.WideShapes Go.ChangeAt Go.RowKit

theorem own : ownKnob Try.prog.godebug = none := by kernel_rfl
theorem laidOut : laidOutB Try.prog = true := by kernel_rfl

set_option maxRecDepth 100000 in
theorem filesOrder_lifted (os : Os) (started : os.Started) (H : Type) (enc : TypeId × Value → H) :
    ReturnsInHanded {} Try.checked os 6 .any (Rows.filesOrderSpec.pre6 enc Try.prog Try.f6 Rows.filesOrderRow.domain false) (Rows.filesOrderSpec.post enc Try.prog Try.f6 false true false false) := by
  refine returnsInHanded_of_change (C := Try.checked) own started (by kernel_rfl) Try.func6
    (ChangeSpec.witness6 (enc := enc) (C := Try.checked) false ⟨#[], #[.slice none 0 0, .slice none 0 0], []⟩ 8 (by kernel_rfl) (by kernel_rfl) (by kernel_rfl) (by kernel_rfl)) ?_
  intro W base args ds gs before hval0 hW hcnd _
  have hval : ∀ (j : Nat) t v, Try.f6.params[j]? = some t → args[j]? = some v → Value.okWide Try.prog W .any base t v := hval0
  clear hcnd hval0
  have hW' := hW
  have hlt := hW.lt
  obtain ⟨p, q, hA0, hV, rfl, _, _⟩ := hW
  have hA : DataW.TrodAll enc Try.prog W 0 (fun _ => true) true Try.f6.params.toList args.toList ds p := hA0
  rw [Try.params6] at hA hval
  obtain ⟨v0, v1, d0, d1, p0, p1, rfl, rfl, rfl, h0, h1⟩ := trodAll_two hA
  obtain ⟨rfl, rfl⟩ := trodVars_none hV
  obtain ⟨l0, hl0, _, hle0⟩ := open_files Try.underlying22 (hval 0 22 v0 rfl rfl) Try.underlying25 (by kernel_rfl) rfl rfl (by kernel_rfl) (by kernel_rfl) Try.underlying9 Try.underlying9 h0 (fun x hx => hlt x (by simp [hx]))
  obtain ⟨l1, hl1, _, hle1⟩ := open_files Try.underlying22 (hval 1 22 v1 rfl rfl) Try.underlying25 (by kernel_rfl) rfl rfl (by kernel_rfl) (by kernel_rfl) Try.underlying9 Try.underlying9 h1 (fun x hx => hlt x (by simp [hx]))
  refine (filesOrder_any v0 v1 l0 l1 W hl0 hl1 hle0 hle1).mono fun e W' ⟨he, hb⟩ => ?_
  subst he
  exact ⟨_, rfl, law_post laidOut (by rw [Try.params6]; decide +kernel) rfl Try.underlying4 rfl hW' rfl hb⟩

/-- 'FilesOrder': WHATEVER THE INPUT: true. -/
theorem filesOrder_holds : Rows.FilesOrderSaid :=
  OpenClaim.holds_of_wide 6 Try.f6 rfl rfl rfl rfl rfl rfl rfl ⟨rfl, rfl, rfl, rfl, rfl⟩ rfl rfl rfl rfl rfl (by kernel_rfl) Try.func6 (by kernel_rfl)
    (of_decide_eq_true (by kernel_rfl)) (by unfold Func.isWrapper; rw [if_neg (by decide +kernel)]; exact ⟨rfl, rfl⟩)
    (fun os started H enc _ => filesOrder_lifted os started H enc)

end Go.Proofs.Ytgpifaedcelnnaa
