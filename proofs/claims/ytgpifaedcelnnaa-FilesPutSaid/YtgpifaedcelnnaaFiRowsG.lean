
/- 'FilesPut' holds. -/
import Derived.Test.YtgpifaedcelnnaaFiLawG
import Derived.Test.YtgpifaedcelnnaaLawF
import Derived.Test.YtgpifaedcelnnaaLaw
import Derived.Test.YtgpifaedcelnnaaRows
import Derived.Test.YtgpifaedcelnnaaChecked
namespace Go.Proofs.Ytgpifaedcelnnaa
open Go.ChangeShapes Go.WideShapes Go.ChangeAt Go.RowKit

theorem own : ownKnob Try.prog.godebug = none := by kernel_rfl
theorem laidOut : laidOutB Try.prog = true := by kernel_rfl

set_option maxRecDepth 100000 in
theorem filesPut_lifted (os : Os) (started : os.Started) (H : Type) (enc : TypeId × Value → H) :
    ReturnsInHanded {} Try.checked os 5 .any (Rows.filesPutSpec.pre6 enc Try.prog Try.f5 Rows.filesPutRow.domain false) (Rows.filesPutSpec.post enc Try.prog Try.f5 false true false false) := by
  refine returnsInHanded_of_change (C := Try.checked) own started (by kernel_rfl) Try.func5
    (ChangeSpec.witness6 (enc := enc) (C := Try.checked) false ⟨#[], #[.slice none 0 0, .agg #[.string ⟨#[]⟩, .string ⟨#[]⟩], .string ⟨#[]⟩], []⟩ 8 (by kernel_rfl) (by kernel_rfl) (by kernel_rfl) (by kernel_rfl)) ?_
  intro W base args ds gs before hval0 hW hcnd _
  have hval : ∀ (j : Nat) t v, Try.f5.params[j]? = some t → args[j]? = some v → Value.okWide Try.prog W .any base t v := hval0
  clear hcnd hval0
  have hW' := hW
  have hlt := hW.lt
  obtain ⟨p, q, hA0, hV, rfl, _, _⟩ := hW
  have hA : DataW.TrodAll enc Try.prog W 0 (fun _ => true) true Try.f5.params.toList args.toList ds p := hA0
  rw [Try.params5] at hA hval
  obtain ⟨v0, v1, v2, d0, d1, d2, p0, p1, p2, rfl, rfl, rfl, h0, h1, h2⟩ := trodAll_three hA
  obtain ⟨rfl, rfl⟩ := trodVars_none hV
  obtain ⟨l0, hl0, _, hle0⟩ := open_files Try.underlying22 (hval 0 22 v0 rfl rfl) Try.underlying25 (by kernel_rfl) rfl rfl (by kernel_rfl) (by kernel_rfl) Try.underlying9 Try.underlying9 h0 (fun x hx => hlt x (by simp [hx]))
  obtain ⟨f1, rfl, hf1⟩ := open_file Try.underlying25 (hval 1 25 v1 rfl rfl) (by kernel_rfl) rfl rfl (by kernel_rfl) (by kernel_rfl) Try.underlying9 Try.underlying9 h1
  obtain ⟨s2, rfl, hs2⟩ := open_str Try.underlying9 (hval 2 9 v2 rfl rfl) h2
  refine (filesPut_any v0 l0 f1 s2 W hl0 hle0 hf1).mono fun e W' ⟨he, hb⟩ => ?_
  subst he
  exact ⟨_, rfl, law_post laidOut (by rw [Try.params5]; decide +kernel) rfl Try.underlying4 rfl hW' rfl hb⟩

/-- 'FilesPut': WHATEVER THE INPUT: true. -/
theorem filesPut_holds : Rows.FilesPutSaid :=
  OpenClaim.holds_of_wide 5 Try.f5 rfl rfl rfl rfl rfl rfl rfl ⟨rfl, rfl, rfl, rfl, rfl⟩ rfl rfl rfl rfl rfl (by kernel_rfl) Try.func5 (by kernel_rfl)
    (of_decide_eq_true (by kernel_rfl)) (by unfold Func.isWrapper; rw [if_neg (by decide +kernel)]; exact ⟨rfl, rfl⟩)
    (fun os started H enc _ => filesPut_lifted os started H enc)

end Go.Proofs.Ytgpifaedcelnnaa
