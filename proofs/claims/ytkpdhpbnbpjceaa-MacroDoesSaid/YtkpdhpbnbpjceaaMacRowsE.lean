
/- 'MacroDoes' holds. -/
import Derived.Test.YtkpdhpbnbpjceaaMacLawE
import Derived.Test.YtkpdhpbnbpjceaaLawM
import Derived.Test.YtkpdhpbnbpjceaaLaw
import Derived.Test.YtkpdhpbnbpjceaaRows
import Derived.Test.YtkpdhpbnbpjceaaChecked
namespace Go.Proofs.Ytkpdhpbnbpjceaa
open Go.ChangeShapes Go.WideShapes Go.ChangeAt Go.RowKit

theorem own : ownKnob Try.prog.godebug = none := by kernel_rfl
theorem laidOut : laidOutB Try.prog = true := by kernel_rfl

set_option maxRecDepth 100000 in
theorem macroDoes_lifted (os : Os) (started : os.Started) (H : Type) (enc : TypeId × Value → H) :
    ReturnsInHanded {} Try.checked os 5 .any (Rows.macroDoesSpec.pre6 enc Try.prog Try.f5 Rows.macroDoesRow.domain false) (Rows.macroDoesSpec.post enc Try.prog Try.f5 false true false false) := by
  refine returnsInHanded_of_change (C := Try.checked) own started (by kernel_rfl) Try.func5
    (ChangeSpec.witness6 (enc := enc) (C := Try.checked) false ⟨#[], #[.slice none 0 0, .slice none 0 0], []⟩ 8 (by kernel_rfl) (by kernel_rfl) (by kernel_rfl) (by kernel_rfl)) ?_
  intro W base args ds gs before hval0 hW hcnd _
  have hval : ∀ (j : Nat) t v, Try.f5.params[j]? = some t → args[j]? = some v → Value.okWide Try.prog W .any base t v := hval0
  clear hcnd hval0
  have hW' := hW
  have hlt := hW.lt
  obtain ⟨p, q, hA0, hV, rfl, _, _⟩ := hW
  have hA : DataW.TrodAll enc Try.prog W 0 (fun _ => true) true Try.f5.params.toList args.toList ds p := hA0
  rw [Try.params5] at hA hval
  obtain ⟨v0, v1, d0, d1, p0, p1, rfl, rfl, rfl, h0, h1⟩ := trodAll_two hA
  obtain ⟨rfl, rfl⟩ := trodVars_none hV
  obtain ⟨l0, hl0, _, hle0⟩ := open_macs Try.underlying51 (hval 0 51 v0 rfl rfl) Try.underlying55 (by kernel_rfl) rfl rfl rfl (by kernel_rfl) (by kernel_rfl) (by kernel_rfl) Try.underlying9 Try.underlying3 rfl Try.underlying22 Try.underlying41 (by kernel_rfl) rfl rfl (by kernel_rfl) (by kernel_rfl) Try.underlying3 Try.underlying9 h0 (fun x hx => hlt x (by simp [hx]))
  obtain ⟨bs1, hl1, _⟩ := open_boolsR Try.underlying52 (hval 1 52 v1 rfl rfl) Try.underlying4 (by kernel_rfl) h1 (fun x hx => hlt x (by simp [hx]))
  refine (macroDoes_any v0 v1 l0 bs1 W hl0 hle0 hl1).mono fun e W' ⟨he, hb⟩ => ?_
  subst he
  exact ⟨_, rfl, law_post laidOut (by rw [Try.params5]; decide +kernel) rfl Try.underlying4 rfl hW' rfl hb⟩

/-- 'MacroDoes': WHATEVER THE INPUT: true. -/
theorem macroDoes_holds : Rows.MacroDoesSaid :=
  OpenClaim.holds_of_wide 5 Try.f5 rfl rfl rfl rfl rfl rfl rfl ⟨rfl, rfl, rfl, rfl, rfl⟩ rfl rfl rfl rfl rfl (by kernel_rfl) Try.func5 (by kernel_rfl)
    (of_decide_eq_true (by kernel_rfl)) (by unfold Func.isWrapper; rw [if_neg (by decide +kernel)]; exact ⟨rfl, rfl⟩)
    (fun os started H enc _ => macroDoes_lifted os started H enc)

end Go.Proofs.Ytkpdhpbnbpjceaa
