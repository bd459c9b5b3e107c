
/- 'MacroWithin' holds at every input: tokens in a group end where it does, if they have as many Opens as Closes, and never more Closes than Opens; so many groups, one behind the other, are told as they were. No condition. -/
import Derived.Test.YtkpdhpbnbpjceaaMacLawC
import Derived.Test.YtkpdhpbnbpjceaaLawC
import Derived.Test.YtkpdhpbnbpjceaaLaw
import Derived.Test.YtkpdhpbnbpjceaaRows
import Derived.Test.YtkpdhpbnbpjceaaChecked
namespace Go.Proofs.Ytkpdhpbnbpjceaa
open Go.ChangeShapes Go.WideShapes Go.ChangeAt Go.RowKit

theorem own : ownKnob Try.prog.godebug = none := by kernel_rfl
theorem laidOut : laidOutB Try.prog = true := by kernel_rfl

set_option maxRecDepth 100000 in
theorem macroWithin_lifted (os : Os) (started : os.Started) (H : Type) (enc : TypeId × Value → H) :
    ReturnsInHanded {} Try.checked os 6 .any (Rows.macroWithinSpec.pre6 enc Try.prog Try.f6 Rows.macroWithinRow.domain false) (Rows.macroWithinSpec.post enc Try.prog Try.f6 false true false false) := by
  refine returnsInHanded_of_change (C := Try.checked) own started (by kernel_rfl) Try.func6
    (ChangeSpec.witness6 (enc := enc) (C := Try.checked) false ⟨#[], #[.slice none 0 0], []⟩ 8 (by kernel_rfl) (by kernel_rfl) (by kernel_rfl) (by kernel_rfl)) ?_
  intro W base args ds gs before hval0 hW hcnd _
  have hval : ∀ (j : Nat) t v, Try.f6.params[j]? = some t → args[j]? = some v → Value.okWide Try.prog W .any base t v := hval0
  clear hcnd hval0
  have hW' := hW
  have hlt := hW.lt
  obtain ⟨p, q, hA0, hV, rfl, _, _⟩ := hW
  have hA : DataW.TrodAll enc Try.prog W 0 (fun _ => true) true Try.f6.params.toList args.toList ds p := hA0
  rw [Try.params6] at hA hval
  obtain ⟨v0, d0, rfl, rfl, h0⟩ := trodAll_one hA
  obtain ⟨rfl, rfl⟩ := trodVars_none hV
  obtain ⟨ls0, hl0, hn0, hle0⟩ := open_texts Try.underlying72 (hval 0 72 v0 rfl rfl) Try.underlying9 (by kernel_rfl) h0 (fun x hx => hlt x (by simp [hx]))
  refine (macroWithin_any v0 ls0 W hl0).mono fun e W' ⟨he, hb⟩ => ?_
  subst he
  exact ⟨_, rfl, law_post laidOut (by rw [Try.params6]; decide +kernel) rfl Try.underlying4 rfl hW' rfl hb⟩

/-- 'MacroWithin': WHATEVER THE INPUT: true. -/
theorem macroWithin_holds : Rows.MacroWithinSaid :=
  OpenClaim.holds_of_wide 6 Try.f6 rfl rfl rfl rfl rfl rfl rfl ⟨rfl, rfl, rfl, rfl, rfl⟩ rfl rfl rfl rfl rfl (by kernel_rfl) Try.func6 (by kernel_rfl)
    (of_decide_eq_true (by kernel_rfl)) (by unfold Func.isWrapper; rw [if_neg (by decide +kernel)]; exact ⟨rfl, rfl⟩)
    (fun os started H enc _ => macroWithin_lifted os started H enc)

end Go.Proofs.Ytkpdhpbnbpjceaa
