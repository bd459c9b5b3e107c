/-
  No cell of these rows narrows 'for every input' (looked for: loops, veiled, ifaces, maps, wideKeys, modest, calm, conditions, laid).
  DERIVED. THE GIVEN ROWS OF THIS SEAT. 6 by the template 'for every input the law returns true; each argument reads behind the call as it read before'; 0 by the template 'total and deterministic' (their statements: YtkpdhpbnbpjceaaTotals.lean).
  GIVEN WITH THE SEED: the statements are not yours to turn. If you find one false, say at which input.
  Laid BY PROGRAM, IN A SANDBOX (cutbox-rows.mjs): the forced cells as the released guide's own fill.sh prints them over the translation 2ecf2cc0edf384a7… (all of the seat's roots in one cut). By AI agents, Wed Nov 11 2026. No macro, syntax, notation, axiom, sorry.
-/
import Derived.Test.YtkpdhpbnbpjceaaChecked
import GoSem.Claim
import GoSem.ClaimJoined
import GoSem.ClaimMapViews
import Derived.JoinedTies
import Derived.KernelRfl
namespace Go.Proofs.Ytkpdhpbnbpjceaa
/- THE CELL 'sum', in the pinned program and in every row, IS THE sha256 OF THE DUMP (.gsa) THAT YtkpdhpbnbpjceaaProg.lean LOADS. Nothing in Lean hashes anything: it is a label: what it is worth is what the hold of that sum in a sandbox is worth. -/
noncomputable def Try.pinned : Pinned := { name := "ytkpdhpbnbpjceaa", sum := "2ecf2cc0edf384a76db6943b9c7babd4ca04e1f04263db90d48e9c465f1debab", checked := Try.checked }
namespace Rows
def none {H : Type} : Left H := { results := [], args := [] }

/-- 'stetlaw07.MacroGroups': WHATEVER THE INPUT: true; the input reads as it did. -/
def macroGroupsSpec : ChangeSpec := { name := "macroGroups", fn := fun _ => fun
  | [d1, d2, d3] => { results := [.lit (.bool true)], args := [d1, d2, d3] }
  | _ => none }
def macroGroupsRow : OpenClaim := { program := "ytkpdhpbnbpjceaa", sum := "2ecf2cc0edf384a76db6943b9c7babd4ca04e1f04263db90d48e9c465f1debab", func := "stet/stetlaw07.MacroGroups", spec := "macroGroups", inPlace := ["internal/bytealg.IndexByteString", "internal/bytealg.abigen_runtime_cmpstring", "slices.overlaps[stet/macro.Macro]", "internal/abi.NoEscape", "internal/bytealg.MakeNoZero"], unfollowed := true, recurses := true, apart := false }
def MacroGroupsSaid : Prop := macroGroupsRow.holds Try.pinned (OpenSpec.ofChange macroGroupsSpec)

/-- ITS FALSE NEIGHBOUR: 'it returns false'. Refute it at one input. -/
def macroGroupsWrong : ChangeSpec := { name := "macroGroups", fn := fun _ => fun
  | [d1, d2, d3] => { results := [.lit (.bool false)], args := [d1, d2, d3] }
  | _ => none }
def MacroGroupsWrongFalsely : Prop := macroGroupsRow.holds Try.pinned (OpenSpec.ofChange macroGroupsWrong)

/-- 'stetlaw07.MacroFills': WHATEVER THE INPUT: true; the input reads as it did. -/
def macroFillsSpec : ChangeSpec := { name := "macroFills", fn := fun _ => fun
  | [d1, d2] => { results := [.lit (.bool true)], args := [d1, d2] }
  | _ => none }
def macroFillsRow : OpenClaim := { program := "ytkpdhpbnbpjceaa", sum := "2ecf2cc0edf384a76db6943b9c7babd4ca04e1f04263db90d48e9c465f1debab", func := "stet/stetlaw07.MacroFills", spec := "macroFills", inPlace := ["internal/abi.NoEscape", "internal/bytealg.MakeNoZero", "internal/bytealg.IndexByteString", "internal/bytealg.abigen_runtime_cmpstring", "slices.overlaps[stet/macro.Macro]"], unfollowed := true, recurses := true, apart := false }
def MacroFillsSaid : Prop := macroFillsRow.holds Try.pinned (OpenSpec.ofChange macroFillsSpec)

/-- ITS FALSE NEIGHBOUR: 'it returns false'. Refute it at one input. -/
def macroFillsWrong : ChangeSpec := { name := "macroFills", fn := fun _ => fun
  | [d1, d2] => { results := [.lit (.bool false)], args := [d1, d2] }
  | _ => none }
def MacroFillsWrongFalsely : Prop := macroFillsRow.holds Try.pinned (OpenSpec.ofChange macroFillsWrong)

/-- 'stetlaw07.MacroDoes': WHATEVER THE INPUT: true; the input reads as it did. -/
def macroDoesSpec : ChangeSpec := { name := "macroDoes", fn := fun _ => fun
  | [d1, d2] => { results := [.lit (.bool true)], args := [d1, d2] }
  | _ => none }
def macroDoesRow : OpenClaim := { program := "ytkpdhpbnbpjceaa", sum := "2ecf2cc0edf384a76db6943b9c7babd4ca04e1f04263db90d48e9c465f1debab", func := "stet/stetlaw07.MacroDoes", spec := "macroDoes", inPlace := ["internal/bytealg.abigen_runtime_cmpstring", "slices.overlaps[stet/macro.Macro]", "internal/bytealg.IndexByteString", "internal/abi.NoEscape", "internal/bytealg.MakeNoZero"], unfollowed := true, recurses := true, apart := false }
def MacroDoesSaid : Prop := macroDoesRow.holds Try.pinned (OpenSpec.ofChange macroDoesSpec)

/-- ITS FALSE NEIGHBOUR: 'it returns false'. Refute it at one input. -/
def macroDoesWrong : ChangeSpec := { name := "macroDoes", fn := fun _ => fun
  | [d1, d2] => { results := [.lit (.bool false)], args := [d1, d2] }
  | _ => none }
def MacroDoesWrongFalsely : Prop := macroDoesRow.holds Try.pinned (OpenSpec.ofChange macroDoesWrong)

/-- 'stetlaw07.MacroWithin': WHATEVER THE INPUT: true; the input reads as it did. -/
def macroWithinSpec : ChangeSpec := { name := "macroWithin", fn := fun _ => fun
  | [d] => { results := [.lit (.bool true)], args := [d] }
  | _ => none }
def macroWithinRow : OpenClaim := { program := "ytkpdhpbnbpjceaa", sum := "2ecf2cc0edf384a76db6943b9c7babd4ca04e1f04263db90d48e9c465f1debab", func := "stet/stetlaw07.MacroWithin", spec := "macroWithin", inPlace := ["internal/bytealg.IndexByteString", "internal/bytealg.abigen_runtime_cmpstring", "slices.overlaps[stet/macro.Macro]", "internal/abi.NoEscape", "internal/bytealg.MakeNoZero"], unfollowed := true, recurses := true, apart := false }
def MacroWithinSaid : Prop := macroWithinRow.holds Try.pinned (OpenSpec.ofChange macroWithinSpec)

/-- ITS FALSE NEIGHBOUR: 'it returns false'. Refute it at one input. -/
def macroWithinWrong : ChangeSpec := { name := "macroWithin", fn := fun _ => fun
  | [d] => { results := [.lit (.bool false)], args := [d] }
  | _ => none }
def MacroWithinWrongFalsely : Prop := macroWithinRow.holds Try.pinned (OpenSpec.ofChange macroWithinWrong)

/-- 'stetlaw07.MacroFlat': WHATEVER THE INPUT: true; the input reads as it did. -/
def macroFlatSpec : ChangeSpec := { name := "macroFlat", fn := fun _ => fun
  | [d1, d2] => { results := [.lit (.bool true)], args := [d1, d2] }
  | _ => none }
def macroFlatRow : OpenClaim := { program := "ytkpdhpbnbpjceaa", sum := "2ecf2cc0edf384a76db6943b9c7babd4ca04e1f04263db90d48e9c465f1debab", func := "stet/stetlaw07.MacroFlat", spec := "macroFlat", inPlace := ["internal/abi.NoEscape", "internal/bytealg.MakeNoZero", "internal/bytealg.IndexByteString", "internal/bytealg.abigen_runtime_cmpstring", "slices.overlaps[stet/macro.Macro]"], unfollowed := true, recurses := true, apart := false }
def MacroFlatSaid : Prop := macroFlatRow.holds Try.pinned (OpenSpec.ofChange macroFlatSpec)

/-- ITS FALSE NEIGHBOUR: 'it returns false'. Refute it at one input. -/
def macroFlatWrong : ChangeSpec := { name := "macroFlat", fn := fun _ => fun
  | [d1, d2] => { results := [.lit (.bool false)], args := [d1, d2] }
  | _ => none }
def MacroFlatWrongFalsely : Prop := macroFlatRow.holds Try.pinned (OpenSpec.ofChange macroFlatWrong)

/-- 'stetlaw07.MacroEmpty': WHATEVER THE INPUT: true; the input reads as it did. -/
def macroEmptySpec : ChangeSpec := { name := "macroEmpty", fn := fun _ => fun
  | [d1, d2, d3] => { results := [.lit (.bool true)], args := [d1, d2, d3] }
  | _ => none }
def macroEmptyRow : OpenClaim := { program := "ytkpdhpbnbpjceaa", sum := "2ecf2cc0edf384a76db6943b9c7babd4ca04e1f04263db90d48e9c465f1debab", func := "stet/stetlaw07.MacroEmpty", spec := "macroEmpty", inPlace := ["internal/bytealg.IndexByteString", "internal/bytealg.abigen_runtime_cmpstring", "slices.overlaps[stet/macro.Macro]", "internal/abi.NoEscape", "internal/bytealg.MakeNoZero"], unfollowed := true, recurses := true, apart := false }
def MacroEmptySaid : Prop := macroEmptyRow.holds Try.pinned (OpenSpec.ofChange macroEmptySpec)

/-- ITS FALSE NEIGHBOUR: 'it returns false'. Refute it at one input. -/
def macroEmptyWrong : ChangeSpec := { name := "macroEmpty", fn := fun _ => fun
  | [d1, d2, d3] => { results := [.lit (.bool false)], args := [d1, d2, d3] }
  | _ => none }
def MacroEmptyWrongFalsely : Prop := macroEmptyRow.holds Try.pinned (OpenSpec.ofChange macroEmptyWrong)

/- THE SECOND FORM. 'bulk': how many values and letters a reading holds, each counted each time it is reached (what is shared counts as often as it is met; a slice's spare places count too). A statement '..UptoSaid' is the law's where the arguments, and the package variables that the reading takes, are together of bulk at most 1048576: NARROWER than '..Said'. Prove '..Said' where nothing that the law and all that it calls make is longer than what came in: it says more and counts as full. Else prove '..UptoSaid'. A law counts once. -/
mutual
def uptoBulk {H : Type} : DataW H → Nat
  | .lit (.string bytes) => bytes.length + 1
  | .lit _ => 1
  | .nil => 1
  | .ptr d => uptoBulk d + 1
  | .slice elems spare => uptoBulkAll elems + uptoBulkAll spare + 1
  | .agg parts => uptoBulkAll parts + 1
  | .iface _ d => uptoBulk d + 1
  | .map entries => uptoBulkEntries entries + 1
  | .held _ => 1
def uptoBulkAll {H : Type} : List (DataW H) → Nat
  | [] => 0
  | d :: r => uptoBulk d + uptoBulkAll r
def uptoBulkEntries {H : Type} : List (Lit × DataW H) → Nat
  | [] => 0
  | x :: r => uptoBulkEntry x + uptoBulkEntries r
def uptoBulkEntry {H : Type} : Lit × DataW H → Nat
  | (.string bytes, d) => bytes.length + uptoBulk d + 1
  | (_, d) => uptoBulk d + 1
 end
def uptoSmall : (H : Type) → List (DataW H) → Bool := fun _ ds => decide (uptoBulkAll ds ≤ 1048576)
def OpenSpec.upto (s : _root_.Go.ChangeSpec) : _root_.Go.OpenSpec := { _root_.Go.OpenSpec.ofChange s with cond := some uptoSmall }

/-- 'stetlaw07.MacroGroups', WHERE WHAT IT READS IS OF BULK AT MOST 1048576: true; the input reads as it did. -/
def macroGroupsUptoRow : OpenClaim := { program := "ytkpdhpbnbpjceaa", sum := "2ecf2cc0edf384a76db6943b9c7babd4ca04e1f04263db90d48e9c465f1debab", func := "stet/stetlaw07.MacroGroups", spec := "macroGroups", inPlace := ["internal/bytealg.IndexByteString", "internal/bytealg.abigen_runtime_cmpstring", "slices.overlaps[stet/macro.Macro]", "internal/abi.NoEscape", "internal/bytealg.MakeNoZero"], unfollowed := true, recurses := true, apart := false, narrowed := true }
def MacroGroupsUptoSaid : Prop := macroGroupsUptoRow.holds Try.pinned (OpenSpec.upto macroGroupsSpec)

/-- 'stetlaw07.MacroFills', WHERE WHAT IT READS IS OF BULK AT MOST 1048576: true; the input reads as it did. -/
def macroFillsUptoRow : OpenClaim := { program := "ytkpdhpbnbpjceaa", sum := "2ecf2cc0edf384a76db6943b9c7babd4ca04e1f04263db90d48e9c465f1debab", func := "stet/stetlaw07.MacroFills", spec := "macroFills", inPlace := ["internal/abi.NoEscape", "internal/bytealg.MakeNoZero", "internal/bytealg.IndexByteString", "internal/bytealg.abigen_runtime_cmpstring", "slices.overlaps[stet/macro.Macro]"], unfollowed := true, recurses := true, apart := false, narrowed := true }
def MacroFillsUptoSaid : Prop := macroFillsUptoRow.holds Try.pinned (OpenSpec.upto macroFillsSpec)

/-- 'stetlaw07.MacroDoes', WHERE WHAT IT READS IS OF BULK AT MOST 1048576: true; the input reads as it did. -/
def macroDoesUptoRow : OpenClaim := { program := "ytkpdhpbnbpjceaa", sum := "2ecf2cc0edf384a76db6943b9c7babd4ca04e1f04263db90d48e9c465f1debab", func := "stet/stetlaw07.MacroDoes", spec := "macroDoes", inPlace := ["internal/bytealg.abigen_runtime_cmpstring", "slices.overlaps[stet/macro.Macro]", "internal/bytealg.IndexByteString", "internal/abi.NoEscape", "internal/bytealg.MakeNoZero"], unfollowed := true, recurses := true, apart := false, narrowed := true }
def MacroDoesUptoSaid : Prop := macroDoesUptoRow.holds Try.pinned (OpenSpec.upto macroDoesSpec)

/-- 'stetlaw07.MacroWithin', WHERE WHAT IT READS IS OF BULK AT MOST 1048576: true; the input reads as it did. -/
def macroWithinUptoRow : OpenClaim := { program := "ytkpdhpbnbpjceaa", sum := "2ecf2cc0edf384a76db6943b9c7babd4ca04e1f04263db90d48e9c465f1debab", func := "stet/stetlaw07.MacroWithin", spec := "macroWithin", inPlace := ["internal/bytealg.IndexByteString", "internal/bytealg.abigen_runtime_cmpstring", "slices.overlaps[stet/macro.Macro]", "internal/abi.NoEscape", "internal/bytealg.MakeNoZero"], unfollowed := true, recurses := true, apart := false, narrowed := true }
def MacroWithinUptoSaid : Prop := macroWithinUptoRow.holds Try.pinned (OpenSpec.upto macroWithinSpec)

/-- 'stetlaw07.MacroFlat', WHERE WHAT IT READS IS OF BULK AT MOST 1048576: true; the input reads as it did. -/
def macroFlatUptoRow : OpenClaim := { program := "ytkpdhpbnbpjceaa", sum := "2ecf2cc0edf384a76db6943b9c7babd4ca04e1f04263db90d48e9c465f1debab", func := "stet/stetlaw07.MacroFlat", spec := "macroFlat", inPlace := ["internal/abi.NoEscape", "internal/bytealg.MakeNoZero", "internal/bytealg.IndexByteString", "internal/bytealg.abigen_runtime_cmpstring", "slices.overlaps[stet/macro.Macro]"], unfollowed := true, recurses := true, apart := false, narrowed := true }
def MacroFlatUptoSaid : Prop := macroFlatUptoRow.holds Try.pinned (OpenSpec.upto macroFlatSpec)

/-- 'stetlaw07.MacroEmpty', WHERE WHAT IT READS IS OF BULK AT MOST 1048576: true; the input reads as it did. -/
def macroEmptyUptoRow : OpenClaim := { program := "ytkpdhpbnbpjceaa", sum := "2ecf2cc0edf384a76db6943b9c7babd4ca04e1f04263db90d48e9c465f1debab", func := "stet/stetlaw07.MacroEmpty", spec := "macroEmpty", inPlace := ["internal/bytealg.IndexByteString", "internal/bytealg.abigen_runtime_cmpstring", "slices.overlaps[stet/macro.Macro]", "internal/abi.NoEscape", "internal/bytealg.MakeNoZero"], unfollowed := true, recurses := true, apart := false, narrowed := true }
def MacroEmptyUptoSaid : Prop := macroEmptyUptoRow.holds Try.pinned (OpenSpec.upto macroEmptySpec)

end Rows
end Go.Proofs.Ytkpdhpbnbpjceaa
