/-
  NARROWER THAN 'FOR EVERY INPUT', by the rows' own cells (each row's printed sentence says how): ExpandTells: laid · ExpandReads: laid · ExpandBounds: laid · ExpandPlain: laid · ExpandCalls: laid · ExpandInclude: laid.
  DERIVED. THE GIVEN ROWS OF THIS SEAT. 6 by the template 'for every input the law returns true; each argument reads behind the call as it read before'; 0 by the template 'total and deterministic' (their statements: YteahcmgdlbpmiaaGreatDoorTotals.lean).
  GIVEN WITH THE SEED: the statements are not yours to turn. If you find one false, say at which input.
  Laid BY PROGRAM, IN A SANDBOX (cutbox-rows.mjs): the forced cells as the released guide's own fill.sh prints them over the translation f5d441551c9c7262… (all of the seat's roots in one cut). By AI agents, Wed Nov 11 2026. No macro, syntax, notation, axiom, sorry.
-/
import Derived.Test.YteahcmgdlbpmiaaGreatDoorChecked
import GoSem.Claim
import GoSem.ClaimJoined
import GoSem.ClaimMapViews
import Derived.JoinedTies
import Derived.KernelRfl
namespace Go.Proofs.YteahcmgdlbpmiaaGreatDoor
/- THE CELL 'sum', in the pinned program and in every row, IS THE sha256 OF THE DUMP (.gsa) THAT YteahcmgdlbpmiaaGreatDoorProg.lean LOADS. Nothing in Lean hashes anything: it is a label: what it is worth is what the hold of that sum in a sandbox is worth. -/
noncomputable def Tryz.pinned : Pinned := { name := "yteahcmgdlbpmiaagreatdoor", sum := "f5d441551c9c7262477b086bf210bb7aed8544c7c6ee101f6168014bd84af87c", checked := Tryz.checked }
namespace Rows
def none {H : Type} : Left H := { results := [], args := [] }

/- WHAT THE LISTED PACKAGE-LEVEL VARIABLES READ AS WHEN THE CALL BEGINS. Each datum BY PROGRAM (the guide's laid-datum.mjs) off the statement by which the dump's own 'gosem.cut.vars' lays the variable. In a bare row this is a premise. The card (YteahcmgdlbpmiaaGreatDoorCards.lean) ties it to the program's text. -/
def laid_errors_errorType {H : Type} : DataW H := .iface "internal/reflectlite.rtype" (.agg [.ptr (.lit (.string [101, 114, 114, 111, 114]))])

/-- 'stetlaw08.ExpandTells': WHATEVER THE INPUT: true; the input reads as it did. -/
def expandTellsSpec : ChangeSpec := { name := "expandTells", fn := fun _ => fun
  | [d1, d2, d3] => { results := [.lit (.bool true)], args := [d1, d2, d3] }
  | _ => none }
def expandTellsRow : OpenClaim := { program := "yteahcmgdlbpmiaagreatdoor", sum := "f5d441551c9c7262477b086bf210bb7aed8544c7c6ee101f6168014bd84af87c", func := "stet/stetlaw08.ExpandTells", spec := "expandTells", inPlace := ["internal/bytealg.abigen_runtime_cmpstring", "internal/reflectlite.ValueOf", "(internal/reflectlite.Value).Type", "(internal/reflectlite.Value).IsNil", "internal/reflectlite.TypeOf", "(internal/reflectlite.Value).Elem", "(internal/reflectlite.Value).Set", "internal/bytealg.IndexByteString", "slices.overlaps[stet/macro.Macro]", "internal/abi.NoEscape"], unfollowed := true, recurses := true, named := ["errors.errorType"], apart := false, laid := [("errors.errorType", laid_errors_errorType)] }
def ExpandTellsSaid : Prop := expandTellsRow.holds Tryz.pinned (OpenSpec.ofChange expandTellsSpec)

/-- ITS FALSE NEIGHBOUR: 'it returns false'. Refute it at one input. -/
def expandTellsWrong : ChangeSpec := { name := "expandTells", fn := fun _ => fun
  | [d1, d2, d3] => { results := [.lit (.bool false)], args := [d1, d2, d3] }
  | _ => none }
def ExpandTellsWrongFalsely : Prop := expandTellsRow.holds Tryz.pinned (OpenSpec.ofChange expandTellsWrong)

/-- 'stetlaw08.ExpandReads': WHATEVER THE INPUT: true; the input reads as it did. -/
def expandReadsSpec : ChangeSpec := { name := "expandReads", fn := fun _ => fun
  | [d1, d2, d3] => { results := [.lit (.bool true)], args := [d1, d2, d3] }
  | _ => none }
def expandReadsRow : OpenClaim := { program := "yteahcmgdlbpmiaagreatdoor", sum := "f5d441551c9c7262477b086bf210bb7aed8544c7c6ee101f6168014bd84af87c", func := "stet/stetlaw08.ExpandReads", spec := "expandReads", inPlace := ["internal/bytealg.abigen_runtime_cmpstring", "internal/reflectlite.ValueOf", "(internal/reflectlite.Value).Type", "(internal/reflectlite.Value).IsNil", "internal/reflectlite.TypeOf", "(internal/reflectlite.Value).Elem", "(internal/reflectlite.Value).Set", "internal/bytealg.IndexByteString", "slices.overlaps[stet/macro.Macro]", "internal/abi.NoEscape"], unfollowed := true, recurses := true, named := ["errors.errorType"], apart := false, laid := [("errors.errorType", laid_errors_errorType)] }
def ExpandReadsSaid : Prop := expandReadsRow.holds Tryz.pinned (OpenSpec.ofChange expandReadsSpec)

/-- ITS FALSE NEIGHBOUR: 'it returns false'. Refute it at one input. -/
def expandReadsWrong : ChangeSpec := { name := "expandReads", fn := fun _ => fun
  | [d1, d2, d3] => { results := [.lit (.bool false)], args := [d1, d2, d3] }
  | _ => none }
def ExpandReadsWrongFalsely : Prop := expandReadsRow.holds Tryz.pinned (OpenSpec.ofChange expandReadsWrong)

/-- 'stetlaw08.ExpandBounds': WHATEVER THE INPUT: true; the input reads as it did. -/
def expandBoundsSpec : ChangeSpec := { name := "expandBounds", fn := fun _ => fun
  | [d1, d2, d3] => { results := [.lit (.bool true)], args := [d1, d2, d3] }
  | _ => none }
def expandBoundsRow : OpenClaim := { program := "yteahcmgdlbpmiaagreatdoor", sum := "f5d441551c9c7262477b086bf210bb7aed8544c7c6ee101f6168014bd84af87c", func := "stet/stetlaw08.ExpandBounds", spec := "expandBounds", inPlace := ["internal/bytealg.abigen_runtime_cmpstring", "internal/reflectlite.ValueOf", "(internal/reflectlite.Value).Type", "(internal/reflectlite.Value).IsNil", "internal/reflectlite.TypeOf", "(internal/reflectlite.Value).Elem", "(internal/reflectlite.Value).Set", "internal/bytealg.IndexByteString", "slices.overlaps[stet/macro.Macro]", "internal/abi.NoEscape"], unfollowed := true, recurses := true, named := ["errors.errorType"], apart := false, laid := [("errors.errorType", laid_errors_errorType)] }
def ExpandBoundsSaid : Prop := expandBoundsRow.holds Tryz.pinned (OpenSpec.ofChange expandBoundsSpec)

/-- ITS FALSE NEIGHBOUR: 'it returns false'. Refute it at one input. -/
def expandBoundsWrong : ChangeSpec := { name := "expandBounds", fn := fun _ => fun
  | [d1, d2, d3] => { results := [.lit (.bool false)], args := [d1, d2, d3] }
  | _ => none }
def ExpandBoundsWrongFalsely : Prop := expandBoundsRow.holds Tryz.pinned (OpenSpec.ofChange expandBoundsWrong)

/-- 'stetlaw08.ExpandPlain': WHATEVER THE INPUT: true; the input reads as it did. -/
def expandPlainSpec : ChangeSpec := { name := "expandPlain", fn := fun _ => fun
  | [d] => { results := [.lit (.bool true)], args := [d] }
  | _ => none }
def expandPlainRow : OpenClaim := { program := "yteahcmgdlbpmiaagreatdoor", sum := "f5d441551c9c7262477b086bf210bb7aed8544c7c6ee101f6168014bd84af87c", func := "stet/stetlaw08.ExpandPlain", spec := "expandPlain", inPlace := ["internal/bytealg.abigen_runtime_cmpstring", "internal/reflectlite.ValueOf", "(internal/reflectlite.Value).Type", "(internal/reflectlite.Value).IsNil", "internal/reflectlite.TypeOf", "(internal/reflectlite.Value).Elem", "(internal/reflectlite.Value).Set", "internal/bytealg.IndexByteString", "slices.overlaps[stet/macro.Macro]", "internal/abi.NoEscape"], unfollowed := true, recurses := true, named := ["errors.errorType"], apart := false, laid := [("errors.errorType", laid_errors_errorType)] }
def ExpandPlainSaid : Prop := expandPlainRow.holds Tryz.pinned (OpenSpec.ofChange expandPlainSpec)

/-- ITS FALSE NEIGHBOUR: 'it returns false'. Refute it at one input. -/
def expandPlainWrong : ChangeSpec := { name := "expandPlain", fn := fun _ => fun
  | [d] => { results := [.lit (.bool false)], args := [d] }
  | _ => none }
def ExpandPlainWrongFalsely : Prop := expandPlainRow.holds Tryz.pinned (OpenSpec.ofChange expandPlainWrong)

/-- 'stetlaw08.ExpandCalls': WHATEVER THE INPUT: true; the input reads as it did. -/
def expandCallsSpec : ChangeSpec := { name := "expandCalls", fn := fun _ => fun
  | [d] => { results := [.lit (.bool true)], args := [d] }
  | _ => none }
def expandCallsRow : OpenClaim := { program := "yteahcmgdlbpmiaagreatdoor", sum := "f5d441551c9c7262477b086bf210bb7aed8544c7c6ee101f6168014bd84af87c", func := "stet/stetlaw08.ExpandCalls", spec := "expandCalls", inPlace := ["internal/bytealg.abigen_runtime_cmpstring", "internal/reflectlite.ValueOf", "(internal/reflectlite.Value).Type", "(internal/reflectlite.Value).IsNil", "internal/reflectlite.TypeOf", "(internal/reflectlite.Value).Elem", "(internal/reflectlite.Value).Set", "internal/bytealg.IndexByteString", "slices.overlaps[stet/macro.Macro]", "internal/abi.NoEscape"], unfollowed := true, recurses := true, named := ["errors.errorType"], apart := false, laid := [("errors.errorType", laid_errors_errorType)] }
def ExpandCallsSaid : Prop := expandCallsRow.holds Tryz.pinned (OpenSpec.ofChange expandCallsSpec)

/-- ITS FALSE NEIGHBOUR: 'it returns false'. Refute it at one input. -/
def expandCallsWrong : ChangeSpec := { name := "expandCalls", fn := fun _ => fun
  | [d] => { results := [.lit (.bool false)], args := [d] }
  | _ => none }
def ExpandCallsWrongFalsely : Prop := expandCallsRow.holds Tryz.pinned (OpenSpec.ofChange expandCallsWrong)

/-- 'stetlaw08.ExpandInclude': WHATEVER THE INPUT: true; the input reads as it did. -/
def expandIncludeSpec : ChangeSpec := { name := "expandInclude", fn := fun _ => fun
  | [d1, d2] => { results := [.lit (.bool true)], args := [d1, d2] }
  | _ => none }
def expandIncludeRow : OpenClaim := { program := "yteahcmgdlbpmiaagreatdoor", sum := "f5d441551c9c7262477b086bf210bb7aed8544c7c6ee101f6168014bd84af87c", func := "stet/stetlaw08.ExpandInclude", spec := "expandInclude", inPlace := ["internal/bytealg.abigen_runtime_cmpstring", "internal/reflectlite.ValueOf", "(internal/reflectlite.Value).Type", "(internal/reflectlite.Value).IsNil", "internal/reflectlite.TypeOf", "(internal/reflectlite.Value).Elem", "(internal/reflectlite.Value).Set", "internal/bytealg.IndexByteString", "slices.overlaps[stet/macro.Macro]", "internal/abi.NoEscape"], unfollowed := true, recurses := true, named := ["errors.errorType"], apart := false, laid := [("errors.errorType", laid_errors_errorType)] }
def ExpandIncludeSaid : Prop := expandIncludeRow.holds Tryz.pinned (OpenSpec.ofChange expandIncludeSpec)

/-- ITS FALSE NEIGHBOUR: 'it returns false'. Refute it at one input. -/
def expandIncludeWrong : ChangeSpec := { name := "expandInclude", fn := fun _ => fun
  | [d1, d2] => { results := [.lit (.bool false)], args := [d1, d2] }
  | _ => none }
def ExpandIncludeWrongFalsely : Prop := expandIncludeRow.holds Tryz.pinned (OpenSpec.ofChange expandIncludeWrong)

/- THE SECOND FORM. 'bulk': how many values and letters a reading holds, each counted each time it is reached (what is shared counts as often as it is met; a slice's spare places count too). A statement '..UptoSaid' is the law's where the arguments, and the package variables that the reading takes, are together of bulk at most 1048576: NARROWER than '..Said'. Prove '..Said' where nothing that the law and all that it calls make is longer than what came in: it says more and counts as full. Else prove '..UptoSaid'. A law counts once. -/
mutual
def uptoBulk {H : Type} : DataW H → Nat
  | .lit (.string bytes) => bytes.length + 1
  | .lit _ => 1
  | .nil => 1
  | .ptr d => uptoBulk d + 1
  | .slice elems spare => uptoBulkAll elems + uptoBulkAll spare + 1
  | .agg parts => uptoBulkAll parts + 1
  | .iface _ d => uptoBulk d + 1
  | .map entries => uptoBulkEntries entries + 1
  | .held _ => 1
def uptoBulkAll {H : Type} : List (DataW H) → Nat
  | [] => 0
  | d :: r => uptoBulk d + uptoBulkAll r
def uptoBulkEntries {H : Type} : List (Lit × DataW H) → Nat
  | [] => 0
  | x :: r => uptoBulkEntry x + uptoBulkEntries r
def uptoBulkEntry {H : Type} : Lit × DataW H → Nat
  | (.string bytes, d) => bytes.length + uptoBulk d + 1
  | (_, d) => uptoBulk d + 1
 end
def uptoSmall : (H : Type) → List (DataW H) → Bool := fun _ ds => decide (uptoBulkAll ds ≤ 1048576)
def OpenSpec.upto (s : _root_.Go.ChangeSpec) : _root_.Go.OpenSpec := { _root_.Go.OpenSpec.ofChange s with cond := some uptoSmall }

/-- 'stetlaw08.ExpandTells', WHERE WHAT IT READS IS OF BULK AT MOST 1048576: true; the input reads as it did. -/
def expandTellsUptoRow : OpenClaim := { program := "yteahcmgdlbpmiaagreatdoor", sum := "f5d441551c9c7262477b086bf210bb7aed8544c7c6ee101f6168014bd84af87c", func := "stet/stetlaw08.ExpandTells", spec := "expandTells", inPlace := ["internal/bytealg.abigen_runtime_cmpstring", "internal/reflectlite.ValueOf", "(internal/reflectlite.Value).Type", "(internal/reflectlite.Value).IsNil", "internal/reflectlite.TypeOf", "(internal/reflectlite.Value).Elem", "(internal/reflectlite.Value).Set", "internal/bytealg.IndexByteString", "slices.overlaps[stet/macro.Macro]", "internal/abi.NoEscape"], unfollowed := true, recurses := true, named := ["errors.errorType"], apart := false, laid := [("errors.errorType", laid_errors_errorType)], narrowed := true }
def ExpandTellsUptoSaid : Prop := expandTellsUptoRow.holds Tryz.pinned (OpenSpec.upto expandTellsSpec)

/-- 'stetlaw08.ExpandReads', WHERE WHAT IT READS IS OF BULK AT MOST 1048576: true; the input reads as it did. -/
def expandReadsUptoRow : OpenClaim := { program := "yteahcmgdlbpmiaagreatdoor", sum := "f5d441551c9c7262477b086bf210bb7aed8544c7c6ee101f6168014bd84af87c", func := "stet/stetlaw08.ExpandReads", spec := "expandReads", inPlace := ["internal/bytealg.abigen_runtime_cmpstring", "internal/reflectlite.ValueOf", "(internal/reflectlite.Value).Type", "(internal/reflectlite.Value).IsNil", "internal/reflectlite.TypeOf", "(internal/reflectlite.Value).Elem", "(internal/reflectlite.Value).Set", "internal/bytealg.IndexByteString", "slices.overlaps[stet/macro.Macro]", "internal/abi.NoEscape"], unfollowed := true, recurses := true, named := ["errors.errorType"], apart := false, laid := [("errors.errorType", laid_errors_errorType)], narrowed := true }
def ExpandReadsUptoSaid : Prop := expandReadsUptoRow.holds Tryz.pinned (OpenSpec.upto expandReadsSpec)

/-- 'stetlaw08.ExpandBounds', WHERE WHAT IT READS IS OF BULK AT MOST 1048576: true; the input reads as it did. -/
def expandBoundsUptoRow : OpenClaim := { program := "yteahcmgdlbpmiaagreatdoor", sum := "f5d441551c9c7262477b086bf210bb7aed8544c7c6ee101f6168014bd84af87c", func := "stet/stetlaw08.ExpandBounds", spec := "expandBounds", inPlace := ["internal/bytealg.abigen_runtime_cmpstring", "internal/reflectlite.ValueOf", "(internal/reflectlite.Value).Type", "(internal/reflectlite.Value).IsNil", "internal/reflectlite.TypeOf", "(internal/reflectlite.Value).Elem", "(internal/reflectlite.Value).Set", "internal/bytealg.IndexByteString", "slices.overlaps[stet/macro.Macro]", "internal/abi.NoEscape"], unfollowed := true, recurses := true, named := ["errors.errorType"], apart := false, laid := [("errors.errorType", laid_errors_errorType)], narrowed := true }
def ExpandBoundsUptoSaid : Prop := expandBoundsUptoRow.holds Tryz.pinned (OpenSpec.upto expandBoundsSpec)

/-- 'stetlaw08.ExpandPlain', WHERE WHAT IT READS IS OF BULK AT MOST 1048576: true; the input reads as it did. -/
def expandPlainUptoRow : OpenClaim := { program := "yteahcmgdlbpmiaagreatdoor", sum := "f5d441551c9c7262477b086bf210bb7aed8544c7c6ee101f6168014bd84af87c", func := "stet/stetlaw08.ExpandPlain", spec := "expandPlain", inPlace := ["internal/bytealg.abigen_runtime_cmpstring", "internal/reflectlite.ValueOf", "(internal/reflectlite.Value).Type", "(internal/reflectlite.Value).IsNil", "internal/reflectlite.TypeOf", "(internal/reflectlite.Value).Elem", "(internal/reflectlite.Value).Set", "internal/bytealg.IndexByteString", "slices.overlaps[stet/macro.Macro]", "internal/abi.NoEscape"], unfollowed := true, recurses := true, named := ["errors.errorType"], apart := false, laid := [("errors.errorType", laid_errors_errorType)], narrowed := true }
def ExpandPlainUptoSaid : Prop := expandPlainUptoRow.holds Tryz.pinned (OpenSpec.upto expandPlainSpec)

/-- 'stetlaw08.ExpandCalls', WHERE WHAT IT READS IS OF BULK AT MOST 1048576: true; the input reads as it did. -/
def expandCallsUptoRow : OpenClaim := { program := "yteahcmgdlbpmiaagreatdoor", sum := "f5d441551c9c7262477b086bf210bb7aed8544c7c6ee101f6168014bd84af87c", func := "stet/stetlaw08.ExpandCalls", spec := "expandCalls", inPlace := ["internal/bytealg.abigen_runtime_cmpstring", "internal/reflectlite.ValueOf", "(internal/reflectlite.Value).Type", "(internal/reflectlite.Value).IsNil", "internal/reflectlite.TypeOf", "(internal/reflectlite.Value).Elem", "(internal/reflectlite.Value).Set", "internal/bytealg.IndexByteString", "slices.overlaps[stet/macro.Macro]", "internal/abi.NoEscape"], unfollowed := true, recurses := true, named := ["errors.errorType"], apart := false, laid := [("errors.errorType", laid_errors_errorType)], narrowed := true }
def ExpandCallsUptoSaid : Prop := expandCallsUptoRow.holds Tryz.pinned (OpenSpec.upto expandCallsSpec)

/-- 'stetlaw08.ExpandInclude', WHERE WHAT IT READS IS OF BULK AT MOST 1048576: true; the input reads as it did. -/
def expandIncludeUptoRow : OpenClaim := { program := "yteahcmgdlbpmiaagreatdoor", sum := "f5d441551c9c7262477b086bf210bb7aed8544c7c6ee101f6168014bd84af87c", func := "stet/stetlaw08.ExpandInclude", spec := "expandInclude", inPlace := ["internal/bytealg.abigen_runtime_cmpstring", "internal/reflectlite.ValueOf", "(internal/reflectlite.Value).Type", "(internal/reflectlite.Value).IsNil", "internal/reflectlite.TypeOf", "(internal/reflectlite.Value).Elem", "(internal/reflectlite.Value).Set", "internal/bytealg.IndexByteString", "slices.overlaps[stet/macro.Macro]", "internal/abi.NoEscape"], unfollowed := true, recurses := true, named := ["errors.errorType"], apart := false, laid := [("errors.errorType", laid_errors_errorType)], narrowed := true }
def ExpandIncludeUptoSaid : Prop := expandIncludeUptoRow.holds Tryz.pinned (OpenSpec.upto expandIncludeSpec)

end Rows
end Go.Proofs.YteahcmgdlbpmiaaGreatDoor
