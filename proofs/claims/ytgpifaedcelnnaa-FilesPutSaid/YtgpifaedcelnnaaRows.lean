/-
  No cell of these rows narrows 'for every input' (looked for: loops, veiled, ifaces, maps, wideKeys, modest, calm, conditions, laid).
  DERIVED. THE GIVEN ROWS OF THIS SEAT. 6 by the template 'for every input the law returns true; each argument reads behind the call as it read before'; 0 by the template 'total and deterministic' (their statements: YtgpifaedcelnnaaTotals.lean).
  GIVEN WITH THE SEED: the statements are not yours to turn. If you find one false, say at which input.
  Laid BY PROGRAM, IN A SANDBOX (cutbox-rows.mjs): the forced cells as the released guide's own fill.sh prints them over the translation 3a1dc0d76cbf9865… (all of the seat's roots in one cut). By AI agents, Wed Nov 11 2026. No macro, syntax, notation, axiom, sorry.
-/
import Derived.Test.YtgpifaedcelnnaaChecked
import GoSem.Claim
import GoSem.ClaimJoined
import GoSem.ClaimMapViews
import Derived.JoinedTies
import Derived.KernelRfl
namespace Go.Proofs.Ytgpifaedcelnnaa
/- THE CELL 'sum', in the pinned program and in every row, IS THE sha256 OF THE DUMP (.gsa) THAT YtgpifaedcelnnaaProg.lean LOADS. Nothing in Lean hashes anything: it is a label: what it is worth is what the hold of that sum in a sandbox is worth. -/
noncomputable def Try.pinned : Pinned := { name := "ytgpifaedcelnnaa", sum := "3a1dc0d76cbf9865d81d7f05961d929c4097738c321b29cb7b704191123570af", checked := Try.checked }
namespace Rows
def none {H : Type} : Left H := { results := [], args := [] }

/-- 'stetlaw02.FilesDo': WHATEVER THE INPUT: true; the input reads as it did. -/
def filesDoSpec : ChangeSpec := { name := "filesDo", fn := fun _ => fun
  | [d1, d2] => { results := [.lit (.bool true)], args := [d1, d2] }
  | _ => none }
def filesDoRow : OpenClaim := { program := "ytgpifaedcelnnaa", sum := "3a1dc0d76cbf9865d81d7f05961d929c4097738c321b29cb7b704191123570af", func := "stet/stetlaw02.FilesDo", spec := "filesDo", inPlace := ["internal/bytealg.abigen_runtime_cmpstring", "internal/bytealg.IndexByteString", "slices.overlaps[stet/api.File]"], unfollowed := true, recurses := true, apart := false }
def FilesDoSaid : Prop := filesDoRow.holds Try.pinned (OpenSpec.ofChange filesDoSpec)

/-- ITS FALSE NEIGHBOUR: 'it returns false'. Refute it at one input. -/
def filesDoWrong : ChangeSpec := { name := "filesDo", fn := fun _ => fun
  | [d1, d2] => { results := [.lit (.bool false)], args := [d1, d2] }
  | _ => none }
def FilesDoWrongFalsely : Prop := filesDoRow.holds Try.pinned (OpenSpec.ofChange filesDoWrong)

/-- 'stetlaw02.FilesRight': WHATEVER THE INPUT: true; the input reads as it did. -/
def filesRightSpec : ChangeSpec := { name := "filesRight", fn := fun _ => fun
  | [d] => { results := [.lit (.bool true)], args := [d] }
  | _ => none }
def filesRightRow : OpenClaim := { program := "ytgpifaedcelnnaa", sum := "3a1dc0d76cbf9865d81d7f05961d929c4097738c321b29cb7b704191123570af", func := "stet/stetlaw02.FilesRight", spec := "filesRight", inPlace := ["internal/bytealg.IndexByteString", "internal/bytealg.abigen_runtime_cmpstring", "slices.overlaps[stet/api.File]"], unfollowed := true, recurses := true, apart := false }
def FilesRightSaid : Prop := filesRightRow.holds Try.pinned (OpenSpec.ofChange filesRightSpec)

/-- ITS FALSE NEIGHBOUR: 'it returns false'. Refute it at one input. -/
def filesRightWrong : ChangeSpec := { name := "filesRight", fn := fun _ => fun
  | [d] => { results := [.lit (.bool false)], args := [d] }
  | _ => none }
def FilesRightWrongFalsely : Prop := filesRightRow.holds Try.pinned (OpenSpec.ofChange filesRightWrong)

/-- 'stetlaw02.FilesPut': WHATEVER THE INPUT: true; the input reads as it did. -/
def filesPutSpec : ChangeSpec := { name := "filesPut", fn := fun _ => fun
  | [d1, d2, d3] => { results := [.lit (.bool true)], args := [d1, d2, d3] }
  | _ => none }
def filesPutRow : OpenClaim := { program := "ytgpifaedcelnnaa", sum := "3a1dc0d76cbf9865d81d7f05961d929c4097738c321b29cb7b704191123570af", func := "stet/stetlaw02.FilesPut", spec := "filesPut", inPlace := ["internal/bytealg.abigen_runtime_cmpstring", "internal/bytealg.IndexByteString", "slices.overlaps[stet/api.File]"], unfollowed := true, recurses := true, apart := false }
def FilesPutSaid : Prop := filesPutRow.holds Try.pinned (OpenSpec.ofChange filesPutSpec)

/-- ITS FALSE NEIGHBOUR: 'it returns false'. Refute it at one input. -/
def filesPutWrong : ChangeSpec := { name := "filesPut", fn := fun _ => fun
  | [d1, d2, d3] => { results := [.lit (.bool false)], args := [d1, d2, d3] }
  | _ => none }
def FilesPutWrongFalsely : Prop := filesPutRow.holds Try.pinned (OpenSpec.ofChange filesPutWrong)

/-- 'stetlaw02.FilesOrder': WHATEVER THE INPUT: true; the input reads as it did. -/
def filesOrderSpec : ChangeSpec := { name := "filesOrder", fn := fun _ => fun
  | [d1, d2] => { results := [.lit (.bool true)], args := [d1, d2] }
  | _ => none }
def filesOrderRow : OpenClaim := { program := "ytgpifaedcelnnaa", sum := "3a1dc0d76cbf9865d81d7f05961d929c4097738c321b29cb7b704191123570af", func := "stet/stetlaw02.FilesOrder", spec := "filesOrder", inPlace := ["internal/bytealg.abigen_runtime_cmpstring", "internal/bytealg.IndexByteString", "slices.overlaps[stet/api.File]"], unfollowed := true, recurses := true, apart := false }
def FilesOrderSaid : Prop := filesOrderRow.holds Try.pinned (OpenSpec.ofChange filesOrderSpec)

/-- ITS FALSE NEIGHBOUR: 'it returns false'. Refute it at one input. -/
def filesOrderWrong : ChangeSpec := { name := "filesOrder", fn := fun _ => fun
  | [d1, d2] => { results := [.lit (.bool false)], args := [d1, d2] }
  | _ => none }
def FilesOrderWrongFalsely : Prop := filesOrderRow.holds Try.pinned (OpenSpec.ofChange filesOrderWrong)

/-- 'stetlaw02.FilesMerge': WHATEVER THE INPUT: true; the input reads as it did. -/
def filesMergeSpec : ChangeSpec := { name := "filesMerge", fn := fun _ => fun
  | [d1, d2] => { results := [.lit (.bool true)], args := [d1, d2] }
  | _ => none }
def filesMergeRow : OpenClaim := { program := "ytgpifaedcelnnaa", sum := "3a1dc0d76cbf9865d81d7f05961d929c4097738c321b29cb7b704191123570af", func := "stet/stetlaw02.FilesMerge", spec := "filesMerge", inPlace := ["internal/bytealg.abigen_runtime_cmpstring", "internal/bytealg.IndexByteString", "slices.overlaps[stet/api.File]"], unfollowed := true, recurses := true, apart := false }
def FilesMergeSaid : Prop := filesMergeRow.holds Try.pinned (OpenSpec.ofChange filesMergeSpec)

/-- ITS FALSE NEIGHBOUR: 'it returns false'. Refute it at one input. -/
def filesMergeWrong : ChangeSpec := { name := "filesMerge", fn := fun _ => fun
  | [d1, d2] => { results := [.lit (.bool false)], args := [d1, d2] }
  | _ => none }
def FilesMergeWrongFalsely : Prop := filesMergeRow.holds Try.pinned (OpenSpec.ofChange filesMergeWrong)

/-- 'stetlaw02.FilesMerged': WHATEVER THE INPUT: true; the input reads as it did. -/
def filesMergedSpec : ChangeSpec := { name := "filesMerged", fn := fun _ => fun
  | [d1, d2, d3] => { results := [.lit (.bool true)], args := [d1, d2, d3] }
  | _ => none }
def filesMergedRow : OpenClaim := { program := "ytgpifaedcelnnaa", sum := "3a1dc0d76cbf9865d81d7f05961d929c4097738c321b29cb7b704191123570af", func := "stet/stetlaw02.FilesMerged", spec := "filesMerged", inPlace := ["internal/bytealg.abigen_runtime_cmpstring", "internal/bytealg.IndexByteString", "slices.overlaps[stet/api.File]"], unfollowed := true, recurses := true, apart := false }
def FilesMergedSaid : Prop := filesMergedRow.holds Try.pinned (OpenSpec.ofChange filesMergedSpec)

/-- ITS FALSE NEIGHBOUR: 'it returns false'. Refute it at one input. -/
def filesMergedWrong : ChangeSpec := { name := "filesMerged", fn := fun _ => fun
  | [d1, d2, d3] => { results := [.lit (.bool false)], args := [d1, d2, d3] }
  | _ => none }
def FilesMergedWrongFalsely : Prop := filesMergedRow.holds Try.pinned (OpenSpec.ofChange filesMergedWrong)

/- THE SECOND FORM. 'bulk': how many values and letters a reading holds, each counted each time it is reached (what is shared counts as often as it is met; a slice's spare places count too). A statement '..UptoSaid' is the law's where the arguments, and the package variables that the reading takes, are together of bulk at most 1048576: NARROWER than '..Said'. Prove '..Said' where nothing that the law and all that it calls make is longer than what came in: it says more and counts as full. Else prove '..UptoSaid'. A law counts once. -/
mutual
def uptoBulk {H : Type} : DataW H → Nat
  | .lit (.string bytes) => bytes.length + 1
  | .lit _ => 1
  | .nil => 1
  | .ptr d => uptoBulk d + 1
  | .slice elems spare => uptoBulkAll elems + uptoBulkAll spare + 1
  | .agg parts => uptoBulkAll parts + 1
  | .iface _ d => uptoBulk d + 1
  | .map entries => uptoBulkEntries entries + 1
  | .held _ => 1
def uptoBulkAll {H : Type} : List (DataW H) → Nat
  | [] => 0
  | d :: r => uptoBulk d + uptoBulkAll r
def uptoBulkEntries {H : Type} : List (Lit × DataW H) → Nat
  | [] => 0
  | x :: r => uptoBulkEntry x + uptoBulkEntries r
def uptoBulkEntry {H : Type} : Lit × DataW H → Nat
  | (.string bytes, d) => bytes.length + uptoBulk d + 1
  | (_, d) => uptoBulk d + 1
 end
def uptoSmall : (H : Type) → List (DataW H) → Bool := fun _ ds => decide (uptoBulkAll ds ≤ 1048576)
def OpenSpec.upto (s : _root_.Go.ChangeSpec) : _root_.Go.OpenSpec := { _root_.Go.OpenSpec.ofChange s with cond := some uptoSmall }

/-- 'stetlaw02.FilesDo', WHERE WHAT IT READS IS OF BULK AT MOST 1048576: true; the input reads as it did. -/
def filesDoUptoRow : OpenClaim := { program := "ytgpifaedcelnnaa", sum := "3a1dc0d76cbf9865d81d7f05961d929c4097738c321b29cb7b704191123570af", func := "stet/stetlaw02.FilesDo", spec := "filesDo", inPlace := ["internal/bytealg.abigen_runtime_cmpstring", "internal/bytealg.IndexByteString", "slices.overlaps[stet/api.File]"], unfollowed := true, recurses := true, apart := false, narrowed := true }
def FilesDoUptoSaid : Prop := filesDoUptoRow.holds Try.pinned (OpenSpec.upto filesDoSpec)

/-- 'stetlaw02.FilesRight', WHERE WHAT IT READS IS OF BULK AT MOST 1048576: true; the input reads as it did. -/
def filesRightUptoRow : OpenClaim := { program := "ytgpifaedcelnnaa", sum := "3a1dc0d76cbf9865d81d7f05961d929c4097738c321b29cb7b704191123570af", func := "stet/stetlaw02.FilesRight", spec := "filesRight", inPlace := ["internal/bytealg.IndexByteString", "internal/bytealg.abigen_runtime_cmpstring", "slices.overlaps[stet/api.File]"], unfollowed := true, recurses := true, apart := false, narrowed := true }
def FilesRightUptoSaid : Prop := filesRightUptoRow.holds Try.pinned (OpenSpec.upto filesRightSpec)

/-- 'stetlaw02.FilesPut', WHERE WHAT IT READS IS OF BULK AT MOST 1048576: true; the input reads as it did. -/
def filesPutUptoRow : OpenClaim := { program := "ytgpifaedcelnnaa", sum := "3a1dc0d76cbf9865d81d7f05961d929c4097738c321b29cb7b704191123570af", func := "stet/stetlaw02.FilesPut", spec := "filesPut", inPlace := ["internal/bytealg.abigen_runtime_cmpstring", "internal/bytealg.IndexByteString", "slices.overlaps[stet/api.File]"], unfollowed := true, recurses := true, apart := false, narrowed := true }
def FilesPutUptoSaid : Prop := filesPutUptoRow.holds Try.pinned (OpenSpec.upto filesPutSpec)

/-- 'stetlaw02.FilesOrder', WHERE WHAT IT READS IS OF BULK AT MOST 1048576: true; the input reads as it did. -/
def filesOrderUptoRow : OpenClaim := { program := "ytgpifaedcelnnaa", sum := "3a1dc0d76cbf9865d81d7f05961d929c4097738c321b29cb7b704191123570af", func := "stet/stetlaw02.FilesOrder", spec := "filesOrder", inPlace := ["internal/bytealg.abigen_runtime_cmpstring", "internal/bytealg.IndexByteString", "slices.overlaps[stet/api.File]"], unfollowed := true, recurses := true, apart := false, narrowed := true }
def FilesOrderUptoSaid : Prop := filesOrderUptoRow.holds Try.pinned (OpenSpec.upto filesOrderSpec)

/-- 'stetlaw02.FilesMerge', WHERE WHAT IT READS IS OF BULK AT MOST 1048576: true; the input reads as it did. -/
def filesMergeUptoRow : OpenClaim := { program := "ytgpifaedcelnnaa", sum := "3a1dc0d76cbf9865d81d7f05961d929c4097738c321b29cb7b704191123570af", func := "stet/stetlaw02.FilesMerge", spec := "filesMerge", inPlace := ["internal/bytealg.abigen_runtime_cmpstring", "internal/bytealg.IndexByteString", "slices.overlaps[stet/api.File]"], unfollowed := true, recurses := true, apart := false, narrowed := true }
def FilesMergeUptoSaid : Prop := filesMergeUptoRow.holds Try.pinned (OpenSpec.upto filesMergeSpec)

/-- 'stetlaw02.FilesMerged', WHERE WHAT IT READS IS OF BULK AT MOST 1048576: true; the input reads as it did. -/
def filesMergedUptoRow : OpenClaim := { program := "ytgpifaedcelnnaa", sum := "3a1dc0d76cbf9865d81d7f05961d929c4097738c321b29cb7b704191123570af", func := "stet/stetlaw02.FilesMerged", spec := "filesMerged", inPlace := ["internal/bytealg.abigen_runtime_cmpstring", "internal/bytealg.IndexByteString", "slices.overlaps[stet/api.File]"], unfollowed := true, recurses := true, apart := false, narrowed := true }
def FilesMergedUptoSaid : Prop := filesMergedUptoRow.holds Try.pinned (OpenSpec.upto filesMergedSpec)

end Rows
end Go.Proofs.Ytgpifaedcelnnaa
