/-
  No cell of these rows narrows 'for every input' (looked for: loops, veiled, ifaces, maps, wideKeys, modest, calm, conditions, laid).
  DERIVED. THE GIVEN ROWS OF THIS SEAT. 5 by the template 'for every input the law returns true; each argument reads behind the call as it read before'; 0 by the template 'total and deterministic' (their statements: YtcdclkgfgieppaaTotals.lean).
  GIVEN WITH THE SEED: the statements are not yours to turn. If you find one false, say at which input.
  Laid BY PROGRAM, IN A SANDBOX (cutbox-rows.mjs): the forced cells as the released guide's own fill.sh prints them over the translation de77704c5383f4bf… (all of the seat's roots in one cut). By AI agents, Wed Nov 11 2026. No macro, syntax, notation, axiom, sorry.
-/
import Derived.Test.YtcdclkgfgieppaaChecked
import GoSem.Claim
import GoSem.ClaimJoined
import GoSem.ClaimMapViews
import Derived.JoinedTies
import Derived.KernelRfl
namespace Go.Proofs.Ytcdclkgfgieppaa
/- THE CELL 'sum', in the pinned program and in every row, IS THE sha256 OF THE DUMP (.gsa) THAT YtcdclkgfgieppaaProg.lean LOADS. Nothing in Lean hashes anything: it is a label: what it is worth is what the hold of that sum in a sandbox is worth. -/
noncomputable def Try.pinned : Pinned := { name := "ytcdclkgfgieppaa", sum := "de77704c5383f4bf183996707b5b9f8253500fed25bd1c16ef9f042baee931a9", checked := Try.checked }
namespace Rows
def none {H : Type} : Left H := { results := [], args := [] }

/-- 'stetlaw09.ItemsTell': WHATEVER THE INPUT: true; the input reads as it did. -/
def itemsTellSpec : ChangeSpec := { name := "itemsTell", fn := fun _ => fun
  | [d1, d2] => { results := [.lit (.bool true)], args := [d1, d2] }
  | _ => none }
def itemsTellRow : OpenClaim := { program := "ytcdclkgfgieppaa", sum := "de77704c5383f4bf183996707b5b9f8253500fed25bd1c16ef9f042baee931a9", func := "stet/stetlaw09.ItemsTell", spec := "itemsTell", inPlace := ["internal/abi.NoEscape", "internal/bytealg.MakeNoZero", "internal/bytealg.IndexByteString"], unfollowed := true, recurses := true, apart := false }
def ItemsTellSaid : Prop := itemsTellRow.holds Try.pinned (OpenSpec.ofChange itemsTellSpec)

/-- ITS FALSE NEIGHBOUR: 'it returns false'. Refute it at one input. -/
def itemsTellWrong : ChangeSpec := { name := "itemsTell", fn := fun _ => fun
  | [d1, d2] => { results := [.lit (.bool false)], args := [d1, d2] }
  | _ => none }
def ItemsTellWrongFalsely : Prop := itemsTellRow.holds Try.pinned (OpenSpec.ofChange itemsTellWrong)

/-- 'stetlaw09.ItemsTexts': WHATEVER THE INPUT: true; the input reads as it did. -/
def itemsTextsSpec : ChangeSpec := { name := "itemsTexts", fn := fun _ => fun
  | [d] => { results := [.lit (.bool true)], args := [d] }
  | _ => none }
def itemsTextsRow : OpenClaim := { program := "ytcdclkgfgieppaa", sum := "de77704c5383f4bf183996707b5b9f8253500fed25bd1c16ef9f042baee931a9", func := "stet/stetlaw09.ItemsTexts", spec := "itemsTexts", inPlace := ["internal/bytealg.IndexByteString", "internal/abi.NoEscape", "internal/bytealg.MakeNoZero"], unfollowed := true, recurses := true, apart := false }
def ItemsTextsSaid : Prop := itemsTextsRow.holds Try.pinned (OpenSpec.ofChange itemsTextsSpec)

/-- ITS FALSE NEIGHBOUR: 'it returns false'. Refute it at one input. -/
def itemsTextsWrong : ChangeSpec := { name := "itemsTexts", fn := fun _ => fun
  | [d] => { results := [.lit (.bool false)], args := [d] }
  | _ => none }
def ItemsTextsWrongFalsely : Prop := itemsTextsRow.holds Try.pinned (OpenSpec.ofChange itemsTextsWrong)

/-- 'stetlaw09.ItemsBack': WHATEVER THE INPUT: true; the input reads as it did. -/
def itemsBackSpec : ChangeSpec := { name := "itemsBack", fn := fun _ => fun
  | [d1, d2] => { results := [.lit (.bool true)], args := [d1, d2] }
  | _ => none }
def itemsBackRow : OpenClaim := { program := "ytcdclkgfgieppaa", sum := "de77704c5383f4bf183996707b5b9f8253500fed25bd1c16ef9f042baee931a9", func := "stet/stetlaw09.ItemsBack", spec := "itemsBack", inPlace := ["internal/abi.NoEscape", "internal/bytealg.MakeNoZero", "internal/bytealg.IndexByteString"], unfollowed := true, recurses := true, apart := false }
def ItemsBackSaid : Prop := itemsBackRow.holds Try.pinned (OpenSpec.ofChange itemsBackSpec)

/-- ITS FALSE NEIGHBOUR: 'it returns false'. Refute it at one input. -/
def itemsBackWrong : ChangeSpec := { name := "itemsBack", fn := fun _ => fun
  | [d1, d2] => { results := [.lit (.bool false)], args := [d1, d2] }
  | _ => none }
def ItemsBackWrongFalsely : Prop := itemsBackRow.holds Try.pinned (OpenSpec.ofChange itemsBackWrong)

/-- 'stetlaw09.ItemsJoin': WHATEVER THE INPUT: true; the input reads as it did. -/
def itemsJoinSpec : ChangeSpec := { name := "itemsJoin", fn := fun _ => fun
  | [d1, d2] => { results := [.lit (.bool true)], args := [d1, d2] }
  | _ => none }
def itemsJoinRow : OpenClaim := { program := "ytcdclkgfgieppaa", sum := "de77704c5383f4bf183996707b5b9f8253500fed25bd1c16ef9f042baee931a9", func := "stet/stetlaw09.ItemsJoin", spec := "itemsJoin", inPlace := ["internal/bytealg.IndexByteString", "internal/abi.NoEscape", "internal/bytealg.MakeNoZero"], unfollowed := true, recurses := true, apart := false }
def ItemsJoinSaid : Prop := itemsJoinRow.holds Try.pinned (OpenSpec.ofChange itemsJoinSpec)

/-- ITS FALSE NEIGHBOUR: 'it returns false'. Refute it at one input. -/
def itemsJoinWrong : ChangeSpec := { name := "itemsJoin", fn := fun _ => fun
  | [d1, d2] => { results := [.lit (.bool false)], args := [d1, d2] }
  | _ => none }
def ItemsJoinWrongFalsely : Prop := itemsJoinRow.holds Try.pinned (OpenSpec.ofChange itemsJoinWrong)

/-- 'stetlaw09.ItemsSpaces': WHATEVER THE INPUT: true; the input reads as it did. -/
def itemsSpacesSpec : ChangeSpec := { name := "itemsSpaces", fn := fun _ => fun
  | [d1, d2] => { results := [.lit (.bool true)], args := [d1, d2] }
  | _ => none }
def itemsSpacesRow : OpenClaim := { program := "ytcdclkgfgieppaa", sum := "de77704c5383f4bf183996707b5b9f8253500fed25bd1c16ef9f042baee931a9", func := "stet/stetlaw09.ItemsSpaces", spec := "itemsSpaces", inPlace := ["internal/bytealg.IndexByteString", "internal/abi.NoEscape", "internal/bytealg.MakeNoZero"], unfollowed := true, recurses := true, apart := false }
def ItemsSpacesSaid : Prop := itemsSpacesRow.holds Try.pinned (OpenSpec.ofChange itemsSpacesSpec)

/-- ITS FALSE NEIGHBOUR: 'it returns false'. Refute it at one input. -/
def itemsSpacesWrong : ChangeSpec := { name := "itemsSpaces", fn := fun _ => fun
  | [d1, d2] => { results := [.lit (.bool false)], args := [d1, d2] }
  | _ => none }
def ItemsSpacesWrongFalsely : Prop := itemsSpacesRow.holds Try.pinned (OpenSpec.ofChange itemsSpacesWrong)

/- THE SECOND FORM. 'bulk': how many values and letters a reading holds, each counted each time it is reached (what is shared counts as often as it is met; a slice's spare places count too). A statement '..UptoSaid' is the law's where the arguments, and the package variables that the reading takes, are together of bulk at most 1048576: NARROWER than '..Said'. Prove '..Said' where nothing that the law and all that it calls make is longer than what came in: it says more and counts as full. Else prove '..UptoSaid'. A law counts once. -/
mutual
def uptoBulk {H : Type} : DataW H → Nat
  | .lit (.string bytes) => bytes.length + 1
  | .lit _ => 1
  | .nil => 1
  | .ptr d => uptoBulk d + 1
  | .slice elems spare => uptoBulkAll elems + uptoBulkAll spare + 1
  | .agg parts => uptoBulkAll parts + 1
  | .iface _ d => uptoBulk d + 1
  | .map entries => uptoBulkEntries entries + 1
  | .held _ => 1
def uptoBulkAll {H : Type} : List (DataW H) → Nat
  | [] => 0
  | d :: r => uptoBulk d + uptoBulkAll r
def uptoBulkEntries {H : Type} : List (Lit × DataW H) → Nat
  | [] => 0
  | x :: r => uptoBulkEntry x + uptoBulkEntries r
def uptoBulkEntry {H : Type} : Lit × DataW H → Nat
  | (.string bytes, d) => bytes.length + uptoBulk d + 1
  | (_, d) => uptoBulk d + 1
 end
def uptoSmall : (H : Type) → List (DataW H) → Bool := fun _ ds => decide (uptoBulkAll ds ≤ 1048576)
def OpenSpec.upto (s : _root_.Go.ChangeSpec) : _root_.Go.OpenSpec := { _root_.Go.OpenSpec.ofChange s with cond := some uptoSmall }

/-- 'stetlaw09.ItemsTell', WHERE WHAT IT READS IS OF BULK AT MOST 1048576: true; the input reads as it did. -/
def itemsTellUptoRow : OpenClaim := { program := "ytcdclkgfgieppaa", sum := "de77704c5383f4bf183996707b5b9f8253500fed25bd1c16ef9f042baee931a9", func := "stet/stetlaw09.ItemsTell", spec := "itemsTell", inPlace := ["internal/abi.NoEscape", "internal/bytealg.MakeNoZero", "internal/bytealg.IndexByteString"], unfollowed := true, recurses := true, apart := false, narrowed := true }
def ItemsTellUptoSaid : Prop := itemsTellUptoRow.holds Try.pinned (OpenSpec.upto itemsTellSpec)

/-- 'stetlaw09.ItemsTexts', WHERE WHAT IT READS IS OF BULK AT MOST 1048576: true; the input reads as it did. -/
def itemsTextsUptoRow : OpenClaim := { program := "ytcdclkgfgieppaa", sum := "de77704c5383f4bf183996707b5b9f8253500fed25bd1c16ef9f042baee931a9", func := "stet/stetlaw09.ItemsTexts", spec := "itemsTexts", inPlace := ["internal/bytealg.IndexByteString", "internal/abi.NoEscape", "internal/bytealg.MakeNoZero"], unfollowed := true, recurses := true, apart := false, narrowed := true }
def ItemsTextsUptoSaid : Prop := itemsTextsUptoRow.holds Try.pinned (OpenSpec.upto itemsTextsSpec)

/-- 'stetlaw09.ItemsBack', WHERE WHAT IT READS IS OF BULK AT MOST 1048576: true; the input reads as it did. -/
def itemsBackUptoRow : OpenClaim := { program := "ytcdclkgfgieppaa", sum := "de77704c5383f4bf183996707b5b9f8253500fed25bd1c16ef9f042baee931a9", func := "stet/stetlaw09.ItemsBack", spec := "itemsBack", inPlace := ["internal/abi.NoEscape", "internal/bytealg.MakeNoZero", "internal/bytealg.IndexByteString"], unfollowed := true, recurses := true, apart := false, narrowed := true }
def ItemsBackUptoSaid : Prop := itemsBackUptoRow.holds Try.pinned (OpenSpec.upto itemsBackSpec)

/-- 'stetlaw09.ItemsJoin', WHERE WHAT IT READS IS OF BULK AT MOST 1048576: true; the input reads as it did. -/
def itemsJoinUptoRow : OpenClaim := { program := "ytcdclkgfgieppaa", sum := "de77704c5383f4bf183996707b5b9f8253500fed25bd1c16ef9f042baee931a9", func := "stet/stetlaw09.ItemsJoin", spec := "itemsJoin", inPlace := ["internal/bytealg.IndexByteString", "internal/abi.NoEscape", "internal/bytealg.MakeNoZero"], unfollowed := true, recurses := true, apart := false, narrowed := true }
def ItemsJoinUptoSaid : Prop := itemsJoinUptoRow.holds Try.pinned (OpenSpec.upto itemsJoinSpec)

/-- 'stetlaw09.ItemsSpaces', WHERE WHAT IT READS IS OF BULK AT MOST 1048576: true; the input reads as it did. -/
def itemsSpacesUptoRow : OpenClaim := { program := "ytcdclkgfgieppaa", sum := "de77704c5383f4bf183996707b5b9f8253500fed25bd1c16ef9f042baee931a9", func := "stet/stetlaw09.ItemsSpaces", spec := "itemsSpaces", inPlace := ["internal/bytealg.IndexByteString", "internal/abi.NoEscape", "internal/bytealg.MakeNoZero"], unfollowed := true, recurses := true, apart := false, narrowed := true }
def ItemsSpacesUptoSaid : Prop := itemsSpacesUptoRow.holds Try.pinned (OpenSpec.upto itemsSpacesSpec)

end Rows
end Go.Proofs.Ytcdclkgfgieppaa
