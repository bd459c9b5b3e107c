/-
  DERIVED. GIVEN WITH THE SEED: THE CARDS: each row of YtjfikkjaifdkiaaGreatDoorRows.lean that lists a variable, with what it lists TIED to the program's text (the seventh form; the later family's looks); each row that meets fmt, with fmt's text TOLD by the authors' own Lean function (tested against real Go, not proved from fmt's source: count such statements apart). THE CARD IS WHAT COUNTS. Prove the row's statement (the work); the ties are given (YtjfikkjaifdkiaaGreatDoorTie.lean); close each card by the builder's one call (the guide's Derived/Test/ToyasCard.lean, 'card_holds'). Laid BY PROGRAM, IN A SANDBOX (cutbox-door.mjs). By AI agents, Wed Nov 11 2026. No macro, syntax, notation, axiom, sorry.
-/
import Derived.Test.YtjfikkjaifdkiaaGreatDoorRows
import GoSem.ClaimSeven
namespace Go.Proofs.YtjfikkjaifdkiaaGreatDoor
namespace Rows

/-- THE TIED CARD OF 'stetlaw08.ExpandTells'. -/
def expandTellsCard : Claim7 := { stood := { row := expandTellsRow, standIns := [], harness := (true, "0982722b522cb2d7f01081fac0bf8b5533fae7a56b1907291b85583075b1f3cb"), looks := true }, kinds := [], alts := [], laidByText := true, laidKinds := [.handle], laidTests := true, laidLooks := .later }
def ExpandTellsCardSaid : Prop := Claim7.holds Tryz.pinned (.plain (OpenSpec.ofChange expandTellsSpec)) expandTellsCard

/-- THE TIED CARD OF 'stetlaw08.ExpandReads'. -/
def expandReadsCard : Claim7 := { stood := { row := expandReadsRow, standIns := [], harness := (true, "0982722b522cb2d7f01081fac0bf8b5533fae7a56b1907291b85583075b1f3cb"), looks := true }, kinds := [], alts := [], laidByText := true, laidKinds := [.handle], laidTests := true, laidLooks := .later }
def ExpandReadsCardSaid : Prop := Claim7.holds Tryz.pinned (.plain (OpenSpec.ofChange expandReadsSpec)) expandReadsCard

/-- THE SECOND FORM's CARD OF 'stetlaw08.ExpandTells'. -/
def expandTellsUptoCard : Claim7 := { stood := { row := expandTellsUptoRow, standIns := [], harness := (true, "0982722b522cb2d7f01081fac0bf8b5533fae7a56b1907291b85583075b1f3cb"), looks := true }, kinds := [], alts := [], laidByText := true, laidKinds := [.handle], laidTests := true, laidLooks := .later }
def ExpandTellsUptoCardSaid : Prop := Claim7.holds Tryz.pinned (.plain (OpenSpec.upto expandTellsSpec)) expandTellsUptoCard

/-- THE SECOND FORM's CARD OF 'stetlaw08.ExpandReads'. -/
def expandReadsUptoCard : Claim7 := { stood := { row := expandReadsUptoRow, standIns := [], harness := (true, "0982722b522cb2d7f01081fac0bf8b5533fae7a56b1907291b85583075b1f3cb"), looks := true }, kinds := [], alts := [], laidByText := true, laidKinds := [.handle], laidTests := true, laidLooks := .later }
def ExpandReadsUptoCardSaid : Prop := Claim7.holds Tryz.pinned (.plain (OpenSpec.upto expandReadsSpec)) expandReadsUptoCard
end Rows
end Go.Proofs.YtjfikkjaifdkiaaGreatDoor
