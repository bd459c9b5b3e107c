/-
  DERIVED. GIVEN WITH THE SEED: THE CARDS: each row of YteahcmgdlbpmiaaGreatDoorRows.lean that lists a variable, with what it lists TIED to the program's text (the seventh form; the later family's looks); each row that meets fmt, with fmt's text TOLD by the authors' own Lean function (tested against real Go, not proved from fmt's source: count such statements apart). THE CARD IS WHAT COUNTS. Prove the row's statement (the work); the ties are given (YteahcmgdlbpmiaaGreatDoorTie.lean); close each card by the builder's one call (the guide's Derived/Test/ToyasCard.lean, 'card_holds'). Laid BY PROGRAM, IN A SANDBOX (cutbox-door.mjs). By AI agents, Wed Nov 11 2026. No macro, syntax, notation, axiom, sorry.
-/
import Derived.Test.YteahcmgdlbpmiaaGreatDoorRows
import GoSem.ClaimSeven
namespace Go.Proofs.YteahcmgdlbpmiaaGreatDoor
namespace Rows

/-- THE TIED CARD OF 'stetlaw08.ExpandTells'. -/
def expandTellsCard : Claim7 := { stood := { row := expandTellsRow, standIns := [], harness := (true, "8d427c4657ce2c05cbe287717eb2b8b5561e5d2abbea2bfde373ddf3dc39585d"), looks := true }, kinds := [], alts := [], laidByText := true, laidKinds := [.handle], laidTests := true, laidLooks := .later }
def ExpandTellsCardSaid : Prop := Claim7.holds Tryz.pinned (.plain (OpenSpec.ofChange expandTellsSpec)) expandTellsCard

/-- THE TIED CARD OF 'stetlaw08.ExpandReads'. -/
def expandReadsCard : Claim7 := { stood := { row := expandReadsRow, standIns := [], harness := (true, "8d427c4657ce2c05cbe287717eb2b8b5561e5d2abbea2bfde373ddf3dc39585d"), looks := true }, kinds := [], alts := [], laidByText := true, laidKinds := [.handle], laidTests := true, laidLooks := .later }
def ExpandReadsCardSaid : Prop := Claim7.holds Tryz.pinned (.plain (OpenSpec.ofChange expandReadsSpec)) expandReadsCard

/-- THE TIED CARD OF 'stetlaw08.ExpandBounds'. -/
def expandBoundsCard : Claim7 := { stood := { row := expandBoundsRow, standIns := [], harness := (true, "8d427c4657ce2c05cbe287717eb2b8b5561e5d2abbea2bfde373ddf3dc39585d"), looks := true }, kinds := [], alts := [], laidByText := true, laidKinds := [.handle], laidTests := true, laidLooks := .later }
def ExpandBoundsCardSaid : Prop := Claim7.holds Tryz.pinned (.plain (OpenSpec.ofChange expandBoundsSpec)) expandBoundsCard

/-- THE TIED CARD OF 'stetlaw08.ExpandPlain'. -/
def expandPlainCard : Claim7 := { stood := { row := expandPlainRow, standIns := [], harness := (true, "8d427c4657ce2c05cbe287717eb2b8b5561e5d2abbea2bfde373ddf3dc39585d"), looks := true }, kinds := [], alts := [], laidByText := true, laidKinds := [.handle], laidTests := true, laidLooks := .later }
def ExpandPlainCardSaid : Prop := Claim7.holds Tryz.pinned (.plain (OpenSpec.ofChange expandPlainSpec)) expandPlainCard

/-- THE TIED CARD OF 'stetlaw08.ExpandCalls'. -/
def expandCallsCard : Claim7 := { stood := { row := expandCallsRow, standIns := [], harness := (true, "8d427c4657ce2c05cbe287717eb2b8b5561e5d2abbea2bfde373ddf3dc39585d"), looks := true }, kinds := [], alts := [], laidByText := true, laidKinds := [.handle], laidTests := true, laidLooks := .later }
def ExpandCallsCardSaid : Prop := Claim7.holds Tryz.pinned (.plain (OpenSpec.ofChange expandCallsSpec)) expandCallsCard

/-- THE TIED CARD OF 'stetlaw08.ExpandInclude'. -/
def expandIncludeCard : Claim7 := { stood := { row := expandIncludeRow, standIns := [], harness := (true, "8d427c4657ce2c05cbe287717eb2b8b5561e5d2abbea2bfde373ddf3dc39585d"), looks := true }, kinds := [], alts := [], laidByText := true, laidKinds := [.handle], laidTests := true, laidLooks := .later }
def ExpandIncludeCardSaid : Prop := Claim7.holds Tryz.pinned (.plain (OpenSpec.ofChange expandIncludeSpec)) expandIncludeCard

/-- THE SECOND FORM's CARD OF 'stetlaw08.ExpandTells'. -/
def expandTellsUptoCard : Claim7 := { stood := { row := expandTellsUptoRow, standIns := [], harness := (true, "8d427c4657ce2c05cbe287717eb2b8b5561e5d2abbea2bfde373ddf3dc39585d"), looks := true }, kinds := [], alts := [], laidByText := true, laidKinds := [.handle], laidTests := true, laidLooks := .later }
def ExpandTellsUptoCardSaid : Prop := Claim7.holds Tryz.pinned (.plain (OpenSpec.upto expandTellsSpec)) expandTellsUptoCard

/-- THE SECOND FORM's CARD OF 'stetlaw08.ExpandReads'. -/
def expandReadsUptoCard : Claim7 := { stood := { row := expandReadsUptoRow, standIns := [], harness := (true, "8d427c4657ce2c05cbe287717eb2b8b5561e5d2abbea2bfde373ddf3dc39585d"), looks := true }, kinds := [], alts := [], laidByText := true, laidKinds := [.handle], laidTests := true, laidLooks := .later }
def ExpandReadsUptoCardSaid : Prop := Claim7.holds Tryz.pinned (.plain (OpenSpec.upto expandReadsSpec)) expandReadsUptoCard

/-- THE SECOND FORM's CARD OF 'stetlaw08.ExpandBounds'. -/
def expandBoundsUptoCard : Claim7 := { stood := { row := expandBoundsUptoRow, standIns := [], harness := (true, "8d427c4657ce2c05cbe287717eb2b8b5561e5d2abbea2bfde373ddf3dc39585d"), looks := true }, kinds := [], alts := [], laidByText := true, laidKinds := [.handle], laidTests := true, laidLooks := .later }
def ExpandBoundsUptoCardSaid : Prop := Claim7.holds Tryz.pinned (.plain (OpenSpec.upto expandBoundsSpec)) expandBoundsUptoCard

/-- THE SECOND FORM's CARD OF 'stetlaw08.ExpandPlain'. -/
def expandPlainUptoCard : Claim7 := { stood := { row := expandPlainUptoRow, standIns := [], harness := (true, "8d427c4657ce2c05cbe287717eb2b8b5561e5d2abbea2bfde373ddf3dc39585d"), looks := true }, kinds := [], alts := [], laidByText := true, laidKinds := [.handle], laidTests := true, laidLooks := .later }
def ExpandPlainUptoCardSaid : Prop := Claim7.holds Tryz.pinned (.plain (OpenSpec.upto expandPlainSpec)) expandPlainUptoCard

/-- THE SECOND FORM's CARD OF 'stetlaw08.ExpandCalls'. -/
def expandCallsUptoCard : Claim7 := { stood := { row := expandCallsUptoRow, standIns := [], harness := (true, "8d427c4657ce2c05cbe287717eb2b8b5561e5d2abbea2bfde373ddf3dc39585d"), looks := true }, kinds := [], alts := [], laidByText := true, laidKinds := [.handle], laidTests := true, laidLooks := .later }
def ExpandCallsUptoCardSaid : Prop := Claim7.holds Tryz.pinned (.plain (OpenSpec.upto expandCallsSpec)) expandCallsUptoCard

/-- THE SECOND FORM's CARD OF 'stetlaw08.ExpandInclude'. -/
def expandIncludeUptoCard : Claim7 := { stood := { row := expandIncludeUptoRow, standIns := [], harness := (true, "8d427c4657ce2c05cbe287717eb2b8b5561e5d2abbea2bfde373ddf3dc39585d"), looks := true }, kinds := [], alts := [], laidByText := true, laidKinds := [.handle], laidTests := true, laidLooks := .later }
def ExpandIncludeUptoCardSaid : Prop := Claim7.holds Tryz.pinned (.plain (OpenSpec.upto expandIncludeSpec)) expandIncludeUptoCard
end Rows
end Go.Proofs.YteahcmgdlbpmiaaGreatDoor
