/-
  DERIVED. GIVEN WITH THE SEED: THE CARDS: each row of YtabjaaonfaejmaaGreatDoorRows.lean that lists a variable, with what it lists TIED to the program's text (the seventh form; the later family's looks); each row that meets fmt, with fmt's text TOLD by the authors' own Lean function (tested against real Go, not proved from fmt's source: count such statements apart). THE CARD IS WHAT COUNTS. Prove the row's statement (the work); the ties are given (YtabjaaonfaejmaaGreatDoorTie.lean); close each card by the builder's one call (the guide's Derived/Test/ToyasCard.lean, 'card_holds'). Laid BY PROGRAM, IN A SANDBOX (cutbox-door.mjs). By AI agents, Wed Nov 11 2026. No macro, syntax, notation, axiom, sorry.
-/
import Derived.Test.YtabjaaonfaejmaaGreatDoorRows
import GoSem.ClaimSeven
namespace Go.Proofs.YtabjaaonfaejmaaGreatDoor
namespace Rows

/-- THE TIED CARD OF 'passimlaw10.EventSeals'. -/
def eventSealsCard : Claim7 := { stood := { row := eventSealsRow, standIns := [], harness := (true, "334c7be4bb4ffc96ee73d08a8acc33a2becd29f02d015255d99be7065cb9e990"), looks := true }, kinds := [], alts := [], laidByText := true, laidKinds := [.data, .data], laidTests := true, laidLooks := .later }
def EventSealsCardSaid : Prop := Claim7.holds Tryz.pinned (.plain (OpenSpec.ofChange eventSealsSpec)) eventSealsCard

/-- THE TIED CARD OF 'passimlaw10.EventBytes'. -/
def eventBytesCard : Claim7 := { stood := { row := eventBytesRow, standIns := [], harness := (true, "334c7be4bb4ffc96ee73d08a8acc33a2becd29f02d015255d99be7065cb9e990"), looks := true }, kinds := [], alts := [], laidByText := true, laidKinds := [.data, .data], laidTests := true, laidLooks := .later }
def EventBytesCardSaid : Prop := Claim7.holds Tryz.pinned (.plain (OpenSpec.ofChange eventBytesSpec)) eventBytesCard

/-- THE SECOND FORM's CARD OF 'passimlaw10.EventSeals'. -/
def eventSealsUptoCard : Claim7 := { stood := { row := eventSealsUptoRow, standIns := [], harness := (true, "334c7be4bb4ffc96ee73d08a8acc33a2becd29f02d015255d99be7065cb9e990"), looks := true }, kinds := [], alts := [], laidByText := true, laidKinds := [.data, .data], laidTests := true, laidLooks := .later }
def EventSealsUptoCardSaid : Prop := Claim7.holds Tryz.pinned (.plain (OpenSpec.upto eventSealsSpec)) eventSealsUptoCard

/-- THE SECOND FORM's CARD OF 'passimlaw10.EventBytes'. -/
def eventBytesUptoCard : Claim7 := { stood := { row := eventBytesUptoRow, standIns := [], harness := (true, "334c7be4bb4ffc96ee73d08a8acc33a2becd29f02d015255d99be7065cb9e990"), looks := true }, kinds := [], alts := [], laidByText := true, laidKinds := [.data, .data], laidTests := true, laidLooks := .later }
def EventBytesUptoCardSaid : Prop := Claim7.holds Tryz.pinned (.plain (OpenSpec.upto eventBytesSpec)) eventBytesUptoCard
end Rows
end Go.Proofs.YtabjaaonfaejmaaGreatDoor
