/-
  DERIVED. GIVEN WITH THE SEED: THE CARDS: each row of YtkeopokhnfpgpaaGreatDoorRows.lean that lists a variable, with what it lists TIED to the program's text (the seventh form; the later family's looks); each row that meets fmt, with fmt's text TOLD by the authors' own Lean function (tested against real Go, not proved from fmt's source: count such statements apart). THE CARD IS WHAT COUNTS. Prove the row's statement (the work); the ties are given (YtkeopokhnfpgpaaGreatDoorTie.lean); close each card by the builder's one call (the guide's Derived/Test/ToyasCard.lean, 'card_holds'). Laid BY PROGRAM, IN A SANDBOX (cutbox-door.mjs). By AI agents, Wed Nov 11 2026. No macro, syntax, notation, axiom, sorry.
-/
import Derived.Test.YtkeopokhnfpgpaaGreatDoorRows
import GoSem.ClaimSeven
namespace Go.Proofs.YtkeopokhnfpgpaaGreatDoor
namespace Rows

/-- THE TIED CARD OF 'passimlaw42.ArchiveMerges'. -/
def archiveMergesCard : Claim7 := { stood := { row := archiveMergesRow, standIns := [], harness := (true, "dbb8a7134d9f77ec70da3fa93b13fb5179708c27a13a1f63ea30f0a23c5de3bf"), looks := false }, kinds := [], alts := [], laidByText := true, laidKinds := [.data], laidTests := true, laidLooks := .later }
def ArchiveMergesCardSaid : Prop := Claim7.holds Tryz.pinned (.plain (OpenSpec.ofChange archiveMergesSpec)) archiveMergesCard

/-- THE TIED CARD OF 'passimlaw42.ArchiveChains'. -/
def archiveChainsCard : Claim7 := { stood := { row := archiveChainsRow, standIns := [], harness := (true, "dbb8a7134d9f77ec70da3fa93b13fb5179708c27a13a1f63ea30f0a23c5de3bf"), looks := false }, kinds := [], alts := [], laidByText := true, laidKinds := [.data, .data], laidTests := true, laidLooks := .later }
def ArchiveChainsCardSaid : Prop := Claim7.holds Tryz.pinned (.plain (OpenSpec.ofChange archiveChainsSpec)) archiveChainsCard

/-- THE TIED CARD OF 'passimlaw42.ArchiveOrders'. -/
def archiveOrdersCard : Claim7 := { stood := { row := archiveOrdersRow, standIns := [], harness := (true, "dbb8a7134d9f77ec70da3fa93b13fb5179708c27a13a1f63ea30f0a23c5de3bf"), looks := false }, kinds := [], alts := [], laidByText := true, laidKinds := [.data], laidTests := true, laidLooks := .later }
def ArchiveOrdersCardSaid : Prop := Claim7.holds Tryz.pinned (.plain (OpenSpec.ofChange archiveOrdersSpec)) archiveOrdersCard

/-- THE TIED CARD OF 'passimlaw42.ArchiveDoes'. -/
def archiveDoesCard : Claim7 := { stood := { row := archiveDoesRow, standIns := [], harness := (true, "dbb8a7134d9f77ec70da3fa93b13fb5179708c27a13a1f63ea30f0a23c5de3bf"), looks := false }, kinds := [], alts := [], laidByText := true, laidKinds := [.data, .data], laidTests := true, laidLooks := .later }
def ArchiveDoesCardSaid : Prop := Claim7.holds Tryz.pinned (.plain (OpenSpec.ofChange archiveDoesSpec)) archiveDoesCard

/-- THE TIED CARD OF 'passimlaw42.ArchiveGrows'. -/
def archiveGrowsCard : Claim7 := { stood := { row := archiveGrowsRow, standIns := [], harness := (true, "dbb8a7134d9f77ec70da3fa93b13fb5179708c27a13a1f63ea30f0a23c5de3bf"), looks := false }, kinds := [], alts := [], laidByText := true, laidKinds := [.data, .data], laidTests := true, laidLooks := .later }
def ArchiveGrowsCardSaid : Prop := Claim7.holds Tryz.pinned (.plain (OpenSpec.ofChange archiveGrowsSpec)) archiveGrowsCard

/-- THE SECOND FORM's CARD OF 'passimlaw42.ArchiveMerges'. -/
def archiveMergesUptoCard : Claim7 := { stood := { row := archiveMergesUptoRow, standIns := [], harness := (true, "dbb8a7134d9f77ec70da3fa93b13fb5179708c27a13a1f63ea30f0a23c5de3bf"), looks := false }, kinds := [], alts := [], laidByText := true, laidKinds := [.data], laidTests := true, laidLooks := .later }
def ArchiveMergesUptoCardSaid : Prop := Claim7.holds Tryz.pinned (.plain (OpenSpec.upto archiveMergesSpec)) archiveMergesUptoCard

/-- THE SECOND FORM's CARD OF 'passimlaw42.ArchiveChains'. -/
def archiveChainsUptoCard : Claim7 := { stood := { row := archiveChainsUptoRow, standIns := [], harness := (true, "dbb8a7134d9f77ec70da3fa93b13fb5179708c27a13a1f63ea30f0a23c5de3bf"), looks := false }, kinds := [], alts := [], laidByText := true, laidKinds := [.data, .data], laidTests := true, laidLooks := .later }
def ArchiveChainsUptoCardSaid : Prop := Claim7.holds Tryz.pinned (.plain (OpenSpec.upto archiveChainsSpec)) archiveChainsUptoCard

/-- THE SECOND FORM's CARD OF 'passimlaw42.ArchiveOrders'. -/
def archiveOrdersUptoCard : Claim7 := { stood := { row := archiveOrdersUptoRow, standIns := [], harness := (true, "dbb8a7134d9f77ec70da3fa93b13fb5179708c27a13a1f63ea30f0a23c5de3bf"), looks := false }, kinds := [], alts := [], laidByText := true, laidKinds := [.data], laidTests := true, laidLooks := .later }
def ArchiveOrdersUptoCardSaid : Prop := Claim7.holds Tryz.pinned (.plain (OpenSpec.upto archiveOrdersSpec)) archiveOrdersUptoCard

/-- THE SECOND FORM's CARD OF 'passimlaw42.ArchiveDoes'. -/
def archiveDoesUptoCard : Claim7 := { stood := { row := archiveDoesUptoRow, standIns := [], harness := (true, "dbb8a7134d9f77ec70da3fa93b13fb5179708c27a13a1f63ea30f0a23c5de3bf"), looks := false }, kinds := [], alts := [], laidByText := true, laidKinds := [.data, .data], laidTests := true, laidLooks := .later }
def ArchiveDoesUptoCardSaid : Prop := Claim7.holds Tryz.pinned (.plain (OpenSpec.upto archiveDoesSpec)) archiveDoesUptoCard

/-- THE SECOND FORM's CARD OF 'passimlaw42.ArchiveGrows'. -/
def archiveGrowsUptoCard : Claim7 := { stood := { row := archiveGrowsUptoRow, standIns := [], harness := (true, "dbb8a7134d9f77ec70da3fa93b13fb5179708c27a13a1f63ea30f0a23c5de3bf"), looks := false }, kinds := [], alts := [], laidByText := true, laidKinds := [.data, .data], laidTests := true, laidLooks := .later }
def ArchiveGrowsUptoCardSaid : Prop := Claim7.holds Tryz.pinned (.plain (OpenSpec.upto archiveGrowsSpec)) archiveGrowsUptoCard
end Rows
end Go.Proofs.YtkeopokhnfpgpaaGreatDoor
