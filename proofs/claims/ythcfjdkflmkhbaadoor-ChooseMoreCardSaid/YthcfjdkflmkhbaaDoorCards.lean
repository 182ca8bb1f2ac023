/-
  DERIVED. GIVEN WITH THE SEED: THE CARDS: each row of YthcfjdkflmkhbaaDoorRows.lean that lists a variable, with what it lists TIED to the program's text (the seventh form; the later family's looks); each row that meets fmt, with fmt's text TOLD by the authors' own Lean function (tested against real Go, not proved from fmt's source: count such statements apart). THE CARD IS WHAT COUNTS. Prove the row's statement (the work); the ties are given (YthcfjdkflmkhbaaDoorTie.lean); close each card by the builder's one call (the guide's Derived/Test/ToyasCard.lean, 'card_holds'). Laid BY PROGRAM, IN A SANDBOX (cutbox-door.mjs). By AI agents, Wed Nov 11 2026. No macro, syntax, notation, axiom, sorry.
-/
import Derived.Test.YthcfjdkflmkhbaaDoorRows
import GoSem.ClaimSeven
namespace Go.Proofs.YthcfjdkflmkhbaaDoor
namespace Rows

/-- THE TIED CARD OF 'passimlaw32.ChooseCosts'. -/
def chooseCostsCard : Claim7 := { stood := { row := chooseCostsRow, standIns := [], harness := (true, "74846972bc86e4388a768de5b0f068fd499471521f32f8524a0abf45e61b47ff"), looks := false }, kinds := [], alts := [], laidByText := true, laidKinds := [.data], laidTests := true, laidLooks := .later }
def ChooseCostsCardSaid : Prop := Claim7.holds Tryd.pinned (.plain (OpenSpec.ofChange chooseCostsSpec)) chooseCostsCard

/-- THE TIED CARD OF 'passimlaw32.ChooseBounds'. -/
def chooseBoundsCard : Claim7 := { stood := { row := chooseBoundsRow, standIns := [], harness := (true, "74846972bc86e4388a768de5b0f068fd499471521f32f8524a0abf45e61b47ff"), looks := false }, kinds := [], alts := [], laidByText := true, laidKinds := [.data], laidTests := true, laidLooks := .later }
def ChooseBoundsCardSaid : Prop := Claim7.holds Tryd.pinned (.plain (OpenSpec.ofChange chooseBoundsSpec)) chooseBoundsCard

/-- THE TIED CARD OF 'passimlaw32.ChooseMore'. -/
def chooseMoreCard : Claim7 := { stood := { row := chooseMoreRow, standIns := [], harness := (true, "74846972bc86e4388a768de5b0f068fd499471521f32f8524a0abf45e61b47ff"), looks := false }, kinds := [], alts := [], laidByText := true, laidKinds := [.data], laidTests := true, laidLooks := .later }
def ChooseMoreCardSaid : Prop := Claim7.holds Tryd.pinned (.plain (OpenSpec.ofChange chooseMoreSpec)) chooseMoreCard

/-- THE TIED CARD OF 'passimlaw32.ChooseTight'. -/
def chooseTightCard : Claim7 := { stood := { row := chooseTightRow, standIns := [], harness := (true, "74846972bc86e4388a768de5b0f068fd499471521f32f8524a0abf45e61b47ff"), looks := false }, kinds := [], alts := [], laidByText := true, laidKinds := [.data], laidTests := true, laidLooks := .later }
def ChooseTightCardSaid : Prop := Claim7.holds Tryd.pinned (.plain (OpenSpec.ofChange chooseTightSpec)) chooseTightCard

/-- THE TIED CARD OF 'passimlaw32.ChooseScaled'. -/
def chooseScaledCard : Claim7 := { stood := { row := chooseScaledRow, standIns := [], harness := (true, "74846972bc86e4388a768de5b0f068fd499471521f32f8524a0abf45e61b47ff"), looks := false }, kinds := [], alts := [], laidByText := true, laidKinds := [.data], laidTests := true, laidLooks := .later }
def ChooseScaledCardSaid : Prop := Claim7.holds Tryd.pinned (.plain (OpenSpec.ofChange chooseScaledSpec)) chooseScaledCard

/-- THE TIED CARD OF 'passimlaw32.ChooseBest'. -/
def chooseBestCard : Claim7 := { stood := { row := chooseBestRow, standIns := [], harness := (true, "74846972bc86e4388a768de5b0f068fd499471521f32f8524a0abf45e61b47ff"), looks := false }, kinds := [], alts := [], laidByText := true, laidKinds := [.data], laidTests := true, laidLooks := .later }
def ChooseBestCardSaid : Prop := Claim7.holds Tryd.pinned (.plain (OpenSpec.ofChange chooseBestSpec)) chooseBestCard

/-- THE TIED CARD OF 'passimlaw32.ChooseBounded'. -/
def chooseBoundedCard : Claim7 := { stood := { row := chooseBoundedRow, standIns := [], harness := (true, "74846972bc86e4388a768de5b0f068fd499471521f32f8524a0abf45e61b47ff"), looks := false }, kinds := [], alts := [], laidByText := true, laidKinds := [.data], laidTests := true, laidLooks := .later }
def ChooseBoundedCardSaid : Prop := Claim7.holds Tryd.pinned (.plain (OpenSpec.ofChange chooseBoundedSpec)) chooseBoundedCard

/-- THE SECOND FORM's CARD OF 'passimlaw32.ChooseCosts'. -/
def chooseCostsUptoCard : Claim7 := { stood := { row := chooseCostsUptoRow, standIns := [], harness := (true, "74846972bc86e4388a768de5b0f068fd499471521f32f8524a0abf45e61b47ff"), looks := false }, kinds := [], alts := [], laidByText := true, laidKinds := [.data], laidTests := true, laidLooks := .later }
def ChooseCostsUptoCardSaid : Prop := Claim7.holds Tryd.pinned (.plain (OpenSpec.upto chooseCostsSpec)) chooseCostsUptoCard

/-- THE SECOND FORM's CARD OF 'passimlaw32.ChooseBounds'. -/
def chooseBoundsUptoCard : Claim7 := { stood := { row := chooseBoundsUptoRow, standIns := [], harness := (true, "74846972bc86e4388a768de5b0f068fd499471521f32f8524a0abf45e61b47ff"), looks := false }, kinds := [], alts := [], laidByText := true, laidKinds := [.data], laidTests := true, laidLooks := .later }
def ChooseBoundsUptoCardSaid : Prop := Claim7.holds Tryd.pinned (.plain (OpenSpec.upto chooseBoundsSpec)) chooseBoundsUptoCard

/-- THE SECOND FORM's CARD OF 'passimlaw32.ChooseMore'. -/
def chooseMoreUptoCard : Claim7 := { stood := { row := chooseMoreUptoRow, standIns := [], harness := (true, "74846972bc86e4388a768de5b0f068fd499471521f32f8524a0abf45e61b47ff"), looks := false }, kinds := [], alts := [], laidByText := true, laidKinds := [.data], laidTests := true, laidLooks := .later }
def ChooseMoreUptoCardSaid : Prop := Claim7.holds Tryd.pinned (.plain (OpenSpec.upto chooseMoreSpec)) chooseMoreUptoCard

/-- THE SECOND FORM's CARD OF 'passimlaw32.ChooseTight'. -/
def chooseTightUptoCard : Claim7 := { stood := { row := chooseTightUptoRow, standIns := [], harness := (true, "74846972bc86e4388a768de5b0f068fd499471521f32f8524a0abf45e61b47ff"), looks := false }, kinds := [], alts := [], laidByText := true, laidKinds := [.data], laidTests := true, laidLooks := .later }
def ChooseTightUptoCardSaid : Prop := Claim7.holds Tryd.pinned (.plain (OpenSpec.upto chooseTightSpec)) chooseTightUptoCard

/-- THE SECOND FORM's CARD OF 'passimlaw32.ChooseScaled'. -/
def chooseScaledUptoCard : Claim7 := { stood := { row := chooseScaledUptoRow, standIns := [], harness := (true, "74846972bc86e4388a768de5b0f068fd499471521f32f8524a0abf45e61b47ff"), looks := false }, kinds := [], alts := [], laidByText := true, laidKinds := [.data], laidTests := true, laidLooks := .later }
def ChooseScaledUptoCardSaid : Prop := Claim7.holds Tryd.pinned (.plain (OpenSpec.upto chooseScaledSpec)) chooseScaledUptoCard

/-- THE SECOND FORM's CARD OF 'passimlaw32.ChooseBest'. -/
def chooseBestUptoCard : Claim7 := { stood := { row := chooseBestUptoRow, standIns := [], harness := (true, "74846972bc86e4388a768de5b0f068fd499471521f32f8524a0abf45e61b47ff"), looks := false }, kinds := [], alts := [], laidByText := true, laidKinds := [.data], laidTests := true, laidLooks := .later }
def ChooseBestUptoCardSaid : Prop := Claim7.holds Tryd.pinned (.plain (OpenSpec.upto chooseBestSpec)) chooseBestUptoCard

/-- THE SECOND FORM's CARD OF 'passimlaw32.ChooseBounded'. -/
def chooseBoundedUptoCard : Claim7 := { stood := { row := chooseBoundedUptoRow, standIns := [], harness := (true, "74846972bc86e4388a768de5b0f068fd499471521f32f8524a0abf45e61b47ff"), looks := false }, kinds := [], alts := [], laidByText := true, laidKinds := [.data], laidTests := true, laidLooks := .later }
def ChooseBoundedUptoCardSaid : Prop := Claim7.holds Tryd.pinned (.plain (OpenSpec.upto chooseBoundedSpec)) chooseBoundedUptoCard
end Rows
end Go.Proofs.YthcfjdkflmkhbaaDoor
