/-
  NARROWER THAN 'FOR EVERY INPUT', by the rows' own cells (each row's printed sentence says how): ChooseCosts: laid · ChooseBounds: laid · ChooseMore: laid · ChooseTight: laid · ChooseScaled: laid · ChooseBest: laid · ChooseBounded: laid.
  DERIVED. THE GIVEN ROWS OF THIS SEAT. 7 by the template 'for every input the law returns true; each argument reads behind the call as it read before'; 0 by the template 'total and deterministic' (their statements: YthcfjdkflmkhbaaDoorTotals.lean).
  GIVEN WITH THE SEED: the statements are not yours to turn. If you find one false, say at which input.
  Laid BY PROGRAM, IN A SANDBOX (cutbox-rows.mjs): the forced cells as the released guide's own fill.sh prints them over the translation b3317ed4636d82d9… (all of the seat's roots in one cut). By AI agents, Wed Nov 11 2026. No macro, syntax, notation, axiom, sorry.
-/
import Derived.Test.YthcfjdkflmkhbaaDoorChecked
import GoSem.Claim
import GoSem.ClaimJoined
import GoSem.ClaimMapViews
import Derived.JoinedTies
import Derived.KernelRfl
namespace Go.Proofs.YthcfjdkflmkhbaaDoor
/- THE CELL 'sum', in the pinned program and in every row, IS THE sha256 OF THE DUMP (.gsa) THAT YthcfjdkflmkhbaaDoorProg.lean LOADS. Nothing in Lean hashes anything: it is a label: what it is worth is what the hold of that sum in a sandbox is worth. -/
noncomputable def Tryd.pinned : Pinned := { name := "ythcfjdkflmkhbaadoor", sum := "b3317ed4636d82d91f688ca3a1551a2e3297faa1d6d116e212f3bc1c2ff85700", checked := Tryd.checked }
namespace Rows
def none {H : Type} : Left H := { results := [], args := [] }

/- WHAT THE LISTED PACKAGE-LEVEL VARIABLES READ AS WHEN THE CALL BEGINS. Each datum BY PROGRAM (the guide's laid-datum.mjs) off the statement by which the dump's own 'gosem.cut.vars' lays the variable. In a bare row this is a premise. The card (YthcfjdkflmkhbaaDoorCards.lean) ties it to the program's text. -/
def laid_passim_choose_none {H : Type} : DataW H := .agg [.lit (.int .i64 (-1)), .lit (.int .i64 (-1))]

/-- 'passimlaw32.ChooseCosts': WHATEVER THE INPUT: true; the input reads as it did. -/
def chooseCostsSpec : ChangeSpec := { name := "chooseCosts", fn := fun _ => fun
  | [d1, d2, d3, d4, d5, d6, d7] => { results := [.lit (.bool true)], args := [d1, d2, d3, d4, d5, d6, d7] }
  | _ => none }
def chooseCostsRow : OpenClaim := { program := "ythcfjdkflmkhbaadoor", sum := "b3317ed4636d82d91f688ca3a1551a2e3297faa1d6d116e212f3bc1c2ff85700", func := "passim/passimlaw32.ChooseCosts", spec := "chooseCosts", unfollowed := true, recurses := true, named := ["passim/choose.none"], apart := false, laid := [("passim/choose.none", laid_passim_choose_none)] }
def ChooseCostsSaid : Prop := chooseCostsRow.holds Tryd.pinned (OpenSpec.ofChange chooseCostsSpec)

/-- ITS FALSE NEIGHBOUR: 'it returns false'. Refute it at one input. -/
def chooseCostsWrong : ChangeSpec := { name := "chooseCosts", fn := fun _ => fun
  | [d1, d2, d3, d4, d5, d6, d7] => { results := [.lit (.bool false)], args := [d1, d2, d3, d4, d5, d6, d7] }
  | _ => none }
def ChooseCostsWrongFalsely : Prop := chooseCostsRow.holds Tryd.pinned (OpenSpec.ofChange chooseCostsWrong)

/-- 'passimlaw32.ChooseBounds': WHATEVER THE INPUT: true; the input reads as it did. -/
def chooseBoundsSpec : ChangeSpec := { name := "chooseBounds", fn := fun _ => fun
  | [d1, d2, d3, d4, d5, d6, d7, d8, d9] => { results := [.lit (.bool true)], args := [d1, d2, d3, d4, d5, d6, d7, d8, d9] }
  | _ => none }
def chooseBoundsRow : OpenClaim := { program := "ythcfjdkflmkhbaadoor", sum := "b3317ed4636d82d91f688ca3a1551a2e3297faa1d6d116e212f3bc1c2ff85700", func := "passim/passimlaw32.ChooseBounds", spec := "chooseBounds", unfollowed := true, recurses := true, named := ["passim/choose.none"], apart := false, laid := [("passim/choose.none", laid_passim_choose_none)] }
def ChooseBoundsSaid : Prop := chooseBoundsRow.holds Tryd.pinned (OpenSpec.ofChange chooseBoundsSpec)

/-- ITS FALSE NEIGHBOUR: 'it returns false'. Refute it at one input. -/
def chooseBoundsWrong : ChangeSpec := { name := "chooseBounds", fn := fun _ => fun
  | [d1, d2, d3, d4, d5, d6, d7, d8, d9] => { results := [.lit (.bool false)], args := [d1, d2, d3, d4, d5, d6, d7, d8, d9] }
  | _ => none }
def ChooseBoundsWrongFalsely : Prop := chooseBoundsRow.holds Tryd.pinned (OpenSpec.ofChange chooseBoundsWrong)

/-- 'passimlaw32.ChooseMore': WHATEVER THE INPUT: true; the input reads as it did. -/
def chooseMoreSpec : ChangeSpec := { name := "chooseMore", fn := fun _ => fun
  | [d1, d2, d3, d4, d5] => { results := [.lit (.bool true)], args := [d1, d2, d3, d4, d5] }
  | _ => none }
def chooseMoreRow : OpenClaim := { program := "ythcfjdkflmkhbaadoor", sum := "b3317ed4636d82d91f688ca3a1551a2e3297faa1d6d116e212f3bc1c2ff85700", func := "passim/passimlaw32.ChooseMore", spec := "chooseMore", unfollowed := true, recurses := true, named := ["passim/choose.none"], apart := false, laid := [("passim/choose.none", laid_passim_choose_none)] }
def ChooseMoreSaid : Prop := chooseMoreRow.holds Tryd.pinned (OpenSpec.ofChange chooseMoreSpec)

/-- ITS FALSE NEIGHBOUR: 'it returns false'. Refute it at one input. -/
def chooseMoreWrong : ChangeSpec := { name := "chooseMore", fn := fun _ => fun
  | [d1, d2, d3, d4, d5] => { results := [.lit (.bool false)], args := [d1, d2, d3, d4, d5] }
  | _ => none }
def ChooseMoreWrongFalsely : Prop := chooseMoreRow.holds Tryd.pinned (OpenSpec.ofChange chooseMoreWrong)

/-- 'passimlaw32.ChooseTight': WHATEVER THE INPUT: true; the input reads as it did. -/
def chooseTightSpec : ChangeSpec := { name := "chooseTight", fn := fun _ => fun
  | [d1, d2, d3, d4] => { results := [.lit (.bool true)], args := [d1, d2, d3, d4] }
  | _ => none }
def chooseTightRow : OpenClaim := { program := "ythcfjdkflmkhbaadoor", sum := "b3317ed4636d82d91f688ca3a1551a2e3297faa1d6d116e212f3bc1c2ff85700", func := "passim/passimlaw32.ChooseTight", spec := "chooseTight", unfollowed := true, recurses := true, named := ["passim/choose.none"], apart := false, laid := [("passim/choose.none", laid_passim_choose_none)] }
def ChooseTightSaid : Prop := chooseTightRow.holds Tryd.pinned (OpenSpec.ofChange chooseTightSpec)

/-- ITS FALSE NEIGHBOUR: 'it returns false'. Refute it at one input. -/
def chooseTightWrong : ChangeSpec := { name := "chooseTight", fn := fun _ => fun
  | [d1, d2, d3, d4] => { results := [.lit (.bool false)], args := [d1, d2, d3, d4] }
  | _ => none }
def ChooseTightWrongFalsely : Prop := chooseTightRow.holds Tryd.pinned (OpenSpec.ofChange chooseTightWrong)

/-- 'passimlaw32.ChooseScaled': WHATEVER THE INPUT: true; the input reads as it did. -/
def chooseScaledSpec : ChangeSpec := { name := "chooseScaled", fn := fun _ => fun
  | [d1, d2] => { results := [.lit (.bool true)], args := [d1, d2] }
  | _ => none }
def chooseScaledRow : OpenClaim := { program := "ythcfjdkflmkhbaadoor", sum := "b3317ed4636d82d91f688ca3a1551a2e3297faa1d6d116e212f3bc1c2ff85700", func := "passim/passimlaw32.ChooseScaled", spec := "chooseScaled", unfollowed := true, recurses := true, named := ["passim/choose.none"], apart := false, laid := [("passim/choose.none", laid_passim_choose_none)] }
def ChooseScaledSaid : Prop := chooseScaledRow.holds Tryd.pinned (OpenSpec.ofChange chooseScaledSpec)

/-- ITS FALSE NEIGHBOUR: 'it returns false'. Refute it at one input. -/
def chooseScaledWrong : ChangeSpec := { name := "chooseScaled", fn := fun _ => fun
  | [d1, d2] => { results := [.lit (.bool false)], args := [d1, d2] }
  | _ => none }
def ChooseScaledWrongFalsely : Prop := chooseScaledRow.holds Tryd.pinned (OpenSpec.ofChange chooseScaledWrong)

/-- 'passimlaw32.ChooseBest': WHATEVER THE INPUT: true; the input reads as it did. -/
def chooseBestSpec : ChangeSpec := { name := "chooseBest", fn := fun _ => fun
  | [d1, d2, d3, d4, d5, d6] => { results := [.lit (.bool true)], args := [d1, d2, d3, d4, d5, d6] }
  | _ => none }
def chooseBestRow : OpenClaim := { program := "ythcfjdkflmkhbaadoor", sum := "b3317ed4636d82d91f688ca3a1551a2e3297faa1d6d116e212f3bc1c2ff85700", func := "passim/passimlaw32.ChooseBest", spec := "chooseBest", unfollowed := true, recurses := true, named := ["passim/choose.none"], apart := false, laid := [("passim/choose.none", laid_passim_choose_none)] }
def ChooseBestSaid : Prop := chooseBestRow.holds Tryd.pinned (OpenSpec.ofChange chooseBestSpec)

/-- ITS FALSE NEIGHBOUR: 'it returns false'. Refute it at one input. -/
def chooseBestWrong : ChangeSpec := { name := "chooseBest", fn := fun _ => fun
  | [d1, d2, d3, d4, d5, d6] => { results := [.lit (.bool false)], args := [d1, d2, d3, d4, d5, d6] }
  | _ => none }
def ChooseBestWrongFalsely : Prop := chooseBestRow.holds Tryd.pinned (OpenSpec.ofChange chooseBestWrong)

/-- 'passimlaw32.ChooseBounded': WHATEVER THE INPUT: true; the input reads as it did. -/
def chooseBoundedSpec : ChangeSpec := { name := "chooseBounded", fn := fun _ => fun
  | [d1, d2, d3, d4] => { results := [.lit (.bool true)], args := [d1, d2, d3, d4] }
  | _ => none }
def chooseBoundedRow : OpenClaim := { program := "ythcfjdkflmkhbaadoor", sum := "b3317ed4636d82d91f688ca3a1551a2e3297faa1d6d116e212f3bc1c2ff85700", func := "passim/passimlaw32.ChooseBounded", spec := "chooseBounded", unfollowed := true, recurses := true, named := ["passim/choose.none"], apart := false, laid := [("passim/choose.none", laid_passim_choose_none)] }
def ChooseBoundedSaid : Prop := chooseBoundedRow.holds Tryd.pinned (OpenSpec.ofChange chooseBoundedSpec)

/-- ITS FALSE NEIGHBOUR: 'it returns false'. Refute it at one input. -/
def chooseBoundedWrong : ChangeSpec := { name := "chooseBounded", fn := fun _ => fun
  | [d1, d2, d3, d4] => { results := [.lit (.bool false)], args := [d1, d2, d3, d4] }
  | _ => none }
def ChooseBoundedWrongFalsely : Prop := chooseBoundedRow.holds Tryd.pinned (OpenSpec.ofChange chooseBoundedWrong)

/- THE SECOND FORM. 'bulk': how many values and letters a reading holds, each counted each time it is reached (what is shared counts as often as it is met; a slice's spare places count too). A statement '..UptoSaid' is the law's where the arguments, and the package variables that the reading takes, are together of bulk at most 1048576: NARROWER than '..Said'. Prove '..Said' where nothing that the law and all that it calls make is longer than what came in: it says more and counts as full. Else prove '..UptoSaid'. A law counts once. -/
mutual
def uptoBulk {H : Type} : DataW H → Nat
  | .lit (.string bytes) => bytes.length + 1
  | .lit _ => 1
  | .nil => 1
  | .ptr d => uptoBulk d + 1
  | .slice elems spare => uptoBulkAll elems + uptoBulkAll spare + 1
  | .agg parts => uptoBulkAll parts + 1
  | .iface _ d => uptoBulk d + 1
  | .map entries => uptoBulkEntries entries + 1
  | .held _ => 1
def uptoBulkAll {H : Type} : List (DataW H) → Nat
  | [] => 0
  | d :: r => uptoBulk d + uptoBulkAll r
def uptoBulkEntries {H : Type} : List (Lit × DataW H) → Nat
  | [] => 0
  | x :: r => uptoBulkEntry x + uptoBulkEntries r
def uptoBulkEntry {H : Type} : Lit × DataW H → Nat
  | (.string bytes, d) => bytes.length + uptoBulk d + 1
  | (_, d) => uptoBulk d + 1
 end
def uptoSmall : (H : Type) → List (DataW H) → Bool := fun _ ds => decide (uptoBulkAll ds ≤ 1048576)
def OpenSpec.upto (s : _root_.Go.ChangeSpec) : _root_.Go.OpenSpec := { _root_.Go.OpenSpec.ofChange s with cond := some uptoSmall }

/-- 'passimlaw32.ChooseCosts', WHERE WHAT IT READS IS OF BULK AT MOST 1048576: true; the input reads as it did. -/
def chooseCostsUptoRow : OpenClaim := { program := "ythcfjdkflmkhbaadoor", sum := "b3317ed4636d82d91f688ca3a1551a2e3297faa1d6d116e212f3bc1c2ff85700", func := "passim/passimlaw32.ChooseCosts", spec := "chooseCosts", unfollowed := true, recurses := true, named := ["passim/choose.none"], apart := false, laid := [("passim/choose.none", laid_passim_choose_none)], narrowed := true }
def ChooseCostsUptoSaid : Prop := chooseCostsUptoRow.holds Tryd.pinned (OpenSpec.upto chooseCostsSpec)

/-- 'passimlaw32.ChooseBounds', WHERE WHAT IT READS IS OF BULK AT MOST 1048576: true; the input reads as it did. -/
def chooseBoundsUptoRow : OpenClaim := { program := "ythcfjdkflmkhbaadoor", sum := "b3317ed4636d82d91f688ca3a1551a2e3297faa1d6d116e212f3bc1c2ff85700", func := "passim/passimlaw32.ChooseBounds", spec := "chooseBounds", unfollowed := true, recurses := true, named := ["passim/choose.none"], apart := false, laid := [("passim/choose.none", laid_passim_choose_none)], narrowed := true }
def ChooseBoundsUptoSaid : Prop := chooseBoundsUptoRow.holds Tryd.pinned (OpenSpec.upto chooseBoundsSpec)

/-- 'passimlaw32.ChooseMore', WHERE WHAT IT READS IS OF BULK AT MOST 1048576: true; the input reads as it did. -/
def chooseMoreUptoRow : OpenClaim := { program := "ythcfjdkflmkhbaadoor", sum := "b3317ed4636d82d91f688ca3a1551a2e3297faa1d6d116e212f3bc1c2ff85700", func := "passim/passimlaw32.ChooseMore", spec := "chooseMore", unfollowed := true, recurses := true, named := ["passim/choose.none"], apart := false, laid := [("passim/choose.none", laid_passim_choose_none)], narrowed := true }
def ChooseMoreUptoSaid : Prop := chooseMoreUptoRow.holds Tryd.pinned (OpenSpec.upto chooseMoreSpec)

/-- 'passimlaw32.ChooseTight', WHERE WHAT IT READS IS OF BULK AT MOST 1048576: true; the input reads as it did. -/
def chooseTightUptoRow : OpenClaim := { program := "ythcfjdkflmkhbaadoor", sum := "b3317ed4636d82d91f688ca3a1551a2e3297faa1d6d116e212f3bc1c2ff85700", func := "passim/passimlaw32.ChooseTight", spec := "chooseTight", unfollowed := true, recurses := true, named := ["passim/choose.none"], apart := false, laid := [("passim/choose.none", laid_passim_choose_none)], narrowed := true }
def ChooseTightUptoSaid : Prop := chooseTightUptoRow.holds Tryd.pinned (OpenSpec.upto chooseTightSpec)

/-- 'passimlaw32.ChooseScaled', WHERE WHAT IT READS IS OF BULK AT MOST 1048576: true; the input reads as it did. -/
def chooseScaledUptoRow : OpenClaim := { program := "ythcfjdkflmkhbaadoor", sum := "b3317ed4636d82d91f688ca3a1551a2e3297faa1d6d116e212f3bc1c2ff85700", func := "passim/passimlaw32.ChooseScaled", spec := "chooseScaled", unfollowed := true, recurses := true, named := ["passim/choose.none"], apart := false, laid := [("passim/choose.none", laid_passim_choose_none)], narrowed := true }
def ChooseScaledUptoSaid : Prop := chooseScaledUptoRow.holds Tryd.pinned (OpenSpec.upto chooseScaledSpec)

/-- 'passimlaw32.ChooseBest', WHERE WHAT IT READS IS OF BULK AT MOST 1048576: true; the input reads as it did. -/
def chooseBestUptoRow : OpenClaim := { program := "ythcfjdkflmkhbaadoor", sum := "b3317ed4636d82d91f688ca3a1551a2e3297faa1d6d116e212f3bc1c2ff85700", func := "passim/passimlaw32.ChooseBest", spec := "chooseBest", unfollowed := true, recurses := true, named := ["passim/choose.none"], apart := false, laid := [("passim/choose.none", laid_passim_choose_none)], narrowed := true }
def ChooseBestUptoSaid : Prop := chooseBestUptoRow.holds Tryd.pinned (OpenSpec.upto chooseBestSpec)

/-- 'passimlaw32.ChooseBounded', WHERE WHAT IT READS IS OF BULK AT MOST 1048576: true; the input reads as it did. -/
def chooseBoundedUptoRow : OpenClaim := { program := "ythcfjdkflmkhbaadoor", sum := "b3317ed4636d82d91f688ca3a1551a2e3297faa1d6d116e212f3bc1c2ff85700", func := "passim/passimlaw32.ChooseBounded", spec := "chooseBounded", unfollowed := true, recurses := true, named := ["passim/choose.none"], apart := false, laid := [("passim/choose.none", laid_passim_choose_none)], narrowed := true }
def ChooseBoundedUptoSaid : Prop := chooseBoundedUptoRow.holds Tryd.pinned (OpenSpec.upto chooseBoundedSpec)

end Rows
end Go.Proofs.YthcfjdkflmkhbaaDoor
