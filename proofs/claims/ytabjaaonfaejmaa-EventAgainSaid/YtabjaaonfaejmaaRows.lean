/-
  No cell of these rows narrows 'for every input' (looked for: loops, veiled, ifaces, maps, wideKeys, modest, calm, conditions, laid).
  DERIVED. THE GIVEN ROWS OF THIS SEAT. 5 by the template 'for every input the law returns true; each argument reads behind the call as it read before'; 0 by the template 'total and deterministic' (their statements: YtabjaaonfaejmaaTotals.lean).
  GIVEN WITH THE SEED: the statements are not yours to turn. If you find one false, say at which input.
  Laid BY PROGRAM, IN A SANDBOX (cutbox-rows.mjs): the forced cells as the released guide's own fill.sh prints them over the translation 1a329f00b53d3935… (all of the seat's roots in one cut). By AI agents, Wed Nov 11 2026. No macro, syntax, notation, axiom, sorry.
-/
import Derived.Test.YtabjaaonfaejmaaChecked
import GoSem.Claim
import GoSem.ClaimJoined
import GoSem.ClaimMapViews
import Derived.JoinedTies
import Derived.KernelRfl
namespace Go.Proofs.Ytabjaaonfaejmaa
/- THE CELL 'sum', in the pinned program and in every row, IS THE sha256 OF THE DUMP (.gsa) THAT YtabjaaonfaejmaaProg.lean LOADS. Nothing in Lean hashes anything: it is a label: what it is worth is what the hold of that sum in a sandbox is worth. -/
noncomputable def Try.pinned : Pinned := { name := "ytabjaaonfaejmaa", sum := "1a329f00b53d39352808c6f10965434faa5482167132a55bdd2054527d5706f1", checked := Try.checked }
namespace Rows
def none {H : Type} : Left H := { results := [], args := [] }

/-- 'passimlaw10.EventValid': WHATEVER THE INPUT: true; the input reads as it did. -/
def eventValidSpec : ChangeSpec := { name := "eventValid", fn := fun _ => fun
  | [d1, d2, d3, d4, d5] => { results := [.lit (.bool true)], args := [d1, d2, d3, d4, d5] }
  | _ => none }
def eventValidRow : OpenClaim := { program := "ytabjaaonfaejmaa", sum := "1a329f00b53d39352808c6f10965434faa5482167132a55bdd2054527d5706f1", func := "passim/passimlaw10.EventValid", spec := "eventValid", inPlace := ["internal/bytealg.IndexByteString", "internal/bytealg.IndexString"], unfollowed := true, recurses := true, named := ["internal/bytealg.MaxLen"], plainKeys := false, apart := false }
def EventValidSaid : Prop := eventValidRow.holds Try.pinned (OpenSpec.ofChange eventValidSpec)

/-- ITS FALSE NEIGHBOUR: 'it returns false'. Refute it at one input. -/
def eventValidWrong : ChangeSpec := { name := "eventValid", fn := fun _ => fun
  | [d1, d2, d3, d4, d5] => { results := [.lit (.bool false)], args := [d1, d2, d3, d4, d5] }
  | _ => none }
def EventValidWrongFalsely : Prop := eventValidRow.holds Try.pinned (OpenSpec.ofChange eventValidWrong)

/-- 'passimlaw10.EventClosed': WHATEVER THE INPUT: true; the input reads as it did. -/
def eventClosedSpec : ChangeSpec := { name := "eventClosed", fn := fun _ => fun
  | [d1, d2, d3, d4, d5] => { results := [.lit (.bool true)], args := [d1, d2, d3, d4, d5] }
  | _ => none }
def eventClosedRow : OpenClaim := { program := "ytabjaaonfaejmaa", sum := "1a329f00b53d39352808c6f10965434faa5482167132a55bdd2054527d5706f1", func := "passim/passimlaw10.EventClosed", spec := "eventClosed", inPlace := ["internal/bytealg.IndexByteString", "internal/bytealg.IndexString"], unfollowed := true, recurses := true, named := ["internal/bytealg.MaxLen"], plainKeys := false, apart := false }
def EventClosedSaid : Prop := eventClosedRow.holds Try.pinned (OpenSpec.ofChange eventClosedSpec)

/-- ITS FALSE NEIGHBOUR: 'it returns false'. Refute it at one input. -/
def eventClosedWrong : ChangeSpec := { name := "eventClosed", fn := fun _ => fun
  | [d1, d2, d3, d4, d5] => { results := [.lit (.bool false)], args := [d1, d2, d3, d4, d5] }
  | _ => none }
def EventClosedWrongFalsely : Prop := eventClosedRow.holds Try.pinned (OpenSpec.ofChange eventClosedWrong)

/-- 'passimlaw10.EventBeginnings': WHATEVER THE INPUT: true; the input reads as it did. -/
def eventBeginningsSpec : ChangeSpec := { name := "eventBeginnings", fn := fun _ => fun
  | [d1, d2, d3] => { results := [.lit (.bool true)], args := [d1, d2, d3] }
  | _ => none }
def eventBeginningsRow : OpenClaim := { program := "ytabjaaonfaejmaa", sum := "1a329f00b53d39352808c6f10965434faa5482167132a55bdd2054527d5706f1", func := "passim/passimlaw10.EventBeginnings", spec := "eventBeginnings", inPlace := ["internal/bytealg.IndexByteString", "internal/bytealg.IndexString"], unfollowed := true, recurses := true, named := ["internal/bytealg.MaxLen"], plainKeys := false, apart := false }
def EventBeginningsSaid : Prop := eventBeginningsRow.holds Try.pinned (OpenSpec.ofChange eventBeginningsSpec)

/-- ITS FALSE NEIGHBOUR: 'it returns false'. Refute it at one input. -/
def eventBeginningsWrong : ChangeSpec := { name := "eventBeginnings", fn := fun _ => fun
  | [d1, d2, d3] => { results := [.lit (.bool false)], args := [d1, d2, d3] }
  | _ => none }
def EventBeginningsWrongFalsely : Prop := eventBeginningsRow.holds Try.pinned (OpenSpec.ofChange eventBeginningsWrong)

/-- 'passimlaw10.EventOrder': WHATEVER THE INPUT: true; the input reads as it did. -/
def eventOrderSpec : ChangeSpec := { name := "eventOrder", fn := fun _ => fun
  | [d1, d2, d3, d4, d5] => { results := [.lit (.bool true)], args := [d1, d2, d3, d4, d5] }
  | _ => none }
def eventOrderRow : OpenClaim := { program := "ytabjaaonfaejmaa", sum := "1a329f00b53d39352808c6f10965434faa5482167132a55bdd2054527d5706f1", func := "passim/passimlaw10.EventOrder", spec := "eventOrder", inPlace := ["internal/bytealg.IndexByteString", "internal/bytealg.IndexString"], unfollowed := true, recurses := true, named := ["internal/bytealg.MaxLen"], plainKeys := false, apart := false }
def EventOrderSaid : Prop := eventOrderRow.holds Try.pinned (OpenSpec.ofChange eventOrderSpec)

/-- ITS FALSE NEIGHBOUR: 'it returns false'. Refute it at one input. -/
def eventOrderWrong : ChangeSpec := { name := "eventOrder", fn := fun _ => fun
  | [d1, d2, d3, d4, d5] => { results := [.lit (.bool false)], args := [d1, d2, d3, d4, d5] }
  | _ => none }
def EventOrderWrongFalsely : Prop := eventOrderRow.holds Try.pinned (OpenSpec.ofChange eventOrderWrong)

/-- 'passimlaw10.EventAgain': WHATEVER THE INPUT: true; the input reads as it did. -/
def eventAgainSpec : ChangeSpec := { name := "eventAgain", fn := fun _ => fun
  | [d1, d2, d3, d4, d5] => { results := [.lit (.bool true)], args := [d1, d2, d3, d4, d5] }
  | _ => none }
def eventAgainRow : OpenClaim := { program := "ytabjaaonfaejmaa", sum := "1a329f00b53d39352808c6f10965434faa5482167132a55bdd2054527d5706f1", func := "passim/passimlaw10.EventAgain", spec := "eventAgain", inPlace := ["internal/bytealg.IndexByteString", "internal/bytealg.IndexString"], unfollowed := true, recurses := true, named := ["internal/bytealg.MaxLen"], plainKeys := false, apart := false }
def EventAgainSaid : Prop := eventAgainRow.holds Try.pinned (OpenSpec.ofChange eventAgainSpec)

/-- ITS FALSE NEIGHBOUR: 'it returns false'. Refute it at one input. -/
def eventAgainWrong : ChangeSpec := { name := "eventAgain", fn := fun _ => fun
  | [d1, d2, d3, d4, d5] => { results := [.lit (.bool false)], args := [d1, d2, d3, d4, d5] }
  | _ => none }
def EventAgainWrongFalsely : Prop := eventAgainRow.holds Try.pinned (OpenSpec.ofChange eventAgainWrong)

/- THE SECOND FORM. 'bulk': how many values and letters a reading holds, each counted each time it is reached (what is shared counts as often as it is met; a slice's spare places count too). A statement '..UptoSaid' is the law's where the arguments, and the package variables that the reading takes, are together of bulk at most 1048576: NARROWER than '..Said'. Prove '..Said' where nothing that the law and all that it calls make is longer than what came in: it says more and counts as full. Else prove '..UptoSaid'. A law counts once. -/
mutual
def uptoBulk {H : Type} : DataW H → Nat
  | .lit (.string bytes) => bytes.length + 1
  | .lit _ => 1
  | .nil => 1
  | .ptr d => uptoBulk d + 1
  | .slice elems spare => uptoBulkAll elems + uptoBulkAll spare + 1
  | .agg parts => uptoBulkAll parts + 1
  | .iface _ d => uptoBulk d + 1
  | .map entries => uptoBulkEntries entries + 1
  | .held _ => 1
def uptoBulkAll {H : Type} : List (DataW H) → Nat
  | [] => 0
  | d :: r => uptoBulk d + uptoBulkAll r
def uptoBulkEntries {H : Type} : List (Lit × DataW H) → Nat
  | [] => 0
  | x :: r => uptoBulkEntry x + uptoBulkEntries r
def uptoBulkEntry {H : Type} : Lit × DataW H → Nat
  | (.string bytes, d) => bytes.length + uptoBulk d + 1
  | (_, d) => uptoBulk d + 1
 end
def uptoSmall : (H : Type) → List (DataW H) → Bool := fun _ ds => decide (uptoBulkAll ds ≤ 1048576)
def OpenSpec.upto (s : _root_.Go.ChangeSpec) : _root_.Go.OpenSpec := { _root_.Go.OpenSpec.ofChange s with cond := some uptoSmall }

/-- 'passimlaw10.EventValid', WHERE WHAT IT READS IS OF BULK AT MOST 1048576: true; the input reads as it did. -/
def eventValidUptoRow : OpenClaim := { program := "ytabjaaonfaejmaa", sum := "1a329f00b53d39352808c6f10965434faa5482167132a55bdd2054527d5706f1", func := "passim/passimlaw10.EventValid", spec := "eventValid", inPlace := ["internal/bytealg.IndexByteString", "internal/bytealg.IndexString"], unfollowed := true, recurses := true, named := ["internal/bytealg.MaxLen"], plainKeys := false, apart := false, narrowed := true }
def EventValidUptoSaid : Prop := eventValidUptoRow.holds Try.pinned (OpenSpec.upto eventValidSpec)

/-- 'passimlaw10.EventClosed', WHERE WHAT IT READS IS OF BULK AT MOST 1048576: true; the input reads as it did. -/
def eventClosedUptoRow : OpenClaim := { program := "ytabjaaonfaejmaa", sum := "1a329f00b53d39352808c6f10965434faa5482167132a55bdd2054527d5706f1", func := "passim/passimlaw10.EventClosed", spec := "eventClosed", inPlace := ["internal/bytealg.IndexByteString", "internal/bytealg.IndexString"], unfollowed := true, recurses := true, named := ["internal/bytealg.MaxLen"], plainKeys := false, apart := false, narrowed := true }
def EventClosedUptoSaid : Prop := eventClosedUptoRow.holds Try.pinned (OpenSpec.upto eventClosedSpec)

/-- 'passimlaw10.EventBeginnings', WHERE WHAT IT READS IS OF BULK AT MOST 1048576: true; the input reads as it did. -/
def eventBeginningsUptoRow : OpenClaim := { program := "ytabjaaonfaejmaa", sum := "1a329f00b53d39352808c6f10965434faa5482167132a55bdd2054527d5706f1", func := "passim/passimlaw10.EventBeginnings", spec := "eventBeginnings", inPlace := ["internal/bytealg.IndexByteString", "internal/bytealg.IndexString"], unfollowed := true, recurses := true, named := ["internal/bytealg.MaxLen"], plainKeys := false, apart := false, narrowed := true }
def EventBeginningsUptoSaid : Prop := eventBeginningsUptoRow.holds Try.pinned (OpenSpec.upto eventBeginningsSpec)

/-- 'passimlaw10.EventOrder', WHERE WHAT IT READS IS OF BULK AT MOST 1048576: true; the input reads as it did. -/
def eventOrderUptoRow : OpenClaim := { program := "ytabjaaonfaejmaa", sum := "1a329f00b53d39352808c6f10965434faa5482167132a55bdd2054527d5706f1", func := "passim/passimlaw10.EventOrder", spec := "eventOrder", inPlace := ["internal/bytealg.IndexByteString", "internal/bytealg.IndexString"], unfollowed := true, recurses := true, named := ["internal/bytealg.MaxLen"], plainKeys := false, apart := false, narrowed := true }
def EventOrderUptoSaid : Prop := eventOrderUptoRow.holds Try.pinned (OpenSpec.upto eventOrderSpec)

/-- 'passimlaw10.EventAgain', WHERE WHAT IT READS IS OF BULK AT MOST 1048576: true; the input reads as it did. -/
def eventAgainUptoRow : OpenClaim := { program := "ytabjaaonfaejmaa", sum := "1a329f00b53d39352808c6f10965434faa5482167132a55bdd2054527d5706f1", func := "passim/passimlaw10.EventAgain", spec := "eventAgain", inPlace := ["internal/bytealg.IndexByteString", "internal/bytealg.IndexString"], unfollowed := true, recurses := true, named := ["internal/bytealg.MaxLen"], plainKeys := false, apart := false, narrowed := true }
def EventAgainUptoSaid : Prop := eventAgainUptoRow.holds Try.pinned (OpenSpec.upto eventAgainSpec)

end Rows
end Go.Proofs.Ytabjaaonfaejmaa
