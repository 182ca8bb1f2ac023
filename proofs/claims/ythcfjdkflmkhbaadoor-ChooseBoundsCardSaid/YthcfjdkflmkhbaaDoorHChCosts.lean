/- ChooseCosts: the card. -/
import Derived.Test.YthcfjdkflmkhbaaDoorHCh17
import Derived.Test.YthcfjdkflmkhbaaDoorHChBr
import Derived.Test.YthcfjdkflmkhbaaDoorCards
import Derived.Test.YthcfjdkflmkhbaaDoorTie
set_option linter.all false
namespace Go.Proofs.YthcfjdkflmkhbaaDoor
open Go.Av Go.ChangeShapes Go.WideShapes Go.ChangeAt Go.RowKit

theorem ownG : ownKnob Tryd.prog.godebug = none := by kernel_rfl
theorem gTab : Tryd.prog.globalNamed "passim/choose.none" = some 0 := by kernel_rfl
theorem gTabType : (Tryd.prog.globals[0]?).map (·.type) = some 97 := by kernel_rfl
theorem cells97 : Tryd.prog.cellsOf 97 = 2 := by kernel_rfl
theorem cells84 : Tryd.prog.cellsOf 84 = 4 := by kernel_rfl
theorem cells3 : Tryd.prog.cellsOf 3 = 1 := by kernel_rfl
theorem laidB : laidOutB Tryd.prog = true := by kernel_rfl

/-- What the row's list gives: the variable's cells. -/
theorem gok {W : World} (h : laidMetH Tryd.prog Rows.chooseCostsRow.laid W) : GOK gG W := by
  have ht : Lib.TabIs Tryd.prog W "passim/choose.none" .i64 [-1, -1] := Lib.tabIs_of_head (rest := []) gTab gTabType Tryd.underlying97 Tryd.underlying3 cells3 cells97 h
  have c0 : W.cell? ⟨0, 0, none⟩ = some (.int .i64 (-1)) := ht.cell gTab 0 (by decide)
  have c1 : W.cell? ⟨0, 1, none⟩ = some (.int .i64 (-1)) := ht.cell gTab 1 (by decide)
  intro p hp
  simp only [gG, List.mem_cons, List.not_mem_nil, or_false] at hp
  subst hp
  refine ⟨(cell_spot c0).2, ?_⟩
  simp only [Dat.cells_agg, RepC, Rep1]
  exact ⟨⟨trivial, _, c0, rfl⟩, ⟨trivial, _, c1, rfl⟩, trivial⟩

set_option maxRecDepth 100000 in
theorem contract (H : Type) (enc : TypeId × Value → H) (W : World) (base : Nat) (args : Array Value) (ds gs : List (DataW H)) (before : List MemPlace)
    (hval : ∀ (j : Nat) t v, Tryd.f3.params[j]? = some t → args[j]? = some v → Value.okWide Tryd.prog W .any base t v)
    (hW : DataW.Whole enc Tryd.prog Tryd.f3.params.toList Rows.chooseCostsSpec.vars false W args.toList ds gs before) (hL : laidMetH Tryd.prog Rows.chooseCostsRow.laid W) :
    Calls Tryd.prog 3 args W fun e W' => ∃ v, e = .returned v ∧ Rows.chooseCostsSpec.post enc Tryd.prog Tryd.f3 false true false false W args v W' := by
  have hW' := hW
  obtain ⟨p, q, hA0, hV, hpq, hfz, hnd⟩ := hW
  have hA : DataW.TrodAll enc Tryd.prog W 0 (fun _ => true) true Tryd.f3.params.toList args.toList ds p := hA0
  rw [Tryd.params3] at hA hval
  obtain ⟨v0, vs0, d0, ds0, p0, q0, ha0, rfl, -, h0, hA⟩ := trodAll_cons hA
  obtain ⟨v1, vs1, d1, ds1, p1, q1, rfl, rfl, -, h1, hA⟩ := trodAll_cons hA
  obtain ⟨v2, vs2, d2, ds2, p2, q2, rfl, rfl, -, h2, hA⟩ := trodAll_cons hA
  obtain ⟨v3, vs3, d3, ds3, p3, q3, rfl, rfl, -, h3, hA⟩ := trodAll_cons hA
  obtain ⟨v4, vs4, d4, ds4, p4, q4, rfl, rfl, -, h4, hA⟩ := trodAll_cons hA
  obtain ⟨v5, vs5, d5, ds5, p5, q5, rfl, rfl, -, h5, hA⟩ := trodAll_cons hA
  obtain ⟨v6, vs6, d6, ds6, p6, q6, rfl, rfl, -, h6, hA⟩ := trodAll_cons hA
  obtain ⟨rfl, rfl, -⟩ := trodAll_nil hA
  obtain rfl : args = #[v0, v1, v2, v3, v4, v5, v6] := by cases args; exact congrArg Array.mk ha0
  obtain ⟨rfl, -⟩ := trodVars_none hV
  have e0 := hval 0 22 v0 (by simp) (by simp)
  have e1 := hval 1 3 v1 (by simp) (by simp)
  have e2 := hval 2 3 v2 (by simp) (by simp)
  have e3 := hval 3 23 v3 (by simp) (by simp)
  have e4 := hval 4 22 v4 (by simp) (by simp)
  have e5 := hval 5 3 v5 (by simp) (by simp)
  have e6 := hval 6 22 v6 (by simp) (by simp)
  obtain ⟨l, hl, r0⟩ := ints_in Tryd.underlying22 Tryd.underlying3 cells3 e0 h0
  obtain ⟨how, rfl, -, -, hh⟩ := open_int Tryd.underlying3 e1 h1
  obtain ⟨y, rfl, -, -, hy⟩ := open_int Tryd.underlying3 e2 h2
  obtain ⟨raw, hr, r3⟩ := rows_in Tryd.underlying23 Tryd.underlying84 Tryd.underlying3 cells3 cells84 e3 h3
  obtain ⟨weights, hw, r4⟩ := ints_in Tryd.underlying22 Tryd.underlying3 cells3 e4 h4
  obtain ⟨room, rfl, -, -, hm⟩ := open_int Tryd.underlying3 e5 h5
  obtain ⟨pick, _, r6⟩ := ints_in Tryd.underlying22 Tryd.underlying3 cells3 e6 h6
  have hg := (costs_ok l how y raw weights room pick hl (wf_i64 hh) (wf_i64 hy) hr hw (wf_i64 hm)).2 W (Old W) #[v0, .int .i64 how, .int .i64 y, v3, v4, .int .i64 room, v6] (fun b i h => h) (gok hL)
    (by simp only [RepV]; exact ⟨_, _, rfl, r0, _, _, rfl, by simp [RepX], _, _, rfl, by simp [RepX], _, _, rfl, r3, _, _, rfl, r4, _, _, rfl, by simp [RepX], _, _, rfl, r6, rfl⟩)
  refine hg.mono fun e W' h => ?_
  obtain ⟨v, rfl, hx, hv⟩ := h
  simp only [RetRep, RepX] at hv
  subst hv
  exact ⟨_, rfl, post_of_ext laidB (by rw [Tryd.params3]; intro t ht; simp at ht; rcases ht with rfl | rfl | rfl | rfl | rfl | rfl | rfl <;> exact ⟨by kernel_rfl, of_decide_eq_true (by kernel_rfl)⟩) (tb := 4) (by kernel_rfl) Tryd.underlying4 rfl rfl hW' hx⟩

def zargs : Array Value := #[.slice none 0 0, .int .i64 0, .int .i64 0, .slice none 0 0, .slice none 0 0, .int .i64 0, .slice none 0 0]
/-- A world for the witness: the settled one, the variable holding what its initialiser lays. -/
noncomputable def laidWorld (os : Os) : World :=
  { World.holding Tryd.prog os ⟨#[], #[], []⟩ with heap := (World.holding Tryd.prog os ⟨#[], #[], []⟩).heap.modify 0 fun
      | .cells _ t frozen => .cells #[.int .i64 (-1), .int .i64 (-1)] t frozen
      | o => o }
theorem laid_met (os : Os) : laidMet Tryd.prog Rows.chooseCostsRow.laid ((laidWorld os).forCall (fun _ _ => 0) ⟨#[], zargs, []⟩).memory :=
  laidMet_of_run' 8 (by kernel_rfl) (by kernel_rfl)
theorem reads (os : Os) {H : Type} (enc : TypeId × Value → H) : ∃ places, DataW.whole enc Tryd.prog ((laidWorld os).forCall (fun _ _ => 0) ⟨#[], zargs, []⟩).memory Tryd.f3.params.toList Rows.chooseCostsSpec.vars false zargs.toList 8 = some ([.nil, .lit (.int .i64 0), .lit (.int .i64 0), .nil, .nil, .lit (.int .i64 0), .nil], [], places) :=
  ⟨[], by kernel_rfl⟩

set_option maxRecDepth 100000 in
theorem lifted (os : Os) (started : os.Started) (H : Type) (enc : TypeId × Value → H) (F : Stop.Interp) :
    ReturnsInHanded {} Tryd.checked os 3 .any ((OpenSpec.ofChange Rows.chooseCostsSpec).preRow enc Tryd.prog Tryd.f3 Rows.chooseCostsRow.domain false Rows.chooseCostsRow.laid) (((OpenSpec.ofChange Rows.chooseCostsSpec).at F).post enc Tryd.prog Tryd.f3 false true false false) := by
  obtain ⟨places, hx⟩ := reads os enc
  refine returnsInHanded_of_row (C := Tryd.checked) (s := OpenSpec.ofChange Rows.chooseCostsSpec) ownG started (by kernel_rfl) Tryd.func3
    (witness_row_at (enc := enc) (C := Tryd.checked) false (laidWorld os) zargs rfl (by kernel_rfl) (by kernel_rfl) (by kernel_rfl)
      (OpenSpec.preRow_of_cond 8 hx (by kernel_rfl) (fun k hk => by cases hk) (by kernel_rfl) (laid_met os))) ?_
  intro W base args ds gs before hval hW _ _ _ hL _ _
  exact contract H enc W base args ds gs before hval hW hL

theorem said : Rows.ChooseCostsSaid :=
  OpenClaim.holds_of_cond 3 Tryd.f3 rfl rfl rfl rfl rfl rfl rfl ⟨rfl, rfl, rfl, rfl, rfl⟩ rfl rfl rfl rfl rfl (by kernel_rfl) Tryd.func3 (by kernel_rfl)
    (of_decide_eq_true (by kernel_rfl)) (by unfold Func.isWrapper; first | (rw [if_pos (by decide +kernel)]; kernel_rfl) | (rw [if_neg (by decide +kernel)]; exact ⟨rfl, rfl⟩))
    (fun os started H enc _ F => by rw [OpenClaim.pre_eq_preRow]; exact lifted os started H enc F)

set_option maxRecDepth 100000 in
theorem plainP (f : FuncId) (fn : Func) (hf : Tryd.pinned.checked.prog.funcNamed "passim/passimlaw32.ChooseCosts" = some f) (hfn : Tryd.pinned.checked.prog.funcs[f]? = some fn) :
    false = Tryd.pinned.checked.prog.looks [] ∧ ∀ (j : Nat) t, fn.params[j]? = some t → Tryd.pinned.checked.prog.wantsStandIn t = false := by
  obtain rfl : f = 3 := Option.some.inj ((show Tryd.prog.funcNamed "passim/passimlaw32.ChooseCosts" = some 3 by kernel_rfl).symm.trans hf) |>.symm
  obtain rfl : fn = Tryd.f3 := (Option.some.inj (Tryd.func3.symm.trans hfn)).symm
  refine ⟨by kernel_rfl, fun j t ht => ?_⟩
  rw [Tryd.params3] at ht
  have w22 : Tryd.prog.wantsStandIn 22 = false := by kernel_rfl
  have w3 : Tryd.prog.wantsStandIn 3 = false := by kernel_rfl
  have w23 : Tryd.prog.wantsStandIn 23 = false := by kernel_rfl
  have hm := Array.mem_of_getElem? ht
  simp at hm
  rcases hm with rfl | rfl | rfl | rfl | rfl | rfl <;> first | exact w22 | exact w3 | exact w23

/-- The card. -/
theorem chooseCostsCard : Rows.ChooseCostsCardSaid :=
  Claim7.holds_tied_plain_at .later [] _ _ _ _ said (fun _ h => by cases h) (by kernel_rfl) (fun _ h => by cases h) chooseCosts_row_tie rfl ⟨rfl, rfl⟩ (by kernel_rfl) rfl plainP (by kernel_rfl)

end Go.Proofs.YthcfjdkflmkhbaaDoor

