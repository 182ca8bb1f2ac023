/- ChooseMore: the card. -/
import Derived.Test.YthcfjdkflmkhbaaDoorHP31
set_option linter.all false
namespace Go.Proofs.YthcfjdkflmkhbaaDoor
open Go.Av Go.ChangeShapes Go.WideShapes Go.ChangeAt Go.RowKit

set_option maxRecDepth 100000 in
theorem contractM6 (H : Type) (enc : TypeId × Value → H) (W : World) (base : Nat) (args : Array Value) (ds gs : List (DataW H)) (before : List MemPlace)
    (hval : ∀ (j : Nat) t v, Tryd.f5.params[j]? = some t → args[j]? = some v → Value.okWide Tryd.prog W .any base t v)
    (hW : DataW.Whole enc Tryd.prog Tryd.f5.params.toList Rows.chooseMoreSpec.vars false W args.toList ds gs before) (hL : laidMetH Tryd.prog Rows.chooseMoreRow.laid W) :
    Calls Tryd.prog 5 args W fun e W' => ∃ v, e = .returned v ∧ Rows.chooseMoreSpec.post enc Tryd.prog Tryd.f5 false true false false W args v W' := by
  have hW' := hW
  obtain ⟨p, q, hA0, hV, hpq, hfz, hnd⟩ := hW
  have hA : DataW.TrodAll enc Tryd.prog W 0 (fun _ => true) true Tryd.f5.params.toList args.toList ds p := hA0
  rw [Tryd.params5] at hA hval
  obtain ⟨v0, vs0, d0, ds0, p0, q0, ha0, rfl, -, h0, hA⟩ := trodAll_cons hA
  obtain ⟨v1, vs1, d1, ds1, p1, q1, rfl, rfl, -, h1, hA⟩ := trodAll_cons hA
  obtain ⟨v2, vs2, d2, ds2, p2, q2, rfl, rfl, -, h2, hA⟩ := trodAll_cons hA
  obtain ⟨v3, vs3, d3, ds3, p3, q3, rfl, rfl, -, h3, hA⟩ := trodAll_cons hA
  obtain ⟨v4, vs4, d4, ds4, p4, q4, rfl, rfl, -, h4, hA⟩ := trodAll_cons hA
  obtain ⟨rfl, rfl, -⟩ := trodAll_nil hA
  obtain rfl : args = #[v0, v1, v2, v3, v4] := by cases args; exact congrArg Array.mk ha0
  obtain ⟨rfl, -⟩ := trodVars_none hV
  have e0 := hval 0 22 v0 (by simp) (by simp)
  have e1 := hval 1 3 v1 (by simp) (by simp)
  have e2 := hval 2 3 v2 (by simp) (by simp)
  have e3 := hval 3 3 v3 (by simp) (by simp)
  have e4 := hval 4 3 v4 (by simp) (by simp)
  obtain ⟨a0, b0, r0⟩ := ints_in Tryd.underlying22 Tryd.underlying3 cells3 e0 h0
  obtain ⟨a1, rfl, -, -, w1⟩ := open_int Tryd.underlying3 e1 h1
  have b1 := wf_i64 w1
  obtain ⟨a2, rfl, -, -, w2⟩ := open_int Tryd.underlying3 e2 h2
  have b2 := wf_i64 w2
  obtain ⟨a3, rfl, -, -, w3⟩ := open_int Tryd.underlying3 e3 h3
  have b3 := wf_i64 w3
  obtain ⟨a4, rfl, -, -, w4⟩ := open_int Tryd.underlying3 e4 h4
  have b4 := wf_i64 w4
  have hg := (more_ok a0 a1 a2 a3 a4 b0 b1 b2 b3 b4).2 W (Old W) #[v0, .int .i64 a1, .int .i64 a2, .int .i64 a3, .int .i64 a4] (fun b i h => h) (gok hL)
    (by simp only [RepV]; exact ⟨_, _, rfl, r0, _, _, rfl, by simp [RepX], _, _, rfl, by simp [RepX], _, _, rfl, by simp [RepX], _, _, rfl, by simp [RepX], rfl⟩)
  refine hg.mono fun e W' h => ?_
  obtain ⟨v, rfl, hx, hv⟩ := h
  simp only [RetRep, RepX] at hv
  subst hv
  have w22 : Tryd.prog.readableRec 22 = true ∧ 22 < Tryd.prog.types.size := ⟨by kernel_rfl, of_decide_eq_true (by kernel_rfl)⟩
  have w3 : Tryd.prog.readableRec 3 = true ∧ 3 < Tryd.prog.types.size := ⟨by kernel_rfl, of_decide_eq_true (by kernel_rfl)⟩
  have w23 : Tryd.prog.readableRec 23 = true ∧ 23 < Tryd.prog.types.size := ⟨by kernel_rfl, of_decide_eq_true (by kernel_rfl)⟩
  have hrd : ∀ t ∈ Tryd.f5.params.toList, Tryd.prog.readableRec t = true ∧ t < Tryd.prog.types.size := by
    rw [Tryd.params5]
    simp only [List.forall_mem_cons]
    exact ⟨w22, w3, w3, w3, w3, by simp⟩
  exact ⟨_, rfl, post_of_ext laidB hrd (tb := 4) (by kernel_rfl) Tryd.underlying4 rfl rfl hW' hx⟩

def zargsM6 : Array Value := #[.slice none 0 0, .int .i64 0, .int .i64 0, .int .i64 0, .int .i64 0]
/-- A world for the witness. -/
noncomputable def laidWorldM6 (os : Os) : World :=
  { World.holding Tryd.prog os ⟨#[], #[], []⟩ with heap := (World.holding Tryd.prog os ⟨#[], #[], []⟩).heap.modify 0 fun
      | .cells _ t frozen => .cells #[.int .i64 (-1), .int .i64 (-1)] t frozen
      | o => o }
theorem laid_metM6 (os : Os) : laidMet Tryd.prog Rows.chooseMoreRow.laid ((laidWorldM6 os).forCall (fun _ _ => 0) ⟨#[], zargsM6, []⟩).memory :=
  laidMet_of_run' 8 (by kernel_rfl) (by kernel_rfl)
theorem readsM6 (os : Os) {H : Type} (enc : TypeId × Value → H) : ∃ places, DataW.whole enc Tryd.prog ((laidWorldM6 os).forCall (fun _ _ => 0) ⟨#[], zargsM6, []⟩).memory Tryd.f5.params.toList Rows.chooseMoreSpec.vars false zargsM6.toList 8 = some ([.nil, .lit (.int .i64 0), .lit (.int .i64 0), .lit (.int .i64 0), .lit (.int .i64 0)], [], places) :=
  ⟨[], by kernel_rfl⟩

set_option maxRecDepth 100000 in
theorem liftedM6 (os : Os) (started : os.Started) (H : Type) (enc : TypeId × Value → H) (F : Stop.Interp) :
    ReturnsInHanded {} Tryd.checked os 5 .any ((OpenSpec.ofChange Rows.chooseMoreSpec).preRow enc Tryd.prog Tryd.f5 Rows.chooseMoreRow.domain false Rows.chooseMoreRow.laid) (((OpenSpec.ofChange Rows.chooseMoreSpec).at F).post enc Tryd.prog Tryd.f5 false true false false) := by
  obtain ⟨places, hx⟩ := readsM6 os enc
  refine returnsInHanded_of_row (C := Tryd.checked) (s := OpenSpec.ofChange Rows.chooseMoreSpec) ownG started (by kernel_rfl) Tryd.func5
    (witness_row_at (enc := enc) (C := Tryd.checked) false (laidWorldM6 os) zargsM6 rfl (by kernel_rfl) (by kernel_rfl) (by kernel_rfl)
      (OpenSpec.preRow_of_cond 8 hx (by kernel_rfl) (fun k hk => by cases hk) (by kernel_rfl) (laid_metM6 os))) ?_
  intro W base args ds gs before hval hW _ _ _ hL _ _
  exact contractM6 H enc W base args ds gs before hval hW hL

theorem saidM6 : Rows.ChooseMoreSaid :=
  OpenClaim.holds_of_cond 5 Tryd.f5 rfl rfl rfl rfl rfl rfl rfl ⟨rfl, rfl, rfl, rfl, rfl⟩ rfl rfl rfl rfl rfl (by kernel_rfl) Tryd.func5 (by kernel_rfl)
    (of_decide_eq_true (by kernel_rfl)) (by unfold Func.isWrapper; first | (rw [if_pos (by decide +kernel)]; kernel_rfl) | (rw [if_neg (by decide +kernel)]; exact ⟨rfl, rfl⟩))
    (fun os started H enc _ F => by rw [OpenClaim.pre_eq_preRow]; exact liftedM6 os started H enc F)

set_option maxRecDepth 100000 in
theorem plainM6 (f : FuncId) (fn : Func) (hf : Tryd.pinned.checked.prog.funcNamed "passim/passimlaw32.ChooseMore" = some f) (hfn : Tryd.pinned.checked.prog.funcs[f]? = some fn) :
    false = Tryd.pinned.checked.prog.looks [] ∧ ∀ (j : Nat) t, fn.params[j]? = some t → Tryd.pinned.checked.prog.wantsStandIn t = false := by
  obtain rfl : f = 5 := Option.some.inj ((show Tryd.prog.funcNamed "passim/passimlaw32.ChooseMore" = some 5 by kernel_rfl).symm.trans hf) |>.symm
  obtain rfl : fn = Tryd.f5 := (Option.some.inj (Tryd.func5.symm.trans hfn)).symm
  refine ⟨by kernel_rfl, fun j t ht => ?_⟩
  rw [Tryd.params5] at ht
  have w22 : Tryd.prog.wantsStandIn 22 = false := by kernel_rfl
  have w3 : Tryd.prog.wantsStandIn 3 = false := by kernel_rfl
  have w23 : Tryd.prog.wantsStandIn 23 = false := by kernel_rfl
  have hall : ∀ t ∈ ([22, 3, 3, 3, 3] : List TypeId), Tryd.prog.wantsStandIn t = false := by
    simp only [List.forall_mem_cons]
    exact ⟨w22, w3, w3, w3, w3, by simp⟩
  exact hall t (by have := Array.mem_of_getElem? ht; simpa using this)

/-- The card. -/
theorem chooseMoreCard : Rows.ChooseMoreCardSaid :=
  Claim7.holds_tied_plain_at .later [] _ _ _ _ saidM6 (fun _ h => by cases h) (by kernel_rfl) (fun _ h => by cases h) chooseMore_row_tie rfl ⟨rfl, rfl⟩ (by kernel_rfl) rfl plainM6 (by kernel_rfl)

end Go.Proofs.YthcfjdkflmkhbaaDoor

