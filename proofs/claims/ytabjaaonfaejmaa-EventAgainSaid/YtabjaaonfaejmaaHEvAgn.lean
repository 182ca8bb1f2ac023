/- EventAgain holds for every input: the law returns true, and its arguments read as before. No conditions. -/
import Derived.Test.YtabjaaonfaejmaaHP45
set_option linter.all false
namespace Go.Proofs.Ytabjaaonfaejmaa
open Go.Av Go.ChangeShapes Go.WideShapes Go.ChangeAt Go.RowKit
theorem ownG : ownKnob Try.prog.godebug = none := by kernel_rfl
theorem cells3 : Try.prog.cellsOf 3 = 1 := by kernel_rfl
theorem laidB : laidOutB Try.prog = true := by kernel_rfl
set_option maxRecDepth 100000 in
theorem contract (H : Type) (enc : TypeId × Value → H) (W : World) (base : Nat) (args : Array Value) (ds gs : List (DataW H)) (before : List MemPlace)
    (hval : ∀ (j : Nat) t v, Try.f7.params[j]? = some t → args[j]? = some v → Value.okWide Try.prog W .any base t v)
    (hW : DataW.Whole enc Try.prog Try.f7.params.toList Rows.eventAgainSpec.vars false W args.toList ds gs before) :
    Calls Try.prog 7 args W fun e W' => ∃ v, e = .returned v ∧ Rows.eventAgainSpec.post enc Try.prog Try.f7 false true false false W args v W' := by
  have hW' := hW
  obtain ⟨p, q, hA0, hV, hpq, hfz, hnd⟩ := hW
  have hA : DataW.TrodAll enc Try.prog W 0 (fun _ => true) true Try.f7.params.toList args.toList ds p := hA0
  rw [Try.params7] at hA hval
  obtain ⟨v0, vs0, d0, ds0, p0, q0, ha0, rfl, -, h0, hA⟩ := trodAll_cons hA
  obtain ⟨v1, vs1, d1, ds1, p1, q1, rfl, rfl, -, h1, hA⟩ := trodAll_cons hA
  obtain ⟨v2, vs2, d2, ds2, p2, q2, rfl, rfl, -, h2, hA⟩ := trodAll_cons hA
  obtain ⟨v3, vs3, d3, ds3, p3, q3, rfl, rfl, -, h3, hA⟩ := trodAll_cons hA
  obtain ⟨v4, vs4, d4, ds4, p4, q4, rfl, rfl, -, h4, hA⟩ := trodAll_cons hA
  obtain ⟨rfl, rfl, -⟩ := trodAll_nil hA
  obtain rfl : args = #[v0, v1, v2, v3, v4] := by cases args; exact congrArg Array.mk ha0
  obtain ⟨rfl, -⟩ := trodVars_none hV
  have e0 := hval 0 22 v0 (by simp) (by simp)
  have e1 := hval 1 22 v1 (by simp) (by simp)
  have e2 := hval 2 3 v2 (by simp) (by simp)
  have e3 := hval 3 3 v3 (by simp) (by simp)
  have e4 := hval 4 62 v4 (by simp) (by simp)
  obtain ⟨q, z0, r0⟩ := ints_in Try.underlying22 Try.underlying3 cells3 e0 h0
  obtain ⟨m, z1, r1⟩ := ints_in Try.underlying22 Try.underlying3 cells3 e1 h1
  obtain ⟨how, rfl, -, -, y2⟩ := open_int Try.underlying3 e2 h2
  have z2 := wf_i64 y2
  obtain ⟨b, rfl, -, -, y3⟩ := open_int Try.underlying3 e3 h3
  have z3 := wf_i64 y3
  obtain ⟨c4, o4, r4, -⟩ := slice_in 2 Try.underlying62 (by kernel_rfl) e4 h4
  obtain ⟨raw, t4, z4⟩ := bytes_of (n := 0) o4
  rw [t4] at r4
  have hg := (again_law [] q m how b raw z0 z1 z2 z3 z4).2 W (Old W) #[v0, v1, .int .i64 how, .int .i64 b, v4] (fun b i h => h) (fun p hp => by simp at hp)
    (by simp only [RepV]; exact ⟨_, _, rfl, r0, _, _, rfl, r1, _, _, rfl, by simp [RepX], _, _, rfl, by simp [RepX], _, _, rfl, r4, rfl⟩)
  refine hg.mono fun e W' h => ?_
  obtain ⟨v, rfl, hx, hv⟩ := h
  simp only [RetRep, RepX] at hv
  subst hv
  exact ⟨_, rfl, post_of_ext laidB (by rw [Try.params7]; intro t ht; simp at ht; rcases ht with rfl | rfl | rfl | rfl | rfl <;> exact ⟨by kernel_rfl, of_decide_eq_true (by kernel_rfl)⟩) (tb := 4) (by kernel_rfl) Try.underlying4 rfl rfl hW' hx⟩
def zargs : Array Value := #[.slice none 0 0, .slice none 0 0, .int .i64 0, .int .i64 0, .slice none 0 0]
noncomputable def zWorld (os : Os) : World := World.holding Try.prog os ⟨#[], #[], []⟩
theorem reads (os : Os) {H : Type} (enc : TypeId × Value → H) : ∃ places, DataW.whole enc Try.prog ((zWorld os).forCall (fun _ _ => 0) ⟨#[], zargs, []⟩).memory Try.f7.params.toList Rows.eventAgainSpec.vars false zargs.toList 8 = some ([.nil, .nil, .lit (.int .i64 0), .lit (.int .i64 0), .nil], [], places) :=
  ⟨[], by kernel_rfl⟩
set_option maxRecDepth 100000 in
theorem lifted (os : Os) (started : os.Started) (H : Type) (enc : TypeId × Value → H) (F : Stop.Interp) :
    ReturnsInHanded {} Try.checked os 7 .any ((OpenSpec.ofChange Rows.eventAgainSpec).preRow enc Try.prog Try.f7 Rows.eventAgainRow.domain false Rows.eventAgainRow.laid) (((OpenSpec.ofChange Rows.eventAgainSpec).at F).post enc Try.prog Try.f7 false true false false) := by
  obtain ⟨places, hx⟩ := reads os enc
  refine returnsInHanded_of_row (C := Try.checked) (s := OpenSpec.ofChange Rows.eventAgainSpec) ownG started (by kernel_rfl) Try.func7
    (witness_row_at (enc := enc) (C := Try.checked) false (zWorld os) zargs rfl (by kernel_rfl) (by kernel_rfl) (by kernel_rfl)
      (OpenSpec.preRow_of_cond 8 hx (by kernel_rfl) (fun k hk => by cases hk) (by kernel_rfl) (laidMet_of_run' 8 (by kernel_rfl) (by kernel_rfl)))) ?_
  intro W base args ds gs before hval hW _ _ _ hL _ _
  exact contract H enc W base args ds gs before hval hW
theorem eventAgain : Rows.EventAgainSaid :=
  OpenClaim.holds_of_cond 7 Try.f7 rfl rfl rfl rfl rfl rfl rfl ⟨rfl, rfl, rfl, rfl, rfl⟩ rfl rfl rfl rfl rfl (by kernel_rfl) Try.func7 (by kernel_rfl)
    (of_decide_eq_true (by kernel_rfl)) (by unfold Func.isWrapper; first | (rw [if_pos (by decide +kernel)]; kernel_rfl) | (rw [if_neg (by decide +kernel)]; exact ⟨rfl, rfl⟩))
    (fun os started H enc _ F => by rw [OpenClaim.pre_eq_preRow]; exact lifted os started H enc F)
end Go.Proofs.Ytabjaaonfaejmaa

