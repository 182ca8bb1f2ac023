/- ArchiveOrders holds for every input, where the tables of package hash and of the reference hold what the program's text lays: the law returns true, and its arguments read as before. The card ties the tables to the text. -/
import Derived.Test.YtkeopokhnfpgpaaGreatDoorHP43
import Derived.Test.YtkeopokhnfpgpaaGreatDoorHP45
set_option linter.all false
namespace Go.Proofs.YtkeopokhnfpgpaaGreatDoor
open Go.Av Go.ChangeShapes Go.WideShapes Go.ChangeAt Go.RowKit
set_option maxRecDepth 100000 in
theorem zny (H : Type) (enc : TypeId × Value → H) (W : World) (base : Nat) (args : Array Value) (ds gs : List (DataW H)) (before : List MemPlace)
  (hval : ∀ (j : Nat) t v, Tryz.f5.params[j]? = some t → args[j]? = some v → Value.okWide Tryz.prog W .any base t v)
  (hW : DataW.Whole enc Tryz.prog Tryz.f5.params.toList Rows.archiveOrdersSpec.vars false W args.toList ds gs before) (hL : laidMetH Tryz.prog Rows.archiveOrdersRow.laid W) :
  Calls Tryz.prog 5 args W fun e W' => ∃ v, e = .returned v ∧ Rows.archiveOrdersSpec.post enc Tryz.prog Tryz.f5 false true false false W args v W' := by
 have hW' := hW
 obtain ⟨p, q, hA0, hV, hpq, hfz, hnd⟩ := hW
 have hA : DataW.TrodAll enc Tryz.prog W 0 (fun _ => true) true Tryz.f5.params.toList args.toList ds p := hA0
 rw [Tryz.params5] at hA hval
 obtain ⟨v0, vs0, d0, ds0, p0, q0, ha0, rfl, -, h0, hA⟩ := trodAll_cons hA
 obtain ⟨v1, vs1, d1, ds1, p1, q1, rfl, rfl, -, h1, hA⟩ := trodAll_cons hA
 obtain ⟨rfl, rfl, -⟩ := trodAll_nil hA
 obtain rfl : args = #[v0, v1] := by cases args; exact congrArg Array.mk ha0
 obtain ⟨rfl, -⟩ := trodVars_none hV
 have e0 := hval 0 22 v0 (by simp) (by simp)
 have e1 := hval 1 22 v1 (by simp) (by simp)
 obtain ⟨m0, z0, r0⟩ := zj2 Tryz.underlying22 Tryz.underlying3 znq e0 h0
 obtain ⟨m1, z1, r1⟩ := zj2 Tryz.underlying22 Tryz.underlying3 znq e1 h1
 have hg := (zhl gK gK1 m0 m1 z0 z1).2 W (Old W) #[v0, v1] (fun b i h => h) (zyy hL)
  (by simp only [RepV]; exact ⟨_, _, rfl, r0, _, _, rfl, r1, rfl⟩)
 refine hg.mono fun e W' h => ?_
 obtain ⟨v, rfl, hx, hv⟩ := h
 simp only [Qa, RepX] at hv
 subst hv
 exact ⟨_, rfl, zes zy0 (by rw [Tryz.params5]; intro t ht; simp at ht; rcases ht with rfl | rfl <;> exact ⟨by kernel_rfl, of_decide_eq_true (by kernel_rfl)⟩) (tb := 4) (by kernel_rfl) Tryz.underlying4 rfl rfl hW' hx⟩
def zargs : Array Value := #[.slice none 0 0, .slice none 0 0]
def zy1 : Obj → Obj
 | .cells _ t frozen => .cells (kZ.map (Value.int .u32)).toArray t frozen
 | o => o
noncomputable def laidWorld (os : Os) : World :=
 { World.holding Tryz.prog os ⟨#[], #[], []⟩ with heap := ((World.holding Tryz.prog os ⟨#[], #[], []⟩).heap.modify 0 zy1).modify 1 zy1 }
theorem zpd (os : Os) : laidMet Tryz.prog Rows.archiveOrdersRow.laid ((laidWorld os).forCall (fun _ _ => 0) ⟨#[], zargs, []⟩).memory :=
 laidMet_of_run' 8 (by kernel_rfl) (by kernel_rfl)
theorem zyi (os : Os) {H : Type} (enc : TypeId × Value → H) : ∃ places, DataW.whole enc Tryz.prog ((laidWorld os).forCall (fun _ _ => 0) ⟨#[], zargs, []⟩).memory Tryz.f5.params.toList Rows.archiveOrdersSpec.vars false zargs.toList 8 = some ([.nil, .nil], [], places) :=
 ⟨[], by kernel_rfl⟩
set_option maxRecDepth 100000 in
theorem zwr (os : Os) (started : os.Started) (H : Type) (enc : TypeId × Value → H) (F : Stop.Interp) :
  ReturnsInHanded {} Tryz.checked os 5 .any ((OpenSpec.ofChange Rows.archiveOrdersSpec).preRow enc Tryz.prog Tryz.f5 Rows.archiveOrdersRow.domain false Rows.archiveOrdersRow.laid) (((OpenSpec.ofChange Rows.archiveOrdersSpec).at F).post enc Tryz.prog Tryz.f5 false true false false) := by
 obtain ⟨places, hx⟩ := zyi os enc
 refine returnsInHanded_of_row (C := Tryz.checked) (s := OpenSpec.ofChange Rows.archiveOrdersSpec) zz2 started (by kernel_rfl) Tryz.func5
  (witness_row_at (enc := enc) (C := Tryz.checked) false (laidWorld os) zargs rfl (by kernel_rfl) (by kernel_rfl) (by kernel_rfl)
    (OpenSpec.preRow_of_cond 8 hx (by kernel_rfl) (fun k hk => by cases hk) (by kernel_rfl) (zpd os))) ?_
 intro W base args ds gs before hval hW _ _ _ hL _ _
 exact zny H enc W base args ds gs before hval hW hL
theorem zzc : Rows.ArchiveOrdersSaid :=
 OpenClaim.holds_of_cond 5 Tryz.f5 rfl rfl rfl rfl rfl rfl rfl ⟨rfl, rfl, rfl, rfl, rfl⟩ rfl rfl rfl rfl rfl (by kernel_rfl) Tryz.func5 (by kernel_rfl)
  (of_decide_eq_true (by kernel_rfl)) (by unfold Func.isWrapper; first | (rw [if_pos (by decide +kernel)]; kernel_rfl) | (rw [if_neg (by decide +kernel)]; exact ⟨rfl, rfl⟩))
  (fun os started H enc _ F => by rw [OpenClaim.pre_eq_preRow]; exact zwr os started H enc F)
set_option maxRecDepth 100000 in
theorem zx0 (f : FuncId) (fn : Func) (hf : Tryz.pinned.checked.prog.funcNamed "passim/passimlaw42.ArchiveOrders" = some f) (hfn : Tryz.pinned.checked.prog.funcs[f]? = some fn) :
  false = Tryz.pinned.checked.prog.looks [] ∧ ∀ (j : Nat) t, fn.params[j]? = some t → Tryz.pinned.checked.prog.wantsStandIn t = false := by
 obtain rfl : f = 5 := Option.some.inj ((show Tryz.prog.funcNamed "passim/passimlaw42.ArchiveOrders" = some 5 by kernel_rfl).symm.trans hf) |>.symm
 obtain rfl : fn = Tryz.f5 := (Option.some.inj (Tryz.func5.symm.trans hfn)).symm
 refine ⟨by kernel_rfl, fun j t ht => ?_⟩
 rw [Tryz.params5] at ht
 have w22 : Tryz.prog.wantsStandIn 22 = false := by kernel_rfl
 have hm := Array.mem_of_getElem? ht
 simp at hm
 subst hm <;> first | exact w22
theorem archiveOrdersCard : Rows.ArchiveOrdersCardSaid :=
 Claim7.holds_tied_plain_at .later [] _ _ _ _ zzc (fun _ h => by cases h) (by kernel_rfl) (fun _ h => by cases h) archiveOrders_row_tie rfl ⟨rfl, rfl⟩ (by kernel_rfl) rfl zx0 (by kernel_rfl)
end Go.Proofs.YtkeopokhnfpgpaaGreatDoor

