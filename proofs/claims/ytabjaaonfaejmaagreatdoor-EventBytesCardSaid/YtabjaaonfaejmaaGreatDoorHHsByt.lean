/- EventBytes holds for every input, where the tables of package hash and of the reference hold what the program's text lays: the law returns true, and its arguments read as before. The card ties the tables to the text. -/
import Derived.Test.YtabjaaonfaejmaaGreatDoorHP43
import Derived.Test.YtabjaaonfaejmaaGreatDoorHP46
set_option linter.all false
namespace Go.Proofs.YtabjaaonfaejmaaGreatDoor
open Go.Av Go.ChangeShapes Go.WideShapes Go.ChangeAt Go.RowKit
theorem zwv {n : Int} (h : (Lit.int .u8 n).wf = true) : 0 ≤ n ∧ n ≤ 255 := by
 simp only [Lit.wf, Bool.and_eq_true, decide_eq_true_eq] at h
 have h1 : IntKind.u8.min = 0 := by decide
 have h2 : IntKind.u8.max = 255 := by decide
 omega
set_option maxRecDepth 100000 in
theorem zq6 {n : Nat} {l : List Dat} (h : okT Tryz.prog (n + 2) 47 [.sl l]) : ∃ b : List Int, l = b.map u8D ∧ isB b := by
 obtain ⟨b, hb, _, hx⟩ := zs1 (P := Tryz.prog) (n := n + 1) (t := 47) (e := 5) (f := u8D) (p := fun z => 0 ≤ z ∧ z ≤ 255) Tryz.underlying47 h (fun es hes => by
  obtain ⟨m, rfl, hw⟩ := zvb (P := Tryz.prog) (n := n) (t := 5) Tryz.underlying5 hes
  have ha : z4c Tryz.prog 5 = false := by kernel_rfl
  exact ⟨m, by unfold elD; rw [ha]; rfl, zwv hw⟩)
 simp only [List.cons.injEq, Dat.sl.injEq, and_true] at hb
 exact ⟨b, hb, hx⟩
set_option maxRecDepth 100000 in
theorem zqd (H : Type) (enc : TypeId × Value → H) (W : World) (base : Nat) (args : Array Value) (ds gs : List (DataW H)) (before : List MemPlace)
  (hval : ∀ (j : Nat) t v, Tryz.f4.params[j]? = some t → args[j]? = some v → Value.okWide Tryz.prog W .any base t v)
  (hW : DataW.Whole enc Tryz.prog Tryz.f4.params.toList Rows.eventBytesSpec.vars false W args.toList ds gs before) (hL : laidMetH Tryz.prog Rows.eventBytesRow.laid W) :
  Calls Tryz.prog 4 args W fun e W' => ∃ v, e = .returned v ∧ Rows.eventBytesSpec.post enc Tryz.prog Tryz.f4 false true false false W args v W' := by
 have hW' := hW
 obtain ⟨p, q, hA0, hV, hpq, hfz, hnd⟩ := hW
 have hA : DataW.TrodAll enc Tryz.prog W 0 (fun _ => true) true Tryz.f4.params.toList args.toList ds p := hA0
 rw [Tryz.params4] at hA hval
 obtain ⟨v0, vs0, d0, ds0, p0, q0, ha0, rfl, -, h0, hA⟩ := trodAll_cons hA
 obtain ⟨v1, vs1, d1, ds1, p1, q1, rfl, rfl, -, h1, hA⟩ := trodAll_cons hA
 obtain ⟨v2, vs2, d2, ds2, p2, q2, rfl, rfl, -, h2, hA⟩ := trodAll_cons hA
 obtain ⟨v3, vs3, d3, ds3, p3, q3, rfl, rfl, -, h3, hA⟩ := trodAll_cons hA
 obtain ⟨v4, vs4, d4, ds4, p4, q4, rfl, rfl, -, h4, hA⟩ := trodAll_cons hA
 obtain ⟨v5, vs5, d5, ds5, p5, q5, rfl, rfl, -, h5, hA⟩ := trodAll_cons hA
 obtain ⟨rfl, rfl, -⟩ := trodAll_nil hA
 obtain rfl : args = #[v0, v1, v2, v3, v4, v5] := by cases args; exact congrArg Array.mk ha0
 obtain ⟨rfl, -⟩ := trodVars_none hV
 have e0 := hval 0 22 v0 (by simp) (by simp)
 have e1 := hval 1 3 v1 (by simp) (by simp)
 have e2 := hval 2 3 v2 (by simp) (by simp)
 have e3 := hval 3 3 v3 (by simp) (by simp)
 have e4 := hval 4 5 v4 (by simp) (by simp)
 have e5 := hval 5 47 v5 (by simp) (by simp)
 obtain ⟨m0, z0, r0⟩ := zuh Tryz.underlying22 Tryz.underlying3 zxi e0 h0
 obtain ⟨m1, rfl, -, -, y1⟩ := open_int Tryz.underlying3 e1 h1
 have z1 := zfj y1
 obtain ⟨m2, rfl, -, -, y2⟩ := open_int Tryz.underlying3 e2 h2
 have z2 := zfj y2
 obtain ⟨m3, rfl, -, -, y3⟩ := open_int Tryz.underlying3 e3 h3
 have z3 := zfj y3
 obtain ⟨m4, rfl, -, -, y4⟩ := open_int Tryz.underlying5 e4 h4
 have z4 := zwv y4
 obtain ⟨c5, o5, r5, -⟩ := zt1 2 Tryz.underlying47 (by kernel_rfl) e5 h5
 obtain ⟨m5, t5, z5⟩ := zq6 (n := 0) o5
 rw [t5] at r5
 have hg := (zmm gH gH0 gH1 m0 m1 m2 m3 m4 m5 z0 z1 z2 z3 z4 z5).2 W (Old W) #[v0, .int .i64 m1, .int .i64 m2, .int .i64 m3, .int .u8 m4, v5] (fun b i h => h) (q05 hL)
  (by simp only [RepV]; exact ⟨_, _, rfl, r0, _, _, rfl, by simp [RepX], _, _, rfl, by simp [RepX], _, _, rfl, by simp [RepX], _, _, rfl, by simp [RepX], _, _, rfl, r5, rfl⟩)
 refine hg.mono fun e W' h => ?_
 obtain ⟨v, rfl, hx, hv⟩ := h
 simp only [Q0, RepX] at hv
 subst hv
 exact ⟨_, rfl, zhe zza (by rw [Tryz.params4]; intro t ht; simp at ht; rcases ht with rfl | rfl | rfl | rfl | rfl | rfl <;> exact ⟨by kernel_rfl, of_decide_eq_true (by kernel_rfl)⟩) (tb := 4) (by kernel_rfl) Tryz.underlying4 rfl rfl hW' hx⟩
def zargs : Array Value := #[.slice none 0 0, .int .i64 0, .int .i64 0, .int .i64 0, .int .u8 0, .slice none 0 0]
def zzb : Obj → Obj
 | .cells _ t frozen => .cells (kZ.map (Value.int .u32)).toArray t frozen
 | o => o
noncomputable def laidWorld (os : Os) : World :=
 { World.holding Tryz.prog os ⟨#[], #[], []⟩ with heap := ((World.holding Tryz.prog os ⟨#[], #[], []⟩).heap.modify 0 zzb).modify 1 zzb }
theorem zri (os : Os) : laidMet Tryz.prog Rows.eventBytesRow.laid ((laidWorld os).forCall (fun _ _ => 0) ⟨#[], zargs, []⟩).memory :=
 laidMet_of_run' 8 (by kernel_rfl) (by kernel_rfl)
theorem zzg (os : Os) {H : Type} (enc : TypeId × Value → H) : ∃ places, DataW.whole enc Tryz.prog ((laidWorld os).forCall (fun _ _ => 0) ⟨#[], zargs, []⟩).memory Tryz.f4.params.toList Rows.eventBytesSpec.vars false zargs.toList 8 = some ([.nil, .lit (.int .i64 0), .lit (.int .i64 0), .lit (.int .i64 0), .lit (.int .u8 0), .nil], [], places) :=
 ⟨[], by kernel_rfl⟩
set_option maxRecDepth 100000 in
theorem zy2 (os : Os) (started : os.Started) (H : Type) (enc : TypeId × Value → H) (F : Stop.Interp) :
  ReturnsInHanded {} Tryz.checked os 4 .any ((OpenSpec.ofChange Rows.eventBytesSpec).preRow enc Tryz.prog Tryz.f4 Rows.eventBytesRow.domain false Rows.eventBytesRow.laid) (((OpenSpec.ofChange Rows.eventBytesSpec).at F).post enc Tryz.prog Tryz.f4 false true false false) := by
 obtain ⟨places, hx⟩ := zzg os enc
 refine returnsInHanded_of_row (C := Tryz.checked) (s := OpenSpec.ofChange Rows.eventBytesSpec) q08 started (by kernel_rfl) Tryz.func4
  (witness_row_at (enc := enc) (C := Tryz.checked) false (laidWorld os) zargs rfl (by kernel_rfl) (by kernel_rfl) (by kernel_rfl)
    (OpenSpec.preRow_of_cond 8 hx (by kernel_rfl) (fun k hk => by cases hk) (by kernel_rfl) (zri os))) ?_
 intro W base args ds gs before hval hW _ _ _ hL _ _
 exact zqd H enc W base args ds gs before hval hW hL
theorem q09 : Rows.EventBytesSaid :=
 OpenClaim.holds_of_cond 4 Tryz.f4 rfl rfl rfl rfl rfl rfl rfl ⟨rfl, rfl, rfl, rfl, rfl⟩ rfl rfl rfl rfl rfl (by kernel_rfl) Tryz.func4 (by kernel_rfl)
  (of_decide_eq_true (by kernel_rfl)) (by unfold Func.isWrapper; first | (rw [if_pos (by decide +kernel)]; kernel_rfl) | (rw [if_neg (by decide +kernel)]; exact ⟨rfl, rfl⟩))
  (fun os started H enc _ F => by rw [OpenClaim.pre_eq_preRow]; exact zy2 os started H enc F)
set_option maxRecDepth 100000 in
theorem zyc (f : FuncId) (fn : Func) (hf : Tryz.pinned.checked.prog.funcNamed "passim/passimlaw10.EventBytes" = some f) (hfn : Tryz.pinned.checked.prog.funcs[f]? = some fn) :
  true = Tryz.pinned.checked.prog.looks [] ∧ ∀ (j : Nat) t, fn.params[j]? = some t → Tryz.pinned.checked.prog.wantsStandIn t = false := by
 obtain rfl : f = 4 := Option.some.inj ((show Tryz.prog.funcNamed "passim/passimlaw10.EventBytes" = some 4 by kernel_rfl).symm.trans hf) |>.symm
 obtain rfl : fn = Tryz.f4 := (Option.some.inj (Tryz.func4.symm.trans hfn)).symm
 refine ⟨by kernel_rfl, fun j t ht => ?_⟩
 rw [Tryz.params4] at ht
 have w3 : Tryz.prog.wantsStandIn 3 = false := by kernel_rfl
 have w5 : Tryz.prog.wantsStandIn 5 = false := by kernel_rfl
 have w22 : Tryz.prog.wantsStandIn 22 = false := by kernel_rfl
 have w47 : Tryz.prog.wantsStandIn 47 = false := by kernel_rfl
 have hm := Array.mem_of_getElem? ht
 simp at hm
 rcases hm with rfl | rfl | rfl | rfl <;> first | exact w3 | exact w5 | exact w22 | exact w47
theorem eventBytesCard : Rows.EventBytesCardSaid :=
 Claim7.holds_tied_plain_at .later [] _ _ _ _ q09 (fun _ h => by cases h) (by kernel_rfl) (fun _ h => by cases h) eventBytes_row_tie rfl ⟨rfl, rfl⟩ (by kernel_rfl) rfl zyc (by kernel_rfl)
end Go.Proofs.YtabjaaonfaejmaaGreatDoor

