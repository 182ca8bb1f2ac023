/- The contract of Spoilt. -/
import Derived.Test.YthcfjdkflmkhbaaDoorHP30
import Derived.Test.YthcfjdkflmkhbaaDoorHP29
import Derived.Test.YthcfjdkflmkhbaaDoorHAv41
set_option linter.all false
namespace Go.Proofs.YthcfjdkflmkhbaaDoor
open Go.Av

theorem lit9 (y : Int) : (([Dat.int .i64 (-1), Dat.int .i64 0, Dat.int .i64 1, Dat.int .i64 64, Dat.int .i64 65, Dat.int .i64 1024, Dat.int .i64 1025, Dat.int .i64 4096, Dat.int .i64 4097] : List Dat)[(aroundM y 9).toNat]?).getD Dat.nilp = .int .i64 (spN y) := by
  have h := aroundM_range (n := y) (m := 9) (by omega)
  exact nth_map (Dat.int .i64) [-1, 0, 1, 64, 65, 1024, 1025, 4096, 4097] _ _ (by simp; omega)
theorem osd_cons (a b : Int) (l : List (Int × Int)) : Dat.sl (Dat.agg [.int .i64 a, .int .i64 b] :: List.map oD l) = osD ((a, b) :: l) := rfl
def spI (c : CaseM) (j : Nat) : List (List (Int × Int)) := c.items ++ List.replicate j [(1, 0)]
def spW (c : CaseM) (j : Nat) : List Int := c.weights ++ List.replicate j 1
theorem spI_zero (c : CaseM) : spI c 0 = c.items := by simp [spI]
theorem spW_zero (c : CaseM) : spW c 0 = c.weights := by simp [spW]
theorem spI_succ (c : CaseM) (j : Nat) : spI c (j + 1) = spI c j ++ [[(1, 0)]] := by simp [spI, List.replicate_succ']
theorem spW_succ (c : CaseM) (j : Nat) : spW c (j + 1) = spW c j ++ [1] := by simp [spW, List.replicate_succ']
theorem spI_len (c : CaseM) (j : Nat) : (spI c j).length = c.items.length + j := by simp [spI]
theorem spW_len (c : CaseM) (j : Nat) : (spW c j).length = c.weights.length + j := by simp [spW]


set_option maxHeartbeats 1000000 in
theorem spoilt_ok (G) (c : CaseM) (how y : Int) (hc : OkC c) (h6 : c.items.length ≤ 6) (hh : I64 how) (hy : I64 y) : Gives Tryd.prog G 11 [caseD c, iD how, iD y] [caseD (spoiltM c how y)] := by
  have hwl := hc.wl
  have i9 : I64 9 := by unfold I64; omega
  have i8 : I64 8 := by unfold I64; omega
  have i3 : I64 3 := by unfold I64; omega
  have hmx : 0 < spMax c ∧ spMax c ≤ 6 ∧ I64 (spMax c) := by unfold spMax I64; split <;> omega
  have hmx' := hmx
  unfold spMax at hmx'
  have h9 := aroundM_range (n := y) (m := 9) (by omega)
  have h3 := aroundM_range (n := y) (m := 3) (by omega)
  have hyd := tdiv_range (a := y) (b := 9) hy (by omega)
  have hyd' := hyd
  unfold I64 at hyd'
  have hkr := aroundM_range (n := y.tdiv 9) (m := spMax c) hmx.1
  have hnr := spN_range y
  have hkd : spK c y = aroundM (y.tdiv 9) (spMax c) := rfl
  refine gives_intro [81, 82, 138] [102, 108, 122, 128] [13, 17] Tryd.func11 rfl (by rfl) (by simp [Tryd.ntmps11]) fun F hP hG hN hR => ?_
  rw [Tryd.ntmps11] at hN
  have hA := And.intro hN (And.intro hP (And.intro hG (And.intro hR.1 (And.intro hR.2.1 hR.2.2.1))))
  apply aw_regs [1, 2, 3, 6] [3, 6, 10, 13, 14, 17, 45, 46, 47, 51, 52, 74, 75, 81, 82, 83, 87, 88, 102, 108, 122, 128, 137, 138, 139, 143, 144]
  · simp (disch := omega) only [avR2, Kept, keepE, keepO, of_put, of_put0, of_obj, of_drop, of_env, of_objs, of_init, of_initM, initL, fndA, killE, killO, kill_of, kills_of, kills_nil, setO, dropL, ASt.dropO, envL_nil, envL_cons, objL_nil, objL_cons, evA_tmp, evA_const, evA_global, evA_func, evAL, evSL, evPL, evPS, avOf, binA, eqR, binI, unA, binB, fieldAddrA, fieldA, indexAddrA, indexA, extractA, buildA, sliceA, boundA, loadA, loadW, partA, lenA, minA, maxA, foldA, min2A, max2A, convA, pickA, asB, AV.strip, AV.gd, allocC, storeC, buildSliceC, makeSliceC, appendC, appSt, baseA, srcA, zeroA, storeW, AV.kill, AV.storable, AV.unit, AV.isAgg, AV.solid, Dat.isAgg, mkAgg, datsOf, fillA, TK.isAgg, VR.bad, dstOK, callee_eq, calleeP, retA, ↓reduceIte, Nat.reduceEqDiff, Nat.reduceLT, Nat.reduceLeDiff, Nat.reduceAdd, Nat.reduceSub, reduceCtorEq, ne_eq, eq_self, if_true, if_false, killL, forall_eq, forall_eq_or_imp, Int.reduceToNat, Int.reduceLT, Int.reduceLE, ↓List.forall_mem_cons, Nat.reduceMul, ite_self, GC, gvS, gvB, gdAll, killAll, appendLC, forall_const, implies_true, Op.operands, avT0, avT1, nth_row, row_len, kill_row, take_row, AV.frz, frzL, frzE, frzO, frz_of, frz_dats, renE, renO, swapN, AV.ren, renL, ren_row, hA, tiA]
    first | exact ⟨rfl, rfl⟩ | ((repeat' first | refine And.intro ?_ ?_ | intro _) <;> first | with_reducible rfl | assumption | omega | rfl | (rename_i hq; rw [hq]; rfl) | (simp_all; done))
  apply aw_rgds [1, 2, 6, 7] [6, 7, 10, 13, 14, 17, 45, 46, 47, 51, 52, 74, 75, 81, 82, 83, 87, 88, 102, 108, 122, 128, 137, 138, 139, 143, 144] [0, 1, 2, 3, 4, 5, 6, 7, 8, 9, 10, 11, 12] [13, 17, 7]
  · rw [hP]; kernel_rfl
  · exact hR
  · kernel_rfl
  · (repeat (apply PickL.cons; exact rfl)); exact PickL.nil _
  · simp (maxSteps := 2000000) (disch := omega) only [avR2, Kept, keepE, keepO, of_put, of_put0, of_obj, of_drop, of_env, of_objs, of_init, of_initM, initL, fndA, killE, killO, kill_of, kills_of, kills_nil, setO, dropL, ASt.dropO, envL_nil, envL_cons, objL_nil, objL_cons, evA_tmp, evA_const, evA_global, evA_func, evAL, evSL, evPL, evPS, avOf, binA, eqR, binI, unA, binB, fieldAddrA, fieldA, indexAddrA, indexA, extractA, buildA, sliceA, boundA, loadA, loadW, partA, lenA, minA, maxA, foldA, min2A, max2A, convA, pickA, asB, AV.strip, AV.gd, allocC, storeC, buildSliceC, makeSliceC, appendC, appSt, baseA, srcA, zeroA, storeW, AV.kill, AV.storable, AV.unit, AV.isAgg, AV.solid, Dat.isAgg, mkAgg, datsOf, fillA, TK.isAgg, VR.bad, dstOK, callee_eq, calleeP, retA, ↓reduceIte, Nat.reduceEqDiff, Nat.reduceLT, Nat.reduceLeDiff, Nat.reduceAdd, Nat.reduceSub, reduceCtorEq, ne_eq, eq_self, if_true, if_false, killL, forall_eq, forall_eq_or_imp, Int.reduceToNat, Int.reduceLT, Int.reduceLE, ↓List.forall_mem_cons, Nat.reduceMul, ite_self, GC, gvS, gvB, gdAll, killAll, appendLC, forall_const, implies_true, Op.operands, avT0, avT1, nth_row, row_len, kill_row, take_row, AV.frz, frzL, frzE, frzO, frz_of, frz_dats, renE, renO, swapN, AV.ren, renL, ren_row, hA, tiA]
    first | exact ⟨rfl, rfl⟩ | ((repeat' first | refine And.intro ?_ ?_ | intro _) <;> first | with_reducible rfl | assumption | omega | rfl | (rename_i hq; rw [hq]; rfl) | (simp_all; done))
  apply aw_regs [1, 2, 6, 7, 8] [6, 7, 10, 13, 14, 17, 45, 46, 47, 51, 52, 74, 75, 81, 82, 83, 87, 88, 102, 108, 122, 128, 137, 138, 139, 143, 144]
  · simp (disch := omega) only [avR2, Kept, keepE, keepO, of_put, of_put0, of_obj, of_drop, of_env, of_objs, of_init, of_initM, initL, fndA, killE, killO, kill_of, kills_of, kills_nil, setO, dropL, ASt.dropO, envL_nil, envL_cons, objL_nil, objL_cons, evA_tmp, evA_const, evA_global, evA_func, evAL, evSL, evPL, evPS, avOf, binA, eqR, binI, unA, binB, fieldAddrA, fieldA, indexAddrA, indexA, extractA, buildA, sliceA, boundA, loadA, loadW, partA, lenA, minA, maxA, foldA, min2A, max2A, convA, pickA, asB, AV.strip, AV.gd, allocC, storeC, buildSliceC, makeSliceC, appendC, appSt, baseA, srcA, zeroA, storeW, AV.kill, AV.storable, AV.unit, AV.isAgg, AV.solid, Dat.isAgg, mkAgg, datsOf, fillA, TK.isAgg, VR.bad, dstOK, callee_eq, calleeP, retA, ↓reduceIte, Nat.reduceEqDiff, Nat.reduceLT, Nat.reduceLeDiff, Nat.reduceAdd, Nat.reduceSub, reduceCtorEq, ne_eq, eq_self, if_true, if_false, killL, forall_eq, forall_eq_or_imp, Int.reduceToNat, Int.reduceLT, Int.reduceLE, ↓List.forall_mem_cons, Nat.reduceMul, ite_self, GC, gvS, gvB, gdAll, killAll, appendLC, forall_const, implies_true, Op.operands, avT0, avT1, nth_row, row_len, kill_row, take_row, AV.frz, frzL, frzE, frzO, frz_of, frz_dats, renE, renO, swapN, AV.ren, renL, ren_row, hA, tiA]
    (repeat' refine And.intro ?_ ?_) <;> try first | omega | assumption | with_reducible rfl | exact rfl | (intro hside; (repeat' refine And.intro ?_ ?_) <;> first | exact hside | omega | (rw [hside]; rfl) | (simp_all; done))
    refine CallC.use (gvF hP hG (around_ok G y 9 hy (by omega) i9)) rfl ?_
    try simp (maxSteps := 2000000) (disch := omega) only [avR2, Kept, keepE, keepO, of_put, of_put0, of_obj, of_drop, of_env, of_objs, of_init, of_initM, initL, fndA, killE, killO, kill_of, kills_of, kills_nil, setO, dropL, ASt.dropO, envL_nil, envL_cons, objL_nil, objL_cons, evA_tmp, evA_const, evA_global, evA_func, evAL, evSL, evPL, evPS, avOf, binA, eqR, binI, unA, binB, fieldAddrA, fieldA, indexAddrA, indexA, extractA, buildA, sliceA, boundA, loadA, loadW, partA, lenA, minA, maxA, foldA, min2A, max2A, convA, pickA, asB, AV.strip, AV.gd, allocC, storeC, buildSliceC, makeSliceC, appendC, appSt, baseA, srcA, zeroA, storeW, AV.kill, AV.storable, AV.unit, AV.isAgg, AV.solid, Dat.isAgg, mkAgg, datsOf, fillA, TK.isAgg, VR.bad, dstOK, callee_eq, calleeP, retA, ↓reduceIte, Nat.reduceEqDiff, Nat.reduceLT, Nat.reduceLeDiff, Nat.reduceAdd, Nat.reduceSub, reduceCtorEq, ne_eq, eq_self, if_true, if_false, killL, forall_eq, forall_eq_or_imp, Int.reduceToNat, Int.reduceLT, Int.reduceLE, ↓List.forall_mem_cons, Nat.reduceMul, ite_self, GC, gvS, gvB, gdAll, killAll, appendLC, forall_const, implies_true, Op.operands, avT0, avT1, nth_row, row_len, kill_row, take_row, AV.frz, frzL, frzE, frzO, frz_of, frz_dats, renE, renO, swapN, AV.ren, renL, ren_row, hA, tiA, lit9]
    first | exact ⟨rfl, rfl⟩ | ((repeat' first | refine And.intro ?_ ?_ | intro _) <;> first | with_reducible rfl | assumption | omega | rfl | (rename_i hq; rw [hq]; rfl) | (simp_all; done))
  apply aw_regs [1, 2, 6, 7, 8, 9] [6, 7, 10, 13, 14, 17, 45, 46, 47, 51, 52, 74, 75, 81, 82, 83, 87, 88, 102, 108, 122, 128, 137, 138, 139, 143, 144]
  · simp (disch := omega) only [avR2, Kept, keepE, keepO, of_put, of_put0, of_obj, of_drop, of_env, of_objs, of_init, of_initM, initL, fndA, killE, killO, kill_of, kills_of, kills_nil, setO, dropL, ASt.dropO, envL_nil, envL_cons, objL_nil, objL_cons, evA_tmp, evA_const, evA_global, evA_func, evAL, evSL, evPL, evPS, avOf, binA, eqR, binI, unA, binB, fieldAddrA, fieldA, indexAddrA, indexA, extractA, buildA, sliceA, boundA, loadA, loadW, partA, lenA, minA, maxA, foldA, min2A, max2A, convA, pickA, asB, AV.strip, AV.gd, allocC, storeC, buildSliceC, makeSliceC, appendC, appSt, baseA, srcA, zeroA, storeW, AV.kill, AV.storable, AV.unit, AV.isAgg, AV.solid, Dat.isAgg, mkAgg, datsOf, fillA, TK.isAgg, VR.bad, dstOK, callee_eq, calleeP, retA, ↓reduceIte, Nat.reduceEqDiff, Nat.reduceLT, Nat.reduceLeDiff, Nat.reduceAdd, Nat.reduceSub, reduceCtorEq, ne_eq, eq_self, if_true, if_false, killL, forall_eq, forall_eq_or_imp, Int.reduceToNat, Int.reduceLT, Int.reduceLE, ↓List.forall_mem_cons, Nat.reduceMul, ite_self, GC, gvS, gvB, gdAll, killAll, appendLC, forall_const, implies_true, Op.operands, avT0, avT1, nth_row, row_len, kill_row, take_row, AV.frz, frzL, frzE, frzO, frz_of, frz_dats, renE, renO, swapN, AV.ren, renL, ren_row, hA, tiA]
    (repeat' refine And.intro ?_ ?_) <;> try first | omega | assumption | with_reducible rfl | exact rfl | (intro hside; (repeat' refine And.intro ?_ ?_) <;> first | exact hside | omega | (rw [hside]; rfl) | (simp_all; done))
    refine CallC.use (gvF hP hG (around_ok G (y.tdiv 9) (spMax c) hyd hmx.1 hmx.2.2)) rfl ?_
    try simp (maxSteps := 2000000) (disch := omega) only [avR2, Kept, keepE, keepO, of_put, of_put0, of_obj, of_drop, of_env, of_objs, of_init, of_initM, initL, fndA, killE, killO, kill_of, kills_of, kills_nil, setO, dropL, ASt.dropO, envL_nil, envL_cons, objL_nil, objL_cons, evA_tmp, evA_const, evA_global, evA_func, evAL, evSL, evPL, evPS, avOf, binA, eqR, binI, unA, binB, fieldAddrA, fieldA, indexAddrA, indexA, extractA, buildA, sliceA, boundA, loadA, loadW, partA, lenA, minA, maxA, foldA, min2A, max2A, convA, pickA, asB, AV.strip, AV.gd, allocC, storeC, buildSliceC, makeSliceC, appendC, appSt, baseA, srcA, zeroA, storeW, AV.kill, AV.storable, AV.unit, AV.isAgg, AV.solid, Dat.isAgg, mkAgg, datsOf, fillA, TK.isAgg, VR.bad, dstOK, callee_eq, calleeP, retA, ↓reduceIte, Nat.reduceEqDiff, Nat.reduceLT, Nat.reduceLeDiff, Nat.reduceAdd, Nat.reduceSub, reduceCtorEq, ne_eq, eq_self, if_true, if_false, killL, forall_eq, forall_eq_or_imp, Int.reduceToNat, Int.reduceLT, Int.reduceLE, ↓List.forall_mem_cons, Nat.reduceMul, ite_self, GC, gvS, gvB, gdAll, killAll, appendLC, forall_const, implies_true, Op.operands, avT0, avT1, nth_row, row_len, kill_row, take_row, AV.frz, frzL, frzE, frzO, frz_of, frz_dats, renE, renO, swapN, AV.ren, renL, ren_row, hA, tiA]
    first | exact ⟨rfl, rfl⟩ | ((repeat' first | refine And.intro ?_ ?_ | intro _) <;> first | with_reducible rfl | assumption | omega | rfl | (rename_i hq; rw [hq]; rfl) | (simp_all; done))
  apply aw_seq
  apply aw_regs [2, 6, 7, 8, 9, 34] [6, 7, 10, 13, 14, 17, 45, 46, 47, 51, 52, 74, 75, 81, 82, 83, 87, 88, 102, 108, 122, 128, 137, 138, 139, 143, 144]
  · simp (disch := omega) only [avR2, Kept, keepE, keepO, of_put, of_put0, of_obj, of_drop, of_env, of_objs, of_init, of_initM, initL, fndA, killE, killO, kill_of, kills_of, kills_nil, setO, dropL, ASt.dropO, envL_nil, envL_cons, objL_nil, objL_cons, evA_tmp, evA_const, evA_global, evA_func, evAL, evSL, evPL, evPS, avOf, binA, eqR, binI, unA, binB, fieldAddrA, fieldA, indexAddrA, indexA, extractA, buildA, sliceA, boundA, loadA, loadW, partA, lenA, minA, maxA, foldA, min2A, max2A, convA, pickA, asB, AV.strip, AV.gd, allocC, storeC, buildSliceC, makeSliceC, appendC, appSt, baseA, srcA, zeroA, storeW, AV.kill, AV.storable, AV.unit, AV.isAgg, AV.solid, Dat.isAgg, mkAgg, datsOf, fillA, TK.isAgg, VR.bad, dstOK, callee_eq, calleeP, retA, ↓reduceIte, Nat.reduceEqDiff, Nat.reduceLT, Nat.reduceLeDiff, Nat.reduceAdd, Nat.reduceSub, reduceCtorEq, ne_eq, eq_self, if_true, if_false, killL, forall_eq, forall_eq_or_imp, Int.reduceToNat, Int.reduceLT, Int.reduceLE, ↓List.forall_mem_cons, Nat.reduceMul, ite_self, GC, gvS, gvB, gdAll, killAll, appendLC, forall_const, implies_true, Op.operands, avT0, avT1, nth_row, row_len, kill_row, take_row, AV.frz, frzL, frzE, frzO, frz_of, frz_dats, renE, renO, swapN, AV.ren, renL, ren_row, hA, tiA]
    (repeat' refine And.intro ?_ ?_) <;> try first | omega | assumption | with_reducible rfl | exact rfl | (intro hside; (repeat' refine And.intro ?_ ?_) <;> first | exact hside | omega | (rw [hside]; rfl) | (simp_all; done))
    refine CallC.use (gvF hP hG (around_ok G how 8 hh (by omega) i8)) rfl ?_
    try simp (maxSteps := 2000000) (disch := omega) only [avR2, Kept, keepE, keepO, of_put, of_put0, of_obj, of_drop, of_env, of_objs, of_init, of_initM, initL, fndA, killE, killO, kill_of, kills_of, kills_nil, setO, dropL, ASt.dropO, envL_nil, envL_cons, objL_nil, objL_cons, evA_tmp, evA_const, evA_global, evA_func, evAL, evSL, evPL, evPS, avOf, binA, eqR, binI, unA, binB, fieldAddrA, fieldA, indexAddrA, indexA, extractA, buildA, sliceA, boundA, loadA, loadW, partA, lenA, minA, maxA, foldA, min2A, max2A, convA, pickA, asB, AV.strip, AV.gd, allocC, storeC, buildSliceC, makeSliceC, appendC, appSt, baseA, srcA, zeroA, storeW, AV.kill, AV.storable, AV.unit, AV.isAgg, AV.solid, Dat.isAgg, mkAgg, datsOf, fillA, TK.isAgg, VR.bad, dstOK, callee_eq, calleeP, retA, ↓reduceIte, Nat.reduceEqDiff, Nat.reduceLT, Nat.reduceLeDiff, Nat.reduceAdd, Nat.reduceSub, reduceCtorEq, ne_eq, eq_self, if_true, if_false, killL, forall_eq, forall_eq_or_imp, Int.reduceToNat, Int.reduceLT, Int.reduceLE, ↓List.forall_mem_cons, Nat.reduceMul, ite_self, GC, gvS, gvB, gdAll, killAll, appendLC, forall_const, implies_true, Op.operands, avT0, avT1, nth_row, row_len, kill_row, take_row, AV.frz, frzL, frzE, frzO, frz_of, frz_dats, renE, renO, swapN, AV.ren, renL, ren_row, hA, tiA]
    first | exact ⟨rfl, rfl⟩ | ((repeat' first | refine And.intro ?_ ?_ | intro _) <;> first | with_reducible rfl | assumption | omega | rfl | (rename_i hq; rw [hq]; rfl) | (simp_all; done))
  apply aw_block
  apply aw_regs [2, 6, 7, 8, 9, 34, 54] [6, 7, 10, 13, 14, 17, 45, 46, 47, 51, 52, 74, 75, 81, 82, 83, 87, 88, 102, 108, 122, 128, 137, 138, 139, 143, 144]
  · simp (disch := omega) only [avR2, Kept, keepE, keepO, of_put, of_put0, of_obj, of_drop, of_env, of_objs, of_init, of_initM, initL, fndA, killE, killO, kill_of, kills_of, kills_nil, setO, dropL, ASt.dropO, envL_nil, envL_cons, objL_nil, objL_cons, evA_tmp, evA_const, evA_global, evA_func, evAL, evSL, evPL, evPS, avOf, binA, eqR, binI, unA, binB, fieldAddrA, fieldA, indexAddrA, indexA, extractA, buildA, sliceA, boundA, loadA, loadW, partA, lenA, minA, maxA, foldA, min2A, max2A, convA, pickA, asB, AV.strip, AV.gd, allocC, storeC, buildSliceC, makeSliceC, appendC, appSt, baseA, srcA, zeroA, storeW, AV.kill, AV.storable, AV.unit, AV.isAgg, AV.solid, Dat.isAgg, mkAgg, datsOf, fillA, TK.isAgg, VR.bad, dstOK, callee_eq, calleeP, retA, ↓reduceIte, Nat.reduceEqDiff, Nat.reduceLT, Nat.reduceLeDiff, Nat.reduceAdd, Nat.reduceSub, reduceCtorEq, ne_eq, eq_self, if_true, if_false, killL, forall_eq, forall_eq_or_imp, Int.reduceToNat, Int.reduceLT, Int.reduceLE, ↓List.forall_mem_cons, Nat.reduceMul, ite_self, GC, gvS, gvB, gdAll, killAll, appendLC, forall_const, implies_true, Op.operands, avT0, avT1, nth_row, row_len, kill_row, take_row, AV.frz, frzL, frzE, frzO, frz_of, frz_dats, renE, renO, swapN, AV.ren, renL, ren_row, hA, tiA]
    first | exact ⟨rfl, rfl⟩ | ((repeat' first | refine And.intro ?_ ?_ | intro _) <;> first | with_reducible rfl | assumption | omega | rfl | (rename_i hq; rw [hq]; rfl) | (simp_all; done))
  refine aw_if _ rfl (fun hb => ?_) (fun hb => ?_) <;> (try simp only [pickB_true, pickB_false, Bool.false_or, Bool.false_and, Bool.true_and, decide_eq_true_eq, decide_eq_false_iff_not, Bool.or_eq_true, Bool.and_eq_true, Bool.or_eq_false_iff, Bool.and_eq_false_imp, Bool.not_eq_true, Bool.not_eq_false, Bool.not_eq_eq_eq_not, Bool.not_true, Bool.not_false, Int.not_lt, Int.not_le, beq_iff_eq, beq_eq_false_iff_ne, bne_iff_ne, bne_eq_false_iff_eq, ne_eq, Bool.true_eq_false, Bool.false_eq_true, if_false_left, if_true_left, Bool.not_eq_eq_eq_not, Bool.decide_eq_true, Classical.not_not] at hb)
  · skip
    have hv : spoiltM c how y = ⟨c.items, c.weights, spN y⟩ := by
      unfold spoiltM
      rw [if_pos hb]
    apply aw_reg [6, 7] [6, 7, 10, 13, 14, 17, 45, 46, 47, 51, 52, 74, 75, 81, 82, 83, 87, 88, 102, 108, 122, 128, 137, 138, 139, 143, 144]
    · simp (disch := omega) only [avR2, Kept, keepE, keepO, of_put, of_put0, of_obj, of_drop, of_env, of_objs, of_init, of_initM, initL, fndA, killE, killO, kill_of, kills_of, kills_nil, setO, dropL, ASt.dropO, envL_nil, envL_cons, objL_nil, objL_cons, evA_tmp, evA_const, evA_global, evA_func, evAL, evSL, evPL, evPS, avOf, binA, eqR, binI, unA, binB, fieldAddrA, fieldA, indexAddrA, indexA, extractA, buildA, sliceA, boundA, loadA, loadW, partA, lenA, minA, maxA, foldA, min2A, max2A, convA, pickA, asB, AV.strip, AV.gd, allocC, storeC, buildSliceC, makeSliceC, appendC, appSt, baseA, srcA, zeroA, storeW, AV.kill, AV.storable, AV.unit, AV.isAgg, AV.solid, Dat.isAgg, mkAgg, datsOf, fillA, TK.isAgg, VR.bad, dstOK, callee_eq, calleeP, retA, ↓reduceIte, Nat.reduceEqDiff, Nat.reduceLT, Nat.reduceLeDiff, Nat.reduceAdd, Nat.reduceSub, reduceCtorEq, ne_eq, eq_self, if_true, if_false, killL, forall_eq, forall_eq_or_imp, Int.reduceToNat, Int.reduceLT, Int.reduceLE, ↓List.forall_mem_cons, Nat.reduceMul, ite_self, GC, gvS, gvB, gdAll, killAll, appendLC, forall_const, implies_true, Op.operands, avT0, avT1, nth_row, row_len, kill_row, take_row, AV.frz, frzL, frzE, frzO, frz_of, frz_dats, renE, renO, swapN, AV.ren, renL, ren_row, hA, tiA]
      first | exact ⟨rfl, rfl⟩ | ((repeat' first | refine And.intro ?_ ?_ | intro _) <;> first | with_reducible rfl | assumption | omega | rfl | (rename_i hq; rw [hq]; rfl) | (simp_all; done))
    apply q_block
    apply q_seq
    apply aw_regs [6] [6, 10, 13, 14, 17, 45, 46, 47, 51, 52, 74, 75, 81, 82, 83, 87, 88, 102, 108, 122, 128, 137, 138, 139, 143, 144]
    · simp (disch := omega) only [avR2, Kept, keepE, keepO, of_put, of_put0, of_obj, of_drop, of_env, of_objs, of_init, of_initM, initL, fndA, killE, killO, kill_of, kills_of, kills_nil, setO, dropL, ASt.dropO, envL_nil, envL_cons, objL_nil, objL_cons, evA_tmp, evA_const, evA_global, evA_func, evAL, evSL, evPL, evPS, avOf, binA, eqR, binI, unA, binB, fieldAddrA, fieldA, indexAddrA, indexA, extractA, buildA, sliceA, boundA, loadA, loadW, partA, lenA, minA, maxA, foldA, min2A, max2A, convA, pickA, asB, AV.strip, AV.gd, allocC, storeC, buildSliceC, makeSliceC, appendC, appSt, baseA, srcA, zeroA, storeW, AV.kill, AV.storable, AV.unit, AV.isAgg, AV.solid, Dat.isAgg, mkAgg, datsOf, fillA, TK.isAgg, VR.bad, dstOK, callee_eq, calleeP, retA, ↓reduceIte, Nat.reduceEqDiff, Nat.reduceLT, Nat.reduceLeDiff, Nat.reduceAdd, Nat.reduceSub, reduceCtorEq, ne_eq, eq_self, if_true, if_false, killL, forall_eq, forall_eq_or_imp, Int.reduceToNat, Int.reduceLT, Int.reduceLE, ↓List.forall_mem_cons, Nat.reduceMul, ite_self, GC, gvS, gvB, gdAll, killAll, appendLC, forall_const, implies_true, Op.operands, avT0, avT1, nth_row, row_len, kill_row, take_row, AV.frz, frzL, frzE, frzO, frz_of, frz_dats, renE, renO, swapN, AV.ren, renL, ren_row, hA, tiA]
      first | exact ⟨rfl, rfl⟩ | ((repeat' first | refine And.intro ?_ ?_ | intro _) <;> first | with_reducible rfl | assumption | omega | rfl | (rename_i hq; rw [hq]; rfl) | (simp_all; done))
    apply aw_ret
    simp only [QRet, QRetM, QRetX, retsX_nil, retsX_cons, objsAre, Tryd.results11, resA, mapO_nil, mapO_cons, vD_dat, vD_nils, vD_rp, vD_osl, vD_ptr, vD_agg, vD_fn, vL_dat, vL_app, viewL, Kept, keepE, keepO, of_put, of_put0, of_obj, of_drop, of_env, of_objs, of_init, of_initM, initL, fndA, killE, killO, kill_of, kills_of, kills_nil, setO, dropL, ASt.dropO, envL_nil, envL_cons, objL_nil, objL_cons, evA_tmp, evA_const, evA_global, evA_func, evAL, evSL, evPL, evPS, avOf, binA, eqR, binI, unA, binB, fieldAddrA, fieldA, indexAddrA, indexA, extractA, buildA, sliceA, boundA, loadA, loadW, partA, lenA, minA, maxA, foldA, min2A, max2A, convA, pickA, asB, AV.strip, AV.gd, allocC, storeC, buildSliceC, makeSliceC, appendC, appSt, baseA, srcA, zeroA, storeW, AV.kill, AV.storable, AV.unit, AV.isAgg, AV.solid, Dat.isAgg, mkAgg, datsOf, fillA, TK.isAgg, VR.bad, dstOK, callee_eq, calleeP, retA, ↓reduceIte, Nat.reduceEqDiff, Nat.reduceLT, Nat.reduceLeDiff, Nat.reduceAdd, Nat.reduceSub, reduceCtorEq, ne_eq, eq_self, if_true, if_false, killL, forall_eq, forall_eq_or_imp, Int.reduceToNat, Int.reduceLT, Int.reduceLE, ↓List.forall_mem_cons, Nat.reduceMul, ite_self, GC, gvS, gvB, gdAll, killAll, appendLC, forall_const, implies_true, Op.operands, avT0, avT1, nth_row, row_len, kill_row, take_row, AV.frz, frzL, frzE, frzO, frz_of, frz_dats, renE, renO, swapN, AV.ren, renL, ren_row, hP, hG, tiA, osd_cons, set_row]
    rw [hv]
    try simp [AV.kill, datE, List.map_set, List.take_of_length_le, spI_len, spW_len, hkd]
    
  · skip
    have h0 : ¬ aroundM how 8 = 0 := hb
    apply aw_regs [2, 6, 7, 8, 9, 34, 58] [6, 7, 10, 13, 14, 17, 45, 46, 47, 51, 52, 74, 75, 81, 82, 83, 87, 88, 102, 108, 122, 128, 137, 138, 139, 143, 144]
    · simp (disch := omega) only [avR2, Kept, keepE, keepO, of_put, of_put0, of_obj, of_drop, of_env, of_objs, of_init, of_initM, initL, fndA, killE, killO, kill_of, kills_of, kills_nil, setO, dropL, ASt.dropO, envL_nil, envL_cons, objL_nil, objL_cons, evA_tmp, evA_const, evA_global, evA_func, evAL, evSL, evPL, evPS, avOf, binA, eqR, binI, unA, binB, fieldAddrA, fieldA, indexAddrA, indexA, extractA, buildA, sliceA, boundA, loadA, loadW, partA, lenA, minA, maxA, foldA, min2A, max2A, convA, pickA, asB, AV.strip, AV.gd, allocC, storeC, buildSliceC, makeSliceC, appendC, appSt, baseA, srcA, zeroA, storeW, AV.kill, AV.storable, AV.unit, AV.isAgg, AV.solid, Dat.isAgg, mkAgg, datsOf, fillA, TK.isAgg, VR.bad, dstOK, callee_eq, calleeP, retA, ↓reduceIte, Nat.reduceEqDiff, Nat.reduceLT, Nat.reduceLeDiff, Nat.reduceAdd, Nat.reduceSub, reduceCtorEq, ne_eq, eq_self, if_true, if_false, killL, forall_eq, forall_eq_or_imp, Int.reduceToNat, Int.reduceLT, Int.reduceLE, ↓List.forall_mem_cons, Nat.reduceMul, ite_self, GC, gvS, gvB, gdAll, killAll, appendLC, forall_const, implies_true, Op.operands, avT0, avT1, nth_row, row_len, kill_row, take_row, AV.frz, frzL, frzE, frzO, frz_of, frz_dats, renE, renO, swapN, AV.ren, renL, ren_row, hA, tiA]
      first | exact ⟨rfl, rfl⟩ | ((repeat' first | refine And.intro ?_ ?_ | intro _) <;> first | with_reducible rfl | assumption | omega | rfl | (rename_i hq; rw [hq]; rfl) | (simp_all; done))
    refine aw_if _ rfl (fun hb => ?_) (fun hb => ?_) <;> (try simp only [pickB_true, pickB_false, Bool.false_or, Bool.false_and, Bool.true_and, decide_eq_true_eq, decide_eq_false_iff_not, Bool.or_eq_true, Bool.and_eq_true, Bool.or_eq_false_iff, Bool.and_eq_false_imp, Bool.not_eq_true, Bool.not_eq_false, Bool.not_eq_eq_eq_not, Bool.not_true, Bool.not_false, Int.not_lt, Int.not_le, beq_iff_eq, beq_eq_false_iff_ne, bne_iff_ne, bne_eq_false_iff_eq, ne_eq, Bool.true_eq_false, Bool.false_eq_true, if_false_left, if_true_left, Bool.not_eq_eq_eq_not, Bool.decide_eq_true, Classical.not_not] at hb)
    · skip
      apply aw_regs [6, 7, 8, 9, 64] [6, 7, 10, 13, 14, 17, 45, 46, 47, 51, 52, 74, 75, 81, 82, 83, 87, 88, 102, 108, 122, 128, 137, 138, 139, 143, 144]
      · simp (disch := omega) only [avR2, Kept, keepE, keepO, of_put, of_put0, of_obj, of_drop, of_env, of_objs, of_init, of_initM, initL, fndA, killE, killO, kill_of, kills_of, kills_nil, setO, dropL, ASt.dropO, envL_nil, envL_cons, objL_nil, objL_cons, evA_tmp, evA_const, evA_global, evA_func, evAL, evSL, evPL, evPS, avOf, binA, eqR, binI, unA, binB, fieldAddrA, fieldA, indexAddrA, indexA, extractA, buildA, sliceA, boundA, loadA, loadW, partA, lenA, minA, maxA, foldA, min2A, max2A, convA, pickA, asB, AV.strip, AV.gd, allocC, storeC, buildSliceC, makeSliceC, appendC, appSt, baseA, srcA, zeroA, storeW, AV.kill, AV.storable, AV.unit, AV.isAgg, AV.solid, Dat.isAgg, mkAgg, datsOf, fillA, TK.isAgg, VR.bad, dstOK, callee_eq, calleeP, retA, ↓reduceIte, Nat.reduceEqDiff, Nat.reduceLT, Nat.reduceLeDiff, Nat.reduceAdd, Nat.reduceSub, reduceCtorEq, ne_eq, eq_self, if_true, if_false, killL, forall_eq, forall_eq_or_imp, Int.reduceToNat, Int.reduceLT, Int.reduceLE, ↓List.forall_mem_cons, Nat.reduceMul, ite_self, GC, gvS, gvB, gdAll, killAll, appendLC, forall_const, implies_true, Op.operands, avT0, avT1, nth_row, row_len, kill_row, take_row, AV.frz, frzL, frzE, frzO, frz_of, frz_dats, renE, renO, swapN, AV.ren, renL, ren_row, hA, tiA]
        first | exact ⟨rfl, rfl⟩ | ((repeat' first | refine And.intro ?_ ?_ | intro _) <;> first | with_reducible rfl | assumption | omega | rfl | (rename_i hq; rw [hq]; rfl) | (simp_all; done))
      refine aw_if _ rfl (fun hb => ?_) (fun hb => ?_) <;> (try simp only [pickB_true, pickB_false, Bool.false_or, Bool.false_and, Bool.true_and, decide_eq_true_eq, decide_eq_false_iff_not, Bool.or_eq_true, Bool.and_eq_true, Bool.or_eq_false_iff, Bool.and_eq_false_imp, Bool.not_eq_true, Bool.not_eq_false, Bool.not_eq_eq_eq_not, Bool.not_true, Bool.not_false, Int.not_lt, Int.not_le, beq_iff_eq, beq_eq_false_iff_ne, bne_iff_ne, bne_eq_false_iff_eq, ne_eq, Bool.true_eq_false, Bool.false_eq_true, if_false_left, if_true_left, Bool.not_eq_eq_eq_not, Bool.decide_eq_true, Classical.not_not] at hb)
      · skip
        have hkc : aroundM (y.tdiv 9) (spMax c) < (c.weights.length : Int) := hb
        have hv : spoiltM c how y = ⟨c.items, c.weights.set (spK c y).toNat (spN y), c.room⟩ := by
          unfold spoiltM
          rw [if_neg h0, if_pos (by assumption), if_pos (by omega)]
        apply aw_reg [6, 7] [6, 7, 10, 13, 14, 17, 45, 46, 47, 51, 52, 74, 75, 81, 82, 83, 87, 88, 102, 108, 122, 128, 137, 138, 139, 143, 144]
        · simp (disch := omega) only [avR2, Kept, keepE, keepO, of_put, of_put0, of_obj, of_drop, of_env, of_objs, of_init, of_initM, initL, fndA, killE, killO, kill_of, kills_of, kills_nil, setO, dropL, ASt.dropO, envL_nil, envL_cons, objL_nil, objL_cons, evA_tmp, evA_const, evA_global, evA_func, evAL, evSL, evPL, evPS, avOf, binA, eqR, binI, unA, binB, fieldAddrA, fieldA, indexAddrA, indexA, extractA, buildA, sliceA, boundA, loadA, loadW, partA, lenA, minA, maxA, foldA, min2A, max2A, convA, pickA, asB, AV.strip, AV.gd, allocC, storeC, buildSliceC, makeSliceC, appendC, appSt, baseA, srcA, zeroA, storeW, AV.kill, AV.storable, AV.unit, AV.isAgg, AV.solid, Dat.isAgg, mkAgg, datsOf, fillA, TK.isAgg, VR.bad, dstOK, callee_eq, calleeP, retA, ↓reduceIte, Nat.reduceEqDiff, Nat.reduceLT, Nat.reduceLeDiff, Nat.reduceAdd, Nat.reduceSub, reduceCtorEq, ne_eq, eq_self, if_true, if_false, killL, forall_eq, forall_eq_or_imp, Int.reduceToNat, Int.reduceLT, Int.reduceLE, ↓List.forall_mem_cons, Nat.reduceMul, ite_self, GC, gvS, gvB, gdAll, killAll, appendLC, forall_const, implies_true, Op.operands, avT0, avT1, nth_row, row_len, kill_row, take_row, AV.frz, frzL, frzE, frzO, frz_of, frz_dats, renE, renO, swapN, AV.ren, renL, ren_row, hA, tiA]
          first | exact ⟨rfl, rfl⟩ | ((repeat' first | refine And.intro ?_ ?_ | intro _) <;> first | with_reducible rfl | assumption | omega | rfl | (rename_i hq; rw [hq]; rfl) | (simp_all; done))
        apply q_block
        apply q_seq
        apply aw_regs [6] [6, 10, 13, 14, 17, 45, 46, 47, 51, 52, 74, 75, 81, 82, 83, 87, 88, 102, 108, 122, 128, 137, 138, 139, 143, 144]
        · simp (disch := omega) only [avR2, Kept, keepE, keepO, of_put, of_put0, of_obj, of_drop, of_env, of_objs, of_init, of_initM, initL, fndA, killE, killO, kill_of, kills_of, kills_nil, setO, dropL, ASt.dropO, envL_nil, envL_cons, objL_nil, objL_cons, evA_tmp, evA_const, evA_global, evA_func, evAL, evSL, evPL, evPS, avOf, binA, eqR, binI, unA, binB, fieldAddrA, fieldA, indexAddrA, indexA, extractA, buildA, sliceA, boundA, loadA, loadW, partA, lenA, minA, maxA, foldA, min2A, max2A, convA, pickA, asB, AV.strip, AV.gd, allocC, storeC, buildSliceC, makeSliceC, appendC, appSt, baseA, srcA, zeroA, storeW, AV.kill, AV.storable, AV.unit, AV.isAgg, AV.solid, Dat.isAgg, mkAgg, datsOf, fillA, TK.isAgg, VR.bad, dstOK, callee_eq, calleeP, retA, ↓reduceIte, Nat.reduceEqDiff, Nat.reduceLT, Nat.reduceLeDiff, Nat.reduceAdd, Nat.reduceSub, reduceCtorEq, ne_eq, eq_self, if_true, if_false, killL, forall_eq, forall_eq_or_imp, Int.reduceToNat, Int.reduceLT, Int.reduceLE, ↓List.forall_mem_cons, Nat.reduceMul, ite_self, GC, gvS, gvB, gdAll, killAll, appendLC, forall_const, implies_true, Op.operands, avT0, avT1, nth_row, row_len, kill_row, take_row, AV.frz, frzL, frzE, frzO, frz_of, frz_dats, renE, renO, swapN, AV.ren, renL, ren_row, hA, tiA]
          first | exact ⟨rfl, rfl⟩ | ((repeat' first | refine And.intro ?_ ?_ | intro _) <;> first | with_reducible rfl | assumption | omega | rfl | (rename_i hq; rw [hq]; rfl) | (simp_all; done))
        apply aw_ret
        simp only [QRet, QRetM, QRetX, retsX_nil, retsX_cons, objsAre, Tryd.results11, resA, mapO_nil, mapO_cons, vD_dat, vD_nils, vD_rp, vD_osl, vD_ptr, vD_agg, vD_fn, vL_dat, vL_app, viewL, Kept, keepE, keepO, of_put, of_put0, of_obj, of_drop, of_env, of_objs, of_init, of_initM, initL, fndA, killE, killO, kill_of, kills_of, kills_nil, setO, dropL, ASt.dropO, envL_nil, envL_cons, objL_nil, objL_cons, evA_tmp, evA_const, evA_global, evA_func, evAL, evSL, evPL, evPS, avOf, binA, eqR, binI, unA, binB, fieldAddrA, fieldA, indexAddrA, indexA, extractA, buildA, sliceA, boundA, loadA, loadW, partA, lenA, minA, maxA, foldA, min2A, max2A, convA, pickA, asB, AV.strip, AV.gd, allocC, storeC, buildSliceC, makeSliceC, appendC, appSt, baseA, srcA, zeroA, storeW, AV.kill, AV.storable, AV.unit, AV.isAgg, AV.solid, Dat.isAgg, mkAgg, datsOf, fillA, TK.isAgg, VR.bad, dstOK, callee_eq, calleeP, retA, ↓reduceIte, Nat.reduceEqDiff, Nat.reduceLT, Nat.reduceLeDiff, Nat.reduceAdd, Nat.reduceSub, reduceCtorEq, ne_eq, eq_self, if_true, if_false, killL, forall_eq, forall_eq_or_imp, Int.reduceToNat, Int.reduceLT, Int.reduceLE, ↓List.forall_mem_cons, Nat.reduceMul, ite_self, GC, gvS, gvB, gdAll, killAll, appendLC, forall_const, implies_true, Op.operands, avT0, avT1, nth_row, row_len, kill_row, take_row, AV.frz, frzL, frzE, frzO, frz_of, frz_dats, renE, renO, swapN, AV.ren, renL, ren_row, hP, hG, tiA, osd_cons, set_row]
        rw [hv]
        try simp [AV.kill, datE, List.map_set, List.take_of_length_le, spI_len, spW_len, hkd]
        
      · skip
        have hv : spoiltM c how y = c := by
          unfold spoiltM
          rw [if_neg h0, if_pos (by assumption), if_neg (by omega)]
        apply aw_skip
        apply q_block
        apply q_seq
        apply aw_regs [6] [6, 10, 13, 14, 17, 45, 46, 47, 51, 52, 74, 75, 81, 82, 83, 87, 88, 102, 108, 122, 128, 137, 138, 139, 143, 144]
        · simp (disch := omega) only [avR2, Kept, keepE, keepO, of_put, of_put0, of_obj, of_drop, of_env, of_objs, of_init, of_initM, initL, fndA, killE, killO, kill_of, kills_of, kills_nil, setO, dropL, ASt.dropO, envL_nil, envL_cons, objL_nil, objL_cons, evA_tmp, evA_const, evA_global, evA_func, evAL, evSL, evPL, evPS, avOf, binA, eqR, binI, unA, binB, fieldAddrA, fieldA, indexAddrA, indexA, extractA, buildA, sliceA, boundA, loadA, loadW, partA, lenA, minA, maxA, foldA, min2A, max2A, convA, pickA, asB, AV.strip, AV.gd, allocC, storeC, buildSliceC, makeSliceC, appendC, appSt, baseA, srcA, zeroA, storeW, AV.kill, AV.storable, AV.unit, AV.isAgg, AV.solid, Dat.isAgg, mkAgg, datsOf, fillA, TK.isAgg, VR.bad, dstOK, callee_eq, calleeP, retA, ↓reduceIte, Nat.reduceEqDiff, Nat.reduceLT, Nat.reduceLeDiff, Nat.reduceAdd, Nat.reduceSub, reduceCtorEq, ne_eq, eq_self, if_true, if_false, killL, forall_eq, forall_eq_or_imp, Int.reduceToNat, Int.reduceLT, Int.reduceLE, ↓List.forall_mem_cons, Nat.reduceMul, ite_self, GC, gvS, gvB, gdAll, killAll, appendLC, forall_const, implies_true, Op.operands, avT0, avT1, nth_row, row_len, kill_row, take_row, AV.frz, frzL, frzE, frzO, frz_of, frz_dats, renE, renO, swapN, AV.ren, renL, ren_row, hA, tiA]
          first | exact ⟨rfl, rfl⟩ | ((repeat' first | refine And.intro ?_ ?_ | intro _) <;> first | with_reducible rfl | assumption | omega | rfl | (rename_i hq; rw [hq]; rfl) | (simp_all; done))
        apply aw_ret
        simp only [QRet, QRetM, QRetX, retsX_nil, retsX_cons, objsAre, Tryd.results11, resA, mapO_nil, mapO_cons, vD_dat, vD_nils, vD_rp, vD_osl, vD_ptr, vD_agg, vD_fn, vL_dat, vL_app, viewL, Kept, keepE, keepO, of_put, of_put0, of_obj, of_drop, of_env, of_objs, of_init, of_initM, initL, fndA, killE, killO, kill_of, kills_of, kills_nil, setO, dropL, ASt.dropO, envL_nil, envL_cons, objL_nil, objL_cons, evA_tmp, evA_const, evA_global, evA_func, evAL, evSL, evPL, evPS, avOf, binA, eqR, binI, unA, binB, fieldAddrA, fieldA, indexAddrA, indexA, extractA, buildA, sliceA, boundA, loadA, loadW, partA, lenA, minA, maxA, foldA, min2A, max2A, convA, pickA, asB, AV.strip, AV.gd, allocC, storeC, buildSliceC, makeSliceC, appendC, appSt, baseA, srcA, zeroA, storeW, AV.kill, AV.storable, AV.unit, AV.isAgg, AV.solid, Dat.isAgg, mkAgg, datsOf, fillA, TK.isAgg, VR.bad, dstOK, callee_eq, calleeP, retA, ↓reduceIte, Nat.reduceEqDiff, Nat.reduceLT, Nat.reduceLeDiff, Nat.reduceAdd, Nat.reduceSub, reduceCtorEq, ne_eq, eq_self, if_true, if_false, killL, forall_eq, forall_eq_or_imp, Int.reduceToNat, Int.reduceLT, Int.reduceLE, ↓List.forall_mem_cons, Nat.reduceMul, ite_self, GC, gvS, gvB, gdAll, killAll, appendLC, forall_const, implies_true, Op.operands, avT0, avT1, nth_row, row_len, kill_row, take_row, AV.frz, frzL, frzE, frzO, frz_of, frz_dats, renE, renO, swapN, AV.ren, renL, ren_row, hP, hG, tiA, osd_cons, set_row]
        rw [hv]
        try simp [AV.kill, datE, List.map_set, List.take_of_length_le, spI_len, spW_len, hkd]
        
    · skip
      have h1 : ¬ aroundM how 8 = 1 := hb
      apply aw_regs [2, 6, 7, 8, 9, 34, 70] [6, 7, 10, 13, 14, 17, 45, 46, 47, 51, 52, 74, 75, 81, 82, 83, 87, 88, 102, 108, 122, 128, 137, 138, 139, 143, 144]
      · simp (disch := omega) only [avR2, Kept, keepE, keepO, of_put, of_put0, of_obj, of_drop, of_env, of_objs, of_init, of_initM, initL, fndA, killE, killO, kill_of, kills_of, kills_nil, setO, dropL, ASt.dropO, envL_nil, envL_cons, objL_nil, objL_cons, evA_tmp, evA_const, evA_global, evA_func, evAL, evSL, evPL, evPS, avOf, binA, eqR, binI, unA, binB, fieldAddrA, fieldA, indexAddrA, indexA, extractA, buildA, sliceA, boundA, loadA, loadW, partA, lenA, minA, maxA, foldA, min2A, max2A, convA, pickA, asB, AV.strip, AV.gd, allocC, storeC, buildSliceC, makeSliceC, appendC, appSt, baseA, srcA, zeroA, storeW, AV.kill, AV.storable, AV.unit, AV.isAgg, AV.solid, Dat.isAgg, mkAgg, datsOf, fillA, TK.isAgg, VR.bad, dstOK, callee_eq, calleeP, retA, ↓reduceIte, Nat.reduceEqDiff, Nat.reduceLT, Nat.reduceLeDiff, Nat.reduceAdd, Nat.reduceSub, reduceCtorEq, ne_eq, eq_self, if_true, if_false, killL, forall_eq, forall_eq_or_imp, Int.reduceToNat, Int.reduceLT, Int.reduceLE, ↓List.forall_mem_cons, Nat.reduceMul, ite_self, GC, gvS, gvB, gdAll, killAll, appendLC, forall_const, implies_true, Op.operands, avT0, avT1, nth_row, row_len, kill_row, take_row, AV.frz, frzL, frzE, frzO, frz_of, frz_dats, renE, renO, swapN, AV.ren, renL, ren_row, hA, tiA]
        first | exact ⟨rfl, rfl⟩ | ((repeat' first | refine And.intro ?_ ?_ | intro _) <;> first | with_reducible rfl | assumption | omega | rfl | (rename_i hq; rw [hq]; rfl) | (simp_all; done))
      refine aw_if _ rfl (fun hb => ?_) (fun hb => ?_) <;> (try simp only [pickB_true, pickB_false, Bool.false_or, Bool.false_and, Bool.true_and, decide_eq_true_eq, decide_eq_false_iff_not, Bool.or_eq_true, Bool.and_eq_true, Bool.or_eq_false_iff, Bool.and_eq_false_imp, Bool.not_eq_true, Bool.not_eq_false, Bool.not_eq_eq_eq_not, Bool.not_true, Bool.not_false, Int.not_lt, Int.not_le, beq_iff_eq, beq_eq_false_iff_ne, bne_iff_ne, bne_eq_false_iff_eq, ne_eq, Bool.true_eq_false, Bool.false_eq_true, if_false_left, if_true_left, Bool.not_eq_eq_eq_not, Bool.decide_eq_true, Classical.not_not] at hb)
      · skip
        have hv : spoiltM c how y = ⟨c.items, c.weights ++ [1], c.room⟩ := by
          unfold spoiltM
          rw [if_neg h0, if_neg h1, if_pos hb]
        apply aw_reg [6, 7] [6, 7, 10, 13, 14, 17, 45, 46, 47, 51, 52, 74, 75, 81, 82, 83, 87, 88, 102, 108, 122, 128, 137, 138, 139, 143, 144]
        · simp (disch := omega) only [avR2, Kept, keepE, keepO, of_put, of_put0, of_obj, of_drop, of_env, of_objs, of_init, of_initM, initL, fndA, killE, killO, kill_of, kills_of, kills_nil, setO, dropL, ASt.dropO, envL_nil, envL_cons, objL_nil, objL_cons, evA_tmp, evA_const, evA_global, evA_func, evAL, evSL, evPL, evPS, avOf, binA, eqR, binI, unA, binB, fieldAddrA, fieldA, indexAddrA, indexA, extractA, buildA, sliceA, boundA, loadA, loadW, partA, lenA, minA, maxA, foldA, min2A, max2A, convA, pickA, asB, AV.strip, AV.gd, allocC, storeC, buildSliceC, makeSliceC, appendC, appSt, baseA, srcA, zeroA, storeW, AV.kill, AV.storable, AV.unit, AV.isAgg, AV.solid, Dat.isAgg, mkAgg, datsOf, fillA, TK.isAgg, VR.bad, dstOK, callee_eq, calleeP, retA, ↓reduceIte, Nat.reduceEqDiff, Nat.reduceLT, Nat.reduceLeDiff, Nat.reduceAdd, Nat.reduceSub, reduceCtorEq, ne_eq, eq_self, if_true, if_false, killL, forall_eq, forall_eq_or_imp, Int.reduceToNat, Int.reduceLT, Int.reduceLE, ↓List.forall_mem_cons, Nat.reduceMul, ite_self, GC, gvS, gvB, gdAll, killAll, appendLC, forall_const, implies_true, Op.operands, avT0, avT1, nth_row, row_len, kill_row, take_row, AV.frz, frzL, frzE, frzO, frz_of, frz_dats, renE, renO, swapN, AV.ren, renL, ren_row, hA, tiA]
          first | exact ⟨rfl, rfl⟩ | ((repeat' first | refine And.intro ?_ ?_ | intro _) <;> first | with_reducible rfl | assumption | omega | rfl | (rename_i hq; rw [hq]; rfl) | (simp_all; done))
        apply q_block
        apply q_seq
        apply aw_regs [6] [6, 10, 13, 14, 17, 45, 46, 47, 51, 52, 74, 75, 81, 82, 83, 87, 88, 102, 108, 122, 128, 137, 138, 139, 143, 144]
        · simp (disch := omega) only [avR2, Kept, keepE, keepO, of_put, of_put0, of_obj, of_drop, of_env, of_objs, of_init, of_initM, initL, fndA, killE, killO, kill_of, kills_of, kills_nil, setO, dropL, ASt.dropO, envL_nil, envL_cons, objL_nil, objL_cons, evA_tmp, evA_const, evA_global, evA_func, evAL, evSL, evPL, evPS, avOf, binA, eqR, binI, unA, binB, fieldAddrA, fieldA, indexAddrA, indexA, extractA, buildA, sliceA, boundA, loadA, loadW, partA, lenA, minA, maxA, foldA, min2A, max2A, convA, pickA, asB, AV.strip, AV.gd, allocC, storeC, buildSliceC, makeSliceC, appendC, appSt, baseA, srcA, zeroA, storeW, AV.kill, AV.storable, AV.unit, AV.isAgg, AV.solid, Dat.isAgg, mkAgg, datsOf, fillA, TK.isAgg, VR.bad, dstOK, callee_eq, calleeP, retA, ↓reduceIte, Nat.reduceEqDiff, Nat.reduceLT, Nat.reduceLeDiff, Nat.reduceAdd, Nat.reduceSub, reduceCtorEq, ne_eq, eq_self, if_true, if_false, killL, forall_eq, forall_eq_or_imp, Int.reduceToNat, Int.reduceLT, Int.reduceLE, ↓List.forall_mem_cons, Nat.reduceMul, ite_self, GC, gvS, gvB, gdAll, killAll, appendLC, forall_const, implies_true, Op.operands, avT0, avT1, nth_row, row_len, kill_row, take_row, AV.frz, frzL, frzE, frzO, frz_of, frz_dats, renE, renO, swapN, AV.ren, renL, ren_row, hA, tiA]
          first | exact ⟨rfl, rfl⟩ | ((repeat' first | refine And.intro ?_ ?_ | intro _) <;> first | with_reducible rfl | assumption | omega | rfl | (rename_i hq; rw [hq]; rfl) | (simp_all; done))
        apply aw_ret
        simp only [QRet, QRetM, QRetX, retsX_nil, retsX_cons, objsAre, Tryd.results11, resA, mapO_nil, mapO_cons, vD_dat, vD_nils, vD_rp, vD_osl, vD_ptr, vD_agg, vD_fn, vL_dat, vL_app, viewL, Kept, keepE, keepO, of_put, of_put0, of_obj, of_drop, of_env, of_objs, of_init, of_initM, initL, fndA, killE, killO, kill_of, kills_of, kills_nil, setO, dropL, ASt.dropO, envL_nil, envL_cons, objL_nil, objL_cons, evA_tmp, evA_const, evA_global, evA_func, evAL, evSL, evPL, evPS, avOf, binA, eqR, binI, unA, binB, fieldAddrA, fieldA, indexAddrA, indexA, extractA, buildA, sliceA, boundA, loadA, loadW, partA, lenA, minA, maxA, foldA, min2A, max2A, convA, pickA, asB, AV.strip, AV.gd, allocC, storeC, buildSliceC, makeSliceC, appendC, appSt, baseA, srcA, zeroA, storeW, AV.kill, AV.storable, AV.unit, AV.isAgg, AV.solid, Dat.isAgg, mkAgg, datsOf, fillA, TK.isAgg, VR.bad, dstOK, callee_eq, calleeP, retA, ↓reduceIte, Nat.reduceEqDiff, Nat.reduceLT, Nat.reduceLeDiff, Nat.reduceAdd, Nat.reduceSub, reduceCtorEq, ne_eq, eq_self, if_true, if_false, killL, forall_eq, forall_eq_or_imp, Int.reduceToNat, Int.reduceLT, Int.reduceLE, ↓List.forall_mem_cons, Nat.reduceMul, ite_self, GC, gvS, gvB, gdAll, killAll, appendLC, forall_const, implies_true, Op.operands, avT0, avT1, nth_row, row_len, kill_row, take_row, AV.frz, frzL, frzE, frzO, frz_of, frz_dats, renE, renO, swapN, AV.ren, renL, ren_row, hP, hG, tiA, osd_cons, set_row]
        rw [hv]
        try simp [AV.kill, datE, List.map_set, List.take_of_length_le, spI_len, spW_len, hkd]
        
      · skip
        have h2 : ¬ aroundM how 8 = 2 := hb
        apply aw_regs [2, 6, 7, 8, 9, 34, 77] [6, 7, 10, 13, 14, 17, 45, 46, 47, 51, 52, 74, 75, 81, 82, 83, 87, 88, 102, 108, 122, 128, 137, 138, 139, 143, 144]
        · simp (disch := omega) only [avR2, Kept, keepE, keepO, of_put, of_put0, of_obj, of_drop, of_env, of_objs, of_init, of_initM, initL, fndA, killE, killO, kill_of, kills_of, kills_nil, setO, dropL, ASt.dropO, envL_nil, envL_cons, objL_nil, objL_cons, evA_tmp, evA_const, evA_global, evA_func, evAL, evSL, evPL, evPS, avOf, binA, eqR, binI, unA, binB, fieldAddrA, fieldA, indexAddrA, indexA, extractA, buildA, sliceA, boundA, loadA, loadW, partA, lenA, minA, maxA, foldA, min2A, max2A, convA, pickA, asB, AV.strip, AV.gd, allocC, storeC, buildSliceC, makeSliceC, appendC, appSt, baseA, srcA, zeroA, storeW, AV.kill, AV.storable, AV.unit, AV.isAgg, AV.solid, Dat.isAgg, mkAgg, datsOf, fillA, TK.isAgg, VR.bad, dstOK, callee_eq, calleeP, retA, ↓reduceIte, Nat.reduceEqDiff, Nat.reduceLT, Nat.reduceLeDiff, Nat.reduceAdd, Nat.reduceSub, reduceCtorEq, ne_eq, eq_self, if_true, if_false, killL, forall_eq, forall_eq_or_imp, Int.reduceToNat, Int.reduceLT, Int.reduceLE, ↓List.forall_mem_cons, Nat.reduceMul, ite_self, GC, gvS, gvB, gdAll, killAll, appendLC, forall_const, implies_true, Op.operands, avT0, avT1, nth_row, row_len, kill_row, take_row, AV.frz, frzL, frzE, frzO, frz_of, frz_dats, renE, renO, swapN, AV.ren, renL, ren_row, hA, tiA]
          first | exact ⟨rfl, rfl⟩ | ((repeat' first | refine And.intro ?_ ?_ | intro _) <;> first | with_reducible rfl | assumption | omega | rfl | (rename_i hq; rw [hq]; rfl) | (simp_all; done))
        refine aw_if _ rfl (fun hb => ?_) (fun hb => ?_) <;> (try simp only [pickB_true, pickB_false, Bool.false_or, Bool.false_and, Bool.true_and, decide_eq_true_eq, decide_eq_false_iff_not, Bool.or_eq_true, Bool.and_eq_true, Bool.or_eq_false_iff, Bool.and_eq_false_imp, Bool.not_eq_true, Bool.not_eq_false, Bool.not_eq_eq_eq_not, Bool.not_true, Bool.not_false, Int.not_lt, Int.not_le, beq_iff_eq, beq_eq_false_iff_ne, bne_iff_ne, bne_eq_false_iff_eq, ne_eq, Bool.true_eq_false, Bool.false_eq_true, if_false_left, if_true_left, Bool.not_eq_eq_eq_not, Bool.decide_eq_true, Classical.not_not] at hb)
        · skip
          have hv : spoiltM c how y = ⟨c.items ++ [[]], c.weights ++ [1], c.room⟩ := by
            unfold spoiltM
            rw [if_neg h0, if_neg h1, if_neg h2, if_pos hb]
          apply aw_regs [6, 7] [6, 7, 10, 13, 14, 17, 45, 46, 47, 51, 52, 74, 75, 81, 82, 83, 87, 88, 102, 108, 122, 128, 137, 138, 139, 143, 144]
          · simp (disch := omega) only [avR2, Kept, keepE, keepO, of_put, of_put0, of_obj, of_drop, of_env, of_objs, of_init, of_initM, initL, fndA, killE, killO, kill_of, kills_of, kills_nil, setO, dropL, ASt.dropO, envL_nil, envL_cons, objL_nil, objL_cons, evA_tmp, evA_const, evA_global, evA_func, evAL, evSL, evPL, evPS, avOf, binA, eqR, binI, unA, binB, fieldAddrA, fieldA, indexAddrA, indexA, extractA, buildA, sliceA, boundA, loadA, loadW, partA, lenA, minA, maxA, foldA, min2A, max2A, convA, pickA, asB, AV.strip, AV.gd, allocC, storeC, buildSliceC, makeSliceC, appendC, appSt, baseA, srcA, zeroA, storeW, AV.kill, AV.storable, AV.unit, AV.isAgg, AV.solid, Dat.isAgg, mkAgg, datsOf, fillA, TK.isAgg, VR.bad, dstOK, callee_eq, calleeP, retA, ↓reduceIte, Nat.reduceEqDiff, Nat.reduceLT, Nat.reduceLeDiff, Nat.reduceAdd, Nat.reduceSub, reduceCtorEq, ne_eq, eq_self, if_true, if_false, killL, forall_eq, forall_eq_or_imp, Int.reduceToNat, Int.reduceLT, Int.reduceLE, ↓List.forall_mem_cons, Nat.reduceMul, ite_self, GC, gvS, gvB, gdAll, killAll, appendLC, forall_const, implies_true, Op.operands, avT0, avT1, nth_row, row_len, kill_row, take_row, AV.frz, frzL, frzE, frzO, frz_of, frz_dats, renE, renO, swapN, AV.ren, renL, ren_row, hA, tiA]
            first | exact ⟨rfl, rfl⟩ | ((repeat' first | refine And.intro ?_ ?_ | intro _) <;> first | with_reducible rfl | assumption | omega | rfl | (rename_i hq; rw [hq]; rfl) | (simp_all; done))
          refine aw_frz 81 hR.2.2.2 rfl rfl ?_
          apply aw_reg [6, 7] [6, 7, 10, 13, 14, 17, 45, 46, 47, 51, 52, 74, 75, 81, 82, 83, 87, 88, 102, 108, 122, 128, 137, 138, 139, 143, 144]
          · simp (disch := omega) only [avR2, Kept, keepE, keepO, of_put, of_put0, of_obj, of_drop, of_env, of_objs, of_init, of_initM, initL, fndA, killE, killO, kill_of, kills_of, kills_nil, setO, dropL, ASt.dropO, envL_nil, envL_cons, objL_nil, objL_cons, evA_tmp, evA_const, evA_global, evA_func, evAL, evSL, evPL, evPS, avOf, binA, eqR, binI, unA, binB, fieldAddrA, fieldA, indexAddrA, indexA, extractA, buildA, sliceA, boundA, loadA, loadW, partA, lenA, minA, maxA, foldA, min2A, max2A, convA, pickA, asB, AV.strip, AV.gd, allocC, storeC, buildSliceC, makeSliceC, appendC, appSt, baseA, srcA, zeroA, storeW, AV.kill, AV.storable, AV.unit, AV.isAgg, AV.solid, Dat.isAgg, mkAgg, datsOf, fillA, TK.isAgg, VR.bad, dstOK, callee_eq, calleeP, retA, ↓reduceIte, Nat.reduceEqDiff, Nat.reduceLT, Nat.reduceLeDiff, Nat.reduceAdd, Nat.reduceSub, reduceCtorEq, ne_eq, eq_self, if_true, if_false, killL, forall_eq, forall_eq_or_imp, Int.reduceToNat, Int.reduceLT, Int.reduceLE, ↓List.forall_mem_cons, Nat.reduceMul, ite_self, GC, gvS, gvB, gdAll, killAll, appendLC, forall_const, implies_true, Op.operands, avT0, avT1, nth_row, row_len, kill_row, take_row, AV.frz, frzL, frzE, frzO, frz_of, frz_dats, renE, renO, swapN, AV.ren, renL, ren_row, hA, tiA]
            first | exact ⟨rfl, rfl⟩ | ((repeat' first | refine And.intro ?_ ?_ | intro _) <;> first | with_reducible rfl | assumption | omega | rfl | (rename_i hq; rw [hq]; rfl) | (simp_all; done))
          apply q_block
          apply q_seq
          apply aw_regs [6] [6, 10, 13, 14, 17, 45, 46, 47, 51, 52, 74, 75, 81, 82, 83, 87, 88, 102, 108, 122, 128, 137, 138, 139, 143, 144]
          · simp (disch := omega) only [avR2, Kept, keepE, keepO, of_put, of_put0, of_obj, of_drop, of_env, of_objs, of_init, of_initM, initL, fndA, killE, killO, kill_of, kills_of, kills_nil, setO, dropL, ASt.dropO, envL_nil, envL_cons, objL_nil, objL_cons, evA_tmp, evA_const, evA_global, evA_func, evAL, evSL, evPL, evPS, avOf, binA, eqR, binI, unA, binB, fieldAddrA, fieldA, indexAddrA, indexA, extractA, buildA, sliceA, boundA, loadA, loadW, partA, lenA, minA, maxA, foldA, min2A, max2A, convA, pickA, asB, AV.strip, AV.gd, allocC, storeC, buildSliceC, makeSliceC, appendC, appSt, baseA, srcA, zeroA, storeW, AV.kill, AV.storable, AV.unit, AV.isAgg, AV.solid, Dat.isAgg, mkAgg, datsOf, fillA, TK.isAgg, VR.bad, dstOK, callee_eq, calleeP, retA, ↓reduceIte, Nat.reduceEqDiff, Nat.reduceLT, Nat.reduceLeDiff, Nat.reduceAdd, Nat.reduceSub, reduceCtorEq, ne_eq, eq_self, if_true, if_false, killL, forall_eq, forall_eq_or_imp, Int.reduceToNat, Int.reduceLT, Int.reduceLE, ↓List.forall_mem_cons, Nat.reduceMul, ite_self, GC, gvS, gvB, gdAll, killAll, appendLC, forall_const, implies_true, Op.operands, avT0, avT1, nth_row, row_len, kill_row, take_row, AV.frz, frzL, frzE, frzO, frz_of, frz_dats, renE, renO, swapN, AV.ren, renL, ren_row, hA, tiA]
            first | exact ⟨rfl, rfl⟩ | ((repeat' first | refine And.intro ?_ ?_ | intro _) <;> first | with_reducible rfl | assumption | omega | rfl | (rename_i hq; rw [hq]; rfl) | (simp_all; done))
          apply aw_ret
          simp only [QRet, QRetM, QRetX, retsX_nil, retsX_cons, objsAre, Tryd.results11, resA, mapO_nil, mapO_cons, vD_dat, vD_nils, vD_rp, vD_osl, vD_ptr, vD_agg, vD_fn, vL_dat, vL_app, viewL, Kept, keepE, keepO, of_put, of_put0, of_obj, of_drop, of_env, of_objs, of_init, of_initM, initL, fndA, killE, killO, kill_of, kills_of, kills_nil, setO, dropL, ASt.dropO, envL_nil, envL_cons, objL_nil, objL_cons, evA_tmp, evA_const, evA_global, evA_func, evAL, evSL, evPL, evPS, avOf, binA, eqR, binI, unA, binB, fieldAddrA, fieldA, indexAddrA, indexA, extractA, buildA, sliceA, boundA, loadA, loadW, partA, lenA, minA, maxA, foldA, min2A, max2A, convA, pickA, asB, AV.strip, AV.gd, allocC, storeC, buildSliceC, makeSliceC, appendC, appSt, baseA, srcA, zeroA, storeW, AV.kill, AV.storable, AV.unit, AV.isAgg, AV.solid, Dat.isAgg, mkAgg, datsOf, fillA, TK.isAgg, VR.bad, dstOK, callee_eq, calleeP, retA, ↓reduceIte, Nat.reduceEqDiff, Nat.reduceLT, Nat.reduceLeDiff, Nat.reduceAdd, Nat.reduceSub, reduceCtorEq, ne_eq, eq_self, if_true, if_false, killL, forall_eq, forall_eq_or_imp, Int.reduceToNat, Int.reduceLT, Int.reduceLE, ↓List.forall_mem_cons, Nat.reduceMul, ite_self, GC, gvS, gvB, gdAll, killAll, appendLC, forall_const, implies_true, Op.operands, avT0, avT1, nth_row, row_len, kill_row, take_row, AV.frz, frzL, frzE, frzO, frz_of, frz_dats, renE, renO, swapN, AV.ren, renL, ren_row, hP, hG, tiA, osd_cons, set_row]
          rw [hv]
          try simp [AV.kill, datE, List.map_set, List.take_of_length_le, spI_len, spW_len, hkd]
          
        · skip
          have h3' : ¬ aroundM how 8 = 3 := hb
          apply aw_regs [2, 6, 7, 8, 9, 34, 90] [6, 7, 10, 13, 14, 17, 45, 46, 47, 51, 52, 74, 75, 81, 82, 83, 87, 88, 102, 108, 122, 128, 137, 138, 139, 143, 144]
          · simp (disch := omega) only [avR2, Kept, keepE, keepO, of_put, of_put0, of_obj, of_drop, of_env, of_objs, of_init, of_initM, initL, fndA, killE, killO, kill_of, kills_of, kills_nil, setO, dropL, ASt.dropO, envL_nil, envL_cons, objL_nil, objL_cons, evA_tmp, evA_const, evA_global, evA_func, evAL, evSL, evPL, evPS, avOf, binA, eqR, binI, unA, binB, fieldAddrA, fieldA, indexAddrA, indexA, extractA, buildA, sliceA, boundA, loadA, loadW, partA, lenA, minA, maxA, foldA, min2A, max2A, convA, pickA, asB, AV.strip, AV.gd, allocC, storeC, buildSliceC, makeSliceC, appendC, appSt, baseA, srcA, zeroA, storeW, AV.kill, AV.storable, AV.unit, AV.isAgg, AV.solid, Dat.isAgg, mkAgg, datsOf, fillA, TK.isAgg, VR.bad, dstOK, callee_eq, calleeP, retA, ↓reduceIte, Nat.reduceEqDiff, Nat.reduceLT, Nat.reduceLeDiff, Nat.reduceAdd, Nat.reduceSub, reduceCtorEq, ne_eq, eq_self, if_true, if_false, killL, forall_eq, forall_eq_or_imp, Int.reduceToNat, Int.reduceLT, Int.reduceLE, ↓List.forall_mem_cons, Nat.reduceMul, ite_self, GC, gvS, gvB, gdAll, killAll, appendLC, forall_const, implies_true, Op.operands, avT0, avT1, nth_row, row_len, kill_row, take_row, AV.frz, frzL, frzE, frzO, frz_of, frz_dats, renE, renO, swapN, AV.ren, renL, ren_row, hA, tiA]
            first | exact ⟨rfl, rfl⟩ | ((repeat' first | refine And.intro ?_ ?_ | intro _) <;> first | with_reducible rfl | assumption | omega | rfl | (rename_i hq; rw [hq]; rfl) | (simp_all; done))
          refine aw_if _ rfl (fun hb => ?_) (fun hb => ?_) <;> (try simp only [pickB_true, pickB_false, Bool.false_or, Bool.false_and, Bool.true_and, decide_eq_true_eq, decide_eq_false_iff_not, Bool.or_eq_true, Bool.and_eq_true, Bool.or_eq_false_iff, Bool.and_eq_false_imp, Bool.not_eq_true, Bool.not_eq_false, Bool.not_eq_eq_eq_not, Bool.not_true, Bool.not_false, Int.not_lt, Int.not_le, beq_iff_eq, beq_eq_false_iff_ne, bne_iff_ne, bne_eq_false_iff_eq, ne_eq, Bool.true_eq_false, Bool.false_eq_true, if_false_left, if_true_left, Bool.not_eq_eq_eq_not, Bool.decide_eq_true, Classical.not_not] at hb)
          · skip
            apply aw_regs [6, 7, 8, 9, 96] [6, 7, 10, 13, 14, 17, 45, 46, 47, 51, 52, 74, 75, 81, 82, 83, 87, 88, 102, 108, 122, 128, 137, 138, 139, 143, 144]
            · simp (disch := omega) only [avR2, Kept, keepE, keepO, of_put, of_put0, of_obj, of_drop, of_env, of_objs, of_init, of_initM, initL, fndA, killE, killO, kill_of, kills_of, kills_nil, setO, dropL, ASt.dropO, envL_nil, envL_cons, objL_nil, objL_cons, evA_tmp, evA_const, evA_global, evA_func, evAL, evSL, evPL, evPS, avOf, binA, eqR, binI, unA, binB, fieldAddrA, fieldA, indexAddrA, indexA, extractA, buildA, sliceA, boundA, loadA, loadW, partA, lenA, minA, maxA, foldA, min2A, max2A, convA, pickA, asB, AV.strip, AV.gd, allocC, storeC, buildSliceC, makeSliceC, appendC, appSt, baseA, srcA, zeroA, storeW, AV.kill, AV.storable, AV.unit, AV.isAgg, AV.solid, Dat.isAgg, mkAgg, datsOf, fillA, TK.isAgg, VR.bad, dstOK, callee_eq, calleeP, retA, ↓reduceIte, Nat.reduceEqDiff, Nat.reduceLT, Nat.reduceLeDiff, Nat.reduceAdd, Nat.reduceSub, reduceCtorEq, ne_eq, eq_self, if_true, if_false, killL, forall_eq, forall_eq_or_imp, Int.reduceToNat, Int.reduceLT, Int.reduceLE, ↓List.forall_mem_cons, Nat.reduceMul, ite_self, GC, gvS, gvB, gdAll, killAll, appendLC, forall_const, implies_true, Op.operands, avT0, avT1, nth_row, row_len, kill_row, take_row, AV.frz, frzL, frzE, frzO, frz_of, frz_dats, renE, renO, swapN, AV.ren, renL, ren_row, hA, tiA]
              first | exact ⟨rfl, rfl⟩ | ((repeat' first | refine And.intro ?_ ?_ | intro _) <;> first | with_reducible rfl | assumption | omega | rfl | (rename_i hq; rw [hq]; rfl) | (simp_all; done))
            refine aw_if _ rfl (fun hb => ?_) (fun hb => ?_) <;> (try simp only [pickB_true, pickB_false, Bool.false_or, Bool.false_and, Bool.true_and, decide_eq_true_eq, decide_eq_false_iff_not, Bool.or_eq_true, Bool.and_eq_true, Bool.or_eq_false_iff, Bool.and_eq_false_imp, Bool.not_eq_true, Bool.not_eq_false, Bool.not_eq_eq_eq_not, Bool.not_true, Bool.not_false, Int.not_lt, Int.not_le, beq_iff_eq, beq_eq_false_iff_ne, bne_iff_ne, bne_eq_false_iff_eq, ne_eq, Bool.true_eq_false, Bool.false_eq_true, if_false_left, if_true_left, Bool.not_eq_eq_eq_not, Bool.decide_eq_true, Classical.not_not] at hb)
            · skip
              have hkc : aroundM (y.tdiv 9) (spMax c) < (c.items.length : Int) := hb
              have hv : spoiltM c how y = ⟨c.items.set (spK c y).toNat ((spN y, 1) :: itemM c (spK c y).toNat), c.weights, c.room⟩ := by
                unfold spoiltM
                rw [if_neg h0, if_neg h1, if_neg h2, if_neg h3', if_pos (by assumption), if_pos (by omega)]
              have hli := hc.n8 (aroundM (y.tdiv 9) (spMax c)).toNat (by omega)
              simp only [itemM] at hli
              apply aw_rgd [6, 7] [6, 7, 10, 13, 14, 17, 45, 46, 47, 51, 52, 74, 75, 81, 82, 83, 87, 88, 102, 108, 122, 128, 137, 138, 139, 143, 144] [0, 1, 2, 3, 4, 5, 6, 7, 8, 9, 10, 11, 12, 13] []
              · rw [hP]; kernel_rfl
              · exact hR
              · kernel_rfl
              · (repeat (apply PickL.cons; exact rfl)); exact PickL.nil _
              · simp (maxSteps := 2000000) (disch := omega) only [avR2, Kept, keepE, keepO, of_put, of_put0, of_obj, of_drop, of_env, of_objs, of_init, of_initM, initL, fndA, killE, killO, kill_of, kills_of, kills_nil, setO, dropL, ASt.dropO, envL_nil, envL_cons, objL_nil, objL_cons, evA_tmp, evA_const, evA_global, evA_func, evAL, evSL, evPL, evPS, avOf, binA, eqR, binI, unA, binB, fieldAddrA, fieldA, indexAddrA, indexA, extractA, buildA, sliceA, boundA, loadA, loadW, partA, lenA, minA, maxA, foldA, min2A, max2A, convA, pickA, asB, AV.strip, AV.gd, allocC, storeC, buildSliceC, makeSliceC, appendC, appSt, baseA, srcA, zeroA, storeW, AV.kill, AV.storable, AV.unit, AV.isAgg, AV.solid, Dat.isAgg, mkAgg, datsOf, fillA, TK.isAgg, VR.bad, dstOK, callee_eq, calleeP, retA, ↓reduceIte, Nat.reduceEqDiff, Nat.reduceLT, Nat.reduceLeDiff, Nat.reduceAdd, Nat.reduceSub, reduceCtorEq, ne_eq, eq_self, if_true, if_false, killL, forall_eq, forall_eq_or_imp, Int.reduceToNat, Int.reduceLT, Int.reduceLE, ↓List.forall_mem_cons, Nat.reduceMul, ite_self, GC, gvS, gvB, gdAll, killAll, appendLC, forall_const, implies_true, Op.operands, avT0, avT1, nth_row, row_len, kill_row, take_row, AV.frz, frzL, frzE, frzO, frz_of, frz_dats, renE, renO, swapN, AV.ren, renL, ren_row, hA, tiA]
                first | exact ⟨rfl, rfl⟩ | ((repeat' first | refine And.intro ?_ ?_ | intro _) <;> first | with_reducible rfl | assumption | omega | rfl | (rename_i hq; rw [hq]; rfl) | (simp_all; done))
              apply q_block
              apply q_seq
              apply aw_regs [6] [6, 10, 13, 14, 17, 45, 46, 47, 51, 52, 74, 75, 81, 82, 83, 87, 88, 102, 108, 122, 128, 137, 138, 139, 143, 144]
              · simp (disch := omega) only [avR2, Kept, keepE, keepO, of_put, of_put0, of_obj, of_drop, of_env, of_objs, of_init, of_initM, initL, fndA, killE, killO, kill_of, kills_of, kills_nil, setO, dropL, ASt.dropO, envL_nil, envL_cons, objL_nil, objL_cons, evA_tmp, evA_const, evA_global, evA_func, evAL, evSL, evPL, evPS, avOf, binA, eqR, binI, unA, binB, fieldAddrA, fieldA, indexAddrA, indexA, extractA, buildA, sliceA, boundA, loadA, loadW, partA, lenA, minA, maxA, foldA, min2A, max2A, convA, pickA, asB, AV.strip, AV.gd, allocC, storeC, buildSliceC, makeSliceC, appendC, appSt, baseA, srcA, zeroA, storeW, AV.kill, AV.storable, AV.unit, AV.isAgg, AV.solid, Dat.isAgg, mkAgg, datsOf, fillA, TK.isAgg, VR.bad, dstOK, callee_eq, calleeP, retA, ↓reduceIte, Nat.reduceEqDiff, Nat.reduceLT, Nat.reduceLeDiff, Nat.reduceAdd, Nat.reduceSub, reduceCtorEq, ne_eq, eq_self, if_true, if_false, killL, forall_eq, forall_eq_or_imp, Int.reduceToNat, Int.reduceLT, Int.reduceLE, ↓List.forall_mem_cons, Nat.reduceMul, ite_self, GC, gvS, gvB, gdAll, killAll, appendLC, forall_const, implies_true, Op.operands, avT0, avT1, nth_row, row_len, kill_row, take_row, AV.frz, frzL, frzE, frzO, frz_of, frz_dats, renE, renO, swapN, AV.ren, renL, ren_row, hA, tiA]
                first | exact ⟨rfl, rfl⟩ | ((repeat' first | refine And.intro ?_ ?_ | intro _) <;> first | with_reducible rfl | assumption | omega | rfl | (rename_i hq; rw [hq]; rfl) | (simp_all; done))
              apply aw_ret
              simp only [QRet, QRetM, QRetX, retsX_nil, retsX_cons, objsAre, Tryd.results11, resA, mapO_nil, mapO_cons, vD_dat, vD_nils, vD_rp, vD_osl, vD_ptr, vD_agg, vD_fn, vL_dat, vL_app, viewL, Kept, keepE, keepO, of_put, of_put0, of_obj, of_drop, of_env, of_objs, of_init, of_initM, initL, fndA, killE, killO, kill_of, kills_of, kills_nil, setO, dropL, ASt.dropO, envL_nil, envL_cons, objL_nil, objL_cons, evA_tmp, evA_const, evA_global, evA_func, evAL, evSL, evPL, evPS, avOf, binA, eqR, binI, unA, binB, fieldAddrA, fieldA, indexAddrA, indexA, extractA, buildA, sliceA, boundA, loadA, loadW, partA, lenA, minA, maxA, foldA, min2A, max2A, convA, pickA, asB, AV.strip, AV.gd, allocC, storeC, buildSliceC, makeSliceC, appendC, appSt, baseA, srcA, zeroA, storeW, AV.kill, AV.storable, AV.unit, AV.isAgg, AV.solid, Dat.isAgg, mkAgg, datsOf, fillA, TK.isAgg, VR.bad, dstOK, callee_eq, calleeP, retA, ↓reduceIte, Nat.reduceEqDiff, Nat.reduceLT, Nat.reduceLeDiff, Nat.reduceAdd, Nat.reduceSub, reduceCtorEq, ne_eq, eq_self, if_true, if_false, killL, forall_eq, forall_eq_or_imp, Int.reduceToNat, Int.reduceLT, Int.reduceLE, ↓List.forall_mem_cons, Nat.reduceMul, ite_self, GC, gvS, gvB, gdAll, killAll, appendLC, forall_const, implies_true, Op.operands, avT0, avT1, nth_row, row_len, kill_row, take_row, AV.frz, frzL, frzE, frzO, frz_of, frz_dats, renE, renO, swapN, AV.ren, renL, ren_row, hP, hG, tiA, osd_cons, set_row]
              rw [hv]
              try simp [AV.kill, datE, List.map_set, List.take_of_length_le, spI_len, spW_len, hkd]
              
            · skip
              have hv : spoiltM c how y = c := by
                unfold spoiltM
                rw [if_neg h0, if_neg h1, if_neg h2, if_neg h3', if_pos (by assumption), if_neg (by omega)]
              apply aw_skip
              apply q_block
              apply q_seq
              apply aw_regs [6] [6, 10, 13, 14, 17, 45, 46, 47, 51, 52, 74, 75, 81, 82, 83, 87, 88, 102, 108, 122, 128, 137, 138, 139, 143, 144]
              · simp (disch := omega) only [avR2, Kept, keepE, keepO, of_put, of_put0, of_obj, of_drop, of_env, of_objs, of_init, of_initM, initL, fndA, killE, killO, kill_of, kills_of, kills_nil, setO, dropL, ASt.dropO, envL_nil, envL_cons, objL_nil, objL_cons, evA_tmp, evA_const, evA_global, evA_func, evAL, evSL, evPL, evPS, avOf, binA, eqR, binI, unA, binB, fieldAddrA, fieldA, indexAddrA, indexA, extractA, buildA, sliceA, boundA, loadA, loadW, partA, lenA, minA, maxA, foldA, min2A, max2A, convA, pickA, asB, AV.strip, AV.gd, allocC, storeC, buildSliceC, makeSliceC, appendC, appSt, baseA, srcA, zeroA, storeW, AV.kill, AV.storable, AV.unit, AV.isAgg, AV.solid, Dat.isAgg, mkAgg, datsOf, fillA, TK.isAgg, VR.bad, dstOK, callee_eq, calleeP, retA, ↓reduceIte, Nat.reduceEqDiff, Nat.reduceLT, Nat.reduceLeDiff, Nat.reduceAdd, Nat.reduceSub, reduceCtorEq, ne_eq, eq_self, if_true, if_false, killL, forall_eq, forall_eq_or_imp, Int.reduceToNat, Int.reduceLT, Int.reduceLE, ↓List.forall_mem_cons, Nat.reduceMul, ite_self, GC, gvS, gvB, gdAll, killAll, appendLC, forall_const, implies_true, Op.operands, avT0, avT1, nth_row, row_len, kill_row, take_row, AV.frz, frzL, frzE, frzO, frz_of, frz_dats, renE, renO, swapN, AV.ren, renL, ren_row, hA, tiA]
                first | exact ⟨rfl, rfl⟩ | ((repeat' first | refine And.intro ?_ ?_ | intro _) <;> first | with_reducible rfl | assumption | omega | rfl | (rename_i hq; rw [hq]; rfl) | (simp_all; done))
              apply aw_ret
              simp only [QRet, QRetM, QRetX, retsX_nil, retsX_cons, objsAre, Tryd.results11, resA, mapO_nil, mapO_cons, vD_dat, vD_nils, vD_rp, vD_osl, vD_ptr, vD_agg, vD_fn, vL_dat, vL_app, viewL, Kept, keepE, keepO, of_put, of_put0, of_obj, of_drop, of_env, of_objs, of_init, of_initM, initL, fndA, killE, killO, kill_of, kills_of, kills_nil, setO, dropL, ASt.dropO, envL_nil, envL_cons, objL_nil, objL_cons, evA_tmp, evA_const, evA_global, evA_func, evAL, evSL, evPL, evPS, avOf, binA, eqR, binI, unA, binB, fieldAddrA, fieldA, indexAddrA, indexA, extractA, buildA, sliceA, boundA, loadA, loadW, partA, lenA, minA, maxA, foldA, min2A, max2A, convA, pickA, asB, AV.strip, AV.gd, allocC, storeC, buildSliceC, makeSliceC, appendC, appSt, baseA, srcA, zeroA, storeW, AV.kill, AV.storable, AV.unit, AV.isAgg, AV.solid, Dat.isAgg, mkAgg, datsOf, fillA, TK.isAgg, VR.bad, dstOK, callee_eq, calleeP, retA, ↓reduceIte, Nat.reduceEqDiff, Nat.reduceLT, Nat.reduceLeDiff, Nat.reduceAdd, Nat.reduceSub, reduceCtorEq, ne_eq, eq_self, if_true, if_false, killL, forall_eq, forall_eq_or_imp, Int.reduceToNat, Int.reduceLT, Int.reduceLE, ↓List.forall_mem_cons, Nat.reduceMul, ite_self, GC, gvS, gvB, gdAll, killAll, appendLC, forall_const, implies_true, Op.operands, avT0, avT1, nth_row, row_len, kill_row, take_row, AV.frz, frzL, frzE, frzO, frz_of, frz_dats, renE, renO, swapN, AV.ren, renL, ren_row, hP, hG, tiA, osd_cons, set_row]
              rw [hv]
              try simp [AV.kill, datE, List.map_set, List.take_of_length_le, spI_len, spW_len, hkd]
              
          · skip
            have h4' : ¬ aroundM how 8 = 4 := hb
            apply aw_regs [2, 6, 7, 8, 9, 34, 110] [6, 7, 10, 13, 14, 17, 45, 46, 47, 51, 52, 74, 75, 81, 82, 83, 87, 88, 102, 108, 122, 128, 137, 138, 139, 143, 144]
            · simp (disch := omega) only [avR2, Kept, keepE, keepO, of_put, of_put0, of_obj, of_drop, of_env, of_objs, of_init, of_initM, initL, fndA, killE, killO, kill_of, kills_of, kills_nil, setO, dropL, ASt.dropO, envL_nil, envL_cons, objL_nil, objL_cons, evA_tmp, evA_const, evA_global, evA_func, evAL, evSL, evPL, evPS, avOf, binA, eqR, binI, unA, binB, fieldAddrA, fieldA, indexAddrA, indexA, extractA, buildA, sliceA, boundA, loadA, loadW, partA, lenA, minA, maxA, foldA, min2A, max2A, convA, pickA, asB, AV.strip, AV.gd, allocC, storeC, buildSliceC, makeSliceC, appendC, appSt, baseA, srcA, zeroA, storeW, AV.kill, AV.storable, AV.unit, AV.isAgg, AV.solid, Dat.isAgg, mkAgg, datsOf, fillA, TK.isAgg, VR.bad, dstOK, callee_eq, calleeP, retA, ↓reduceIte, Nat.reduceEqDiff, Nat.reduceLT, Nat.reduceLeDiff, Nat.reduceAdd, Nat.reduceSub, reduceCtorEq, ne_eq, eq_self, if_true, if_false, killL, forall_eq, forall_eq_or_imp, Int.reduceToNat, Int.reduceLT, Int.reduceLE, ↓List.forall_mem_cons, Nat.reduceMul, ite_self, GC, gvS, gvB, gdAll, killAll, appendLC, forall_const, implies_true, Op.operands, avT0, avT1, nth_row, row_len, kill_row, take_row, AV.frz, frzL, frzE, frzO, frz_of, frz_dats, renE, renO, swapN, AV.ren, renL, ren_row, hA, tiA]
              first | exact ⟨rfl, rfl⟩ | ((repeat' first | refine And.intro ?_ ?_ | intro _) <;> first | with_reducible rfl | assumption | omega | rfl | (rename_i hq; rw [hq]; rfl) | (simp_all; done))
            refine aw_if _ rfl (fun hb => ?_) (fun hb => ?_) <;> (try simp only [pickB_true, pickB_false, Bool.false_or, Bool.false_and, Bool.true_and, decide_eq_true_eq, decide_eq_false_iff_not, Bool.or_eq_true, Bool.and_eq_true, Bool.or_eq_false_iff, Bool.and_eq_false_imp, Bool.not_eq_true, Bool.not_eq_false, Bool.not_eq_eq_eq_not, Bool.not_true, Bool.not_false, Int.not_lt, Int.not_le, beq_iff_eq, beq_eq_false_iff_ne, bne_iff_ne, bne_eq_false_iff_eq, ne_eq, Bool.true_eq_false, Bool.false_eq_true, if_false_left, if_true_left, Bool.not_eq_eq_eq_not, Bool.decide_eq_true, Classical.not_not] at hb)
            · skip
              apply aw_regs [6, 7, 8, 9, 116] [6, 7, 10, 13, 14, 17, 45, 46, 47, 51, 52, 74, 75, 81, 82, 83, 87, 88, 102, 108, 122, 128, 137, 138, 139, 143, 144]
              · simp (disch := omega) only [avR2, Kept, keepE, keepO, of_put, of_put0, of_obj, of_drop, of_env, of_objs, of_init, of_initM, initL, fndA, killE, killO, kill_of, kills_of, kills_nil, setO, dropL, ASt.dropO, envL_nil, envL_cons, objL_nil, objL_cons, evA_tmp, evA_const, evA_global, evA_func, evAL, evSL, evPL, evPS, avOf, binA, eqR, binI, unA, binB, fieldAddrA, fieldA, indexAddrA, indexA, extractA, buildA, sliceA, boundA, loadA, loadW, partA, lenA, minA, maxA, foldA, min2A, max2A, convA, pickA, asB, AV.strip, AV.gd, allocC, storeC, buildSliceC, makeSliceC, appendC, appSt, baseA, srcA, zeroA, storeW, AV.kill, AV.storable, AV.unit, AV.isAgg, AV.solid, Dat.isAgg, mkAgg, datsOf, fillA, TK.isAgg, VR.bad, dstOK, callee_eq, calleeP, retA, ↓reduceIte, Nat.reduceEqDiff, Nat.reduceLT, Nat.reduceLeDiff, Nat.reduceAdd, Nat.reduceSub, reduceCtorEq, ne_eq, eq_self, if_true, if_false, killL, forall_eq, forall_eq_or_imp, Int.reduceToNat, Int.reduceLT, Int.reduceLE, ↓List.forall_mem_cons, Nat.reduceMul, ite_self, GC, gvS, gvB, gdAll, killAll, appendLC, forall_const, implies_true, Op.operands, avT0, avT1, nth_row, row_len, kill_row, take_row, AV.frz, frzL, frzE, frzO, frz_of, frz_dats, renE, renO, swapN, AV.ren, renL, ren_row, hA, tiA]
                first | exact ⟨rfl, rfl⟩ | ((repeat' first | refine And.intro ?_ ?_ | intro _) <;> first | with_reducible rfl | assumption | omega | rfl | (rename_i hq; rw [hq]; rfl) | (simp_all; done))
              refine aw_if _ rfl (fun hb => ?_) (fun hb => ?_) <;> (try simp only [pickB_true, pickB_false, Bool.false_or, Bool.false_and, Bool.true_and, decide_eq_true_eq, decide_eq_false_iff_not, Bool.or_eq_true, Bool.and_eq_true, Bool.or_eq_false_iff, Bool.and_eq_false_imp, Bool.not_eq_true, Bool.not_eq_false, Bool.not_eq_eq_eq_not, Bool.not_true, Bool.not_false, Int.not_lt, Int.not_le, beq_iff_eq, beq_eq_false_iff_ne, bne_iff_ne, bne_eq_false_iff_eq, ne_eq, Bool.true_eq_false, Bool.false_eq_true, if_false_left, if_true_left, Bool.not_eq_eq_eq_not, Bool.decide_eq_true, Classical.not_not] at hb)
              · skip
                have hkc : aroundM (y.tdiv 9) (spMax c) < (c.items.length : Int) := hb
                have hv : spoiltM c how y = ⟨c.items.set (spK c y).toNat ((1, spN y) :: itemM c (spK c y).toNat), c.weights, c.room⟩ := by
                  unfold spoiltM
                  rw [if_neg h0, if_neg h1, if_neg h2, if_neg h3', if_neg h4', if_pos (by assumption), if_pos (by omega)]
                have hli := hc.n8 (aroundM (y.tdiv 9) (spMax c)).toNat (by omega)
                simp only [itemM] at hli
                apply aw_rgd [6, 7] [6, 7, 10, 13, 14, 17, 45, 46, 47, 51, 52, 74, 75, 81, 82, 83, 87, 88, 102, 108, 122, 128, 137, 138, 139, 143, 144] [0, 1, 2, 3, 4, 5, 6, 7, 8, 9, 10, 11, 12, 13] []
                · rw [hP]; kernel_rfl
                · exact hR
                · kernel_rfl
                · (repeat (apply PickL.cons; exact rfl)); exact PickL.nil _
                · simp (maxSteps := 2000000) (disch := omega) only [avR2, Kept, keepE, keepO, of_put, of_put0, of_obj, of_drop, of_env, of_objs, of_init, of_initM, initL, fndA, killE, killO, kill_of, kills_of, kills_nil, setO, dropL, ASt.dropO, envL_nil, envL_cons, objL_nil, objL_cons, evA_tmp, evA_const, evA_global, evA_func, evAL, evSL, evPL, evPS, avOf, binA, eqR, binI, unA, binB, fieldAddrA, fieldA, indexAddrA, indexA, extractA, buildA, sliceA, boundA, loadA, loadW, partA, lenA, minA, maxA, foldA, min2A, max2A, convA, pickA, asB, AV.strip, AV.gd, allocC, storeC, buildSliceC, makeSliceC, appendC, appSt, baseA, srcA, zeroA, storeW, AV.kill, AV.storable, AV.unit, AV.isAgg, AV.solid, Dat.isAgg, mkAgg, datsOf, fillA, TK.isAgg, VR.bad, dstOK, callee_eq, calleeP, retA, ↓reduceIte, Nat.reduceEqDiff, Nat.reduceLT, Nat.reduceLeDiff, Nat.reduceAdd, Nat.reduceSub, reduceCtorEq, ne_eq, eq_self, if_true, if_false, killL, forall_eq, forall_eq_or_imp, Int.reduceToNat, Int.reduceLT, Int.reduceLE, ↓List.forall_mem_cons, Nat.reduceMul, ite_self, GC, gvS, gvB, gdAll, killAll, appendLC, forall_const, implies_true, Op.operands, avT0, avT1, nth_row, row_len, kill_row, take_row, AV.frz, frzL, frzE, frzO, frz_of, frz_dats, renE, renO, swapN, AV.ren, renL, ren_row, hA, tiA]
                  first | exact ⟨rfl, rfl⟩ | ((repeat' first | refine And.intro ?_ ?_ | intro _) <;> first | with_reducible rfl | assumption | omega | rfl | (rename_i hq; rw [hq]; rfl) | (simp_all; done))
                apply q_block
                apply q_seq
                apply aw_regs [6] [6, 10, 13, 14, 17, 45, 46, 47, 51, 52, 74, 75, 81, 82, 83, 87, 88, 102, 108, 122, 128, 137, 138, 139, 143, 144]
                · simp (disch := omega) only [avR2, Kept, keepE, keepO, of_put, of_put0, of_obj, of_drop, of_env, of_objs, of_init, of_initM, initL, fndA, killE, killO, kill_of, kills_of, kills_nil, setO, dropL, ASt.dropO, envL_nil, envL_cons, objL_nil, objL_cons, evA_tmp, evA_const, evA_global, evA_func, evAL, evSL, evPL, evPS, avOf, binA, eqR, binI, unA, binB, fieldAddrA, fieldA, indexAddrA, indexA, extractA, buildA, sliceA, boundA, loadA, loadW, partA, lenA, minA, maxA, foldA, min2A, max2A, convA, pickA, asB, AV.strip, AV.gd, allocC, storeC, buildSliceC, makeSliceC, appendC, appSt, baseA, srcA, zeroA, storeW, AV.kill, AV.storable, AV.unit, AV.isAgg, AV.solid, Dat.isAgg, mkAgg, datsOf, fillA, TK.isAgg, VR.bad, dstOK, callee_eq, calleeP, retA, ↓reduceIte, Nat.reduceEqDiff, Nat.reduceLT, Nat.reduceLeDiff, Nat.reduceAdd, Nat.reduceSub, reduceCtorEq, ne_eq, eq_self, if_true, if_false, killL, forall_eq, forall_eq_or_imp, Int.reduceToNat, Int.reduceLT, Int.reduceLE, ↓List.forall_mem_cons, Nat.reduceMul, ite_self, GC, gvS, gvB, gdAll, killAll, appendLC, forall_const, implies_true, Op.operands, avT0, avT1, nth_row, row_len, kill_row, take_row, AV.frz, frzL, frzE, frzO, frz_of, frz_dats, renE, renO, swapN, AV.ren, renL, ren_row, hA, tiA]
                  first | exact ⟨rfl, rfl⟩ | ((repeat' first | refine And.intro ?_ ?_ | intro _) <;> first | with_reducible rfl | assumption | omega | rfl | (rename_i hq; rw [hq]; rfl) | (simp_all; done))
                apply aw_ret
                simp only [QRet, QRetM, QRetX, retsX_nil, retsX_cons, objsAre, Tryd.results11, resA, mapO_nil, mapO_cons, vD_dat, vD_nils, vD_rp, vD_osl, vD_ptr, vD_agg, vD_fn, vL_dat, vL_app, viewL, Kept, keepE, keepO, of_put, of_put0, of_obj, of_drop, of_env, of_objs, of_init, of_initM, initL, fndA, killE, killO, kill_of, kills_of, kills_nil, setO, dropL, ASt.dropO, envL_nil, envL_cons, objL_nil, objL_cons, evA_tmp, evA_const, evA_global, evA_func, evAL, evSL, evPL, evPS, avOf, binA, eqR, binI, unA, binB, fieldAddrA, fieldA, indexAddrA, indexA, extractA, buildA, sliceA, boundA, loadA, loadW, partA, lenA, minA, maxA, foldA, min2A, max2A, convA, pickA, asB, AV.strip, AV.gd, allocC, storeC, buildSliceC, makeSliceC, appendC, appSt, baseA, srcA, zeroA, storeW, AV.kill, AV.storable, AV.unit, AV.isAgg, AV.solid, Dat.isAgg, mkAgg, datsOf, fillA, TK.isAgg, VR.bad, dstOK, callee_eq, calleeP, retA, ↓reduceIte, Nat.reduceEqDiff, Nat.reduceLT, Nat.reduceLeDiff, Nat.reduceAdd, Nat.reduceSub, reduceCtorEq, ne_eq, eq_self, if_true, if_false, killL, forall_eq, forall_eq_or_imp, Int.reduceToNat, Int.reduceLT, Int.reduceLE, ↓List.forall_mem_cons, Nat.reduceMul, ite_self, GC, gvS, gvB, gdAll, killAll, appendLC, forall_const, implies_true, Op.operands, avT0, avT1, nth_row, row_len, kill_row, take_row, AV.frz, frzL, frzE, frzO, frz_of, frz_dats, renE, renO, swapN, AV.ren, renL, ren_row, hP, hG, tiA, osd_cons, set_row]
                rw [hv]
                try simp [AV.kill, datE, List.map_set, List.take_of_length_le, spI_len, spW_len, hkd]
                
              · skip
                have hv : spoiltM c how y = c := by
                  unfold spoiltM
                  rw [if_neg h0, if_neg h1, if_neg h2, if_neg h3', if_neg h4', if_pos (by assumption), if_neg (by omega)]
                apply aw_skip
                apply q_block
                apply q_seq
                apply aw_regs [6] [6, 10, 13, 14, 17, 45, 46, 47, 51, 52, 74, 75, 81, 82, 83, 87, 88, 102, 108, 122, 128, 137, 138, 139, 143, 144]
                · simp (disch := omega) only [avR2, Kept, keepE, keepO, of_put, of_put0, of_obj, of_drop, of_env, of_objs, of_init, of_initM, initL, fndA, killE, killO, kill_of, kills_of, kills_nil, setO, dropL, ASt.dropO, envL_nil, envL_cons, objL_nil, objL_cons, evA_tmp, evA_const, evA_global, evA_func, evAL, evSL, evPL, evPS, avOf, binA, eqR, binI, unA, binB, fieldAddrA, fieldA, indexAddrA, indexA, extractA, buildA, sliceA, boundA, loadA, loadW, partA, lenA, minA, maxA, foldA, min2A, max2A, convA, pickA, asB, AV.strip, AV.gd, allocC, storeC, buildSliceC, makeSliceC, appendC, appSt, baseA, srcA, zeroA, storeW, AV.kill, AV.storable, AV.unit, AV.isAgg, AV.solid, Dat.isAgg, mkAgg, datsOf, fillA, TK.isAgg, VR.bad, dstOK, callee_eq, calleeP, retA, ↓reduceIte, Nat.reduceEqDiff, Nat.reduceLT, Nat.reduceLeDiff, Nat.reduceAdd, Nat.reduceSub, reduceCtorEq, ne_eq, eq_self, if_true, if_false, killL, forall_eq, forall_eq_or_imp, Int.reduceToNat, Int.reduceLT, Int.reduceLE, ↓List.forall_mem_cons, Nat.reduceMul, ite_self, GC, gvS, gvB, gdAll, killAll, appendLC, forall_const, implies_true, Op.operands, avT0, avT1, nth_row, row_len, kill_row, take_row, AV.frz, frzL, frzE, frzO, frz_of, frz_dats, renE, renO, swapN, AV.ren, renL, ren_row, hA, tiA]
                  first | exact ⟨rfl, rfl⟩ | ((repeat' first | refine And.intro ?_ ?_ | intro _) <;> first | with_reducible rfl | assumption | omega | rfl | (rename_i hq; rw [hq]; rfl) | (simp_all; done))
                apply aw_ret
                simp only [QRet, QRetM, QRetX, retsX_nil, retsX_cons, objsAre, Tryd.results11, resA, mapO_nil, mapO_cons, vD_dat, vD_nils, vD_rp, vD_osl, vD_ptr, vD_agg, vD_fn, vL_dat, vL_app, viewL, Kept, keepE, keepO, of_put, of_put0, of_obj, of_drop, of_env, of_objs, of_init, of_initM, initL, fndA, killE, killO, kill_of, kills_of, kills_nil, setO, dropL, ASt.dropO, envL_nil, envL_cons, objL_nil, objL_cons, evA_tmp, evA_const, evA_global, evA_func, evAL, evSL, evPL, evPS, avOf, binA, eqR, binI, unA, binB, fieldAddrA, fieldA, indexAddrA, indexA, extractA, buildA, sliceA, boundA, loadA, loadW, partA, lenA, minA, maxA, foldA, min2A, max2A, convA, pickA, asB, AV.strip, AV.gd, allocC, storeC, buildSliceC, makeSliceC, appendC, appSt, baseA, srcA, zeroA, storeW, AV.kill, AV.storable, AV.unit, AV.isAgg, AV.solid, Dat.isAgg, mkAgg, datsOf, fillA, TK.isAgg, VR.bad, dstOK, callee_eq, calleeP, retA, ↓reduceIte, Nat.reduceEqDiff, Nat.reduceLT, Nat.reduceLeDiff, Nat.reduceAdd, Nat.reduceSub, reduceCtorEq, ne_eq, eq_self, if_true, if_false, killL, forall_eq, forall_eq_or_imp, Int.reduceToNat, Int.reduceLT, Int.reduceLE, ↓List.forall_mem_cons, Nat.reduceMul, ite_self, GC, gvS, gvB, gdAll, killAll, appendLC, forall_const, implies_true, Op.operands, avT0, avT1, nth_row, row_len, kill_row, take_row, AV.frz, frzL, frzE, frzO, frz_of, frz_dats, renE, renO, swapN, AV.ren, renL, ren_row, hP, hG, tiA, osd_cons, set_row]
                rw [hv]
                try simp [AV.kill, datE, List.map_set, List.take_of_length_le, spI_len, spW_len, hkd]
                
            · skip
              have h5' : ¬ aroundM how 8 = 5 := hb
              apply aw_regs [2, 6, 7, 130] [6, 7, 10, 13, 14, 17, 45, 46, 47, 51, 52, 74, 75, 81, 82, 83, 87, 88, 102, 108, 122, 128, 137, 138, 139, 143, 144]
              · simp (disch := omega) only [avR2, Kept, keepE, keepO, of_put, of_put0, of_obj, of_drop, of_env, of_objs, of_init, of_initM, initL, fndA, killE, killO, kill_of, kills_of, kills_nil, setO, dropL, ASt.dropO, envL_nil, envL_cons, objL_nil, objL_cons, evA_tmp, evA_const, evA_global, evA_func, evAL, evSL, evPL, evPS, avOf, binA, eqR, binI, unA, binB, fieldAddrA, fieldA, indexAddrA, indexA, extractA, buildA, sliceA, boundA, loadA, loadW, partA, lenA, minA, maxA, foldA, min2A, max2A, convA, pickA, asB, AV.strip, AV.gd, allocC, storeC, buildSliceC, makeSliceC, appendC, appSt, baseA, srcA, zeroA, storeW, AV.kill, AV.storable, AV.unit, AV.isAgg, AV.solid, Dat.isAgg, mkAgg, datsOf, fillA, TK.isAgg, VR.bad, dstOK, callee_eq, calleeP, retA, ↓reduceIte, Nat.reduceEqDiff, Nat.reduceLT, Nat.reduceLeDiff, Nat.reduceAdd, Nat.reduceSub, reduceCtorEq, ne_eq, eq_self, if_true, if_false, killL, forall_eq, forall_eq_or_imp, Int.reduceToNat, Int.reduceLT, Int.reduceLE, ↓List.forall_mem_cons, Nat.reduceMul, ite_self, GC, gvS, gvB, gdAll, killAll, appendLC, forall_const, implies_true, Op.operands, avT0, avT1, nth_row, row_len, kill_row, take_row, AV.frz, frzL, frzE, frzO, frz_of, frz_dats, renE, renO, swapN, AV.ren, renL, ren_row, hA, tiA]
                first | exact ⟨rfl, rfl⟩ | ((repeat' first | refine And.intro ?_ ?_ | intro _) <;> first | with_reducible rfl | assumption | omega | rfl | (rename_i hq; rw [hq]; rfl) | (simp_all; done))
              refine aw_if _ rfl (fun hb => ?_) (fun hb => ?_) <;> (try simp only [pickB_true, pickB_false, Bool.false_or, Bool.false_and, Bool.true_and, decide_eq_true_eq, decide_eq_false_iff_not, Bool.or_eq_true, Bool.and_eq_true, Bool.or_eq_false_iff, Bool.and_eq_false_imp, Bool.not_eq_true, Bool.not_eq_false, Bool.not_eq_eq_eq_not, Bool.not_true, Bool.not_false, Int.not_lt, Int.not_le, beq_iff_eq, beq_eq_false_iff_ne, bne_iff_ne, bne_eq_false_iff_eq, ne_eq, Bool.true_eq_false, Bool.false_eq_true, if_false_left, if_true_left, Bool.not_eq_eq_eq_not, Bool.decide_eq_true, Classical.not_not] at hb)
              · skip
                have hv : spoiltM c how y = ⟨c.items ++ [List.replicate (7 + aroundM y 3).toNat (0, 0)], c.weights ++ [1], c.room⟩ := by
                  unfold spoiltM
                  rw [if_neg h0, if_neg h1, if_neg h2, if_neg h3', if_neg h4', if_neg h5', if_pos hb]
                apply aw_rgds [6, 7] [6, 7, 10, 13, 14, 17, 45, 46, 47, 51, 52, 74, 75, 81, 82, 83, 87, 88, 102, 108, 122, 128, 137, 138, 139, 143, 144] [0, 1, 2, 3, 4, 5, 6, 7, 8, 9] [137, 138]
                · rw [hP]; kernel_rfl
                · exact hR
                · kernel_rfl
                · (repeat (apply PickL.cons; exact rfl)); exact PickL.nil _
                · simp (disch := omega) only [avR2, Kept, keepE, keepO, of_put, of_put0, of_obj, of_drop, of_env, of_objs, of_init, of_initM, initL, fndA, killE, killO, kill_of, kills_of, kills_nil, setO, dropL, ASt.dropO, envL_nil, envL_cons, objL_nil, objL_cons, evA_tmp, evA_const, evA_global, evA_func, evAL, evSL, evPL, evPS, avOf, binA, eqR, binI, unA, binB, fieldAddrA, fieldA, indexAddrA, indexA, extractA, buildA, sliceA, boundA, loadA, loadW, partA, lenA, minA, maxA, foldA, min2A, max2A, convA, pickA, asB, AV.strip, AV.gd, allocC, storeC, buildSliceC, makeSliceC, appendC, appSt, baseA, srcA, zeroA, storeW, AV.kill, AV.storable, AV.unit, AV.isAgg, AV.solid, Dat.isAgg, mkAgg, datsOf, fillA, TK.isAgg, VR.bad, dstOK, callee_eq, calleeP, retA, ↓reduceIte, Nat.reduceEqDiff, Nat.reduceLT, Nat.reduceLeDiff, Nat.reduceAdd, Nat.reduceSub, reduceCtorEq, ne_eq, eq_self, if_true, if_false, killL, forall_eq, forall_eq_or_imp, Int.reduceToNat, Int.reduceLT, Int.reduceLE, ↓List.forall_mem_cons, Nat.reduceMul, ite_self, GC, gvS, gvB, gdAll, killAll, appendLC, forall_const, implies_true, Op.operands, avT0, avT1, nth_row, row_len, kill_row, take_row, AV.frz, frzL, frzE, frzO, frz_of, frz_dats, renE, renO, swapN, AV.ren, renL, ren_row, hA, tiA, List.map_replicate]
                  (repeat' refine And.intro ?_ ?_) <;> try first | omega | assumption | with_reducible rfl | exact rfl | (intro hside; (repeat' refine And.intro ?_ ?_) <;> first | exact hside | omega | (rw [hside]; rfl) | (simp_all; done))
                  refine CallC.use (gvF hP hG (around_ok G y 3 hy (by omega) i3)) rfl ?_
                  try simp (maxSteps := 2000000) (disch := omega) only [avR2, Kept, keepE, keepO, of_put, of_put0, of_obj, of_drop, of_env, of_objs, of_init, of_initM, initL, fndA, killE, killO, kill_of, kills_of, kills_nil, setO, dropL, ASt.dropO, envL_nil, envL_cons, objL_nil, objL_cons, evA_tmp, evA_const, evA_global, evA_func, evAL, evSL, evPL, evPS, avOf, binA, eqR, binI, unA, binB, fieldAddrA, fieldA, indexAddrA, indexA, extractA, buildA, sliceA, boundA, loadA, loadW, partA, lenA, minA, maxA, foldA, min2A, max2A, convA, pickA, asB, AV.strip, AV.gd, allocC, storeC, buildSliceC, makeSliceC, appendC, appSt, baseA, srcA, zeroA, storeW, AV.kill, AV.storable, AV.unit, AV.isAgg, AV.solid, Dat.isAgg, mkAgg, datsOf, fillA, TK.isAgg, VR.bad, dstOK, callee_eq, calleeP, retA, ↓reduceIte, Nat.reduceEqDiff, Nat.reduceLT, Nat.reduceLeDiff, Nat.reduceAdd, Nat.reduceSub, reduceCtorEq, ne_eq, eq_self, if_true, if_false, killL, forall_eq, forall_eq_or_imp, Int.reduceToNat, Int.reduceLT, Int.reduceLE, ↓List.forall_mem_cons, Nat.reduceMul, ite_self, GC, gvS, gvB, gdAll, killAll, appendLC, forall_const, implies_true, Op.operands, avT0, avT1, nth_row, row_len, kill_row, take_row, AV.frz, frzL, frzE, frzO, frz_of, frz_dats, renE, renO, swapN, AV.ren, renL, ren_row, hA, tiA, List.map_replicate]
                  first | exact ⟨rfl, rfl⟩ | ((repeat' first | refine And.intro ?_ ?_ | intro _) <;> first | with_reducible rfl | assumption | omega | rfl | (rename_i hq; rw [hq]; rfl) | (simp_all; done))
                refine aw_frz 137 hR.2.2.2 rfl (datE_rep _ _) ?_
                apply aw_reg [6, 7] [6, 7, 10, 13, 14, 17, 45, 46, 47, 51, 52, 74, 75, 81, 82, 83, 87, 88, 102, 108, 122, 128, 137, 138, 139, 143, 144]
                · simp (disch := omega) only [avR2, Kept, keepE, keepO, of_put, of_put0, of_obj, of_drop, of_env, of_objs, of_init, of_initM, initL, fndA, killE, killO, kill_of, kills_of, kills_nil, setO, dropL, ASt.dropO, envL_nil, envL_cons, objL_nil, objL_cons, evA_tmp, evA_const, evA_global, evA_func, evAL, evSL, evPL, evPS, avOf, binA, eqR, binI, unA, binB, fieldAddrA, fieldA, indexAddrA, indexA, extractA, buildA, sliceA, boundA, loadA, loadW, partA, lenA, minA, maxA, foldA, min2A, max2A, convA, pickA, asB, AV.strip, AV.gd, allocC, storeC, buildSliceC, makeSliceC, appendC, appSt, baseA, srcA, zeroA, storeW, AV.kill, AV.storable, AV.unit, AV.isAgg, AV.solid, Dat.isAgg, mkAgg, datsOf, fillA, TK.isAgg, VR.bad, dstOK, callee_eq, calleeP, retA, ↓reduceIte, Nat.reduceEqDiff, Nat.reduceLT, Nat.reduceLeDiff, Nat.reduceAdd, Nat.reduceSub, reduceCtorEq, ne_eq, eq_self, if_true, if_false, killL, forall_eq, forall_eq_or_imp, Int.reduceToNat, Int.reduceLT, Int.reduceLE, ↓List.forall_mem_cons, Nat.reduceMul, ite_self, GC, gvS, gvB, gdAll, killAll, appendLC, forall_const, implies_true, Op.operands, avT0, avT1, nth_row, row_len, kill_row, take_row, AV.frz, frzL, frzE, frzO, frz_of, frz_dats, renE, renO, swapN, AV.ren, renL, ren_row, hA, tiA]
                  first | exact ⟨rfl, rfl⟩ | ((repeat' first | refine And.intro ?_ ?_ | intro _) <;> first | with_reducible rfl | assumption | omega | rfl | (rename_i hq; rw [hq]; rfl) | (simp_all; done))
                apply q_block
                apply q_seq
                apply aw_regs [6] [6, 10, 13, 14, 17, 45, 46, 47, 51, 52, 74, 75, 81, 82, 83, 87, 88, 102, 108, 122, 128, 137, 138, 139, 143, 144]
                · simp (disch := omega) only [avR2, Kept, keepE, keepO, of_put, of_put0, of_obj, of_drop, of_env, of_objs, of_init, of_initM, initL, fndA, killE, killO, kill_of, kills_of, kills_nil, setO, dropL, ASt.dropO, envL_nil, envL_cons, objL_nil, objL_cons, evA_tmp, evA_const, evA_global, evA_func, evAL, evSL, evPL, evPS, avOf, binA, eqR, binI, unA, binB, fieldAddrA, fieldA, indexAddrA, indexA, extractA, buildA, sliceA, boundA, loadA, loadW, partA, lenA, minA, maxA, foldA, min2A, max2A, convA, pickA, asB, AV.strip, AV.gd, allocC, storeC, buildSliceC, makeSliceC, appendC, appSt, baseA, srcA, zeroA, storeW, AV.kill, AV.storable, AV.unit, AV.isAgg, AV.solid, Dat.isAgg, mkAgg, datsOf, fillA, TK.isAgg, VR.bad, dstOK, callee_eq, calleeP, retA, ↓reduceIte, Nat.reduceEqDiff, Nat.reduceLT, Nat.reduceLeDiff, Nat.reduceAdd, Nat.reduceSub, reduceCtorEq, ne_eq, eq_self, if_true, if_false, killL, forall_eq, forall_eq_or_imp, Int.reduceToNat, Int.reduceLT, Int.reduceLE, ↓List.forall_mem_cons, Nat.reduceMul, ite_self, GC, gvS, gvB, gdAll, killAll, appendLC, forall_const, implies_true, Op.operands, avT0, avT1, nth_row, row_len, kill_row, take_row, AV.frz, frzL, frzE, frzO, frz_of, frz_dats, renE, renO, swapN, AV.ren, renL, ren_row, hA, tiA]
                  first | exact ⟨rfl, rfl⟩ | ((repeat' first | refine And.intro ?_ ?_ | intro _) <;> first | with_reducible rfl | assumption | omega | rfl | (rename_i hq; rw [hq]; rfl) | (simp_all; done))
                apply aw_ret
                simp only [QRet, QRetM, QRetX, retsX_nil, retsX_cons, objsAre, Tryd.results11, resA, mapO_nil, mapO_cons, vD_dat, vD_nils, vD_rp, vD_osl, vD_ptr, vD_agg, vD_fn, vL_dat, vL_app, viewL, Kept, keepE, keepO, of_put, of_put0, of_obj, of_drop, of_env, of_objs, of_init, of_initM, initL, fndA, killE, killO, kill_of, kills_of, kills_nil, setO, dropL, ASt.dropO, envL_nil, envL_cons, objL_nil, objL_cons, evA_tmp, evA_const, evA_global, evA_func, evAL, evSL, evPL, evPS, avOf, binA, eqR, binI, unA, binB, fieldAddrA, fieldA, indexAddrA, indexA, extractA, buildA, sliceA, boundA, loadA, loadW, partA, lenA, minA, maxA, foldA, min2A, max2A, convA, pickA, asB, AV.strip, AV.gd, allocC, storeC, buildSliceC, makeSliceC, appendC, appSt, baseA, srcA, zeroA, storeW, AV.kill, AV.storable, AV.unit, AV.isAgg, AV.solid, Dat.isAgg, mkAgg, datsOf, fillA, TK.isAgg, VR.bad, dstOK, callee_eq, calleeP, retA, ↓reduceIte, Nat.reduceEqDiff, Nat.reduceLT, Nat.reduceLeDiff, Nat.reduceAdd, Nat.reduceSub, reduceCtorEq, ne_eq, eq_self, if_true, if_false, killL, forall_eq, forall_eq_or_imp, Int.reduceToNat, Int.reduceLT, Int.reduceLE, ↓List.forall_mem_cons, Nat.reduceMul, ite_self, GC, gvS, gvB, gdAll, killAll, appendLC, forall_const, implies_true, Op.operands, avT0, avT1, nth_row, row_len, kill_row, take_row, AV.frz, frzL, frzE, frzO, frz_of, frz_dats, renE, renO, swapN, AV.ren, renL, ren_row, hP, hG, tiA, osd_cons, set_row]
                rw [hv]
                try simp [AV.kill, datE, List.map_set, List.take_of_length_le, spI_len, spW_len, hkd]
                
              · skip
                have hv : spoiltM c how y = ⟨spI c (spJ c y), spW c (spJ c y), c.room⟩ := by
                  unfold spoiltM spI spW
                  rw [if_neg h0, if_neg h1, if_neg h2, if_neg h3', if_neg h4', if_neg h5', if_neg hb]
                apply aw_block
                refine aw_swap 13 47 (by omega) (by omega) ?_
                refine aw_swap 17 52 (by omega) (by omega) ?_
                refine aw_loop (ι := {j : Nat // j ≤ spJ c y}) (fun ⟨j, hj⟩ => .of [(2, .dat (iD y)), (6, .ptr 6 3 0 0), (7, .ptr 7 3 0 0)] [(6, ⟨3, [.agg [.nils, .nils, .dat (iD 0)]]⟩), (7, ⟨3, [.agg [.osl 47 1 0 (c.items.length + j), .osl 52 1 0 (c.weights.length + j), .dat (iD c.room)]]⟩), (47, ⟨1, ((spI c j).map osD).map .dat⟩), (52, ⟨1, ((spW c j).map iD).map .dat⟩)]) (fun ⟨j, hj⟩ => spJ c y - j) (⟨0, by omega⟩) (Le.of ?_ ?_) fun ix => ?_
                · try simp (disch := omega) only [LeE, LeO, Kept, keepE, keepO, of_put, of_put0, of_obj, of_drop, of_env, of_objs, of_init, of_initM, initL, fndA, killE, killO, kill_of, kills_of, kills_nil, setO, dropL, ASt.dropO, envL_nil, envL_cons, objL_nil, objL_cons, evA_tmp, evA_const, evA_global, evA_func, evAL, evSL, evPL, evPS, avOf, binA, eqR, binI, unA, binB, fieldAddrA, fieldA, indexAddrA, indexA, extractA, buildA, sliceA, boundA, loadA, loadW, partA, lenA, minA, maxA, foldA, min2A, max2A, convA, pickA, asB, AV.strip, AV.gd, allocC, storeC, buildSliceC, makeSliceC, appendC, appSt, baseA, srcA, zeroA, storeW, AV.kill, AV.storable, AV.unit, AV.isAgg, AV.solid, Dat.isAgg, mkAgg, datsOf, fillA, TK.isAgg, VR.bad, dstOK, callee_eq, calleeP, retA, ↓reduceIte, Nat.reduceEqDiff, Nat.reduceLT, Nat.reduceLeDiff, Nat.reduceAdd, Nat.reduceSub, reduceCtorEq, ne_eq, eq_self, if_true, if_false, killL, forall_eq, forall_eq_or_imp, Int.reduceToNat, Int.reduceLT, Int.reduceLE, ↓List.forall_mem_cons, Nat.reduceMul, ite_self, GC, gvS, gvB, gdAll, killAll, appendLC, forall_const, implies_true, Op.operands, avT0, avT1, nth_row, row_len, kill_row, take_row, AV.frz, frzL, frzE, frzO, frz_of, frz_dats, renE, renO, swapN, AV.ren, renL, ren_row, spI_zero, spW_zero, spI_succ, spW_succ, spI_len, spW_len, Nat.add_zero, Nat.add_assoc]
                  all_goals first | done | (repeat' apply And.intro) <;> first | rfl | omega | assumption | (simp only [AV.dat.injEq, Dat.int.injEq, true_and]; omega) | (congr <;> omega)
                · try simp (disch := omega) only [LeE, LeO, Kept, keepE, keepO, of_put, of_put0, of_obj, of_drop, of_env, of_objs, of_init, of_initM, initL, fndA, killE, killO, kill_of, kills_of, kills_nil, setO, dropL, ASt.dropO, envL_nil, envL_cons, objL_nil, objL_cons, evA_tmp, evA_const, evA_global, evA_func, evAL, evSL, evPL, evPS, avOf, binA, eqR, binI, unA, binB, fieldAddrA, fieldA, indexAddrA, indexA, extractA, buildA, sliceA, boundA, loadA, loadW, partA, lenA, minA, maxA, foldA, min2A, max2A, convA, pickA, asB, AV.strip, AV.gd, allocC, storeC, buildSliceC, makeSliceC, appendC, appSt, baseA, srcA, zeroA, storeW, AV.kill, AV.storable, AV.unit, AV.isAgg, AV.solid, Dat.isAgg, mkAgg, datsOf, fillA, TK.isAgg, VR.bad, dstOK, callee_eq, calleeP, retA, ↓reduceIte, Nat.reduceEqDiff, Nat.reduceLT, Nat.reduceLeDiff, Nat.reduceAdd, Nat.reduceSub, reduceCtorEq, ne_eq, eq_self, if_true, if_false, killL, forall_eq, forall_eq_or_imp, Int.reduceToNat, Int.reduceLT, Int.reduceLE, ↓List.forall_mem_cons, Nat.reduceMul, ite_self, GC, gvS, gvB, gdAll, killAll, appendLC, forall_const, implies_true, Op.operands, avT0, avT1, nth_row, row_len, kill_row, take_row, AV.frz, frzL, frzE, frzO, frz_of, frz_dats, renE, renO, swapN, AV.ren, renL, ren_row, spI_zero, spW_zero, spI_succ, spW_succ, spI_len, spW_len, Nat.add_zero, Nat.add_assoc]
                  all_goals first | done | (repeat' apply And.intro) <;> first | rfl | omega | assumption | (simp only [AV.dat.injEq, Dat.int.injEq, true_and]; omega) | (congr <;> omega)
                obtain ⟨j, hj⟩ := ix
                dsimp only
                have hil := spI_len c j
                have hwl' := spW_len c j
                have hjd : spJ c y = (63 + aroundM y 3 - c.items.length).toNat := rfl
                apply aw_seq
                apply aw_rgds [2, 6, 7, 41] [6, 7, 10, 13, 14, 17, 45, 46, 47, 51, 52, 74, 75, 81, 82, 83, 87, 88, 102, 108, 122, 128, 137, 138, 139, 143, 144] [0, 1, 2, 3, 4, 5, 6] []
                · rw [hP]; kernel_rfl
                · exact hR
                · kernel_rfl
                · (repeat (apply PickL.cons; exact rfl)); exact PickL.nil _
                · simp (disch := omega) only [avR2, Kept, keepE, keepO, of_put, of_put0, of_obj, of_drop, of_env, of_objs, of_init, of_initM, initL, fndA, killE, killO, kill_of, kills_of, kills_nil, setO, dropL, ASt.dropO, envL_nil, envL_cons, objL_nil, objL_cons, evA_tmp, evA_const, evA_global, evA_func, evAL, evSL, evPL, evPS, avOf, binA, eqR, binI, unA, binB, fieldAddrA, fieldA, indexAddrA, indexA, extractA, buildA, sliceA, boundA, loadA, loadW, partA, lenA, minA, maxA, foldA, min2A, max2A, convA, pickA, asB, AV.strip, AV.gd, allocC, storeC, buildSliceC, makeSliceC, appendC, appSt, baseA, srcA, zeroA, storeW, AV.kill, AV.storable, AV.unit, AV.isAgg, AV.solid, Dat.isAgg, mkAgg, datsOf, fillA, TK.isAgg, VR.bad, dstOK, callee_eq, calleeP, retA, ↓reduceIte, Nat.reduceEqDiff, Nat.reduceLT, Nat.reduceLeDiff, Nat.reduceAdd, Nat.reduceSub, reduceCtorEq, ne_eq, eq_self, if_true, if_false, killL, forall_eq, forall_eq_or_imp, Int.reduceToNat, Int.reduceLT, Int.reduceLE, ↓List.forall_mem_cons, Nat.reduceMul, ite_self, GC, gvS, gvB, gdAll, killAll, appendLC, forall_const, implies_true, Op.operands, avT0, avT1, nth_row, row_len, kill_row, take_row, AV.frz, frzL, frzE, frzO, frz_of, frz_dats, renE, renO, swapN, AV.ren, renL, ren_row, hA, tiA]
                  (repeat' refine And.intro ?_ ?_) <;> try first | omega | assumption | with_reducible rfl | exact rfl | (intro hside; (repeat' refine And.intro ?_ ?_) <;> first | exact hside | omega | (rw [hside]; rfl) | (simp_all; done))
                  refine CallC.use (gvF hP hG (around_ok G y 3 hy (by omega) i3)) rfl ?_
                  try simp (maxSteps := 2000000) (disch := omega) only [avR2, Kept, keepE, keepO, of_put, of_put0, of_obj, of_drop, of_env, of_objs, of_init, of_initM, initL, fndA, killE, killO, kill_of, kills_of, kills_nil, setO, dropL, ASt.dropO, envL_nil, envL_cons, objL_nil, objL_cons, evA_tmp, evA_const, evA_global, evA_func, evAL, evSL, evPL, evPS, avOf, binA, eqR, binI, unA, binB, fieldAddrA, fieldA, indexAddrA, indexA, extractA, buildA, sliceA, boundA, loadA, loadW, partA, lenA, minA, maxA, foldA, min2A, max2A, convA, pickA, asB, AV.strip, AV.gd, allocC, storeC, buildSliceC, makeSliceC, appendC, appSt, baseA, srcA, zeroA, storeW, AV.kill, AV.storable, AV.unit, AV.isAgg, AV.solid, Dat.isAgg, mkAgg, datsOf, fillA, TK.isAgg, VR.bad, dstOK, callee_eq, calleeP, retA, ↓reduceIte, Nat.reduceEqDiff, Nat.reduceLT, Nat.reduceLeDiff, Nat.reduceAdd, Nat.reduceSub, reduceCtorEq, ne_eq, eq_self, if_true, if_false, killL, forall_eq, forall_eq_or_imp, Int.reduceToNat, Int.reduceLT, Int.reduceLE, ↓List.forall_mem_cons, Nat.reduceMul, ite_self, GC, gvS, gvB, gdAll, killAll, appendLC, forall_const, implies_true, Op.operands, avT0, avT1, nth_row, row_len, kill_row, take_row, AV.frz, frzL, frzE, frzO, frz_of, frz_dats, renE, renO, swapN, AV.ren, renL, ren_row, hA, tiA]
                  first | exact ⟨rfl, rfl⟩ | ((repeat' first | refine And.intro ?_ ?_ | intro _) <;> first | with_reducible rfl | assumption | omega | rfl | (rename_i hq; rw [hq]; rfl) | (simp_all; done))
                refine aw_if _ rfl (fun hb => ?_) (fun hb => ?_) <;> (try simp only [pickB_true, pickB_false, Bool.false_or, Bool.false_and, Bool.true_and, decide_eq_true_eq, decide_eq_false_iff_not, Bool.or_eq_true, Bool.and_eq_true, Bool.or_eq_false_iff, Bool.and_eq_false_imp, Bool.not_eq_true, Bool.not_eq_false, Bool.not_eq_eq_eq_not, Bool.not_true, Bool.not_false, Int.not_lt, Int.not_le, beq_iff_eq, beq_eq_false_iff_ne, bne_iff_ne, bne_eq_false_iff_eq, ne_eq, Bool.true_eq_false, Bool.false_eq_true, if_false_left, if_true_left, Bool.not_eq_eq_eq_not, Bool.decide_eq_true, Classical.not_not] at hb)
                · skip
                  have hjl : j < spJ c y := by omega
                  apply aw_skip
                  apply q_seq
                  apply aw_block
                  apply aw_regs [2, 6, 7] [6, 7, 10, 13, 14, 17, 45, 46, 47, 51, 52, 74, 75, 81, 82, 83, 87, 88, 102, 108, 122, 128, 137, 138, 139, 143, 144]
                  · simp (disch := omega) only [avR2, Kept, keepE, keepO, of_put, of_put0, of_obj, of_drop, of_env, of_objs, of_init, of_initM, initL, fndA, killE, killO, kill_of, kills_of, kills_nil, setO, dropL, ASt.dropO, envL_nil, envL_cons, objL_nil, objL_cons, evA_tmp, evA_const, evA_global, evA_func, evAL, evSL, evPL, evPS, avOf, binA, eqR, binI, unA, binB, fieldAddrA, fieldA, indexAddrA, indexA, extractA, buildA, sliceA, boundA, loadA, loadW, partA, lenA, minA, maxA, foldA, min2A, max2A, convA, pickA, asB, AV.strip, AV.gd, allocC, storeC, buildSliceC, makeSliceC, appendC, appSt, baseA, srcA, zeroA, storeW, AV.kill, AV.storable, AV.unit, AV.isAgg, AV.solid, Dat.isAgg, mkAgg, datsOf, fillA, TK.isAgg, VR.bad, dstOK, callee_eq, calleeP, retA, ↓reduceIte, Nat.reduceEqDiff, Nat.reduceLT, Nat.reduceLeDiff, Nat.reduceAdd, Nat.reduceSub, reduceCtorEq, ne_eq, eq_self, if_true, if_false, killL, forall_eq, forall_eq_or_imp, Int.reduceToNat, Int.reduceLT, Int.reduceLE, ↓List.forall_mem_cons, Nat.reduceMul, ite_self, GC, gvS, gvB, gdAll, killAll, appendLC, forall_const, implies_true, Op.operands, avT0, avT1, nth_row, row_len, kill_row, take_row, AV.frz, frzL, frzE, frzO, frz_of, frz_dats, renE, renO, swapN, AV.ren, renL, ren_row, hA, tiA, spI_len]
                    first | exact ⟨rfl, rfl⟩ | ((repeat' first | refine And.intro ?_ ?_ | intro _) <;> first | with_reducible rfl | assumption | omega | rfl | (rename_i hq; rw [hq]; rfl) | (simp_all; done))
                  apply aw_reg [2, 6, 7] [6, 7, 10, 13, 14, 17, 45, 46, 47, 51, 52, 74, 75, 81, 82, 83, 87, 88, 102, 108, 122, 128, 137, 138, 139, 143, 144]
                  · simp (disch := omega) only [avR2, Kept, keepE, keepO, of_put, of_put0, of_obj, of_drop, of_env, of_objs, of_init, of_initM, initL, fndA, killE, killO, kill_of, kills_of, kills_nil, setO, dropL, ASt.dropO, envL_nil, envL_cons, objL_nil, objL_cons, evA_tmp, evA_const, evA_global, evA_func, evAL, evSL, evPL, evPS, avOf, binA, eqR, binI, unA, binB, fieldAddrA, fieldA, indexAddrA, indexA, extractA, buildA, sliceA, boundA, loadA, loadW, partA, lenA, minA, maxA, foldA, min2A, max2A, convA, pickA, asB, AV.strip, AV.gd, allocC, storeC, buildSliceC, makeSliceC, appendC, appSt, baseA, srcA, zeroA, storeW, AV.kill, AV.storable, AV.unit, AV.isAgg, AV.solid, Dat.isAgg, mkAgg, datsOf, fillA, TK.isAgg, VR.bad, dstOK, callee_eq, calleeP, retA, ↓reduceIte, Nat.reduceEqDiff, Nat.reduceLT, Nat.reduceLeDiff, Nat.reduceAdd, Nat.reduceSub, reduceCtorEq, ne_eq, eq_self, if_true, if_false, killL, forall_eq, forall_eq_or_imp, Int.reduceToNat, Int.reduceLT, Int.reduceLE, ↓List.forall_mem_cons, Nat.reduceMul, ite_self, GC, gvS, gvB, gdAll, killAll, appendLC, forall_const, implies_true, Op.operands, avT0, avT1, nth_row, row_len, kill_row, take_row, AV.frz, frzL, frzE, frzO, frz_of, frz_dats, renE, renO, swapN, AV.ren, renL, ren_row, hA, tiA, spW_len]
                    first | exact ⟨rfl, rfl⟩ | ((repeat' first | refine And.intro ?_ ?_ | intro _) <;> first | with_reducible rfl | assumption | omega | rfl | (rename_i hq; rw [hq]; rfl) | (simp_all; done))
                  apply q_block
                  refine q_loop (⟨j + 1, by omega⟩) (Le.of ?_ ?_) (by dsimp only; omega)
                  · try simp (disch := omega) only [LeE, LeO, Kept, keepE, keepO, of_put, of_put0, of_obj, of_drop, of_env, of_objs, of_init, of_initM, initL, fndA, killE, killO, kill_of, kills_of, kills_nil, setO, dropL, ASt.dropO, envL_nil, envL_cons, objL_nil, objL_cons, evA_tmp, evA_const, evA_global, evA_func, evAL, evSL, evPL, evPS, avOf, binA, eqR, binI, unA, binB, fieldAddrA, fieldA, indexAddrA, indexA, extractA, buildA, sliceA, boundA, loadA, loadW, partA, lenA, minA, maxA, foldA, min2A, max2A, convA, pickA, asB, AV.strip, AV.gd, allocC, storeC, buildSliceC, makeSliceC, appendC, appSt, baseA, srcA, zeroA, storeW, AV.kill, AV.storable, AV.unit, AV.isAgg, AV.solid, Dat.isAgg, mkAgg, datsOf, fillA, TK.isAgg, VR.bad, dstOK, callee_eq, calleeP, retA, ↓reduceIte, Nat.reduceEqDiff, Nat.reduceLT, Nat.reduceLeDiff, Nat.reduceAdd, Nat.reduceSub, reduceCtorEq, ne_eq, eq_self, if_true, if_false, killL, forall_eq, forall_eq_or_imp, Int.reduceToNat, Int.reduceLT, Int.reduceLE, ↓List.forall_mem_cons, Nat.reduceMul, ite_self, GC, gvS, gvB, gdAll, killAll, appendLC, forall_const, implies_true, Op.operands, avT0, avT1, nth_row, row_len, kill_row, take_row, AV.frz, frzL, frzE, frzO, frz_of, frz_dats, renE, renO, swapN, AV.ren, renL, ren_row, spI_zero, spW_zero, spI_succ, spW_succ, spI_len, spW_len, Nat.add_zero, Nat.add_assoc]
                    all_goals first | done | (repeat' apply And.intro) <;> first | rfl | omega | assumption | (simp only [AV.dat.injEq, Dat.int.injEq, true_and]; omega) | (congr <;> omega)
                  · try simp (disch := omega) only [LeE, LeO, Kept, keepE, keepO, of_put, of_put0, of_obj, of_drop, of_env, of_objs, of_init, of_initM, initL, fndA, killE, killO, kill_of, kills_of, kills_nil, setO, dropL, ASt.dropO, envL_nil, envL_cons, objL_nil, objL_cons, evA_tmp, evA_const, evA_global, evA_func, evAL, evSL, evPL, evPS, avOf, binA, eqR, binI, unA, binB, fieldAddrA, fieldA, indexAddrA, indexA, extractA, buildA, sliceA, boundA, loadA, loadW, partA, lenA, minA, maxA, foldA, min2A, max2A, convA, pickA, asB, AV.strip, AV.gd, allocC, storeC, buildSliceC, makeSliceC, appendC, appSt, baseA, srcA, zeroA, storeW, AV.kill, AV.storable, AV.unit, AV.isAgg, AV.solid, Dat.isAgg, mkAgg, datsOf, fillA, TK.isAgg, VR.bad, dstOK, callee_eq, calleeP, retA, ↓reduceIte, Nat.reduceEqDiff, Nat.reduceLT, Nat.reduceLeDiff, Nat.reduceAdd, Nat.reduceSub, reduceCtorEq, ne_eq, eq_self, if_true, if_false, killL, forall_eq, forall_eq_or_imp, Int.reduceToNat, Int.reduceLT, Int.reduceLE, ↓List.forall_mem_cons, Nat.reduceMul, ite_self, GC, gvS, gvB, gdAll, killAll, appendLC, forall_const, implies_true, Op.operands, avT0, avT1, nth_row, row_len, kill_row, take_row, AV.frz, frzL, frzE, frzO, frz_of, frz_dats, renE, renO, swapN, AV.ren, renL, ren_row, spI_zero, spW_zero, spI_succ, spW_succ, spI_len, spW_len, Nat.add_zero, Nat.add_assoc]
                    all_goals first | done | (repeat' apply And.intro) <;> first | rfl | omega | assumption | (simp only [AV.dat.injEq, Dat.int.injEq, true_and]; omega) | (congr <;> omega)
                · skip
                  have hjj : j = spJ c y := by omega
                  subst hjj
                  apply aw_exit
                  apply q_exit_seq
                  apply q_exit_loop
                  apply q_exit
                  apply q_block
                  apply q_seq
                  apply aw_regs [6] [6, 10, 13, 14, 17, 45, 46, 47, 51, 52, 74, 75, 81, 82, 83, 87, 88, 102, 108, 122, 128, 137, 138, 139, 143, 144]
                  · simp (disch := omega) only [avR2, Kept, keepE, keepO, of_put, of_put0, of_obj, of_drop, of_env, of_objs, of_init, of_initM, initL, fndA, killE, killO, kill_of, kills_of, kills_nil, setO, dropL, ASt.dropO, envL_nil, envL_cons, objL_nil, objL_cons, evA_tmp, evA_const, evA_global, evA_func, evAL, evSL, evPL, evPS, avOf, binA, eqR, binI, unA, binB, fieldAddrA, fieldA, indexAddrA, indexA, extractA, buildA, sliceA, boundA, loadA, loadW, partA, lenA, minA, maxA, foldA, min2A, max2A, convA, pickA, asB, AV.strip, AV.gd, allocC, storeC, buildSliceC, makeSliceC, appendC, appSt, baseA, srcA, zeroA, storeW, AV.kill, AV.storable, AV.unit, AV.isAgg, AV.solid, Dat.isAgg, mkAgg, datsOf, fillA, TK.isAgg, VR.bad, dstOK, callee_eq, calleeP, retA, ↓reduceIte, Nat.reduceEqDiff, Nat.reduceLT, Nat.reduceLeDiff, Nat.reduceAdd, Nat.reduceSub, reduceCtorEq, ne_eq, eq_self, if_true, if_false, killL, forall_eq, forall_eq_or_imp, Int.reduceToNat, Int.reduceLT, Int.reduceLE, ↓List.forall_mem_cons, Nat.reduceMul, ite_self, GC, gvS, gvB, gdAll, killAll, appendLC, forall_const, implies_true, Op.operands, avT0, avT1, nth_row, row_len, kill_row, take_row, AV.frz, frzL, frzE, frzO, frz_of, frz_dats, renE, renO, swapN, AV.ren, renL, ren_row, hA, tiA]
                    first | exact ⟨rfl, rfl⟩ | ((repeat' first | refine And.intro ?_ ?_ | intro _) <;> first | with_reducible rfl | assumption | omega | rfl | (rename_i hq; rw [hq]; rfl) | (simp_all; done))
                  apply aw_ret
                  simp only [QRet, QRetM, QRetX, retsX_nil, retsX_cons, objsAre, Tryd.results11, resA, mapO_nil, mapO_cons, vD_dat, vD_nils, vD_rp, vD_osl, vD_ptr, vD_agg, vD_fn, vL_dat, vL_app, viewL, Kept, keepE, keepO, of_put, of_put0, of_obj, of_drop, of_env, of_objs, of_init, of_initM, initL, fndA, killE, killO, kill_of, kills_of, kills_nil, setO, dropL, ASt.dropO, envL_nil, envL_cons, objL_nil, objL_cons, evA_tmp, evA_const, evA_global, evA_func, evAL, evSL, evPL, evPS, avOf, binA, eqR, binI, unA, binB, fieldAddrA, fieldA, indexAddrA, indexA, extractA, buildA, sliceA, boundA, loadA, loadW, partA, lenA, minA, maxA, foldA, min2A, max2A, convA, pickA, asB, AV.strip, AV.gd, allocC, storeC, buildSliceC, makeSliceC, appendC, appSt, baseA, srcA, zeroA, storeW, AV.kill, AV.storable, AV.unit, AV.isAgg, AV.solid, Dat.isAgg, mkAgg, datsOf, fillA, TK.isAgg, VR.bad, dstOK, callee_eq, calleeP, retA, ↓reduceIte, Nat.reduceEqDiff, Nat.reduceLT, Nat.reduceLeDiff, Nat.reduceAdd, Nat.reduceSub, reduceCtorEq, ne_eq, eq_self, if_true, if_false, killL, forall_eq, forall_eq_or_imp, Int.reduceToNat, Int.reduceLT, Int.reduceLE, ↓List.forall_mem_cons, Nat.reduceMul, ite_self, GC, gvS, gvB, gdAll, killAll, appendLC, forall_const, implies_true, Op.operands, avT0, avT1, nth_row, row_len, kill_row, take_row, AV.frz, frzL, frzE, frzO, frz_of, frz_dats, renE, renO, swapN, AV.ren, renL, ren_row, hP, hG, tiA, osd_cons, set_row]
                  rw [hv]
                  try simp [AV.kill, datE, List.map_set, List.take_of_length_le, spI_len, spW_len, hkd]
                  

end Go.Proofs.YthcfjdkflmkhbaaDoor

namespace Go.Proofs.YthcfjdkflmkhbaaDoor
open Go.Av

instance : Inhabited CaseM := ⟨⟨[], [], 0⟩⟩
/-- The cases that are compared, and the choices. -/
def csM (l : List Int) (how y : Int) (raw : List (Int × Int × Int × Int)) (weights : List Int) (room : Int) : List CaseM := [madeM l, spoiltM (madeM l) how y, ofM raw weights room]
def pksM (l : List Int) (how y : Int) (pick : List Int) (c : CaseM) : List (List Int) := [takeM pick 8, pickNM (madeM l) y, pickNM c how, []]

theorem csM_sz (l : List Int) (how y : Int) (raw : List (Int × Int × Int × Int)) (weights : List Int) (room : Int) (hr : ∀ r ∈ raw, I64 r.1 ∧ I64 r.2.1 ∧ I64 r.2.2.1 ∧ I64 r.2.2.2) (hw : ∀ x ∈ weights, I64 x) (hm : I64 room) : ∀ x ∈ csM l how y raw weights room, SzC x := by
  have hc := madeM_ok l
  have h6 := madeM_len l
  have hsp : SzC (spoiltM (madeM l) how y) := spoiltM_sz hc.sz how y (fun q hq => by obtain ⟨i, hi, rfl⟩ := mem_getD hq; exact hc.n8 i hi) h6 (by rw [hc.wl]; exact h6)
  intro x hx
  simp only [csM, List.mem_cons, List.not_mem_nil, or_false] at hx
  rcases hx with rfl | rfl | rfl
  · exact hc.sz
  · exact hsp
  · exact ofM_sz raw weights room hr hw hm
theorem pksM_len (l : List Int) (how y : Int) (pick : List Int) (c : CaseM) (hc : SzC c) : ∀ x ∈ pksM l how y pick c, x.length ≤ 1000 := by
  have h6 := madeM_len l
  have ht := takeM_len pick 8
  have hn := hc.ni
  intro x hx
  simp only [pksM, List.mem_cons, List.not_mem_nil, or_false] at hx
  rcases hx with rfl | rfl | rfl | rfl
  · omega
  · rw [pickNM_length]; omega
  · rw [pickNM_length]; omega
  · simp
theorem csM_len (l : List Int) (how y : Int) (raw : List (Int × Int × Int × Int)) (weights : List Int) (room : Int) : (csM l how y raw weights room).length = 3 := rfl
theorem pksM_len4 (l : List Int) (how y : Int) (pick : List Int) (c : CaseM) : (pksM l how y pick c).length = 4 := rfl


set_option maxHeartbeats 2000000 in
theorem costs_ok (l : List Int) (how y : Int) (raw : List (Int × Int × Int × Int)) (weights : List Int) (room : Int) (pick : List Int) (hl : ∀ x ∈ l, I64 x) (hh : I64 how) (hy : I64 y) (hr : ∀ r ∈ raw, I64 r.1 ∧ I64 r.2.1 ∧ I64 r.2.2.1 ∧ I64 r.2.2.2) (hw : ∀ x ∈ weights, I64 x) (hm : I64 room) : Gives Tryd.prog gG 3 [isD l, iD how, iD y, .sl (raw.map rD), isD weights, iD room, isD pick] [.bool true] := by
  have hcs := csM_sz l how y raw weights room hr hw hm
  have hcl := csM_len l how y raw weights room
  refine gives_intro [67] [] [] Tryd.func3 rfl (by rfl) (by simp [Tryd.ntmps3]) fun F hP hG hN hR => ?_
  rw [Tryd.ntmps3] at hN
  have hA := And.intro hN (And.intro hP (And.intro hG (And.intro hR.1 (And.intro hR.2.1 hR.2.2.1))))
  apply aw_regs [0, 1, 2, 3, 4, 5, 6] []
  · simp (disch := omega) only [avR2, avA, datsOf, fillA, seval, ↓List.forall_mem_cons, Op.operands, hA, tiA]
    first | exact ⟨rfl, rfl⟩ | ((repeat' first | refine And.intro ?_ ?_ | intro _) <;> first | with_reducible rfl | assumption | omega | rfl | (rename_i hq; rw [hq]; rfl) | (simp_all; done))
  apply aw_regs [1, 2, 3, 4, 5, 6, 15] [15]
  · simp (disch := omega) only [avR2, avA, datsOf, fillA, seval, ↓List.forall_mem_cons, Op.operands, hA, tiA]
    (repeat' refine And.intro ?_ ?_) <;> try first | omega | assumption | with_reducible rfl | exact rfl | (intro hside; (repeat' refine And.intro ?_ ?_) <;> first | exact hside | omega | (rw [hside]; rfl) | (simp_all; done))
    refine CallC.use (gvF hP hG (made_ok gG l hl)) rfl ?_
    try simp (maxSteps := 2000000) (disch := omega) only [avR2, avA, datsOf, fillA, seval, ↓List.forall_mem_cons, Op.operands, hA, tiA]
    first | exact ⟨rfl, rfl⟩ | ((repeat' first | refine And.intro ?_ ?_ | intro _) <;> first | with_reducible rfl | assumption | omega | rfl | (rename_i hq; rw [hq]; rfl) | (simp_all; done))
  apply aw_rgds [1, 2, 6, 15, 16] [15, 37] [0, 1, 2, 3, 4, 5, 6, 7, 8, 9, 10] []
  · rw [hP]; kernel_rfl
  · exact hR
  · kernel_rfl
  · (repeat (apply PickL.cons; exact rfl)); exact PickL.nil _
  · simp (disch := omega) only [avR2, avA, datsOf, fillA, seval, ↓List.forall_mem_cons, Op.operands, hA, tiA]
    (repeat' refine And.intro ?_ ?_) <;> try first | omega | assumption | with_reducible rfl | exact rfl | (intro hside; (repeat' refine And.intro ?_ ?_) <;> first | exact hside | omega | (rw [hside]; rfl) | (simp_all; done))
    refine CallC.use (gvF hP hG (spoilt_ok gG (madeM l) how y (madeM_ok l) (madeM_len l) hh hy)) rfl ?_
    try simp (maxSteps := 2000000) (disch := omega) only [avR2, avA, datsOf, fillA, seval, ↓List.forall_mem_cons, Op.operands, hA, tiA]
    (repeat' refine And.intro ?_ ?_) <;> try first | omega | assumption | with_reducible rfl | exact rfl | (intro hside; (repeat' refine And.intro ?_ ?_) <;> first | exact hside | omega | (rw [hside]; rfl) | (simp_all; done))
    refine CallC.use (gvF hP hG (of_ok gG raw weights room)) rfl ?_
    try simp (maxSteps := 2000000) (disch := omega) only [avR2, avA, datsOf, fillA, seval, ↓List.forall_mem_cons, Op.operands, hA, tiA]
    first | exact ⟨rfl, rfl⟩ | ((repeat' first | refine And.intro ?_ ?_ | intro _) <;> first | with_reducible rfl | assumption | omega | rfl | (rename_i hq; rw [hq]; rfl) | (simp_all; done))
  apply aw_seq
  apply aw_regs [1, 2, 6, 15, 16, 17] [15, 37]
  · simp (disch := omega) only [avR2, avA, datsOf, fillA, seval, ↓List.forall_mem_cons, Op.operands, hA, tiA]
    first | exact ⟨rfl, rfl⟩ | ((repeat' first | refine And.intro ?_ ?_ | intro _) <;> first | with_reducible rfl | assumption | omega | rfl | (rename_i hq; rw [hq]; rfl) | (simp_all; done))
  apply aw_block
  refine aw_loop (ι := {i : Nat // i ≤ 3}) (fun ⟨i, hi⟩ => .of [(1, .dat (iD how)), (2, .dat (iD y)), (6, .dat (isD pick)), (15, .ptr 15 3 0 0), (16, .dat (.sl ((csM l how y raw weights room).map caseD))), (17, .dat (iD i))] [(15, ⟨3, [.dat (caseD (madeM l))]⟩)]) (fun ⟨i, hi⟩ => 3 - i) (⟨0, by omega⟩) (Le.of ?_ ?_) fun ix => ?_
  · try simp (disch := omega) only [LeE, LeO, avA, datsOf, fillA, seval, ↓List.forall_mem_cons, Op.operands, csM, List.map_cons, List.map_nil]
    all_goals first | done | (repeat' apply And.intro) <;> first | rfl | omega | assumption | (simp only [AV.dat.injEq, Dat.int.injEq, true_and]; omega) | (congr <;> omega)
  · try simp (disch := omega) only [LeE, LeO, avA, datsOf, fillA, seval, ↓List.forall_mem_cons, Op.operands, csM, List.map_cons, List.map_nil]
    all_goals first | done | (repeat' apply And.intro) <;> first | rfl | omega | assumption | (simp only [AV.dat.injEq, Dat.int.injEq, true_and]; omega) | (congr <;> omega)
  obtain ⟨i, hi⟩ := ix
  dsimp only
  apply aw_seq
  apply aw_regs [1, 2, 6, 15, 16, 17, 41] [15, 37]
  · simp (disch := omega) only [avR2, avA, datsOf, fillA, seval, ↓List.forall_mem_cons, Op.operands, hA, tiA, hcl]
    first | exact ⟨rfl, rfl⟩ | ((repeat' first | refine And.intro ?_ ?_ | intro _) <;> first | with_reducible rfl | assumption | omega | rfl | (rename_i hq; rw [hq]; rfl) | (simp_all; done))
  refine aw_if _ rfl (fun hb => ?_) (fun hb => ?_) <;> (try simp only [pickB_true, pickB_false, Bool.false_or, Bool.false_and, Bool.true_and, decide_eq_true_eq, decide_eq_false_iff_not, Bool.or_eq_true, Bool.and_eq_true, Bool.or_eq_false_iff, Bool.and_eq_false_imp, Bool.not_eq_true, Bool.not_eq_false, Bool.not_eq_eq_eq_not, Bool.not_true, Bool.not_false, Int.not_lt, Int.not_le, beq_iff_eq, beq_eq_false_iff_ne, bne_iff_ne, bne_eq_false_iff_eq, ne_eq, Bool.true_eq_false, Bool.false_eq_true, if_false_left, if_true_left, Bool.not_eq_eq_eq_not, Bool.decide_eq_true, Classical.not_not] at hb)
  · skip
    have hil : i < (csM l how y raw weights room).length := by omega
    have hsz : SzC ((csM l how y raw weights room).getD i default) := getD_all hcs hil
    have hpl := pksM_len l how y pick ((csM l how y raw weights room).getD i default) hsz
    have hp4 := pksM_len4 l how y pick ((csM l how y raw weights room).getD i default)
    apply aw_skip
    apply q_seq
    apply aw_seq
    apply aw_block
    apply aw_seq
    apply aw_rgds [1, 2, 6, 15, 16, 17, 55] [15, 37] [0, 1, 2, 3, 4, 5, 6, 7, 8, 9, 10, 11] []
    · rw [hP]; kernel_rfl
    · exact hR
    · kernel_rfl
    · (repeat (apply PickL.cons; exact rfl)); exact PickL.nil _
    · simp (disch := omega) only [avR2, avA, datsOf, fillA, seval, ↓List.forall_mem_cons, Op.operands, hA, tiA, hcl, bne_self_eq_false]
      (repeat' refine And.intro ?_ ?_) <;> try first | omega | assumption | with_reducible rfl | exact rfl | (intro hside; (repeat' refine And.intro ?_ ?_) <;> first | exact hside | omega | (rw [hside]; rfl) | (simp_all; done))
      refine CallC.use (gvF hP hG (own_ok gG ((csM l how y raw weights room).getD i default) hsz)) rfl ?_
      try simp (maxSteps := 2000000) (disch := omega) only [avR2, avA, datsOf, fillA, seval, ↓List.forall_mem_cons, Op.operands, hA, tiA]
      (repeat' refine And.intro ?_ ?_) <;> try first | omega | assumption | with_reducible rfl | exact rfl | (intro hside; (repeat' refine And.intro ?_ ?_) <;> first | exact hside | omega | (rw [hside]; rfl) | (simp_all; done))
      refine CallC.use (gvF hP hG (valid_ok gG ((csM l how y raw weights room).getD i default) hsz)) rfl ?_
      try simp (maxSteps := 2000000) (disch := omega) only [avR2, avA, datsOf, fillA, seval, ↓List.forall_mem_cons, Op.operands, hA, tiA]
      (repeat' refine And.intro ?_ ?_) <;> try first | omega | assumption | with_reducible rfl | exact rfl | (intro hside; (repeat' refine And.intro ?_ ?_) <;> first | exact hside | omega | (rw [hside]; rfl) | (simp_all; done))
      refine CallC.use (gvF hP hG (rvalid_ok gG ((csM l how y raw weights room).getD i default) hsz)) rfl ?_
      try simp (maxSteps := 2000000) (disch := omega) only [avR2, avA, datsOf, fillA, seval, ↓List.forall_mem_cons, Op.operands, hA, tiA, bne_self_eq_false]
      first | exact ⟨rfl, rfl⟩ | ((repeat' first | refine And.intro ?_ ?_ | intro _) <;> first | with_reducible rfl | assumption | omega | rfl | (rename_i hq; rw [hq]; rfl) | (simp_all; done))
    refine aw_iff rfl ?_
    apply aw_skip
    apply q_seq
    apply aw_rgds [1, 2, 6, 15, 16, 17, 18] [15, 37, 67] [0, 1, 2, 3, 4, 5, 6, 7, 8, 9, 10, 11, 12] [67]
    · rw [hP]; kernel_rfl
    · exact hR
    · kernel_rfl
    · (repeat (apply PickL.cons; exact rfl)); exact PickL.nil _
    · simp (maxSteps := 2000000) (disch := omega) only [avR2, avA, datsOf, fillA, seval, ↓List.forall_mem_cons, Op.operands, hA, tiA, hcl]
      (repeat' refine And.intro ?_ ?_) <;> try first | omega | assumption | with_reducible rfl | exact rfl | (intro hside; (repeat' refine And.intro ?_ ?_) <;> first | exact hside | omega | (rw [hside]; rfl) | (simp_all; done))
      refine CallC.use (gvF hP hG (take_ok gG pick 8 (by omega) (by omega))) rfl ?_
      try simp (maxSteps := 2000000) (disch := omega) only [avR2, avA, datsOf, fillA, seval, ↓List.forall_mem_cons, Op.operands, hA, tiA]
      (repeat' refine And.intro ?_ ?_) <;> try first | omega | assumption | with_reducible rfl | exact rfl | (intro hside; (repeat' refine And.intro ?_ ?_) <;> first | exact hside | omega | (rw [hside]; rfl) | (simp_all; done))
      refine CallC.use (gvF hP hG (pick_ok gG (madeM l) y (madeM_ok l).sz hy)) rfl ?_
      try simp (maxSteps := 2000000) (disch := omega) only [avR2, avA, datsOf, fillA, seval, ↓List.forall_mem_cons, Op.operands, hA, tiA]
      (repeat' refine And.intro ?_ ?_) <;> try first | omega | assumption | with_reducible rfl | exact rfl | (intro hside; (repeat' refine And.intro ?_ ?_) <;> first | exact hside | omega | (rw [hside]; rfl) | (simp_all; done))
      refine CallC.use (gvF hP hG (pick_ok gG ((csM l how y raw weights room).getD i default) how hsz hh)) rfl ?_
      try simp (maxSteps := 2000000) (disch := omega) only [avR2, avA, datsOf, fillA, seval, ↓List.forall_mem_cons, Op.operands, hA, tiA]
      first | exact ⟨rfl, rfl⟩ | ((repeat' first | refine And.intro ?_ ?_ | intro _) <;> first | with_reducible rfl | assumption | omega | rfl | (rename_i hq; rw [hq]; rfl) | (simp_all; done))
    refine aw_unN 67 rfl ?_
    refine aw_frz 67 hR.2.2.2 rfl rfl ?_
    apply aw_regs [1, 2, 6, 15, 16, 17, 18, 19] [15, 37, 67]
    · simp (disch := omega) only [avR2, avA, datsOf, fillA, seval, ↓List.forall_mem_cons, Op.operands, hA, tiA]
      first | exact ⟨rfl, rfl⟩ | ((repeat' first | refine And.intro ?_ ?_ | intro _) <;> first | with_reducible rfl | assumption | omega | rfl | (rename_i hq; rw [hq]; rfl) | (simp_all; done))
    apply aw_block
    refine aw_loop (ι := {k : Nat // k ≤ 4}) (fun ⟨k, hk⟩ => .of [(1, .dat (iD how)), (2, .dat (iD y)), (6, .dat (isD pick)), (15, .ptr 15 3 0 0), (16, .dat (.sl ((csM l how y raw weights room).map caseD))), (17, .dat (iD i)), (18, .dat (.sl ((pksM l how y pick ((csM l how y raw weights room).getD i default)).map isD))), (19, .dat (iD k))] [(15, ⟨3, [.dat (caseD (madeM l))]⟩)]) (fun ⟨k, hk⟩ => 4 - k) (⟨0, by omega⟩) (Le.of ?_ ?_) fun ix => ?_
    · try simp (disch := omega) only [LeE, LeO, avA, datsOf, fillA, seval, ↓List.forall_mem_cons, Op.operands, pksM, List.map_cons, List.map_nil]
      all_goals first | done | (repeat' apply And.intro) <;> first | rfl | omega | assumption | (simp only [AV.dat.injEq, Dat.int.injEq, true_and]; omega) | (congr <;> omega)
    · try simp (disch := omega) only [LeE, LeO, avA, datsOf, fillA, seval, ↓List.forall_mem_cons, Op.operands, pksM, List.map_cons, List.map_nil]
      all_goals first | done | (repeat' apply And.intro) <;> first | rfl | omega | assumption | (simp only [AV.dat.injEq, Dat.int.injEq, true_and]; omega) | (congr <;> omega)
    obtain ⟨k, hk⟩ := ix
    dsimp only
    apply aw_seq
    apply aw_regs [1, 2, 6, 15, 16, 17, 18, 19, 71] [15, 37, 67]
    · simp (disch := omega) only [avR2, avA, datsOf, fillA, seval, ↓List.forall_mem_cons, Op.operands, hA, tiA, hp4]
      first | exact ⟨rfl, rfl⟩ | ((repeat' first | refine And.intro ?_ ?_ | intro _) <;> first | with_reducible rfl | assumption | omega | rfl | (rename_i hq; rw [hq]; rfl) | (simp_all; done))
    refine aw_if _ rfl (fun hb => ?_) (fun hb => ?_) <;> (try simp only [pickB_true, pickB_false, Bool.false_or, Bool.false_and, Bool.true_and, decide_eq_true_eq, decide_eq_false_iff_not, Bool.or_eq_true, Bool.and_eq_true, Bool.or_eq_false_iff, Bool.and_eq_false_imp, Bool.not_eq_true, Bool.not_eq_false, Bool.not_eq_eq_eq_not, Bool.not_true, Bool.not_false, Int.not_lt, Int.not_le, beq_iff_eq, beq_eq_false_iff_ne, bne_iff_ne, bne_eq_false_iff_eq, ne_eq, Bool.true_eq_false, Bool.false_eq_true, if_false_left, if_true_left, Bool.not_eq_eq_eq_not, Bool.decide_eq_true, Classical.not_not] at hb)
    · skip
      have hkl : k < (pksM l how y pick ((csM l how y raw weights room).getD i default)).length := by omega
      have hpk := getD_all hpl hkl
      apply aw_skip
      apply q_seq
      apply aw_seq
      apply aw_block
      apply aw_rgds [1, 2, 6, 15, 16, 17, 18, 19, 20, 21, 22] [15, 37, 67] [0, 1, 2, 3, 4, 5, 6, 7, 8, 9, 10, 11, 12, 13, 14, 15, 16] []
      · rw [hP]; kernel_rfl
      · exact hR
      · kernel_rfl
      · (repeat (apply PickL.cons; exact rfl)); exact PickL.nil _
      · simp (maxSteps := 2000000) (disch := omega) only [avR2, avA, datsOf, fillA, seval, ↓List.forall_mem_cons, Op.operands, hA, tiA, hcl, hp4]
        (repeat' refine And.intro ?_ ?_) <;> try first | omega | assumption | with_reducible rfl | exact rfl | (intro hside; (repeat' refine And.intro ?_ ?_) <;> first | exact hside | omega | (rw [hside]; rfl) | (simp_all; done))
        refine CallC.use (gvF hP hG (own_ok gG ((csM l how y raw weights room).getD i default) hsz)) rfl ?_
        try simp (maxSteps := 2000000) (disch := omega) only [avR2, avA, datsOf, fillA, seval, ↓List.forall_mem_cons, Op.operands, hA, tiA]
        (repeat' refine And.intro ?_ ?_) <;> try first | omega | assumption | with_reducible rfl | exact rfl | (intro hside; (repeat' refine And.intro ?_ ?_) <;> first | exact hside | omega | (rw [hside]; rfl) | (simp_all; done))
        refine CallC.use (gvF hP hG (costF_ok gG ((csM l how y raw weights room).getD i default) ((pksM l how y pick ((csM l how y raw weights room).getD i default)).getD k default) hsz hpk)) rfl ?_
        try simp (maxSteps := 2000000) (disch := omega) only [avR2, avA, datsOf, fillA, seval, ↓List.forall_mem_cons, Op.operands, hA, tiA]
        first | exact ⟨rfl, rfl⟩ | ((repeat' first | refine And.intro ?_ ?_ | intro _) <;> first | with_reducible rfl | assumption | omega | rfl | (rename_i hq; rw [hq]; rfl) | (simp_all; done))
      apply aw_rgds [1, 2, 6, 15, 16, 17, 18, 19, 20, 21, 22, 23, 24, 25] [15, 37, 67] [0, 1, 2, 3, 4, 5, 6, 7, 8, 9, 10, 11, 12, 13, 14, 15] []
      · rw [hP]; kernel_rfl
      · exact hR
      · kernel_rfl
      · (repeat (apply PickL.cons; exact rfl)); exact PickL.nil _
      · simp (maxSteps := 2000000) (disch := omega) only [avR2, avA, datsOf, fillA, seval, ↓List.forall_mem_cons, Op.operands, hA, tiA, hcl, hp4]
        (repeat' refine And.intro ?_ ?_) <;> try first | omega | assumption | with_reducible rfl | exact rfl | (intro hside; (repeat' refine And.intro ?_ ?_) <;> first | exact hside | omega | (rw [hside]; rfl) | (simp_all; done))
        refine CallC.use (gvF hP hG (rcostF_ok gG ((csM l how y raw weights room).getD i default) ((pksM l how y pick ((csM l how y raw weights room).getD i default)).getD k default) hsz hpk)) rfl ?_
        try simp (maxSteps := 2000000) (disch := omega) only [avR2, avA, datsOf, fillA, seval, ↓List.forall_mem_cons, Op.operands, hA, tiA]
        first | exact ⟨rfl, rfl⟩ | ((repeat' first | refine And.intro ?_ ?_ | intro _) <;> first | with_reducible rfl | assumption | omega | rfl | (rename_i hq; rw [hq]; rfl) | (simp_all; done))
      apply aw_regs [1, 2, 6, 15, 16, 17, 18, 19, 113] [15, 37, 67]
      · simp (maxSteps := 2000000) (disch := omega) only [avR2, avA, datsOf, fillA, seval, ↓List.forall_mem_cons, Op.operands, hA, tiA, bne_self_eq_false]
        first | exact ⟨rfl, rfl⟩ | ((repeat' first | refine And.intro ?_ ?_ | intro _) <;> first | with_reducible rfl | assumption | omega | rfl | (rename_i hq; rw [hq]; rfl) | (simp_all; done))
      refine aw_iff rfl ?_
      apply aw_skip
      apply q_block
      apply q_seq
      apply aw_reg [1, 2, 6, 15, 16, 17, 18, 19] [15, 37, 67]
      · simp (disch := omega) only [avR2, avA, datsOf, fillA, seval, ↓List.forall_mem_cons, Op.operands, hA, tiA]
        first | exact ⟨rfl, rfl⟩ | ((repeat' first | refine And.intro ?_ ?_ | intro _) <;> first | with_reducible rfl | assumption | omega | rfl | (rename_i hq; rw [hq]; rfl) | (simp_all; done))
      refine q_loop (⟨k + 1, by omega⟩) (Le.of ?_ ?_) (by dsimp only; omega)
      · try simp (disch := omega) only [LeE, LeO, avA, datsOf, fillA, seval, ↓List.forall_mem_cons, Op.operands, pksM, List.map_cons, List.map_nil]
        all_goals first | done | (repeat' apply And.intro) <;> first | rfl | omega | assumption | (simp only [AV.dat.injEq, Dat.int.injEq, true_and]; omega) | (congr <;> omega)
      · try simp (disch := omega) only [LeE, LeO, avA, datsOf, fillA, seval, ↓List.forall_mem_cons, Op.operands, pksM, List.map_cons, List.map_nil]
        all_goals first | done | (repeat' apply And.intro) <;> first | rfl | omega | assumption | (simp only [AV.dat.injEq, Dat.int.injEq, true_and]; omega) | (congr <;> omega)
    · skip
      apply aw_exit
      apply q_exit_seq
      apply q_exit_loop
      apply q_exit
      apply q_block
      apply q_seq
      apply aw_reg [1, 2, 6, 15, 16, 17] [15, 37]
      · simp (disch := omega) only [avR2, avA, datsOf, fillA, seval, ↓List.forall_mem_cons, Op.operands, hA, tiA]
        first | exact ⟨rfl, rfl⟩ | ((repeat' first | refine And.intro ?_ ?_ | intro _) <;> first | with_reducible rfl | assumption | omega | rfl | (rename_i hq; rw [hq]; rfl) | (simp_all; done))
      refine q_loop (⟨i + 1, by omega⟩) (Le.of ?_ ?_) (by dsimp only; omega)
      · try simp (disch := omega) only [LeE, LeO, avA, datsOf, fillA, seval, ↓List.forall_mem_cons, Op.operands, csM, List.map_cons, List.map_nil]
        all_goals first | done | (repeat' apply And.intro) <;> first | rfl | omega | assumption | (simp only [AV.dat.injEq, Dat.int.injEq, true_and]; omega) | (congr <;> omega)
      · try simp (disch := omega) only [LeE, LeO, avA, datsOf, fillA, seval, ↓List.forall_mem_cons, Op.operands, csM, List.map_cons, List.map_nil]
        all_goals first | done | (repeat' apply And.intro) <;> first | rfl | omega | assumption | (simp only [AV.dat.injEq, Dat.int.injEq, true_and]; omega) | (congr <;> omega)
  · skip
    apply aw_exit
    apply q_exit_seq
    apply q_exit_loop
    apply q_exit
    apply q_seq
    apply aw_regs [14] []
    · simp (disch := omega) only [avR2, avA, datsOf, fillA, seval, ↓List.forall_mem_cons, Op.operands, hA, tiA]
      (repeat' refine And.intro ?_ ?_) <;> try first | omega | assumption | with_reducible rfl | exact rfl | (intro hside; (repeat' refine And.intro ?_ ?_) <;> first | exact hside | omega | (rw [hside]; rfl) | (simp_all; done))
      refine CallC.use (gvF hP hG (lives_ok)) rfl ?_
      try simp (maxSteps := 2000000) (disch := omega) only [avR2, avA, datsOf, fillA, seval, ↓List.forall_mem_cons, Op.operands, hA, tiA]
      first | exact ⟨rfl, rfl⟩ | ((repeat' first | refine And.intro ?_ ?_ | intro _) <;> first | with_reducible rfl | assumption | omega | rfl | (rename_i hq; rw [hq]; rfl) | (simp_all; done))
    apply aw_ret
    simp only [QRet, QRetM, QRetX, retsX_nil, retsX_cons, objsAre, Tryd.results3, resA, mapO_nil, mapO_cons, vD_dat, vD_nils, vD_rp, vD_osl, vD_ptr, vD_agg, vD_fn, vL_dat, vL_app, viewL, avA, datsOf, fillA, seval, ↓List.forall_mem_cons, Op.operands, hP, hG, tiA]

end Go.Proofs.YthcfjdkflmkhbaaDoor

namespace Go.Proofs.YthcfjdkflmkhbaaDoor
open Go.Av

section
variable (c : CaseM) (p q : Int)
/-- The least value so far, or -1. -/
def lsN (i k : Nat) : Int := if k = 0 then -1 else minV c p q i k
variable {c p q}
theorem lsN_zero (i : Nat) : lsN c p q i 0 = -1 := rfl
theorem lsN_succ (hc : OkC c) (hpq : okPQ p q) {i : Nat} (hi : i < c.items.length) {k : Nat} (hk : k < (c.items.getD i default).length) :
    lsN c p q i (k + 1) = if lsN c p q i k < 0 ∨ valM c p q i ((c.items.getD i default).getD k default) < lsN c p q i k then valM c p q i ((c.items.getD i default).getD k default) else lsN c p q i k := by
  unfold lsN
  rw [if_neg (by omega)]
  by_cases h : k = 0
  · subst h
    simp [minV]
  · rw [if_neg h]
    have := minV_range hc hpq hi k (by omega)
    simp only [minV]
    by_cases h2 : valM c p q i ((c.items.getD i default).getD k default) < minV c p q i k
    · rw [if_pos h2, if_pos (.inr h2)]
    · rw [if_neg h2, if_neg (by omega)]
theorem val_eq (i : Nat) (o : Int × Int) : o.2 * c.weights.getD i default * q + o.1 * p = valM c p q i o := by
  unfold valM
  rw [Int.mul_comm (o.2 * c.weights.getD i default) q, Int.mul_comm o.2, ← Int.mul_assoc, Int.mul_comm o.1 p]
theorem room_eq : (0 - c.room) * p = bndM c p q 0 := by
  simp only [bndM, Int.zero_sub, Int.neg_mul]
  rw [Int.mul_comm]
end

theorem shAt_one (l : List (Int × Int)) : shAt l 1 = 0 := by
  simp [shAt]
theorem fits_iff {c : CaseM} : (decide (linesM c (shortM c c.items.length) (shortM c c.items.length).length ≤ c.room)) = !decide (c.room < linesM c (shortM c c.items.length) (shortM c c.items.length).length) := by
  by_cases h : c.room < linesM c (shortM c c.items.length) (shortM c c.items.length).length
  · simp [h, Int.not_le.2 h]
  · simp [h, Int.not_lt.1 h]

end Go.Proofs.YthcfjdkflmkhbaaDoor

namespace Go.Proofs.YthcfjdkflmkhbaaDoor
open Go.Av


theorem least_ok (G) (c : CaseM) (i : Nat) (p q : Int) (hc : OkC c) (hpq : okPQ p q) (hi : i < c.items.length) : Gives Tryd.prog G 31 [caseD c, iD i, iD p, iD q] [iD (minV c p q i (c.items.getD i default).length)] := by
  have hst : (0 : Nat) = 0 := rfl
  have hn := hc.n64
  have hwl := hc.wl
  have hi8 := hc.n8 i hi
  have hi1 := hc.n1 i hi
  have hw := hc.w i hi
  have hpq' := hpq
  unfold okPQ at hpq'
  simp only [itemM, weightM] at hi8 hi1 hw
  refine gives_intro [] [] [] Tryd.func31 rfl (by rfl) (by simp [Tryd.ntmps31]) fun F hP hG hN hR => ?_
  rw [Tryd.ntmps31] at hN
  have hA := And.intro hN (And.intro hP (And.intro hG (And.intro hR.1 (And.intro hR.2.1 hR.2.2.1))))
  apply aw_regs [1, 2, 3, 4] [4]
  · simp (disch := omega) only [avR2, avA, datsOf, fillA, seval, ↓List.forall_mem_cons, Op.operands, hA, tiA]
    first | exact ⟨rfl, rfl⟩ | ((repeat' first | refine And.intro ?_ ?_ | intro _) <;> first | with_reducible rfl | assumption | omega | rfl | (rename_i hq; rw [hq]; rfl) | (simp_all; done))
  apply aw_regs [1, 2, 3, 4, 9] [4]
  · simp (disch := omega) only [avR2, avA, datsOf, fillA, seval, ↓List.forall_mem_cons, Op.operands, hA, tiA]
    first | exact ⟨rfl, rfl⟩ | ((repeat' first | refine And.intro ?_ ?_ | intro _) <;> first | with_reducible rfl | assumption | omega | rfl | (rename_i hq; rw [hq]; rfl) | (simp_all; done))
  apply aw_seq
  apply aw_regs [1, 2, 3, 4, 9, 10] [4]
  · simp (disch := omega) only [avR2, avA, datsOf, fillA, seval, ↓List.forall_mem_cons, Op.operands, hA, tiA]
    first | exact ⟨rfl, rfl⟩ | ((repeat' first | refine And.intro ?_ ?_ | intro _) <;> first | with_reducible rfl | assumption | omega | rfl | (rename_i hq; rw [hq]; rfl) | (simp_all; done))
  apply aw_block
  refine aw_loop (ι := {k : Nat // k ≤ (c.items.getD i default).length}) (fun ⟨k, hk⟩ => .of [(1, .dat (iD i)), (2, .dat (iD p)), (3, .dat (iD q)), (4, .ptr 4 3 0 0), (9, .dat (iD (lsN c p q i k))), (10, .dat (iD k))] [(4, ⟨3, [.dat (caseD c)]⟩)]) (fun ⟨k, hk⟩ => (c.items.getD i default).length - k) (⟨0, by omega⟩) (Le.of ?_ ?_) fun ix => ?_
  · try simp (disch := omega) only [LeE, LeO, avA, datsOf, fillA, seval, ↓List.forall_mem_cons, Op.operands, lsN_zero, hst]
    all_goals first | done | (repeat' apply And.intro) <;> first | rfl | omega | assumption | (simp only [AV.dat.injEq, Dat.int.injEq, true_and]; omega) | (congr <;> omega)
  · try simp (disch := omega) only [LeE, LeO, avA, datsOf, fillA, seval, ↓List.forall_mem_cons, Op.operands, lsN_zero, hst]
    all_goals first | done | (repeat' apply And.intro) <;> first | rfl | omega | assumption | (simp only [AV.dat.injEq, Dat.int.injEq, true_and]; omega) | (congr <;> omega)
  obtain ⟨k, hk⟩ := ix
  dsimp only
  apply aw_seq
  apply aw_regs [1, 2, 3, 4, 9, 10, 20] [4]
  · simp (disch := omega) only [avR2, avA, datsOf, fillA, seval, ↓List.forall_mem_cons, Op.operands, hA, tiA]
    first | exact ⟨rfl, rfl⟩ | ((repeat' first | refine And.intro ?_ ?_ | intro _) <;> first | with_reducible rfl | assumption | omega | rfl | (rename_i hq; rw [hq]; rfl) | (simp_all; done))
  refine aw_if _ rfl (fun hb => ?_) (fun hb => ?_) <;> (try simp only [pickB_true, pickB_false, Bool.false_or, Bool.false_and, Bool.true_and, decide_eq_true_eq, decide_eq_false_iff_not, Bool.or_eq_true, Bool.and_eq_true, Bool.or_eq_false_iff, Bool.and_eq_false_imp, Bool.not_eq_true, Bool.not_eq_false, Bool.not_eq_eq_eq_not, Bool.not_true, Bool.not_false, Int.not_lt, Int.not_le, beq_iff_eq, beq_eq_false_iff_ne, bne_iff_ne, bne_eq_false_iff_eq, ne_eq, Bool.true_eq_false, Bool.false_eq_true, if_false_left, if_true_left, Bool.not_eq_eq_eq_not, Bool.decide_eq_true, Classical.not_not] at hb)
  · skip
    have hkl : k < (c.items.getD i default).length := by omega
    have hok := getD_all (hc.o i hi) (i := k) (by simp only [itemM]; omega)
    simp only [itemM] at hok
    have hv := val_range hpq hw hok
    have hve := val_eq (c := c) (p := p) (q := q) i ((c.items.getD i default).getD k default)
    have hls := lsN_succ hc hpq hi hkl
    unfold okO at hok
    have n1 : 0 ≤ ((c.items.getD i default).getD k default).2 * c.weights.getD i default := Int.mul_nonneg hok.2.2.1 hw.1
    have n2 : ((c.items.getD i default).getD k default).2 * c.weights.getD i default ≤ 64 * 1024 := Int.mul_le_mul hok.2.2.2 hw.2 hw.1 (by omega)
    have n3 : ((c.items.getD i default).getD k default).2 * c.weights.getD i default * q = q * c.weights.getD i default * ((c.items.getD i default).getD k default).2 := by rw [Int.mul_comm, Int.mul_comm ((c.items.getD i default).getD k default).2, ← Int.mul_assoc]
    have n4 : ((c.items.getD i default).getD k default).1 * p = p * ((c.items.getD i default).getD k default).1 := Int.mul_comm _ _
    apply aw_skip
    apply q_seq
    apply aw_seq
    apply aw_block
    apply aw_regs [1, 2, 3, 4, 9, 10, 11] [4, 11]
    · simp (disch := omega) only [avR2, avA, datsOf, fillA, seval, ↓List.forall_mem_cons, Op.operands, hA, tiA]
      first | exact ⟨rfl, rfl⟩ | ((repeat' first | refine And.intro ?_ ?_ | intro _) <;> first | with_reducible rfl | assumption | omega | rfl | (rename_i hq; rw [hq]; rfl) | (simp_all; done))
    apply aw_rgds [1, 2, 3, 4, 9, 10, 12] [4] [0, 1, 2, 3, 4, 5, 6, 7, 8, 9, 10, 11, 12, 13, 14, 15] []
    · rw [hP]; kernel_rfl
    · exact hR
    · kernel_rfl
    · (repeat (apply PickL.cons; exact rfl)); exact PickL.nil _
    · simp (maxSteps := 2000000) (disch := omega) only [avR2, avA, datsOf, fillA, seval, ↓List.forall_mem_cons, Op.operands, hA, tiA, hve]
      first | exact ⟨rfl, rfl⟩ | ((repeat' first | refine And.intro ?_ ?_ | intro _) <;> first | with_reducible rfl | assumption | omega | rfl | (rename_i hq; rw [hq]; rfl) | (simp_all; done))
    apply aw_regs [1, 2, 3, 4, 9, 10, 12, 52] [4]
    · simp (disch := omega) only [avR2, avA, datsOf, fillA, seval, ↓List.forall_mem_cons, Op.operands, hA, tiA]
      first | exact ⟨rfl, rfl⟩ | ((repeat' first | refine And.intro ?_ ?_ | intro _) <;> first | with_reducible rfl | assumption | omega | rfl | (rename_i hq; rw [hq]; rfl) | (simp_all; done))
    refine aw_if _ rfl (fun hb => ?_) (fun hb => ?_) <;> (try simp only [pickB_true, pickB_false, Bool.false_or, Bool.false_and, Bool.true_and, decide_eq_true_eq, decide_eq_false_iff_not, Bool.or_eq_true, Bool.and_eq_true, Bool.or_eq_false_iff, Bool.and_eq_false_imp, Bool.not_eq_true, Bool.not_eq_false, Bool.not_eq_eq_eq_not, Bool.not_true, Bool.not_false, Int.not_lt, Int.not_le, beq_iff_eq, beq_eq_false_iff_ne, bne_iff_ne, bne_eq_false_iff_eq, ne_eq, Bool.true_eq_false, Bool.false_eq_true, if_false_left, if_true_left, Bool.not_eq_eq_eq_not, Bool.decide_eq_true, Classical.not_not] at hb)
    · skip
      have hst : lsN c p q i (k + 1) = valM c p q i ((c.items.getD i default).getD k default) := by rw [hls, if_pos hb]
      apply aw_reg [1, 2, 3, 4, 9, 10] [4]
      · simp (disch := omega) only [avR2, avA, datsOf, fillA, seval, ↓List.forall_mem_cons, Op.operands, hA, tiA]
        first | exact ⟨rfl, rfl⟩ | ((repeat' first | refine And.intro ?_ ?_ | intro _) <;> first | with_reducible rfl | assumption | omega | rfl | (rename_i hq; rw [hq]; rfl) | (simp_all; done))
      apply q_block
      apply q_seq
      apply aw_reg [1, 2, 3, 4, 9, 10] [4]
      · simp (disch := omega) only [avR2, avA, datsOf, fillA, seval, ↓List.forall_mem_cons, Op.operands, hA, tiA]
        first | exact ⟨rfl, rfl⟩ | ((repeat' first | refine And.intro ?_ ?_ | intro _) <;> first | with_reducible rfl | assumption | omega | rfl | (rename_i hq; rw [hq]; rfl) | (simp_all; done))
      refine q_loop (⟨k + 1, by omega⟩) (Le.of ?_ ?_) (by dsimp only; omega)
      · try simp (disch := omega) only [LeE, LeO, avA, datsOf, fillA, seval, ↓List.forall_mem_cons, Op.operands, lsN_zero, hst]
        all_goals first | done | (repeat' apply And.intro) <;> first | rfl | omega | assumption | (simp only [AV.dat.injEq, Dat.int.injEq, true_and]; omega) | (congr <;> omega)
      · try simp (disch := omega) only [LeE, LeO, avA, datsOf, fillA, seval, ↓List.forall_mem_cons, Op.operands, lsN_zero, hst]
        all_goals first | done | (repeat' apply And.intro) <;> first | rfl | omega | assumption | (simp only [AV.dat.injEq, Dat.int.injEq, true_and]; omega) | (congr <;> omega)
    · skip
      have hst : lsN c p q i (k + 1) = lsN c p q i k := by rw [hls, if_neg (by omega)]
      apply aw_skip
      apply q_block
      apply q_seq
      apply aw_reg [1, 2, 3, 4, 9, 10] [4]
      · simp (disch := omega) only [avR2, avA, datsOf, fillA, seval, ↓List.forall_mem_cons, Op.operands, hA, tiA]
        first | exact ⟨rfl, rfl⟩ | ((repeat' first | refine And.intro ?_ ?_ | intro _) <;> first | with_reducible rfl | assumption | omega | rfl | (rename_i hq; rw [hq]; rfl) | (simp_all; done))
      refine q_loop (⟨k + 1, by omega⟩) (Le.of ?_ ?_) (by dsimp only; omega)
      · try simp (disch := omega) only [LeE, LeO, avA, datsOf, fillA, seval, ↓List.forall_mem_cons, Op.operands, lsN_zero, hst]
        all_goals first | done | (repeat' apply And.intro) <;> first | rfl | omega | assumption | (simp only [AV.dat.injEq, Dat.int.injEq, true_and]; omega) | (congr <;> omega)
      · try simp (disch := omega) only [LeE, LeO, avA, datsOf, fillA, seval, ↓List.forall_mem_cons, Op.operands, lsN_zero, hst]
        all_goals first | done | (repeat' apply And.intro) <;> first | rfl | omega | assumption | (simp only [AV.dat.injEq, Dat.int.injEq, true_and]; omega) | (congr <;> omega)
  · skip
    have hkk : k = (c.items.getD i default).length := by omega
    subst hkk
    have hmr := minV_range hc hpq hi (c.items.getD i default).length (Nat.le_refl _)
    have hln : lsN c p q i (c.items.getD i default).length = minV c p q i (c.items.getD i default).length := by unfold lsN; rw [if_neg (by omega)]
    rw [hln]
    apply aw_exit
    apply q_exit_seq
    apply q_exit_loop
    apply q_exit
    apply q_seq
    apply aw_regs [8] []
    · simp (disch := omega) only [avR2, avA, datsOf, fillA, seval, ↓List.forall_mem_cons, Op.operands, hA, tiA]
      first | exact ⟨rfl, rfl⟩ | ((repeat' first | refine And.intro ?_ ?_ | intro _) <;> first | with_reducible rfl | assumption | omega | rfl | (rename_i hq; rw [hq]; rfl) | (simp_all; done))
    apply aw_ret
    simp only [QRet, QRetM, QRetX, retsX_nil, retsX_cons, objsAre, Tryd.results31, resA, mapO_nil, mapO_cons, vD_dat, vD_nils, vD_rp, vD_osl, vD_ptr, vD_agg, vD_fn, vL_dat, vL_app, viewL, avA, datsOf, fillA, seval, ↓List.forall_mem_cons, Op.operands, hP, hG, tiA]
    rw [if_neg (by omega)]
    

end Go.Proofs.YthcfjdkflmkhbaaDoor

namespace Go.Proofs.YthcfjdkflmkhbaaDoor
open Go.Av


theorem equal_ok (G) (x y : Int × Int × Int) : Gives Tryd.prog G 24 [ceD x, ceD y] [.bool (x.1 == y.1 && x.2.1 == y.2.1 && x.2.2 == y.2.2)] := by
  refine gives_intro [] [] [] Tryd.func24 rfl (by rfl) (by simp [Tryd.ntmps24]) fun F hP hG hN hR => ?_
  rw [Tryd.ntmps24] at hN
  have hA := And.intro hN (And.intro hP (And.intro hG (And.intro hR.1 (And.intro hR.2.1 hR.2.2.1))))
  apply aw_regs [2, 3] [2, 3]
  · simp (disch := omega) only [avR2, avA, datsOf, fillA, seval, ↓List.forall_mem_cons, Op.operands, hA, tiA]
    first | exact ⟨rfl, rfl⟩ | ((repeat' first | refine And.intro ?_ ?_ | intro _) <;> first | with_reducible rfl | assumption | omega | rfl | (rename_i hq; rw [hq]; rfl) | (simp_all; done))
  apply aw_regs [4] []
  · simp (maxSteps := 2000000) (disch := omega) only [avR2, avA, datsOf, fillA, seval, ↓List.forall_mem_cons, Op.operands, hA, tiA]
    first | exact ⟨rfl, rfl⟩ | ((repeat' first | refine And.intro ?_ ?_ | intro _) <;> first | with_reducible rfl | assumption | omega | rfl | (rename_i hq; rw [hq]; rfl) | (simp_all; done))
  apply aw_ret
  simp only [QRet, QRetM, QRetX, retsX_nil, retsX_cons, objsAre, Tryd.results24, resA, mapO_nil, mapO_cons, vD_dat, vD_nils, vD_rp, vD_osl, vD_ptr, vD_agg, vD_fn, vL_dat, vL_app, viewL, avA, datsOf, fillA, seval, ↓List.forall_mem_cons, Op.operands, hP, hG, tiA]

theorem cert_ok (G) (x : Int × Int × Int) : Gives Tryd.prog G 28 [ceD x] [ceD x] := by
  refine gives_intro [] [] [] Tryd.func28 rfl (by rfl) (by simp [Tryd.ntmps28]) fun F hP hG hN hR => ?_
  rw [Tryd.ntmps28] at hN
  have hA := And.intro hN (And.intro hP (And.intro hG (And.intro hR.1 (And.intro hR.2.1 hR.2.2.1))))
  apply aw_regs [1, 2] [1, 2]
  · simp (disch := omega) only [avR2, avA, datsOf, fillA, seval, ↓List.forall_mem_cons, Op.operands, hA, tiA]
    first | exact ⟨rfl, rfl⟩ | ((repeat' first | refine And.intro ?_ ?_ | intro _) <;> first | with_reducible rfl | assumption | omega | rfl | (rename_i hq; rw [hq]; rfl) | (simp_all; done))
  apply aw_regs [2] [2]
  · simp (disch := omega) only [avR2, avA, datsOf, fillA, seval, ↓List.forall_mem_cons, Op.operands, hA, tiA]
    first | exact ⟨rfl, rfl⟩ | ((repeat' first | refine And.intro ?_ ?_ | intro _) <;> first | with_reducible rfl | assumption | omega | rfl | (rename_i hq; rw [hq]; rfl) | (simp_all; done))
  apply aw_ret
  simp only [QRet, QRetM, QRetX, retsX_nil, retsX_cons, objsAre, Tryd.results28, resA, mapO_nil, mapO_cons, vD_dat, vD_nils, vD_rp, vD_osl, vD_ptr, vD_agg, vD_fn, vL_dat, vL_app, viewL, avA, datsOf, fillA, seval, ↓List.forall_mem_cons, Op.operands, hP, hG, tiA]

theorem divisor_ok (G) (a b : Nat) (ha : a ≤ 1000000000) (hb : b ≤ 1000000000) : Gives Tryd.prog G 55 [iD a, iD b] [iD (Nat.gcd a b : Nat)] := by
  have hmm : ∀ a b : Nat, (a : Int).tmod (b : Int) = ((a % b : Nat) : Int) := fun _ _ => rfl
  refine gives_intro [] [] [] Tryd.func55 rfl (by rfl) (by simp [Tryd.ntmps55]) fun F hP hG hN hR => ?_
  rw [Tryd.ntmps55] at hN
  have hA := And.intro hN (And.intro hP (And.intro hG (And.intro hR.1 (And.intro hR.2.1 hR.2.2.1))))
  apply aw_regs [0, 1] []
  · simp (disch := omega) only [avR2, avA, datsOf, fillA, seval, ↓List.forall_mem_cons, Op.operands, hA, tiA]
    first | exact ⟨rfl, rfl⟩ | ((repeat' first | refine And.intro ?_ ?_ | intro _) <;> first | with_reducible rfl | assumption | omega | rfl | (rename_i hq; rw [hq]; rfl) | (simp_all; done))
  apply aw_seq
  apply aw_block
  refine aw_loop (ι := {ab : Nat × Nat // Nat.gcd ab.1 ab.2 = Nat.gcd a b ∧ ab.1 ≤ 1000000000 ∧ ab.2 ≤ 1000000000}) (fun ⟨ab, hab⟩ => .of [(0, .dat (iD ab.1)), (1, .dat (iD ab.2))] []) (fun ⟨ab, hab⟩ => ab.2) (⟨(a, b), rfl, ha, hb⟩) (Le.of ?_ ?_) fun ix => ?_
  · try simp (disch := omega) only [LeE, LeO, avA, datsOf, fillA, seval, ↓List.forall_mem_cons, Op.operands, hmm]
    all_goals first | done | (repeat' apply And.intro) <;> first | rfl | omega | assumption | (simp only [AV.dat.injEq, Dat.int.injEq, true_and]; omega) | (congr <;> omega)
  · try simp (disch := omega) only [LeE, LeO, avA, datsOf, fillA, seval, ↓List.forall_mem_cons, Op.operands, hmm]
    all_goals first | done | (repeat' apply And.intro) <;> first | rfl | omega | assumption | (simp only [AV.dat.injEq, Dat.int.injEq, true_and]; omega) | (congr <;> omega)
  obtain ⟨ab, hab⟩ := ix
  dsimp only
  apply aw_seq
  apply aw_regs [0, 1, 7] []
  · simp (disch := omega) only [avR2, avA, datsOf, fillA, seval, ↓List.forall_mem_cons, Op.operands, hA, tiA]
    first | exact ⟨rfl, rfl⟩ | ((repeat' first | refine And.intro ?_ ?_ | intro _) <;> first | with_reducible rfl | assumption | omega | rfl | (rename_i hq; rw [hq]; rfl) | (simp_all; done))
  refine aw_if _ rfl (fun hb => ?_) (fun hb => ?_) <;> (try simp only [pickB_true, pickB_false, Bool.false_or, Bool.false_and, Bool.true_and, decide_eq_true_eq, decide_eq_false_iff_not, Bool.or_eq_true, Bool.and_eq_true, Bool.or_eq_false_iff, Bool.and_eq_false_imp, Bool.not_eq_true, Bool.not_eq_false, Bool.not_eq_eq_eq_not, Bool.not_true, Bool.not_false, Int.not_lt, Int.not_le, beq_iff_eq, beq_eq_false_iff_ne, bne_iff_ne, bne_eq_false_iff_eq, ne_eq, Bool.true_eq_false, Bool.false_eq_true, if_false_left, if_true_left, Bool.not_eq_eq_eq_not, Bool.decide_eq_true, Classical.not_not] at hb)
  · skip
    have hb0 : 0 < ab.2 := by omega
    have hgr : Nat.gcd ab.2 (ab.1 % ab.2) = Nat.gcd a b := by rw [← hab.1, Nat.gcd_comm ab.2, ← Nat.gcd_rec, Nat.gcd_comm]
    have hlt : ab.1 % ab.2 < ab.2 := Nat.mod_lt _ hb0
    have hle := hab.2.2
    apply aw_skip
    apply q_seq
    apply aw_block
    apply aw_regs [1, 5] []
    · simp (disch := omega) only [avR2, avA, datsOf, fillA, seval, ↓List.forall_mem_cons, Op.operands, hA, tiA]
      first | exact ⟨rfl, rfl⟩ | ((repeat' first | refine And.intro ?_ ?_ | intro _) <;> first | with_reducible rfl | assumption | omega | rfl | (rename_i hq; rw [hq]; rfl) | (simp_all; done))
    apply aw_regs [0, 5] []
    · simp (disch := omega) only [avR2, avA, datsOf, fillA, seval, ↓List.forall_mem_cons, Op.operands, hA, tiA]
      first | exact ⟨rfl, rfl⟩ | ((repeat' first | refine And.intro ?_ ?_ | intro _) <;> first | with_reducible rfl | assumption | omega | rfl | (rename_i hq; rw [hq]; rfl) | (simp_all; done))
    apply aw_reg [0, 1] []
    · simp (disch := omega) only [avR2, avA, datsOf, fillA, seval, ↓List.forall_mem_cons, Op.operands, hA, tiA]
      first | exact ⟨rfl, rfl⟩ | ((repeat' first | refine And.intro ?_ ?_ | intro _) <;> first | with_reducible rfl | assumption | omega | rfl | (rename_i hq; rw [hq]; rfl) | (simp_all; done))
    apply q_block
    refine q_loop (⟨(ab.2, ab.1 % ab.2), hgr, hab.2.2, by omega⟩) (Le.of ?_ ?_) (by dsimp only; omega)
    · try simp (disch := omega) only [LeE, LeO, avA, datsOf, fillA, seval, ↓List.forall_mem_cons, Op.operands, hmm]
      all_goals first | done | (repeat' apply And.intro) <;> first | rfl | omega | assumption | (simp only [AV.dat.injEq, Dat.int.injEq, true_and]; omega) | (congr <;> omega)
    · try simp (disch := omega) only [LeE, LeO, avA, datsOf, fillA, seval, ↓List.forall_mem_cons, Op.operands, hmm]
      all_goals first | done | (repeat' apply And.intro) <;> first | rfl | omega | assumption | (simp only [AV.dat.injEq, Dat.int.injEq, true_and]; omega) | (congr <;> omega)
  · skip
    have hgg : ab.1 = Nat.gcd a b := by
      have h := hab.1
      rw [show ab.2 = 0 by omega, Nat.gcd_zero_right] at h
      exact h
    apply aw_exit
    apply q_exit_seq
    apply q_exit_loop
    apply q_exit
    apply q_seq
    apply aw_regs [4] []
    · simp (disch := omega) only [avR2, avA, datsOf, fillA, seval, ↓List.forall_mem_cons, Op.operands, hA, tiA]
      first | exact ⟨rfl, rfl⟩ | ((repeat' first | refine And.intro ?_ ?_ | intro _) <;> first | with_reducible rfl | assumption | omega | rfl | (rename_i hq; rw [hq]; rfl) | (simp_all; done))
    apply aw_ret
    simp only [QRet, QRetM, QRetX, retsX_nil, retsX_cons, objsAre, Tryd.results55, resA, mapO_nil, mapO_cons, vD_dat, vD_nils, vD_rp, vD_osl, vD_ptr, vD_agg, vD_fn, vL_dat, vL_app, viewL, avA, datsOf, fillA, seval, ↓List.forall_mem_cons, Op.operands, hP, hG, tiA]
    rw [hgg]
    

theorem rboundF_ok (G) (c : CaseM) (p q : Int) (hs : SzC c) : Gives Tryd.prog G 26 [caseD c, iD p, iD q] [ceD (boundE c p q).1, iD (boundE c p q).2] := by
  have hro : ∀ n : Nat, (0 - c.room) * p = bndM c p q 0 := fun _ => room_eq
  refine gives_intro [] [] [] Tryd.func26 rfl (by rfl) (by simp [Tryd.ntmps26]) fun F hP hG hN hR => ?_
  rw [Tryd.ntmps26] at hN
  have hA := And.intro hN (And.intro hP (And.intro hG (And.intro hR.1 (And.intro hR.2.1 hR.2.2.1))))
  apply aw_regs [1, 2, 3, 6] [3, 6]
  · simp (disch := omega) only [avR2, avA, datsOf, fillA, seval, ↓List.forall_mem_cons, Op.operands, hA, tiA]
    first | exact ⟨rfl, rfl⟩ | ((repeat' first | refine And.intro ?_ ?_ | intro _) <;> first | with_reducible rfl | assumption | omega | rfl | (rename_i hq; rw [hq]; rfl) | (simp_all; done))
  apply aw_regs [1, 2, 3, 6, 8] [3, 6]
  · simp (disch := omega) only [avR2, avA, datsOf, fillA, seval, ↓List.forall_mem_cons, Op.operands, hA, tiA]
    (repeat' refine And.intro ?_ ?_) <;> try first | omega | assumption | with_reducible rfl | exact rfl | (intro hside; (repeat' refine And.intro ?_ ?_) <;> first | exact hside | omega | (rw [hside]; rfl) | (simp_all; done))
    refine CallC.use (gvF hP hG (rvalid_ok G c hs)) rfl ?_
    try simp (maxSteps := 2000000) (disch := omega) only [avR2, avA, datsOf, fillA, seval, ↓List.forall_mem_cons, Op.operands, hA, tiA]
    first | exact ⟨rfl, rfl⟩ | ((repeat' first | refine And.intro ?_ ?_ | intro _) <;> first | with_reducible rfl | assumption | omega | rfl | (rename_i hq; rw [hq]; rfl) | (simp_all; done))
  apply aw_seq
  apply aw_regs [1, 2, 3, 6, 8, 14] [3, 6]
  · simp (disch := omega) only [avR2, avA, datsOf, fillA, seval, ↓List.forall_mem_cons, Op.operands, hA, tiA]
    first | exact ⟨rfl, rfl⟩ | ((repeat' first | refine And.intro ?_ ?_ | intro _) <;> first | with_reducible rfl | assumption | omega | rfl | (rename_i hq; rw [hq]; rfl) | (simp_all; done))
  refine aw_if _ rfl (fun hb => ?_) (fun hb => ?_) <;> (try simp only [pickB_true, pickB_false, Bool.false_or, Bool.false_and, Bool.true_and, decide_eq_true_eq, decide_eq_false_iff_not, Bool.or_eq_true, Bool.and_eq_true, Bool.or_eq_false_iff, Bool.and_eq_false_imp, Bool.not_eq_true, Bool.not_eq_false, Bool.not_eq_eq_eq_not, Bool.not_true, Bool.not_false, Int.not_lt, Int.not_le, beq_iff_eq, beq_eq_false_iff_ne, bne_iff_ne, bne_eq_false_iff_eq, ne_eq, Bool.true_eq_false, Bool.false_eq_true, if_false_left, if_true_left, Bool.not_eq_eq_eq_not, Bool.decide_eq_true, Classical.not_not] at hb)
  · skip
    have hv : boundE c p q = ((0, 0, 0), validM c) := by
      unfold boundE
      rw [if_pos hb]
    apply aw_regs [6, 7] [6]
    · simp (disch := omega) only [avR2, avA, datsOf, fillA, seval, ↓List.forall_mem_cons, Op.operands, hA, tiA]
      first | exact ⟨rfl, rfl⟩ | ((repeat' first | refine And.intro ?_ ?_ | intro _) <;> first | with_reducible rfl | assumption | omega | rfl | (rename_i hq; rw [hq]; rfl) | (simp_all; done))
    apply aw_ret
    apply q_ret_seq
    simp only [QRet, QRetM, QRetX, retsX_nil, retsX_cons, objsAre, Tryd.results26, resA, mapO_nil, mapO_cons, vD_dat, vD_nils, vD_rp, vD_osl, vD_ptr, vD_agg, vD_fn, vL_dat, vL_app, viewL, avA, datsOf, fillA, seval, ↓List.forall_mem_cons, Op.operands, hP, hG, tiA]
    rw [hv]
    try rfl
    
  · skip
    have h0 : ¬ validM c ≠ 0 := by omega
    have hc : OkC c := validM_ok.1 (by omega)
    have hn := hc.n64
    have hcr := hc.room
    apply aw_skip
    apply q_seq
    apply aw_seq
    apply aw_regs [1, 2, 3, 6, 30] [3, 6]
    · simp (maxSteps := 2000000) (disch := omega) only [avR2, avA, datsOf, fillA, seval, ↓List.forall_mem_cons, Op.operands, hA, tiA]
      first | exact ⟨rfl, rfl⟩ | ((repeat' first | refine And.intro ?_ ?_ | intro _) <;> first | with_reducible rfl | assumption | omega | rfl | (rename_i hq; rw [hq]; rfl) | (simp_all; done))
    refine aw_if _ rfl (fun hb => ?_) (fun hb => ?_) <;> (try simp only [pickB_true, pickB_false, Bool.false_or, Bool.false_and, Bool.true_and, decide_eq_true_eq, decide_eq_false_iff_not, Bool.or_eq_true, Bool.and_eq_true, Bool.or_eq_false_iff, Bool.and_eq_false_imp, Bool.not_eq_true, Bool.not_eq_false, Bool.not_eq_eq_eq_not, Bool.not_true, Bool.not_false, Int.not_lt, Int.not_le, beq_iff_eq, beq_eq_false_iff_ne, bne_iff_ne, bne_eq_false_iff_eq, ne_eq, Bool.true_eq_false, Bool.false_eq_true, if_false_left, if_true_left, Bool.not_eq_eq_eq_not, Bool.decide_eq_true, Classical.not_not] at hb)
    · skip
      have hv : boundE c p q = ((0, 0, 0), 5) := by
        unfold boundE
        rw [if_neg h0, if_pos (by omega)]
      apply aw_regs [6, 7] [6]
      · simp (disch := omega) only [avR2, avA, datsOf, fillA, seval, ↓List.forall_mem_cons, Op.operands, hA, tiA]
        first | exact ⟨rfl, rfl⟩ | ((repeat' first | refine And.intro ?_ ?_ | intro _) <;> first | with_reducible rfl | assumption | omega | rfl | (rename_i hq; rw [hq]; rfl) | (simp_all; done))
      apply aw_ret
      apply q_ret_seq
      simp only [QRet, QRetM, QRetX, retsX_nil, retsX_cons, objsAre, Tryd.results26, resA, mapO_nil, mapO_cons, vD_dat, vD_nils, vD_rp, vD_osl, vD_ptr, vD_agg, vD_fn, vL_dat, vL_app, viewL, avA, datsOf, fillA, seval, ↓List.forall_mem_cons, Op.operands, hP, hG, tiA]
      rw [hv]
      try rfl
      
    · skip
      have hpq : okPQ p q := by unfold okPQ; omega
      have hrr := room_range hc hpq
      have hre : (0 - c.room) * p = (0 - p) * c.room := by rw [room_eq (q := q)]; rfl
      have hv : boundE c p q = (boundM c p q, 0) := by
        unfold boundE
        rw [if_neg h0, if_neg (by omega)]
      apply aw_skip
      apply q_seq
      apply aw_regs [1, 2, 3, 6, 9] [3, 6]
      · simp (disch := omega) only [avR2, avA, datsOf, fillA, seval, ↓List.forall_mem_cons, Op.operands, hA, tiA]
        first | exact ⟨rfl, rfl⟩ | ((repeat' first | refine And.intro ?_ ?_ | intro _) <;> first | with_reducible rfl | assumption | omega | rfl | (rename_i hq; rw [hq]; rfl) | (simp_all; done))
      apply aw_seq
      apply aw_regs [1, 2, 3, 6, 9, 10] [3, 6]
      · simp (disch := omega) only [avR2, avA, datsOf, fillA, seval, ↓List.forall_mem_cons, Op.operands, hA, tiA]
        first | exact ⟨rfl, rfl⟩ | ((repeat' first | refine And.intro ?_ ?_ | intro _) <;> first | with_reducible rfl | assumption | omega | rfl | (rename_i hq; rw [hq]; rfl) | (simp_all; done))
      apply aw_block
      refine aw_loop (ι := {i : Nat // i ≤ c.items.length}) (fun ⟨i, hi⟩ => .of [(1, .dat (iD p)), (2, .dat (iD q)), (3, .ptr 3 3 0 0), (6, .ptr 6 3 0 0), (9, .dat (iD (bndM c p q i))), (10, .dat (iD i))] [(3, ⟨3, [.dat (caseD c)]⟩), (6, ⟨3, [.dat (ceD (0, 0, 0))]⟩)]) (fun ⟨i, hi⟩ => c.items.length - i) (⟨0, by omega⟩) (Le.of ?_ ?_) fun ix => ?_
      · try simp (disch := omega) only [LeE, LeO, avA, datsOf, fillA, seval, ↓List.forall_mem_cons, Op.operands, bndM, hre]
        all_goals first | done | (repeat' apply And.intro) <;> first | rfl | omega | assumption | (simp only [AV.dat.injEq, Dat.int.injEq, true_and]; omega) | (congr <;> omega)
      · try simp (disch := omega) only [LeE, LeO, avA, datsOf, fillA, seval, ↓List.forall_mem_cons, Op.operands, bndM, hre]
        all_goals first | done | (repeat' apply And.intro) <;> first | rfl | omega | assumption | (simp only [AV.dat.injEq, Dat.int.injEq, true_and]; omega) | (congr <;> omega)
      obtain ⟨i, hi⟩ := ix
      dsimp only
      apply aw_seq
      apply aw_regs [1, 2, 3, 6, 9, 10, 41] [3, 6]
      · simp (disch := omega) only [avR2, avA, datsOf, fillA, seval, ↓List.forall_mem_cons, Op.operands, hA, tiA]
        first | exact ⟨rfl, rfl⟩ | ((repeat' first | refine And.intro ?_ ?_ | intro _) <;> first | with_reducible rfl | assumption | omega | rfl | (rename_i hq; rw [hq]; rfl) | (simp_all; done))
      refine aw_if _ rfl (fun hb => ?_) (fun hb => ?_) <;> (try simp only [pickB_true, pickB_false, Bool.false_or, Bool.false_and, Bool.true_and, decide_eq_true_eq, decide_eq_false_iff_not, Bool.or_eq_true, Bool.and_eq_true, Bool.or_eq_false_iff, Bool.and_eq_false_imp, Bool.not_eq_true, Bool.not_eq_false, Bool.not_eq_eq_eq_not, Bool.not_true, Bool.not_false, Int.not_lt, Int.not_le, beq_iff_eq, beq_eq_false_iff_ne, bne_iff_ne, bne_eq_false_iff_eq, ne_eq, Bool.true_eq_false, Bool.false_eq_true, if_false_left, if_true_left, Bool.not_eq_eq_eq_not, Bool.decide_eq_true, Classical.not_not] at hb)
      · skip
        have hil : i < c.items.length := by omega
        have hbr := bnd_range hc hpq i hi
        have hmr := minV_range hc hpq hil (c.items.getD i default).length (Nat.le_refl _)
        apply aw_skip
        apply q_seq
        apply aw_seq
        apply aw_block
        apply aw_reg [1, 2, 3, 6, 9, 10] [3, 6]
        · simp (disch := omega) only [avR2, avA, datsOf, fillA, seval, ↓List.forall_mem_cons, Op.operands, hA, tiA]
          (repeat' refine And.intro ?_ ?_) <;> try first | omega | assumption | with_reducible rfl | exact rfl | (intro hside; (repeat' refine And.intro ?_ ?_) <;> first | exact hside | omega | (rw [hside]; rfl) | (simp_all; done))
          refine CallC.use (gvF hP hG (least_ok G c i p q hc hpq hil)) rfl ?_
          try simp (maxSteps := 2000000) (disch := omega) only [avR2, avA, datsOf, fillA, seval, ↓List.forall_mem_cons, Op.operands, hA, tiA]
          first | exact ⟨rfl, rfl⟩ | ((repeat' first | refine And.intro ?_ ?_ | intro _) <;> first | with_reducible rfl | assumption | omega | rfl | (rename_i hq; rw [hq]; rfl) | (simp_all; done))
        apply q_block
        apply q_seq
        apply aw_reg [1, 2, 3, 6, 9, 10] [3, 6]
        · simp (disch := omega) only [avR2, avA, datsOf, fillA, seval, ↓List.forall_mem_cons, Op.operands, hA, tiA]
          first | exact ⟨rfl, rfl⟩ | ((repeat' first | refine And.intro ?_ ?_ | intro _) <;> first | with_reducible rfl | assumption | omega | rfl | (rename_i hq; rw [hq]; rfl) | (simp_all; done))
        refine q_loop (⟨i + 1, by omega⟩) (Le.of ?_ ?_) (by dsimp only; omega)
        · try simp (disch := omega) only [LeE, LeO, avA, datsOf, fillA, seval, ↓List.forall_mem_cons, Op.operands, bndM, hre]
          all_goals first | done | (repeat' apply And.intro) <;> first | rfl | omega | assumption | (simp only [AV.dat.injEq, Dat.int.injEq, true_and]; omega) | (congr <;> omega)
        · try simp (disch := omega) only [LeE, LeO, avA, datsOf, fillA, seval, ↓List.forall_mem_cons, Op.operands, bndM, hre]
          all_goals first | done | (repeat' apply And.intro) <;> first | rfl | omega | assumption | (simp only [AV.dat.injEq, Dat.int.injEq, true_and]; omega) | (congr <;> omega)
      · skip
        have hii : i = c.items.length := by omega
        subst hii
        apply aw_exit
        apply q_exit_seq
        apply q_exit_loop
        apply q_exit
        apply q_seq
        apply aw_regs [6, 7] [6]
        · simp (disch := omega) only [avR2, avA, datsOf, fillA, seval, ↓List.forall_mem_cons, Op.operands, hA, tiA]
          first | exact ⟨rfl, rfl⟩ | ((repeat' first | refine And.intro ?_ ?_ | intro _) <;> first | with_reducible rfl | assumption | omega | rfl | (rename_i hq; rw [hq]; rfl) | (simp_all; done))
        apply aw_ret
        simp only [QRet, QRetM, QRetX, retsX_nil, retsX_cons, objsAre, Tryd.results26, resA, mapO_nil, mapO_cons, vD_dat, vD_nils, vD_rp, vD_osl, vD_ptr, vD_agg, vD_fn, vL_dat, vL_app, viewL, avA, datsOf, fillA, seval, ↓List.forall_mem_cons, Op.operands, hP, hG, tiA]
        rw [hv]
        try rfl
        

theorem rshort_ok (G) (c : CaseM) (hc : OkC c) : Gives Tryd.prog G 51 [caseD c] [isD (shortM c c.items.length)] := by
  have hn := hc.n64
  have hst : (0 : Nat) = 0 := rfl
  refine gives_intro [] [] [] Tryd.func51 rfl (by rfl) (by simp [Tryd.ntmps51]) fun F hP hG hN hR => ?_
  rw [Tryd.ntmps51] at hN
  have hA := And.intro hN (And.intro hP (And.intro hG (And.intro hR.1 (And.intro hR.2.1 hR.2.2.1))))
  apply aw_regs [1] [1]
  · simp (disch := omega) only [avR2, avA, datsOf, fillA, seval, ↓List.forall_mem_cons, Op.operands, hA, tiA]
    first | exact ⟨rfl, rfl⟩ | ((repeat' first | refine And.intro ?_ ?_ | intro _) <;> first | with_reducible rfl | assumption | omega | rfl | (rename_i hq; rw [hq]; rfl) | (simp_all; done))
  apply aw_regs [1, 3] [1, 64, 65]
  · simp (disch := omega) only [avR2, avA, datsOf, fillA, seval, ↓List.forall_mem_cons, Op.operands, hA, tiA]
    first | exact ⟨rfl, rfl⟩ | ((repeat' first | refine And.intro ?_ ?_ | intro _) <;> first | with_reducible rfl | assumption | omega | rfl | (rename_i hq; rw [hq]; rfl) | (simp_all; done))
  apply aw_seq
  apply aw_regs [1, 3, 4] [1, 64, 65]
  · simp (disch := omega) only [avR2, avA, datsOf, fillA, seval, ↓List.forall_mem_cons, Op.operands, hA, tiA]
    first | exact ⟨rfl, rfl⟩ | ((repeat' first | refine And.intro ?_ ?_ | intro _) <;> first | with_reducible rfl | assumption | omega | rfl | (rename_i hq; rw [hq]; rfl) | (simp_all; done))
  apply aw_block
  refine aw_new0 65 1 (by omega) ?_
  refine aw_nilE 3 65 1 rfl rfl ?_
  refine aw_loop (ι := {i : Nat // i ≤ c.items.length}) (fun ⟨i, hi⟩ => .of [(1, .ptr 1 3 0 0), (3, .osl 65 1 0 i), (4, .dat (iD i))] [(1, ⟨3, [.dat (caseD c)]⟩), (65, ⟨1, ((shortM c i).map iD).map .dat⟩)]) (fun ⟨i, hi⟩ => c.items.length - i) (⟨0, by omega⟩) (Le.of ?_ ?_) fun ix => ?_
  · try simp (disch := omega) only [LeE, LeO, avA, datsOf, fillA, seval, ↓List.forall_mem_cons, Op.operands, shortM_zero, shortM_succ, shortM_len, shortI]
    all_goals first | done | (repeat' apply And.intro) <;> first | rfl | omega | assumption | (simp only [AV.dat.injEq, Dat.int.injEq, true_and]; omega) | (congr <;> omega)
  · try simp (disch := omega) only [LeE, LeO, avA, datsOf, fillA, seval, ↓List.forall_mem_cons, Op.operands, shortM_zero, shortM_succ, shortM_len, shortI]
    all_goals first | done | (repeat' apply And.intro) <;> first | rfl | omega | assumption | (simp only [AV.dat.injEq, Dat.int.injEq, true_and]; omega) | (congr <;> omega)
  obtain ⟨i, hi⟩ := ix
  dsimp only
  apply aw_seq
  apply aw_regs [1, 3, 4, 13] [1, 64, 65]
  · simp (disch := omega) only [avR2, avA, datsOf, fillA, seval, ↓List.forall_mem_cons, Op.operands, hA, tiA]
    first | exact ⟨rfl, rfl⟩ | ((repeat' first | refine And.intro ?_ ?_ | intro _) <;> first | with_reducible rfl | assumption | omega | rfl | (rename_i hq; rw [hq]; rfl) | (simp_all; done))
  refine aw_if _ rfl (fun hb => ?_) (fun hb => ?_) <;> (try simp only [pickB_true, pickB_false, Bool.false_or, Bool.false_and, Bool.true_and, decide_eq_true_eq, decide_eq_false_iff_not, Bool.or_eq_true, Bool.and_eq_true, Bool.or_eq_false_iff, Bool.and_eq_false_imp, Bool.not_eq_true, Bool.not_eq_false, Bool.not_eq_eq_eq_not, Bool.not_true, Bool.not_false, Int.not_lt, Int.not_le, beq_iff_eq, beq_eq_false_iff_ne, bne_iff_ne, bne_eq_false_iff_eq, ne_eq, Bool.true_eq_false, Bool.false_eq_true, if_false_left, if_true_left, Bool.not_eq_eq_eq_not, Bool.decide_eq_true, Classical.not_not] at hb)
  · skip
    have hil : i < c.items.length := by omega
    have hi8 := hc.n8 i hil
    have hi1 := hc.n1 i hil
    simp only [itemM] at hi8 hi1
    have hsl := shortM_len c i
    apply aw_skip
    apply q_seq
    apply aw_seq
    apply aw_block
    apply aw_regs [1, 3, 4, 5] [1, 64, 65]
    · simp (disch := omega) only [avR2, avA, datsOf, fillA, seval, ↓List.forall_mem_cons, Op.operands, hA, tiA]
      first | exact ⟨rfl, rfl⟩ | ((repeat' first | refine And.intro ?_ ?_ | intro _) <;> first | with_reducible rfl | assumption | omega | rfl | (rename_i hq; rw [hq]; rfl) | (simp_all; done))
    apply aw_seq
    apply aw_regs [1, 3, 4, 5, 6] [1, 64, 65]
    · simp (disch := omega) only [avR2, avA, datsOf, fillA, seval, ↓List.forall_mem_cons, Op.operands, hA, tiA]
      first | exact ⟨rfl, rfl⟩ | ((repeat' first | refine And.intro ?_ ?_ | intro _) <;> first | with_reducible rfl | assumption | omega | rfl | (rename_i hq; rw [hq]; rfl) | (simp_all; done))
    apply aw_block
    refine aw_loop (ι := {k : Nat // 1 ≤ k ∧ k ≤ (c.items.getD i default).length}) (fun ⟨k, hkk⟩ => .of [(1, .ptr 1 3 0 0), (3, .osl 65 1 0 i), (4, .dat (iD i)), (5, .dat (iD (shAt (c.items.getD i default) k : Nat))), (6, .dat (iD k))] [(1, ⟨3, [.dat (caseD c)]⟩), (65, ⟨1, ((shortM c i).map iD).map .dat⟩)]) (fun ⟨k, hkk⟩ => (c.items.getD i default).length - k) (⟨1, by omega⟩) (Le.of ?_ ?_) fun ix => ?_
    · try simp (disch := omega) only [LeE, LeO, avA, datsOf, fillA, seval, ↓List.forall_mem_cons, Op.operands, hst, shAt_one]
      all_goals first | done | (repeat' apply And.intro) <;> first | rfl | omega | assumption | (simp only [AV.dat.injEq, Dat.int.injEq, true_and]; omega) | (congr <;> omega)
    · try simp (disch := omega) only [LeE, LeO, avA, datsOf, fillA, seval, ↓List.forall_mem_cons, Op.operands, hst, shAt_one]
      all_goals first | done | (repeat' apply And.intro) <;> first | rfl | omega | assumption | (simp only [AV.dat.injEq, Dat.int.injEq, true_and]; omega) | (congr <;> omega)
    obtain ⟨k, hkk⟩ := ix
    dsimp only
    obtain ⟨hk1, hk⟩ := hkk
    apply aw_seq
    apply aw_regs [1, 3, 4, 5, 6, 23] [1, 64, 65]
    · simp (disch := omega) only [avR2, avA, datsOf, fillA, seval, ↓List.forall_mem_cons, Op.operands, hA, tiA]
      first | exact ⟨rfl, rfl⟩ | ((repeat' first | refine And.intro ?_ ?_ | intro _) <;> first | with_reducible rfl | assumption | omega | rfl | (rename_i hq; rw [hq]; rfl) | (simp_all; done))
    refine aw_if _ rfl (fun hb => ?_) (fun hb => ?_) <;> (try simp only [pickB_true, pickB_false, Bool.false_or, Bool.false_and, Bool.true_and, decide_eq_true_eq, decide_eq_false_iff_not, Bool.or_eq_true, Bool.and_eq_true, Bool.or_eq_false_iff, Bool.and_eq_false_imp, Bool.not_eq_true, Bool.not_eq_false, Bool.not_eq_eq_eq_not, Bool.not_true, Bool.not_false, Int.not_lt, Int.not_le, beq_iff_eq, beq_eq_false_iff_ne, bne_iff_ne, bne_eq_false_iff_eq, ne_eq, Bool.true_eq_false, Bool.false_eq_true, if_false_left, if_true_left, Bool.not_eq_eq_eq_not, Bool.decide_eq_true, Classical.not_not] at hb)
    · skip
      have hkl : k < (c.items.getD i default).length := by omega
      have hsa := shAt_le (c.items.getD i default) k
      apply aw_skip
      apply q_seq
      apply aw_seq
      apply aw_block
      apply aw_regs [1, 3, 4, 5, 6, 7] [1, 7, 64, 65]
      · simp (disch := omega) only [avR2, avA, datsOf, fillA, seval, ↓List.forall_mem_cons, Op.operands, hA, tiA]
        first | exact ⟨rfl, rfl⟩ | ((repeat' first | refine And.intro ?_ ?_ | intro _) <;> first | with_reducible rfl | assumption | omega | rfl | (rename_i hq; rw [hq]; rfl) | (simp_all; done))
      apply aw_regs [1, 3, 4, 5, 6, 7, 8] [1, 7, 8, 64, 65]
      · simp (disch := omega) only [avR2, avA, datsOf, fillA, seval, ↓List.forall_mem_cons, Op.operands, hA, tiA]
        first | exact ⟨rfl, rfl⟩ | ((repeat' first | refine And.intro ?_ ?_ | intro _) <;> first | with_reducible rfl | assumption | omega | rfl | (rename_i hq; rw [hq]; rfl) | (simp_all; done))
      apply aw_regs [1, 3, 4, 5, 6, 60] [1, 64, 65]
      · simp (maxSteps := 2000000) (disch := omega) only [avR2, avA, datsOf, fillA, seval, ↓List.forall_mem_cons, Op.operands, hA, tiA]
        first | exact ⟨rfl, rfl⟩ | ((repeat' first | refine And.intro ?_ ?_ | intro _) <;> first | with_reducible rfl | assumption | omega | rfl | (rename_i hq; rw [hq]; rfl) | (simp_all; done))
      refine aw_if _ rfl (fun hb => ?_) (fun hb => ?_) <;> (try simp only [pickB_true, pickB_false, Bool.false_or, Bool.false_and, Bool.true_and, decide_eq_true_eq, decide_eq_false_iff_not, Bool.or_eq_true, Bool.and_eq_true, Bool.or_eq_false_iff, Bool.and_eq_false_imp, Bool.not_eq_true, Bool.not_eq_false, Bool.not_eq_eq_eq_not, Bool.not_true, Bool.not_false, Int.not_lt, Int.not_le, beq_iff_eq, beq_eq_false_iff_ne, bne_iff_ne, bne_eq_false_iff_eq, ne_eq, Bool.true_eq_false, Bool.false_eq_true, if_false_left, if_true_left, Bool.not_eq_eq_eq_not, Bool.decide_eq_true, Classical.not_not] at hb)
      · skip
        have hst : shAt (c.items.getD i default) (k + 1) = k := by
          simp only [shAt]
          rw [if_pos (by omega)]
        apply aw_reg [1, 3, 4, 5, 6] [1, 64, 65]
        · simp (disch := omega) only [avR2, avA, datsOf, fillA, seval, ↓List.forall_mem_cons, Op.operands, hA, tiA]
          first | exact ⟨rfl, rfl⟩ | ((repeat' first | refine And.intro ?_ ?_ | intro _) <;> first | with_reducible rfl | assumption | omega | rfl | (rename_i hq; rw [hq]; rfl) | (simp_all; done))
        apply q_block
        apply q_seq
        apply aw_reg [1, 3, 4, 5, 6] [1, 64, 65]
        · simp (disch := omega) only [avR2, avA, datsOf, fillA, seval, ↓List.forall_mem_cons, Op.operands, hA, tiA]
          first | exact ⟨rfl, rfl⟩ | ((repeat' first | refine And.intro ?_ ?_ | intro _) <;> first | with_reducible rfl | assumption | omega | rfl | (rename_i hq; rw [hq]; rfl) | (simp_all; done))
        refine q_loop (⟨k + 1, by omega⟩) (Le.of ?_ ?_) (by dsimp only; omega)
        · try simp (disch := omega) only [LeE, LeO, avA, datsOf, fillA, seval, ↓List.forall_mem_cons, Op.operands, hst, shAt_one]
          all_goals first | done | (repeat' apply And.intro) <;> first | rfl | omega | assumption | (simp only [AV.dat.injEq, Dat.int.injEq, true_and]; omega) | (congr <;> omega)
        · try simp (disch := omega) only [LeE, LeO, avA, datsOf, fillA, seval, ↓List.forall_mem_cons, Op.operands, hst, shAt_one]
          all_goals first | done | (repeat' apply And.intro) <;> first | rfl | omega | assumption | (simp only [AV.dat.injEq, Dat.int.injEq, true_and]; omega) | (congr <;> omega)
      · skip
        have hst : shAt (c.items.getD i default) (k + 1) = shAt (c.items.getD i default) k := by
          simp only [shAt]
          rw [if_neg (by omega)]
        apply aw_skip
        apply q_block
        apply q_seq
        apply aw_reg [1, 3, 4, 5, 6] [1, 64, 65]
        · simp (disch := omega) only [avR2, avA, datsOf, fillA, seval, ↓List.forall_mem_cons, Op.operands, hA, tiA]
          first | exact ⟨rfl, rfl⟩ | ((repeat' first | refine And.intro ?_ ?_ | intro _) <;> first | with_reducible rfl | assumption | omega | rfl | (rename_i hq; rw [hq]; rfl) | (simp_all; done))
        refine q_loop (⟨k + 1, by omega⟩) (Le.of ?_ ?_) (by dsimp only; omega)
        · try simp (disch := omega) only [LeE, LeO, avA, datsOf, fillA, seval, ↓List.forall_mem_cons, Op.operands, hst, shAt_one]
          all_goals first | done | (repeat' apply And.intro) <;> first | rfl | omega | assumption | (simp only [AV.dat.injEq, Dat.int.injEq, true_and]; omega) | (congr <;> omega)
        · try simp (disch := omega) only [LeE, LeO, avA, datsOf, fillA, seval, ↓List.forall_mem_cons, Op.operands, hst, shAt_one]
          all_goals first | done | (repeat' apply And.intro) <;> first | rfl | omega | assumption | (simp only [AV.dat.injEq, Dat.int.injEq, true_and]; omega) | (congr <;> omega)
    · skip
      have hkk : k = (c.items.getD i default).length := by omega
      subst hkk
      apply aw_exit
      apply q_exit_seq
      apply q_exit_loop
      apply q_exit
      apply q_seq
      apply aw_reg [1, 3, 4] [1, 64, 65]
      · simp (disch := omega) only [avR2, avA, datsOf, fillA, seval, ↓List.forall_mem_cons, Op.operands, hA, tiA, shortM_len]
        first | exact ⟨rfl, rfl⟩ | ((repeat' first | refine And.intro ?_ ?_ | intro _) <;> first | with_reducible rfl | assumption | omega | rfl | (rename_i hq; rw [hq]; rfl) | (simp_all; done))
      apply q_block
      apply q_seq
      apply aw_reg [1, 3, 4] [1, 64, 65]
      · simp (disch := omega) only [avR2, avA, datsOf, fillA, seval, ↓List.forall_mem_cons, Op.operands, hA, tiA]
        first | exact ⟨rfl, rfl⟩ | ((repeat' first | refine And.intro ?_ ?_ | intro _) <;> first | with_reducible rfl | assumption | omega | rfl | (rename_i hq; rw [hq]; rfl) | (simp_all; done))
      refine q_loop (⟨i + 1, by omega⟩) (Le.of ?_ ?_) (by dsimp only; omega)
      · try simp (disch := omega) only [LeE, LeO, avA, datsOf, fillA, seval, ↓List.forall_mem_cons, Op.operands, shortM_zero, shortM_succ, shortM_len, shortI]
        all_goals first | done | (repeat' apply And.intro) <;> first | rfl | omega | assumption | (simp only [AV.dat.injEq, Dat.int.injEq, true_and]; omega) | (congr <;> omega)
      · try simp (disch := omega) only [LeE, LeO, avA, datsOf, fillA, seval, ↓List.forall_mem_cons, Op.operands, shortM_zero, shortM_succ, shortM_len, shortI]
        all_goals first | done | (repeat' apply And.intro) <;> first | rfl | omega | assumption | (simp only [AV.dat.injEq, Dat.int.injEq, true_and]; omega) | (congr <;> omega)
  · skip
    have hii : i = c.items.length := by omega
    subst hii
    apply aw_exit
    apply q_exit_seq
    apply q_exit_loop
    apply q_exit
    apply q_seq
    apply aw_regs [2] [64, 65]
    · simp (disch := omega) only [avR2, avA, datsOf, fillA, seval, ↓List.forall_mem_cons, Op.operands, hA, tiA]
      first | exact ⟨rfl, rfl⟩ | ((repeat' first | refine And.intro ?_ ?_ | intro _) <;> first | with_reducible rfl | assumption | omega | rfl | (rename_i hq; rw [hq]; rfl) | (simp_all; done))
    apply aw_ret
    simp only [QRet, QRetM, QRetX, retsX_nil, retsX_cons, objsAre, Tryd.results51, resA, mapO_nil, mapO_cons, vD_dat, vD_nils, vD_rp, vD_osl, vD_ptr, vD_agg, vD_fn, vL_dat, vL_app, viewL, avA, datsOf, fillA, seval, ↓List.forall_mem_cons, Op.operands, hP, hG, tiA]
    simp [shortM_len, List.take_of_length_le]
    

theorem fits_ok (G) (c : CaseM) (hc : OkC c) : Gives Tryd.prog G 48 [caseD c] [.bool (decide (linesM c (shortM c c.items.length) (shortM c c.items.length).length ≤ c.room))] := by
  have hp := shortM_ok hc
  refine gives_intro [] [] [] Tryd.func48 rfl (by rfl) (by simp [Tryd.ntmps48]) fun F hP hG hN hR => ?_
  rw [Tryd.ntmps48] at hN
  have hA := And.intro hN (And.intro hP (And.intro hG (And.intro hR.1 (And.intro hR.2.1 hR.2.2.1))))
  apply aw_regs [1] [1]
  · simp (disch := omega) only [avR2, avA, datsOf, fillA, seval, ↓List.forall_mem_cons, Op.operands, hA, tiA]
    first | exact ⟨rfl, rfl⟩ | ((repeat' first | refine And.intro ?_ ?_ | intro _) <;> first | with_reducible rfl | assumption | omega | rfl | (rename_i hq; rw [hq]; rfl) | (simp_all; done))
  apply aw_rgds [1, 3] [1] [0, 1, 2, 3, 4, 5, 6, 7, 8] []
  · rw [hP]; kernel_rfl
  · exact hR
  · kernel_rfl
  · (repeat (apply PickL.cons; exact rfl)); exact PickL.nil _
  · simp (disch := omega) only [avR2, avA, datsOf, fillA, seval, ↓List.forall_mem_cons, Op.operands, hA, tiA]
    (repeat' refine And.intro ?_ ?_) <;> try first | omega | assumption | with_reducible rfl | exact rfl | (intro hside; (repeat' refine And.intro ?_ ?_) <;> first | exact hside | omega | (rw [hside]; rfl) | (simp_all; done))
    refine CallC.use (gvF hP hG (rshort_ok G c hc)) rfl ?_
    try simp (maxSteps := 2000000) (disch := omega) only [avR2, avA, datsOf, fillA, seval, ↓List.forall_mem_cons, Op.operands, hA, tiA]
    (repeat' refine And.intro ?_ ?_) <;> try first | omega | assumption | with_reducible rfl | exact rfl | (intro hside; (repeat' refine And.intro ?_ ?_) <;> first | exact hside | omega | (rw [hside]; rfl) | (simp_all; done))
    refine CallC.use (gvF hP hG (sums_ok G c (shortM c c.items.length) hc hp)) rfl ?_
    try simp (maxSteps := 2000000) (disch := omega) only [avR2, avA, datsOf, fillA, seval, ↓List.forall_mem_cons, Op.operands, hA, tiA]
    first | exact ⟨rfl, rfl⟩ | ((repeat' first | refine And.intro ?_ ?_ | intro _) <;> first | with_reducible rfl | assumption | omega | rfl | (rename_i hq; rw [hq]; rfl) | (simp_all; done))
  apply aw_regs [2] []
  · simp (disch := omega) only [avR2, avA, datsOf, fillA, seval, ↓List.forall_mem_cons, Op.operands, hA, tiA]
    first | exact ⟨rfl, rfl⟩ | ((repeat' first | refine And.intro ?_ ?_ | intro _) <;> first | with_reducible rfl | assumption | omega | rfl | (rename_i hq; rw [hq]; rfl) | (simp_all; done))
  apply aw_ret
  simp only [QRet, QRetM, QRetX, retsX_nil, retsX_cons, objsAre, Tryd.results48, resA, mapO_nil, mapO_cons, vD_dat, vD_nils, vD_rp, vD_osl, vD_ptr, vD_agg, vD_fn, vL_dat, vL_app, viewL, avA, datsOf, fillA, seval, ↓List.forall_mem_cons, Op.operands, hP, hG, tiA]

end Go.Proofs.YthcfjdkflmkhbaaDoor

namespace Go.Proofs.YthcfjdkflmkhbaaDoor
open Go.Av


theorem short_okX (G) (c : CaseM) (hc : OkC c) : GivesX Tryd.prog G 45 [.dat (caseD c)] [] [.osl 56 1 0 c.items.length] [(56, ⟨1, ((shortM c c.items.length).map iD).map .dat⟩)] := by
  have hn := hc.n64
  have hst : (0 : Nat) = 0 := rfl
  refine gives_introX' [] [] [] Tryd.func45 rfl (by rfl) (by simp [Tryd.ntmps45]) (by kernel_rfl) (by simp [onlyL_nil, onlyL_cons, AV.only, inIds]) (by simp only [onlyOs, onlyL_nil, onlyL_cons, onlyL_append, onlyL_dats, onlyL_row, AV.only, Bool.and_true] <;> simp [inIds]) fun F hP hG hN hR => ?_
  rw [Tryd.ntmps45] at hN
  have hA := And.intro hN (And.intro hP (And.intro hG (And.intro hR.1 (And.intro hR.2.1 hR.2.2.1))))
  apply aw_regs [1] [1]
  · simp (disch := omega) only [avR2, avA, datsOf, fillA, seval, ↓List.forall_mem_cons, Op.operands, hA, tiA]
    first | exact ⟨rfl, rfl⟩ | ((repeat' first | refine And.intro ?_ ?_ | intro _) <;> first | with_reducible rfl | assumption | omega | rfl | (rename_i hq; rw [hq]; rfl) | (simp_all; done))
  apply aw_regs [1, 3] [1, 55, 56]
  · simp (disch := omega) only [avR2, avA, datsOf, fillA, seval, ↓List.forall_mem_cons, Op.operands, hA, tiA]
    first | exact ⟨rfl, rfl⟩ | ((repeat' first | refine And.intro ?_ ?_ | intro _) <;> first | with_reducible rfl | assumption | omega | rfl | (rename_i hq; rw [hq]; rfl) | (simp_all; done))
  apply aw_seq
  apply aw_regs [3, 10, 11, 12] [55, 56]
  · simp (disch := omega) only [avR2, avA, datsOf, fillA, seval, ↓List.forall_mem_cons, Op.operands, hA, tiA]
    first | exact ⟨rfl, rfl⟩ | ((repeat' first | refine And.intro ?_ ?_ | intro _) <;> first | with_reducible rfl | assumption | omega | rfl | (rename_i hq; rw [hq]; rfl) | (simp_all; done))
  apply aw_block
  refine aw_new0 56 1 (by omega) ?_
  refine aw_nilE 3 56 1 rfl rfl ?_
  refine aw_loop (ι := {i : Nat // i ≤ c.items.length}) (fun ⟨i, hi⟩ => .of [(3, .osl 56 1 0 i), (10, .dat (.sl (c.items.map osD))), (11, .dat (iD c.items.length)), (12, .dat (iD i))] [(56, ⟨1, ((shortM c i).map iD).map .dat⟩)]) (fun ⟨i, hi⟩ => c.items.length - i) (⟨0, by omega⟩) (Le.of ?_ ?_) fun ix => ?_
  · try simp (disch := omega) only [LeE, LeO, avA, datsOf, fillA, seval, ↓List.forall_mem_cons, Op.operands, shortM_zero, shortM_succ, shortM_len, shortI]
    all_goals first | done | (repeat' apply And.intro) <;> first | rfl | omega | assumption | (simp only [AV.dat.injEq, Dat.int.injEq, true_and]; omega) | (congr <;> omega)
  · try simp (disch := omega) only [LeE, LeO, avA, datsOf, fillA, seval, ↓List.forall_mem_cons, Op.operands, shortM_zero, shortM_succ, shortM_len, shortI]
    all_goals first | done | (repeat' apply And.intro) <;> first | rfl | omega | assumption | (simp only [AV.dat.injEq, Dat.int.injEq, true_and]; omega) | (congr <;> omega)
  obtain ⟨i, hi⟩ := ix
  dsimp only
  apply aw_regs [3, 10, 11, 12, 13] [55, 56]
  · simp (disch := omega) only [avR2, avA, datsOf, fillA, seval, ↓List.forall_mem_cons, Op.operands, hA, tiA]
    first | exact ⟨rfl, rfl⟩ | ((repeat' first | refine And.intro ?_ ?_ | intro _) <;> first | with_reducible rfl | assumption | omega | rfl | (rename_i hq; rw [hq]; rfl) | (simp_all; done))
  apply aw_seq
  refine aw_if _ rfl (fun hb => ?_) (fun hb => ?_) <;> (try simp only [pickB_true, pickB_false, Bool.false_or, Bool.false_and, Bool.true_and, decide_eq_true_eq, decide_eq_false_iff_not, Bool.or_eq_true, Bool.and_eq_true, Bool.or_eq_false_iff, Bool.and_eq_false_imp, Bool.not_eq_true, Bool.not_eq_false, Bool.not_eq_eq_eq_not, Bool.not_true, Bool.not_false, Int.not_lt, Int.not_le, beq_iff_eq, beq_eq_false_iff_ne, bne_iff_ne, bne_eq_false_iff_eq, ne_eq, Bool.true_eq_false, Bool.false_eq_true, if_false_left, if_true_left, Bool.not_eq_eq_eq_not, Bool.decide_eq_true, Classical.not_not] at hb)
  · skip
    have hil : i < c.items.length := by omega
    have hi8 := hc.n8 i hil
    have hi1 := hc.n1 i hil
    simp only [itemM] at hi8 hi1
    have hsl := shortM_len c i
    apply aw_skip
    apply q_seq
    apply aw_seq
    apply aw_block
    apply aw_regs [3, 5, 10, 11, 12] [55, 56]
    · simp (disch := omega) only [avR2, avA, datsOf, fillA, seval, ↓List.forall_mem_cons, Op.operands, hA, tiA]
      first | exact ⟨rfl, rfl⟩ | ((repeat' first | refine And.intro ?_ ?_ | intro _) <;> first | with_reducible rfl | assumption | omega | rfl | (rename_i hq; rw [hq]; rfl) | (simp_all; done))
    apply aw_regs [3, 5, 6, 10, 11, 12] [55, 56]
    · simp (disch := omega) only [avR2, avA, datsOf, fillA, seval, ↓List.forall_mem_cons, Op.operands, hA, tiA]
      first | exact ⟨rfl, rfl⟩ | ((repeat' first | refine And.intro ?_ ?_ | intro _) <;> first | with_reducible rfl | assumption | omega | rfl | (rename_i hq; rw [hq]; rfl) | (simp_all; done))
    apply aw_seq
    apply aw_regs [3, 5, 6, 10, 11, 12, 16, 17, 18] [55, 56]
    · simp (disch := omega) only [avR2, avA, datsOf, fillA, seval, ↓List.forall_mem_cons, Op.operands, hA, tiA]
      first | exact ⟨rfl, rfl⟩ | ((repeat' first | refine And.intro ?_ ?_ | intro _) <;> first | with_reducible rfl | assumption | omega | rfl | (rename_i hq; rw [hq]; rfl) | (simp_all; done))
    apply aw_block
    refine aw_loop (ι := {k : Nat // k ≤ (c.items.getD i default).length}) (fun ⟨k, hk⟩ => .of [(3, .osl 56 1 0 i), (5, .dat (osD (c.items.getD i default))), (6, .dat (iD (shAt (c.items.getD i default) k : Nat))), (10, .dat (.sl (c.items.map osD))), (11, .dat (iD c.items.length)), (12, .dat (iD i)), (16, .dat (osD (c.items.getD i default))), (17, .dat (iD (c.items.getD i default).length)), (18, .dat (iD k))] [(56, ⟨1, ((shortM c i).map iD).map .dat⟩)]) (fun ⟨k, hk⟩ => (c.items.getD i default).length - k) (⟨0, by omega⟩) (Le.of ?_ ?_) fun ix => ?_
    · try simp (disch := omega) only [LeE, LeO, avA, datsOf, fillA, seval, ↓List.forall_mem_cons, Op.operands, hst, shAt_zero]
      all_goals first | done | (repeat' apply And.intro) <;> first | rfl | omega | assumption | (simp only [AV.dat.injEq, Dat.int.injEq, true_and]; omega) | (congr <;> omega)
    · try simp (disch := omega) only [LeE, LeO, avA, datsOf, fillA, seval, ↓List.forall_mem_cons, Op.operands, hst, shAt_zero]
      all_goals first | done | (repeat' apply And.intro) <;> first | rfl | omega | assumption | (simp only [AV.dat.injEq, Dat.int.injEq, true_and]; omega) | (congr <;> omega)
    obtain ⟨k, hk⟩ := ix
    dsimp only
    apply aw_regs [3, 5, 6, 10, 11, 12, 16, 17, 18, 19] [55, 56]
    · simp (disch := omega) only [avR2, avA, datsOf, fillA, seval, ↓List.forall_mem_cons, Op.operands, hA, tiA]
      first | exact ⟨rfl, rfl⟩ | ((repeat' first | refine And.intro ?_ ?_ | intro _) <;> first | with_reducible rfl | assumption | omega | rfl | (rename_i hq; rw [hq]; rfl) | (simp_all; done))
    apply aw_seq
    refine aw_if _ rfl (fun hb => ?_) (fun hb => ?_) <;> (try simp only [pickB_true, pickB_false, Bool.false_or, Bool.false_and, Bool.true_and, decide_eq_true_eq, decide_eq_false_iff_not, Bool.or_eq_true, Bool.and_eq_true, Bool.or_eq_false_iff, Bool.and_eq_false_imp, Bool.not_eq_true, Bool.not_eq_false, Bool.not_eq_eq_eq_not, Bool.not_true, Bool.not_false, Int.not_lt, Int.not_le, beq_iff_eq, beq_eq_false_iff_ne, bne_iff_ne, bne_eq_false_iff_eq, ne_eq, Bool.true_eq_false, Bool.false_eq_true, if_false_left, if_true_left, Bool.not_eq_eq_eq_not, Bool.decide_eq_true, Classical.not_not] at hb)
    · skip
      have hkl : k < (c.items.getD i default).length := by omega
      have hsa := shAt_le (c.items.getD i default) k
      apply aw_skip
      apply q_seq
      apply aw_seq
      apply aw_block
      apply aw_regs [3, 5, 6, 7, 8, 10, 11, 12, 16, 17, 18] [8, 55, 56]
      · simp (disch := omega) only [avR2, avA, datsOf, fillA, seval, ↓List.forall_mem_cons, Op.operands, hA, tiA]
        first | exact ⟨rfl, rfl⟩ | ((repeat' first | refine And.intro ?_ ?_ | intro _) <;> first | with_reducible rfl | assumption | omega | rfl | (rename_i hq; rw [hq]; rfl) | (simp_all; done))
      apply aw_rgds [3, 5, 6, 7, 10, 11, 12, 16, 17, 18, 50] [55, 56] [0, 1, 2, 3, 4, 5, 6, 7, 8, 9, 10, 11, 12, 13, 14, 15, 16, 17, 18, 19, 20, 21, 22, 23, 24, 25, 26, 27] []
      · rw [hP]; kernel_rfl
      · exact hR
      · kernel_rfl
      · (repeat (apply PickL.cons; exact rfl)); exact PickL.nil _
      · simp (maxSteps := 2000000) (disch := omega) only [avR2, avA, datsOf, fillA, seval, ↓List.forall_mem_cons, Op.operands, hA, tiA]
        first | exact ⟨rfl, rfl⟩ | ((repeat' first | refine And.intro ?_ ?_ | intro _) <;> first | with_reducible rfl | assumption | omega | rfl | (rename_i hq; rw [hq]; rfl) | (simp_all; done))
      refine aw_if _ rfl (fun hb => ?_) (fun hb => ?_) <;> (try simp only [pickB_true, pickB_false, Bool.false_or, Bool.false_and, Bool.true_and, decide_eq_true_eq, decide_eq_false_iff_not, Bool.or_eq_true, Bool.and_eq_true, Bool.or_eq_false_iff, Bool.and_eq_false_imp, Bool.not_eq_true, Bool.not_eq_false, Bool.not_eq_eq_eq_not, Bool.not_true, Bool.not_false, Int.not_lt, Int.not_le, beq_iff_eq, beq_eq_false_iff_ne, bne_iff_ne, bne_eq_false_iff_eq, ne_eq, Bool.true_eq_false, Bool.false_eq_true, if_false_left, if_true_left, Bool.not_eq_eq_eq_not, Bool.decide_eq_true, Classical.not_not] at hb)
      · skip
        have hst : shAt (c.items.getD i default) (k + 1) = k := by
          simp only [shAt]
          rw [if_pos (by omega)]
        apply aw_reg [3, 5, 6, 10, 11, 12, 16, 17, 18] [55, 56]
        · simp (disch := omega) only [avR2, avA, datsOf, fillA, seval, ↓List.forall_mem_cons, Op.operands, hA, tiA]
          first | exact ⟨rfl, rfl⟩ | ((repeat' first | refine And.intro ?_ ?_ | intro _) <;> first | with_reducible rfl | assumption | omega | rfl | (rename_i hq; rw [hq]; rfl) | (simp_all; done))
        apply q_block
        apply q_seq
        apply aw_reg [3, 5, 6, 10, 11, 12, 16, 17, 18] [55, 56]
        · simp (disch := omega) only [avR2, avA, datsOf, fillA, seval, ↓List.forall_mem_cons, Op.operands, hA, tiA]
          first | exact ⟨rfl, rfl⟩ | ((repeat' first | refine And.intro ?_ ?_ | intro _) <;> first | with_reducible rfl | assumption | omega | rfl | (rename_i hq; rw [hq]; rfl) | (simp_all; done))
        refine q_loop (⟨k + 1, by omega⟩) (Le.of ?_ ?_) (by dsimp only; omega)
        · try simp (disch := omega) only [LeE, LeO, avA, datsOf, fillA, seval, ↓List.forall_mem_cons, Op.operands, hst, shAt_zero]
          all_goals first | done | (repeat' apply And.intro) <;> first | rfl | omega | assumption | (simp only [AV.dat.injEq, Dat.int.injEq, true_and]; omega) | (congr <;> omega)
        · try simp (disch := omega) only [LeE, LeO, avA, datsOf, fillA, seval, ↓List.forall_mem_cons, Op.operands, hst, shAt_zero]
          all_goals first | done | (repeat' apply And.intro) <;> first | rfl | omega | assumption | (simp only [AV.dat.injEq, Dat.int.injEq, true_and]; omega) | (congr <;> omega)
      · skip
        have hst : shAt (c.items.getD i default) (k + 1) = shAt (c.items.getD i default) k := by
          simp only [shAt]
          rw [if_neg (by omega)]
        apply aw_skip
        apply q_block
        apply q_seq
        apply aw_reg [3, 5, 6, 10, 11, 12, 16, 17, 18] [55, 56]
        · simp (disch := omega) only [avR2, avA, datsOf, fillA, seval, ↓List.forall_mem_cons, Op.operands, hA, tiA]
          first | exact ⟨rfl, rfl⟩ | ((repeat' first | refine And.intro ?_ ?_ | intro _) <;> first | with_reducible rfl | assumption | omega | rfl | (rename_i hq; rw [hq]; rfl) | (simp_all; done))
        refine q_loop (⟨k + 1, by omega⟩) (Le.of ?_ ?_) (by dsimp only; omega)
        · try simp (disch := omega) only [LeE, LeO, avA, datsOf, fillA, seval, ↓List.forall_mem_cons, Op.operands, hst, shAt_zero]
          all_goals first | done | (repeat' apply And.intro) <;> first | rfl | omega | assumption | (simp only [AV.dat.injEq, Dat.int.injEq, true_and]; omega) | (congr <;> omega)
        · try simp (disch := omega) only [LeE, LeO, avA, datsOf, fillA, seval, ↓List.forall_mem_cons, Op.operands, hst, shAt_zero]
          all_goals first | done | (repeat' apply And.intro) <;> first | rfl | omega | assumption | (simp only [AV.dat.injEq, Dat.int.injEq, true_and]; omega) | (congr <;> omega)
    · skip
      have hkk : k = (c.items.getD i default).length := by omega
      subst hkk
      apply aw_exit
      apply q_exit_seq
      apply q_exit_loop
      apply q_exit
      apply q_seq
      apply aw_reg [3, 10, 11, 12] [55, 56]
      · simp (disch := omega) only [avR2, avA, datsOf, fillA, seval, ↓List.forall_mem_cons, Op.operands, hA, tiA, shortM_len]
        first | exact ⟨rfl, rfl⟩ | ((repeat' first | refine And.intro ?_ ?_ | intro _) <;> first | with_reducible rfl | assumption | omega | rfl | (rename_i hq; rw [hq]; rfl) | (simp_all; done))
      apply q_block
      apply q_seq
      apply aw_reg [3, 10, 11, 12] [55, 56]
      · simp (disch := omega) only [avR2, avA, datsOf, fillA, seval, ↓List.forall_mem_cons, Op.operands, hA, tiA]
        first | exact ⟨rfl, rfl⟩ | ((repeat' first | refine And.intro ?_ ?_ | intro _) <;> first | with_reducible rfl | assumption | omega | rfl | (rename_i hq; rw [hq]; rfl) | (simp_all; done))
      refine q_loop (⟨i + 1, by omega⟩) (Le.of ?_ ?_) (by dsimp only; omega)
      · try simp (disch := omega) only [LeE, LeO, avA, datsOf, fillA, seval, ↓List.forall_mem_cons, Op.operands, shortM_zero, shortM_succ, shortM_len, shortI]
        all_goals first | done | (repeat' apply And.intro) <;> first | rfl | omega | assumption | (simp only [AV.dat.injEq, Dat.int.injEq, true_and]; omega) | (congr <;> omega)
      · try simp (disch := omega) only [LeE, LeO, avA, datsOf, fillA, seval, ↓List.forall_mem_cons, Op.operands, shortM_zero, shortM_succ, shortM_len, shortI]
        all_goals first | done | (repeat' apply And.intro) <;> first | rfl | omega | assumption | (simp only [AV.dat.injEq, Dat.int.injEq, true_and]; omega) | (congr <;> omega)
  · skip
    have hii : i = c.items.length := by omega
    subst hii
    
    apply aw_exit
    apply q_exit_seq
    apply q_exit_loop
    apply q_exit
    apply q_seq
    apply aw_regs [2] [55, 56]
    · simp (disch := omega) only [avR2, avA, datsOf, fillA, seval, ↓List.forall_mem_cons, Op.operands, hA, tiA]
      first | exact ⟨rfl, rfl⟩ | ((repeat' first | refine And.intro ?_ ?_ | intro _) <;> first | with_reducible rfl | assumption | omega | rfl | (rename_i hq; rw [hq]; rfl) | (simp_all; done))
    apply aw_ret
    simp only [QRet, QRetM, QRetX, retsX_nil, retsX_cons, objsAre, Tryd.results45, resA, mapO_nil, mapO_cons, vD_dat, vD_nils, vD_rp, vD_osl, vD_ptr, vD_agg, vD_fn, vL_dat, vL_app, viewL, avA, datsOf, fillA, seval, ↓List.forall_mem_cons, Op.operands, hP, hG, tiA]

theorem rshort_okX (G) (c : CaseM) (hc : OkC c) : GivesX Tryd.prog G 51 [.dat (caseD c)] [] [.osl 65 1 0 c.items.length] [(65, ⟨1, ((shortM c c.items.length).map iD).map .dat⟩)] := by
  have hn := hc.n64
  have hst : (0 : Nat) = 0 := rfl
  refine gives_introX' [] [] [] Tryd.func51 rfl (by rfl) (by simp [Tryd.ntmps51]) (by kernel_rfl) (by simp [onlyL_nil, onlyL_cons, AV.only, inIds]) (by simp only [onlyOs, onlyL_nil, onlyL_cons, onlyL_append, onlyL_dats, onlyL_row, AV.only, Bool.and_true] <;> simp [inIds]) fun F hP hG hN hR => ?_
  rw [Tryd.ntmps51] at hN
  have hA := And.intro hN (And.intro hP (And.intro hG (And.intro hR.1 (And.intro hR.2.1 hR.2.2.1))))
  apply aw_regs [1] [1]
  · simp (disch := omega) only [avR2, avA, datsOf, fillA, seval, ↓List.forall_mem_cons, Op.operands, hA, tiA]
    first | exact ⟨rfl, rfl⟩ | ((repeat' first | refine And.intro ?_ ?_ | intro _) <;> first | with_reducible rfl | assumption | omega | rfl | (rename_i hq; rw [hq]; rfl) | (simp_all; done))
  apply aw_regs [1, 3] [1, 64, 65]
  · simp (disch := omega) only [avR2, avA, datsOf, fillA, seval, ↓List.forall_mem_cons, Op.operands, hA, tiA]
    first | exact ⟨rfl, rfl⟩ | ((repeat' first | refine And.intro ?_ ?_ | intro _) <;> first | with_reducible rfl | assumption | omega | rfl | (rename_i hq; rw [hq]; rfl) | (simp_all; done))
  apply aw_seq
  apply aw_regs [1, 3, 4] [1, 64, 65]
  · simp (disch := omega) only [avR2, avA, datsOf, fillA, seval, ↓List.forall_mem_cons, Op.operands, hA, tiA]
    first | exact ⟨rfl, rfl⟩ | ((repeat' first | refine And.intro ?_ ?_ | intro _) <;> first | with_reducible rfl | assumption | omega | rfl | (rename_i hq; rw [hq]; rfl) | (simp_all; done))
  apply aw_block
  refine aw_new0 65 1 (by omega) ?_
  refine aw_nilE 3 65 1 rfl rfl ?_
  refine aw_loop (ι := {i : Nat // i ≤ c.items.length}) (fun ⟨i, hi⟩ => .of [(1, .ptr 1 3 0 0), (3, .osl 65 1 0 i), (4, .dat (iD i))] [(1, ⟨3, [.dat (caseD c)]⟩), (65, ⟨1, ((shortM c i).map iD).map .dat⟩)]) (fun ⟨i, hi⟩ => c.items.length - i) (⟨0, by omega⟩) (Le.of ?_ ?_) fun ix => ?_
  · try simp (disch := omega) only [LeE, LeO, avA, datsOf, fillA, seval, ↓List.forall_mem_cons, Op.operands, shortM_zero, shortM_succ, shortM_len, shortI]
    all_goals first | done | (repeat' apply And.intro) <;> first | rfl | omega | assumption | (simp only [AV.dat.injEq, Dat.int.injEq, true_and]; omega) | (congr <;> omega)
  · try simp (disch := omega) only [LeE, LeO, avA, datsOf, fillA, seval, ↓List.forall_mem_cons, Op.operands, shortM_zero, shortM_succ, shortM_len, shortI]
    all_goals first | done | (repeat' apply And.intro) <;> first | rfl | omega | assumption | (simp only [AV.dat.injEq, Dat.int.injEq, true_and]; omega) | (congr <;> omega)
  obtain ⟨i, hi⟩ := ix
  dsimp only
  apply aw_seq
  apply aw_regs [1, 3, 4, 13] [1, 64, 65]
  · simp (disch := omega) only [avR2, avA, datsOf, fillA, seval, ↓List.forall_mem_cons, Op.operands, hA, tiA]
    first | exact ⟨rfl, rfl⟩ | ((repeat' first | refine And.intro ?_ ?_ | intro _) <;> first | with_reducible rfl | assumption | omega | rfl | (rename_i hq; rw [hq]; rfl) | (simp_all; done))
  refine aw_if _ rfl (fun hb => ?_) (fun hb => ?_) <;> (try simp only [pickB_true, pickB_false, Bool.false_or, Bool.false_and, Bool.true_and, decide_eq_true_eq, decide_eq_false_iff_not, Bool.or_eq_true, Bool.and_eq_true, Bool.or_eq_false_iff, Bool.and_eq_false_imp, Bool.not_eq_true, Bool.not_eq_false, Bool.not_eq_eq_eq_not, Bool.not_true, Bool.not_false, Int.not_lt, Int.not_le, beq_iff_eq, beq_eq_false_iff_ne, bne_iff_ne, bne_eq_false_iff_eq, ne_eq, Bool.true_eq_false, Bool.false_eq_true, if_false_left, if_true_left, Bool.not_eq_eq_eq_not, Bool.decide_eq_true, Classical.not_not] at hb)
  · skip
    have hil : i < c.items.length := by omega
    have hi8 := hc.n8 i hil
    have hi1 := hc.n1 i hil
    simp only [itemM] at hi8 hi1
    have hsl := shortM_len c i
    apply aw_skip
    apply q_seq
    apply aw_seq
    apply aw_block
    apply aw_regs [1, 3, 4, 5] [1, 64, 65]
    · simp (disch := omega) only [avR2, avA, datsOf, fillA, seval, ↓List.forall_mem_cons, Op.operands, hA, tiA]
      first | exact ⟨rfl, rfl⟩ | ((repeat' first | refine And.intro ?_ ?_ | intro _) <;> first | with_reducible rfl | assumption | omega | rfl | (rename_i hq; rw [hq]; rfl) | (simp_all; done))
    apply aw_seq
    apply aw_regs [1, 3, 4, 5, 6] [1, 64, 65]
    · simp (disch := omega) only [avR2, avA, datsOf, fillA, seval, ↓List.forall_mem_cons, Op.operands, hA, tiA]
      first | exact ⟨rfl, rfl⟩ | ((repeat' first | refine And.intro ?_ ?_ | intro _) <;> first | with_reducible rfl | assumption | omega | rfl | (rename_i hq; rw [hq]; rfl) | (simp_all; done))
    apply aw_block
    refine aw_loop (ι := {k : Nat // 1 ≤ k ∧ k ≤ (c.items.getD i default).length}) (fun ⟨k, hkk⟩ => .of [(1, .ptr 1 3 0 0), (3, .osl 65 1 0 i), (4, .dat (iD i)), (5, .dat (iD (shAt (c.items.getD i default) k : Nat))), (6, .dat (iD k))] [(1, ⟨3, [.dat (caseD c)]⟩), (65, ⟨1, ((shortM c i).map iD).map .dat⟩)]) (fun ⟨k, hkk⟩ => (c.items.getD i default).length - k) (⟨1, by omega⟩) (Le.of ?_ ?_) fun ix => ?_
    · try simp (disch := omega) only [LeE, LeO, avA, datsOf, fillA, seval, ↓List.forall_mem_cons, Op.operands, hst, shAt_one]
      all_goals first | done | (repeat' apply And.intro) <;> first | rfl | omega | assumption | (simp only [AV.dat.injEq, Dat.int.injEq, true_and]; omega) | (congr <;> omega)
    · try simp (disch := omega) only [LeE, LeO, avA, datsOf, fillA, seval, ↓List.forall_mem_cons, Op.operands, hst, shAt_one]
      all_goals first | done | (repeat' apply And.intro) <;> first | rfl | omega | assumption | (simp only [AV.dat.injEq, Dat.int.injEq, true_and]; omega) | (congr <;> omega)
    obtain ⟨k, hkk⟩ := ix
    dsimp only
    obtain ⟨hk1, hk⟩ := hkk
    apply aw_seq
    apply aw_regs [1, 3, 4, 5, 6, 23] [1, 64, 65]
    · simp (disch := omega) only [avR2, avA, datsOf, fillA, seval, ↓List.forall_mem_cons, Op.operands, hA, tiA]
      first | exact ⟨rfl, rfl⟩ | ((repeat' first | refine And.intro ?_ ?_ | intro _) <;> first | with_reducible rfl | assumption | omega | rfl | (rename_i hq; rw [hq]; rfl) | (simp_all; done))
    refine aw_if _ rfl (fun hb => ?_) (fun hb => ?_) <;> (try simp only [pickB_true, pickB_false, Bool.false_or, Bool.false_and, Bool.true_and, decide_eq_true_eq, decide_eq_false_iff_not, Bool.or_eq_true, Bool.and_eq_true, Bool.or_eq_false_iff, Bool.and_eq_false_imp, Bool.not_eq_true, Bool.not_eq_false, Bool.not_eq_eq_eq_not, Bool.not_true, Bool.not_false, Int.not_lt, Int.not_le, beq_iff_eq, beq_eq_false_iff_ne, bne_iff_ne, bne_eq_false_iff_eq, ne_eq, Bool.true_eq_false, Bool.false_eq_true, if_false_left, if_true_left, Bool.not_eq_eq_eq_not, Bool.decide_eq_true, Classical.not_not] at hb)
    · skip
      have hkl : k < (c.items.getD i default).length := by omega
      have hsa := shAt_le (c.items.getD i default) k
      apply aw_skip
      apply q_seq
      apply aw_seq
      apply aw_block
      apply aw_regs [1, 3, 4, 5, 6, 7] [1, 7, 64, 65]
      · simp (disch := omega) only [avR2, avA, datsOf, fillA, seval, ↓List.forall_mem_cons, Op.operands, hA, tiA]
        first | exact ⟨rfl, rfl⟩ | ((repeat' first | refine And.intro ?_ ?_ | intro _) <;> first | with_reducible rfl | assumption | omega | rfl | (rename_i hq; rw [hq]; rfl) | (simp_all; done))
      apply aw_regs [1, 3, 4, 5, 6, 7, 8] [1, 7, 8, 64, 65]
      · simp (disch := omega) only [avR2, avA, datsOf, fillA, seval, ↓List.forall_mem_cons, Op.operands, hA, tiA]
        first | exact ⟨rfl, rfl⟩ | ((repeat' first | refine And.intro ?_ ?_ | intro _) <;> first | with_reducible rfl | assumption | omega | rfl | (rename_i hq; rw [hq]; rfl) | (simp_all; done))
      apply aw_regs [1, 3, 4, 5, 6, 60] [1, 64, 65]
      · simp (maxSteps := 2000000) (disch := omega) only [avR2, avA, datsOf, fillA, seval, ↓List.forall_mem_cons, Op.operands, hA, tiA]
        first | exact ⟨rfl, rfl⟩ | ((repeat' first | refine And.intro ?_ ?_ | intro _) <;> first | with_reducible rfl | assumption | omega | rfl | (rename_i hq; rw [hq]; rfl) | (simp_all; done))
      refine aw_if _ rfl (fun hb => ?_) (fun hb => ?_) <;> (try simp only [pickB_true, pickB_false, Bool.false_or, Bool.false_and, Bool.true_and, decide_eq_true_eq, decide_eq_false_iff_not, Bool.or_eq_true, Bool.and_eq_true, Bool.or_eq_false_iff, Bool.and_eq_false_imp, Bool.not_eq_true, Bool.not_eq_false, Bool.not_eq_eq_eq_not, Bool.not_true, Bool.not_false, Int.not_lt, Int.not_le, beq_iff_eq, beq_eq_false_iff_ne, bne_iff_ne, bne_eq_false_iff_eq, ne_eq, Bool.true_eq_false, Bool.false_eq_true, if_false_left, if_true_left, Bool.not_eq_eq_eq_not, Bool.decide_eq_true, Classical.not_not] at hb)
      · skip
        have hst : shAt (c.items.getD i default) (k + 1) = k := by
          simp only [shAt]
          rw [if_pos (by omega)]
        apply aw_reg [1, 3, 4, 5, 6] [1, 64, 65]
        · simp (disch := omega) only [avR2, avA, datsOf, fillA, seval, ↓List.forall_mem_cons, Op.operands, hA, tiA]
          first | exact ⟨rfl, rfl⟩ | ((repeat' first | refine And.intro ?_ ?_ | intro _) <;> first | with_reducible rfl | assumption | omega | rfl | (rename_i hq; rw [hq]; rfl) | (simp_all; done))
        apply q_block
        apply q_seq
        apply aw_reg [1, 3, 4, 5, 6] [1, 64, 65]
        · simp (disch := omega) only [avR2, avA, datsOf, fillA, seval, ↓List.forall_mem_cons, Op.operands, hA, tiA]
          first | exact ⟨rfl, rfl⟩ | ((repeat' first | refine And.intro ?_ ?_ | intro _) <;> first | with_reducible rfl | assumption | omega | rfl | (rename_i hq; rw [hq]; rfl) | (simp_all; done))
        refine q_loop (⟨k + 1, by omega⟩) (Le.of ?_ ?_) (by dsimp only; omega)
        · try simp (disch := omega) only [LeE, LeO, avA, datsOf, fillA, seval, ↓List.forall_mem_cons, Op.operands, hst, shAt_one]
          all_goals first | done | (repeat' apply And.intro) <;> first | rfl | omega | assumption | (simp only [AV.dat.injEq, Dat.int.injEq, true_and]; omega) | (congr <;> omega)
        · try simp (disch := omega) only [LeE, LeO, avA, datsOf, fillA, seval, ↓List.forall_mem_cons, Op.operands, hst, shAt_one]
          all_goals first | done | (repeat' apply And.intro) <;> first | rfl | omega | assumption | (simp only [AV.dat.injEq, Dat.int.injEq, true_and]; omega) | (congr <;> omega)
      · skip
        have hst : shAt (c.items.getD i default) (k + 1) = shAt (c.items.getD i default) k := by
          simp only [shAt]
          rw [if_neg (by omega)]
        apply aw_skip
        apply q_block
        apply q_seq
        apply aw_reg [1, 3, 4, 5, 6] [1, 64, 65]
        · simp (disch := omega) only [avR2, avA, datsOf, fillA, seval, ↓List.forall_mem_cons, Op.operands, hA, tiA]
          first | exact ⟨rfl, rfl⟩ | ((repeat' first | refine And.intro ?_ ?_ | intro _) <;> first | with_reducible rfl | assumption | omega | rfl | (rename_i hq; rw [hq]; rfl) | (simp_all; done))
        refine q_loop (⟨k + 1, by omega⟩) (Le.of ?_ ?_) (by dsimp only; omega)
        · try simp (disch := omega) only [LeE, LeO, avA, datsOf, fillA, seval, ↓List.forall_mem_cons, Op.operands, hst, shAt_one]
          all_goals first | done | (repeat' apply And.intro) <;> first | rfl | omega | assumption | (simp only [AV.dat.injEq, Dat.int.injEq, true_and]; omega) | (congr <;> omega)
        · try simp (disch := omega) only [LeE, LeO, avA, datsOf, fillA, seval, ↓List.forall_mem_cons, Op.operands, hst, shAt_one]
          all_goals first | done | (repeat' apply And.intro) <;> first | rfl | omega | assumption | (simp only [AV.dat.injEq, Dat.int.injEq, true_and]; omega) | (congr <;> omega)
    · skip
      have hkk : k = (c.items.getD i default).length := by omega
      subst hkk
      apply aw_exit
      apply q_exit_seq
      apply q_exit_loop
      apply q_exit
      apply q_seq
      apply aw_reg [1, 3, 4] [1, 64, 65]
      · simp (disch := omega) only [avR2, avA, datsOf, fillA, seval, ↓List.forall_mem_cons, Op.operands, hA, tiA, shortM_len]
        first | exact ⟨rfl, rfl⟩ | ((repeat' first | refine And.intro ?_ ?_ | intro _) <;> first | with_reducible rfl | assumption | omega | rfl | (rename_i hq; rw [hq]; rfl) | (simp_all; done))
      apply q_block
      apply q_seq
      apply aw_reg [1, 3, 4] [1, 64, 65]
      · simp (disch := omega) only [avR2, avA, datsOf, fillA, seval, ↓List.forall_mem_cons, Op.operands, hA, tiA]
        first | exact ⟨rfl, rfl⟩ | ((repeat' first | refine And.intro ?_ ?_ | intro _) <;> first | with_reducible rfl | assumption | omega | rfl | (rename_i hq; rw [hq]; rfl) | (simp_all; done))
      refine q_loop (⟨i + 1, by omega⟩) (Le.of ?_ ?_) (by dsimp only; omega)
      · try simp (disch := omega) only [LeE, LeO, avA, datsOf, fillA, seval, ↓List.forall_mem_cons, Op.operands, shortM_zero, shortM_succ, shortM_len, shortI]
        all_goals first | done | (repeat' apply And.intro) <;> first | rfl | omega | assumption | (simp only [AV.dat.injEq, Dat.int.injEq, true_and]; omega) | (congr <;> omega)
      · try simp (disch := omega) only [LeE, LeO, avA, datsOf, fillA, seval, ↓List.forall_mem_cons, Op.operands, shortM_zero, shortM_succ, shortM_len, shortI]
        all_goals first | done | (repeat' apply And.intro) <;> first | rfl | omega | assumption | (simp only [AV.dat.injEq, Dat.int.injEq, true_and]; omega) | (congr <;> omega)
  · skip
    have hii : i = c.items.length := by omega
    subst hii
    
    
    apply aw_exit
    apply q_exit_seq
    apply q_exit_loop
    apply q_exit
    apply q_seq
    apply aw_regs [2] [64, 65]
    · simp (disch := omega) only [avR2, avA, datsOf, fillA, seval, ↓List.forall_mem_cons, Op.operands, hA, tiA]
      first | exact ⟨rfl, rfl⟩ | ((repeat' first | refine And.intro ?_ ?_ | intro _) <;> first | with_reducible rfl | assumption | omega | rfl | (rename_i hq; rw [hq]; rfl) | (simp_all; done))
    apply aw_ret
    simp only [QRet, QRetM, QRetX, retsX_nil, retsX_cons, objsAre, Tryd.results51, resA, mapO_nil, mapO_cons, vD_dat, vD_nils, vD_rp, vD_osl, vD_ptr, vD_agg, vD_fn, vL_dat, vL_app, viewL, avA, datsOf, fillA, seval, ↓List.forall_mem_cons, Op.operands, hP, hG, tiA]

end Go.Proofs.YthcfjdkflmkhbaaDoor

namespace Go.Proofs.YthcfjdkflmkhbaaDoor
open Go.Av

/-- The better one of a certificate and that of a price in lowest terms. -/
def tryQ (c : CaseM) (best : Int × Int × Int) (e : Int × Int) : Int × Int × Int :=
  if 0 < (boundM c e.1 e.2).2.2 * best.2.1 - best.2.2 * (boundM c e.1 e.2).2.1 ∨
    ((boundM c e.1 e.2).2.2 * best.2.1 - best.2.2 * (boundM c e.1 e.2).2.1 = 0 ∧ (boundM c e.1 e.2).1 * best.2.1 < best.1 * (boundM c e.1 e.2).2.1) then boundM c e.1 e.2
  else best
def lowM (p q : Nat) : Int × Int := ((p : Int).tdiv (Nat.gcd p q : Nat), (q : Int).tdiv (Nat.gcd p q : Nat))
theorem tryM_eq (c : CaseM) (best : Int × Int × Int) (p q : Nat) : tryM c best p q = tryQ c best (lowM p q) := rfl

section
variable (c : CaseM)
def eC (i a : Nat) : Nat → List (Int × Int)
  | 0 => []
  | b + 1 => if 0 < dP c i a b ∧ 0 < dQ c i a b then eC i a b ++ [lowM (dP c i a b).toNat (dQ c i a b).toNat] else eC i a b
def eB (i : Nat) : Nat → List (Int × Int)
  | 0 => []
  | a + 1 => eB i a ++ eC c i a (c.items.getD i default).length
def eA : Nat → List (Int × Int)
  | 0 => []
  | i + 1 => eA i ++ eB c i (c.items.getD i default).length
theorem dC_fold (i a : Nat) (x : Int × Int × Int) : ∀ b, dC c i a x b = (eC c i a b).foldl (tryQ c) x
  | 0 => rfl
  | b + 1 => by
    have ih := dC_fold i a x b
    have hd : dQ c i a b = ((c.items.getD i default).getD b default).1 - ((c.items.getD i default).getD a default).1 := rfl
    simp only [dC, eC]
    by_cases h : 0 < dP c i a b ∧ 0 < dQ c i a b
    · rw [if_pos h, if_pos (by omega), List.foldl_append, ← ih, tryM_eq]
      rfl
    · rw [if_neg h, if_neg (by omega), ih]
theorem dB_fold (i : Nat) (x : Int × Int × Int) : ∀ a, dB c i x a = (eB c i a).foldl (tryQ c) x
  | 0 => rfl
  | a + 1 => by
    simp only [dB, eB, List.foldl_append]
    rw [← dB_fold i x a, dC_fold]
theorem dA_fold : ∀ i, dA c i = (eA c i).foldl (tryQ c) (boundM c 0 1)
  | 0 => rfl
  | i + 1 => by
    simp only [dA, eA, List.foldl_append]
    rw [← dA_fold i, dB_fold]
/-- The prices. -/
def prM (i a b : Nat) : List (Int × Int) := (0, 1) :: (eA c i ++ (eB c i a ++ eC c i a b))
def pricesM : List (Int × Int) := (0, 1) :: eA c c.items.length
theorem prM_zero : prM c 0 0 0 = [(0, 1)] := rfl
theorem prM_row (i a : Nat) : prM c i a (c.items.getD i default).length = prM c i (a + 1) 0 := by simp [prM, eB, eC]
theorem prM_item (i : Nat) : prM c i (c.items.getD i default).length 0 = prM c (i + 1) 0 0 := by simp [prM, eA, eB, eC]
theorem prM_all : prM c c.items.length 0 0 = pricesM c := by simp [prM, pricesM, eB, eC]
theorem prM_yes (i a b : Nat) (h : 0 < dP c i a b ∧ 0 < dQ c i a b) : prM c i a (b + 1) = prM c i a b ++ [lowM (dP c i a b).toNat (dQ c i a b).toNat] := by
  simp only [prM, eC, if_pos h, List.cons_append, List.append_assoc]
theorem prM_no (i a b : Nat) (h : ¬ (0 < dP c i a b ∧ 0 < dQ c i a b)) : prM c i a (b + 1) = prM c i a b := by
  simp only [prM, eC, if_neg h]

def okE (e : Int × Int) : Prop := (0 ≤ e.1 ∧ e.1 ≤ 65536) ∧ 1 ≤ e.2 ∧ e.2 ≤ 64
variable {c}
theorem eC_ok (hc : OkC c) {i a : Nat} (hi : i < c.items.length) (ha : a < (c.items.getD i default).length) : ∀ b ≤ (c.items.getD i default).length, (∀ e ∈ eC c i a b, okE e) ∧ (eC c i a b).length ≤ b
  | 0, _ => by simp [eC]
  | b + 1, hb => by
    obtain ⟨h1, h2⟩ := eC_ok hc hi ha b (by omega)
    have hr := dP_range hc hi ha (show b < (c.items.getD i default).length by omega)
    simp only [eC]
    split
    · rename_i h
      refine ⟨fun e he => ?_, by simp; omega⟩
      rcases List.mem_append.1 he with he | he
      · exact h1 e he
      · simp only [List.mem_cons, List.not_mem_nil, or_false] at he
        subst he
        exact pq_div (by omega) (by omega)
    · exact ⟨h1, by omega⟩
theorem eB_ok (hc : OkC c) {i : Nat} (hi : i < c.items.length) : ∀ a ≤ (c.items.getD i default).length, (∀ e ∈ eB c i a, okE e) ∧ (eB c i a).length ≤ a * 8
  | 0, _ => by simp [eB]
  | a + 1, ha => by
    obtain ⟨h1, h2⟩ := eB_ok hc hi a (by omega)
    obtain ⟨h3, h4⟩ := eC_ok hc hi (show a < (c.items.getD i default).length by omega) _ (Nat.le_refl _)
    have h8 := hc.n8 i hi
    simp only [itemM] at h8
    simp only [eB]
    refine ⟨fun e he => ?_, by simp only [List.length_append]; omega⟩
    rcases List.mem_append.1 he with he | he
    · exact h1 e he
    · exact h3 e he
theorem eA_ok (hc : OkC c) : ∀ i ≤ c.items.length, (∀ e ∈ eA c i, okE e) ∧ (eA c i).length ≤ i * 64
  | 0, _ => by simp [eA]
  | i + 1, hi => by
    obtain ⟨h1, h2⟩ := eA_ok hc i (by omega)
    obtain ⟨h3, h4⟩ := eB_ok hc (show i < c.items.length by omega) _ (Nat.le_refl _)
    have h8 := hc.n8 i (by omega)
    simp only [itemM] at h8
    simp only [eA]
    refine ⟨fun e he => ?_, by simp only [List.length_append]; omega⟩
    rcases List.mem_append.1 he with he | he
    · exact h1 e he
    · exact h3 e he
theorem prices_ok (hc : OkC c) : (∀ e ∈ pricesM c, okE e) ∧ (pricesM c).length ≤ 4097 := by
  obtain ⟨h1, h2⟩ := eA_ok hc c.items.length (Nat.le_refl _)
  have hn := hc.n64
  refine ⟨fun e he => ?_, by simp [pricesM]; omega⟩
  rcases List.mem_cons.1 he with rfl | he
  · unfold okE; simp
  · exact h1 e he
theorem prM_len (hc : OkC c) {i a b : Nat} (hi : i < c.items.length) (ha : a < (c.items.getD i default).length) (hb : b ≤ (c.items.getD i default).length) : (prM c i a b).length ≤ 4200 := by
  obtain ⟨_, h2⟩ := eA_ok hc i (by omega)
  obtain ⟨_, h4⟩ := eB_ok hc hi a (by omega)
  obtain ⟨_, h6⟩ := eC_ok hc hi ha b hb
  have hn := hc.n64
  have h8 := hc.n8 i hi
  simp only [itemM] at h8
  simp only [prM, List.length_cons, List.length_append]
  omega

/-- The best certificate of the first prices. -/
def oM (c : CaseM) : Nat → Int × Int × Int
  | 0 => (0, 0, 0)
  | 1 => boundM c 0 1
  | k + 2 => tryQ c (oM c (k + 1)) ((pricesM c).getD (k + 1) default)
theorem oM_zero (c : CaseM) : oM c 0 = (0, 0, 0) := rfl
theorem oM_okB (hc : OkC c) : ∀ k, 0 < k → k ≤ (pricesM c).length → okB (oM c k)
  | 0, h, _ => by omega
  | 1, _, _ => bound_okB hc (by omega) (by omega)
  | k + 2, _, h => by
    have ih := oM_okB hc (k + 1) (by omega) (by omega)
    have he := getD_all (prices_ok hc).1 (show k + 1 < (pricesM c).length by omega)
    simp only [oM, tryQ]
    split
    · exact bound_okB hc he.1 he.2
    · exact ih
theorem oM_fold : ∀ k, k + 1 ≤ (pricesM c).length → oM c (k + 1) = ((eA c c.items.length).take k).foldl (tryQ c) (boundM c 0 1)
  | 0, _ => by simp [oM]
  | k + 1, h => by
    have ih := oM_fold k (by omega)
    have hk : k < (eA c c.items.length).length := by simp [pricesM] at h; omega
    rw [List.take_add_one, List.getElem?_eq_getElem hk]
    simp only [oM, Option.toList_some, List.foldl_append, List.foldl_cons, List.foldl_nil]
    rw [← ih]
    congr 1
    simp [pricesM, List.getD_eq_getElem?_getD, List.getElem?_eq_getElem hk]
theorem oM_all : oM c (pricesM c).length = dA c c.items.length := by
  have h : (pricesM c).length = (eA c c.items.length).length + 1 := by simp [pricesM]
  rw [h, oM_fold _ (by omega), List.take_length, dA_fold]
end

/-- A quotient rounded up, as the reference and as the package have it. -/
theorem up_eq {B Q : Int} (hQ : 1 ≤ Q) : (B.tdiv Q * Q < B) ↔ (0 < B ∧ B.tmod Q ≠ 0) := by
  have h := Int.tdiv_mul_add_tmod B Q
  constructor
  · intro h1
    have h2 : 0 < B.tmod Q := by omega
    refine ⟨?_, by omega⟩
    by_cases hB : 0 ≤ B
    · by_cases h0 : B = 0
      · subst h0; simp at h2
      · omega
    · obtain ⟨m, rfl⟩ : ∃ m, B = -m := ⟨-B, by omega⟩
      rw [Int.neg_tmod] at h2
      have := Int.tmod_nonneg Q (show 0 ≤ m by omega)
      omega
  · rintro ⟨h1, h2⟩
    have := Int.tmod_nonneg Q (show 0 ≤ B by omega)
    omega

end Go.Proofs.YthcfjdkflmkhbaaDoor

namespace Go.Proofs.YthcfjdkflmkhbaaDoor
open Go.Av

section
variable (c : CaseM)
/-- The option that a choice has for an item. -/
def opS (q : Nat → Nat) (i : Nat) : Int × Int := (c.items.getD i default).getD (q i) default
/-- Lines, turns, number of the last j items of a choice, and how many choices these have. -/
def linS (q : Nat → Nat) : Nat → Int
  | 0 => 0
  | j + 1 => linS q j + (opS c q (c.items.length - 1 - j)).1
def trnS (q : Nat → Nat) : Nat → Int
  | 0 => 0
  | j + 1 => trnS q j + c.weights.getD (c.items.length - 1 - j) default * (opS c q (c.items.length - 1 - j)).2
def cntS : Nat → Nat
  | 0 => 1
  | j + 1 => (c.items.getD (c.items.length - 1 - j) default).length * cntS j
def numS (q : Nat → Nat) : Nat → Nat
  | 0 => 0
  | j + 1 => q (c.items.length - 1 - j) * cntS c j + numS q j
/-- A choice of the last j items. -/
def InS (q : Nat → Nat) (j : Nat) : Prop := ∀ i, c.items.length - j ≤ i → i < c.items.length → q i < (c.items.getD i default).length
def pthS : Nat → Nat → Nat → Nat
  | 0, _ => fun _ => 0
  | j + 1, r => fun i => if i = c.items.length - 1 - j then (firJ c j r).toNat else pthS j ((r : Int) - ((c.items.getD (c.items.length - 1 - j) default).getD (firJ c j r).toNat default).1).toNat i

variable {c}
theorem lin_congr {q q' : Nat → Nat} : ∀ j, j ≤ c.items.length → (∀ i, c.items.length - j ≤ i → i < c.items.length → q i = q' i) → linS c q j = linS c q' j ∧ trnS c q j = trnS c q' j ∧ numS c q j = numS c q' j
  | 0, _, _ => ⟨rfl, rfl, rfl⟩
  | j + 1, hj, h => by
    obtain ⟨h1, h2, h3⟩ := lin_congr j (by omega) fun i hi hl => h i (by omega) hl
    have := h (c.items.length - 1 - j) (by omega) (by omega)
    simp only [linS, trnS, numS, opS, h1, h2, h3, this]
    simp

theorem InS.tail {q : Nat → Nat} {j : Nat} (h : InS c q (j + 1)) : InS c q j := fun i hi hl => h i (by omega) hl
theorem InS.head {q : Nat → Nat} {j : Nat} (hj : j < c.items.length) (h : InS c q (j + 1)) : q (c.items.length - 1 - j) < (c.items.getD (c.items.length - 1 - j) default).length := h _ (by omega) (by omega)

theorem opS_ok (hc : OkC c) {q : Nat → Nat} {i : Nat} (hi : i < c.items.length) (h : q i < (c.items.getD i default).length) : okO (opS c q i) := getD_all (hc.o i hi) h

theorem lin_nn (hc : OkC c) {q : Nat → Nat} : ∀ j ≤ c.items.length, InS c q j → 0 ≤ linS c q j ∧ 0 ≤ trnS c q j ∧ numS c q j < cntS c j
  | 0, _, _ => by simp [linS, trnS, numS, cntS]
  | j + 1, hj, h => by
    obtain ⟨h1, h2, h3⟩ := lin_nn hc j (by omega) h.tail
    have hh := h.head (by omega)
    have ho := opS_ok hc (by omega) hh
    have hw := hc.w (c.items.length - 1 - j) (by omega)
    unfold okO at ho
    have hm : 0 ≤ c.weights.getD (c.items.length - 1 - j) default * (opS c q (c.items.length - 1 - j)).2 := Int.mul_nonneg hw.1 ho.2.2.1
    simp only [linS, trnS, numS, cntS]
    refine ⟨by omega, by omega, ?_⟩
    have : (q (c.items.length - 1 - j) + 1) * cntS c j ≤ (c.items.getD (c.items.length - 1 - j) default).length * cntS c j := Nat.mul_le_mul_right _ hh
    rw [Nat.add_mul] at this
    omega

/-- The order: turns, lines. -/
def ltP (a b : Int × Int) : Prop := a.1 < b.1 ∨ (a.1 = b.1 ∧ a.2 < b.2)
theorem lessM_iff {a b : Int × Int} (hb : b = none2 ∨ 0 ≤ b.1) : lessM a b = true ↔ b = none2 ∨ ltP a b := by
  unfold lessM ltP none2
  obtain ⟨b1, b2⟩ := b
  simp only [Bool.or_eq_true, Bool.and_eq_true, beq_iff_eq, decide_eq_true_eq, Prod.mk.injEq] at *
  omega

section
variable {opts : List (Int × Int)} {w : Int} {aft : List (Int × Int)} {r m : Nat}
/-- The total with an option. -/
def cand (opts : List (Int × Int)) (w : Int) (aft : List (Int × Int)) (r k : Nat) : Int × Int :=
  ((aft.getD ((r : Int) - (opts.getD k default).1).toNat default).1 + w * (opts.getD k default).2, (aft.getD ((r : Int) - (opts.getD k default).1).toNat default).2 + (opts.getD k default).1)
def goes (opts : List (Int × Int)) (aft : List (Int × Int)) (r k : Nat) : Prop := (opts.getD k default).1 ≤ (r : Int) ∧ aft.getD ((r : Int) - (opts.getD k default).1).toNat default ≠ none2

theorem step_no {x : (Int × Int) × Int} {k : Nat} (h : ¬ goes opts aft r k) : stepM opts w aft r x k = x := by
  unfold stepM
  rw [if_pos]
  simp only [goes, Classical.not_and_iff_not_or_not, Int.not_le, ne_eq, Decidable.not_not] at h
  exact h
theorem step_go {x : (Int × Int) × Int} {k : Nat} (h : goes opts aft r k) : stepM opts w aft r x k = if lessM (cand opts w aft r k) x.1 then (cand opts w aft r k, (k : Int)) else x := by
  unfold stepM
  rw [if_neg]
  · rfl
  · simp only [not_or, Int.not_lt]
    exact h

theorem cell_best (hw : 0 ≤ w ∧ w ≤ 1024) (ho : ∀ k < opts.length, okO (opts.getD k default)) (hr : r < aft.length) (ha : ∀ q < aft.length, okT m (aft.getD q default)) :
    ∀ k ≤ opts.length, (∀ k' < k, goes opts aft r k' → (cellM opts w aft r k).1 ≠ none2 ∧ (ltP (cellM opts w aft r k).1 (cand opts w aft r k') ∨ ((cellM opts w aft r k).1 = cand opts w aft r k' ∧ (cellM opts w aft r k).2 ≤ (k' : Int))))
      ∧ ((cellM opts w aft r k).1 ≠ none2 → goes opts aft r (cellM opts w aft r k).2.toNat ∧ (cellM opts w aft r k).1 = cand opts w aft r (cellM opts w aft r k).2.toNat ∧ (cellM opts w aft r k).2 < (k : Int))
  | 0, _ => by simp [cellM]
  | k + 1, hk => by
    obtain ⟨i1, i2⟩ := cell_best hw ho hr ha k (by omega)
    have hs := (cell_snd (opts := opts) (w := w) (aft := aft) (r := r) k)
    have hx := cell_ok hw ho hr ha k (by omega)
    have hx' : (cellM opts w aft r k).1 = none2 ∨ 0 ≤ (cellM opts w aft r k).1.1 := hx.imp id fun h => h.1
    simp only [cellM]
    by_cases hg : goes opts aft r k
    · rw [step_go hg]
      have hcn : cand opts w aft r k ≠ none2 := by
        have hok := ho k (by omega)
        unfold okO at hok
        have hq := ha ((r : Int) - (opts.getD k default).1).toNat (by omega)
        have hq := hq.resolve_left hg.2
        have h1 : 0 ≤ w * (opts.getD k default).2 := Int.mul_nonneg hw.1 hok.2.2.1
        intro e
        have e1 := congrArg Prod.fst e
        simp only [cand] at e1
        omega
      split
      · rename_i hl
        rw [lessM_iff hx'] at hl
        refine ⟨fun k' hk' hg' => ⟨hcn, ?_⟩, fun _ => ⟨by simpa using hg, by simp, by simp only; omega⟩⟩
        by_cases he : k' = k
        · subst he; right; simp
        · obtain ⟨j1, j2⟩ := i1 k' (by omega) hg'
          have hl := hl.resolve_left j1
          left
          unfold ltP at *
          rcases j2 with j2 | ⟨j2, _⟩
          · simp only; omega
          · rw [j2] at hl; exact hl
      · rename_i hl
        rw [lessM_iff hx', not_or] at hl
        refine ⟨fun k' hk' hg' => ?_, fun h => ⟨(i2 h).1, (i2 h).2.1, by have := (i2 h).2.2; omega⟩⟩
        by_cases he : k' = k
        · subst he
          refine ⟨hl.1, ?_⟩
          have h2 := hl.2
          unfold ltP at *
          by_cases hq : (cellM opts w aft r k').1 = cand opts w aft r k'
          · exact .inr ⟨hq, hs.2⟩
          · left
            have : ¬ ((cellM opts w aft r k').1.1 = (cand opts w aft r k').1 ∧ (cellM opts w aft r k').1.2 = (cand opts w aft r k').2) := fun h => hq (Prod.ext h.1 h.2)
            omega
        · exact i1 k' (by omega) hg'
    · rw [step_no hg]
      refine ⟨fun k' hk' hg' => ?_, fun h => ⟨(i2 h).1, (i2 h).2.1, by have := (i2 h).2.2; omega⟩⟩
      by_cases he : k' = k
      · subst he; exact absurd hg' hg
      · exact i1 k' (by omega) hg'
end

/-- The order of choices: turns, lines, number. -/
def leC (c : CaseM) (q q' : Nat → Nat) (j : Nat) : Prop := trnS c q j < trnS c q' j ∨ (trnS c q j = trnS c q' j ∧ (linS c q j < linS c q' j ∨ (linS c q j = linS c q' j ∧ numS c q j ≤ numS c q' j)))

theorem aft_get (j r : Nat) (hr : r < n1M c) : (aftM c (j + 1)).getD r default = (cellM (c.items.getD (c.items.length - 1 - j) default) (c.weights.getD (c.items.length - 1 - j) default) (aftM c j) r (c.items.getD (c.items.length - 1 - j) default).length).1 := by
  simp only [aftM]
  rw [getD_map_range _ _ _ hr]

theorem best_at (hc : OkC c) : ∀ j ≤ c.items.length, ∀ r < n1M c,
    ((aftM c j).getD r default ≠ none2 → (aftM c j).getD r default = (trnS c (pthS c j r) j, linS c (pthS c j r) j) ∧ linS c (pthS c j r) j ≤ (r : Int) ∧ InS c (pthS c j r) j) ∧
    ∀ q, InS c q j → linS c q j ≤ (r : Int) → (aftM c j).getD r default ≠ none2 ∧ leC c (pthS c j r) q j
  | 0, _, r, hr => by
    have : (aftM c 0).getD r default = (0, 0) := by simp [aftM, List.getD_eq_getElem?_getD, hr]
    rw [this]
    refine ⟨fun _ => ⟨rfl, by simp [linS], fun i hi hl => by omega⟩, fun q _ _ => ⟨by simp, ?_⟩⟩
    unfold leC
    simp [trnS, linS, numS]
  | j + 1, hj, r, hr => by
    have ih := best_at hc j (by omega)
    have hcb := cell_best (r := r) (m := j) (w := c.weights.getD (c.items.length - 1 - j) default) (aft := aftM c j) (opts := (c.items.getD (c.items.length - 1 - j) default)) (hc.w _ (by omega)) (fun k hk => getD_all (hc.o (c.items.length - 1 - j) (by omega)) hk) (by rw [aftM_len]; exact hr) (aft_ok hc j (by omega)) _ (Nat.le_refl _)
    have hs := (cell_snd (opts := (c.items.getD (c.items.length - 1 - j) default)) (w := c.weights.getD (c.items.length - 1 - j) default) (aft := aftM c j) (r := r) (c.items.getD (c.items.length - 1 - j) default).length)
    obtain ⟨b1, b2⟩ := hcb
    rw [aft_get j r hr]
    have hfir : firJ c j r = (cellM (c.items.getD (c.items.length - 1 - j) default) (c.weights.getD (c.items.length - 1 - j) default) (aftM c j) r (c.items.getD (c.items.length - 1 - j) default).length).2 := rfl
    rw [← hfir] at b1 b2 hs
    generalize hcell : (cellM (c.items.getD (c.items.length - 1 - j) default) (c.weights.getD (c.items.length - 1 - j) default) (aftM c j) r (c.items.getD (c.items.length - 1 - j) default).length).1 = X at b1 b2 ⊢
    -- the choice
    have hpc : ∀ i, c.items.length - j ≤ i → i < c.items.length → pthS c (j + 1) r i = pthS c j ((r : Int) - ((c.items.getD (c.items.length - 1 - j) default).getD (firJ c j r).toNat default).1).toNat i := fun i hi hl => by
      simp only [pthS]
      rw [if_neg (by omega)]
    have hph : pthS c (j + 1) r (c.items.length - 1 - j) = (firJ c j r).toNat := by simp [pthS]
    obtain ⟨e1, e2, e3⟩ := lin_congr j (by omega) hpc
    have hop : opS c (pthS c (j + 1) r) (c.items.length - 1 - j) = (c.items.getD (c.items.length - 1 - j) default).getD (firJ c j r).toNat default := by unfold opS; rw [hph]
    have snd : X ≠ none2 → (X = (trnS c (pthS c (j + 1) r) (j + 1), linS c (pthS c (j + 1) r) (j + 1)) ∧ linS c (pthS c (j + 1) r) (j + 1) ≤ (r : Int) ∧ InS c (pthS c (j + 1) r) (j + 1)) ∧ InS c (pthS c j ((r : Int) - ((c.items.getD (c.items.length - 1 - j) default).getD (firJ c j r).toNat default).1).toNat) j := fun hx => by
      obtain ⟨⟨g1, g2⟩, g3, g4⟩ := b2 hx
      have hok : okO ((c.items.getD (c.items.length - 1 - j) default).getD (firJ c j r).toNat default) := getD_all (hc.o (c.items.length - 1 - j) (by omega)) (by simp only [itemM]; omega)
      unfold okO at hok
      have hr' : ((r : Int) - ((c.items.getD (c.items.length - 1 - j) default).getD (firJ c j r).toNat default).1).toNat < n1M c := by omega
      obtain ⟨i1, i2, i3⟩ := (ih _ hr').1 g2
      refine ⟨⟨?_, ?_, fun i hi hl => ?_⟩, i3⟩
      · rw [g3]
        simp only [cand, i1, trnS, linS, e1, e2, hop]
      · simp only [linS, e1, hop]
        omega
      · by_cases hii : i = c.items.length - 1 - j
        · subst hii
          rw [hph]; omega
        · rw [hpc i (by omega) hl]
          exact i3 i (by omega) hl
    refine ⟨fun hx => (snd hx).1, fun q hq hl => ?_⟩
    have hh := hq.head (by omega)
    have hok := opS_ok hc (by omega) hh
    have hokk := hok
    unfold okO at hok
    obtain ⟨n1, n2, n3⟩ := lin_nn hc j (by omega) hq.tail
    simp only [linS] at hl
    have hr' : ((r : Int) - (opS c q (c.items.length - 1 - j)).1).toNat < n1M c := by omega
    obtain ⟨i1, i2⟩ := ih _ hr'
    obtain ⟨i3, i4⟩ := i2 q hq.tail (by omega)
    obtain ⟨i5, i6, i7⟩ := i1 i3
    obtain ⟨c1, c2⟩ := b1 (q (c.items.length - 1 - j)) hh ⟨by show (opS c q (c.items.length - 1 - j)).1 ≤ (r : Int); omega, i3⟩
    refine ⟨c1, ?_⟩
    obtain ⟨⟨s1, s2, s3⟩, s4⟩ := snd c1
    have t1 := congrArg Prod.fst s1
    have t2 := congrArg Prod.snd s1
    simp only at t1 t2
    have hcd : cand (c.items.getD (c.items.length - 1 - j) default) (c.weights.getD (c.items.length - 1 - j) default) (aftM c j) r (q (c.items.length - 1 - j)) = (trnS c (pthS c j ((r : Int) - (opS c q (c.items.length - 1 - j)).1).toNat) j + c.weights.getD (c.items.length - 1 - j) default * (opS c q (c.items.length - 1 - j)).2, linS c (pthS c j ((r : Int) - (opS c q (c.items.length - 1 - j)).1).toNat) j + (opS c q (c.items.length - 1 - j)).1) := by
      unfold cand
      have : (c.items.getD (c.items.length - 1 - j) default).getD (q (c.items.length - 1 - j)) default = opS c q (c.items.length - 1 - j) := rfl
      rw [this, i5]
    rw [hcd] at c2
    unfold leC at i4 ⊢
    rw [← t1, ← t2]
    simp only [trnS, linS]
    unfold ltP at c2
    simp only at c2
    rcases c2 with c2 | ⟨c2, c3⟩
    · omega
    · have u1 := congrArg Prod.fst c2
      have u2 := congrArg Prod.snd c2
      simp only at u1 u2
      by_cases hlt : trnS c (pthS c j ((r : Int) - (opS c q (c.items.length - 1 - j)).1).toNat) j = trnS c q j ∧ linS c (pthS c j ((r : Int) - (opS c q (c.items.length - 1 - j)).1).toNat) j = linS c q j
      · right
        refine ⟨by omega, .inr ⟨by omega, ?_⟩⟩
        have hnum : numS c (pthS c j ((r : Int) - (opS c q (c.items.length - 1 - j)).1).toNat) j ≤ numS c q j := by omega
        simp only [numS, hph, e3]
        have hk : (firJ c j r).toNat ≤ q (c.items.length - 1 - j) := by omega
        by_cases hkk : (firJ c j r).toNat = q (c.items.length - 1 - j)
        · rw [hkk]
          have : (c.items.getD (c.items.length - 1 - j) default).getD (q (c.items.length - 1 - j)) default = opS c q (c.items.length - 1 - j) := rfl
          rw [this]
          omega
        · have hn := (lin_nn hc j (by omega) s4).2.2
          have : ((firJ c j r).toNat + 1) * cntS c j ≤ q (c.items.length - 1 - j) * cntS c j := Nat.mul_le_mul_right _ (by omega)
          rw [Nat.add_mul] at this
          omega
      · omega

/-- The choice of Best. -/
theorem kM_pth (hc : OkC c) (hb : (aftM c c.items.length).getD c.room.toNat default ≠ none2) : ∀ i ≤ c.items.length, ∀ i', i ≤ i' → i' < c.items.length → pthS c c.items.length c.room.toNat i' = pthS c (c.items.length - i) (curM c i).toNat i'
  | 0, _, i', _, _ => rfl
  | i + 1, hi, i', h1, h2 => by
    rw [kM_pth hc hb i (by omega) i' (by omega) h2]
    have hj : c.items.length - i = (c.items.length - 1 - i) + 1 := by omega
    have hii : c.items.length - 1 - (c.items.length - 1 - i) = i := by omega
    obtain ⟨h3, h4⟩ := cur_ok hc hb i (by omega)
    have hn := n1_room hc
    have hr : (curM c i).toNat < n1M c := by omega
    rw [hj]
    simp only [pthS, hii]
    rw [if_neg (by omega), show c.items.length - (i + 1) = c.items.length - 1 - i by omega]
    simp only [curM]
    have hk : (firM c i).getD (curM c i).toNat default = firJ c (c.items.length - 1 - i) (curM c i).toNat := by
      unfold firM
      rw [getD_map_range _ _ _ hr]
    rw [hk, show ((curM c i).toNat : Int) = curM c i by omega]

theorem kM_eq (hc : OkC c) (hb : (aftM c c.items.length).getD c.room.toNat default ≠ none2) {i : Nat} (hi : i < c.items.length) : kM c i = ((pthS c c.items.length c.room.toNat i : Nat) : Int) := by
  rw [kM_pth hc hb i (by omega) i (Nat.le_refl _) hi]
  have hj : c.items.length - i = (c.items.length - 1 - i) + 1 := by omega
  have hii : c.items.length - 1 - (c.items.length - 1 - i) = i := by omega
  obtain ⟨h3, h4⟩ := cur_ok hc hb i (by omega)
  have hn := n1_room hc
  have hr : (curM c i).toNat < n1M c := by omega
  have hkm := (kM_ok hc hb hi).1.1
  unfold kM at hkm ⊢
  have hk : (firM c i).getD (curM c i).toNat default = firJ c (c.items.length - 1 - i) (curM c i).toNat := by
    unfold firM
    rw [getD_map_range _ _ _ hr]
  rw [hj]
  simp only [pthS, hii, if_true]
  rw [hk] at hkm ⊢
  omega

/-- A choice as a list. -/
def lstS (c : CaseM) (q : Nat → Nat) : List Int := (List.range c.items.length).map fun i => (q i : Int)

/-- Best returns the first one of the best choices that fit, or none does. -/
theorem best_spec (hc : OkC c) : (bestM c = ([], 0, 21) ∧ ∀ q, InS c q c.items.length → ¬ linS c q c.items.length ≤ c.room) ∨
    ∃ q, InS c q c.items.length ∧ linS c q c.items.length ≤ c.room ∧ bestM c = (lstS c q, trnS c q c.items.length, 0) ∧ ∀ q', InS c q' c.items.length → linS c q' c.items.length ≤ c.room → leC c q q' c.items.length := by
  have hv : ¬ validM c ≠ 0 := by rw [validM_ok.2 hc]; simp
  have hn := n1_room hc
  have hcr := hc.room
  have hr : c.room.toNat < n1M c := by omega
  obtain ⟨h1, h2⟩ := best_at hc c.items.length (Nat.le_refl _) c.room.toNat hr
  have hrr : (c.room.toNat : Int) = c.room := by omega
  rw [hrr] at h1 h2
  unfold bestM
  rw [if_neg hv]
  by_cases hb : (aftM c c.items.length).getD c.room.toNat default = none2
  · rw [if_pos hb]
    exact .inl ⟨rfl, fun q hq hl => (h2 q hq hl).1 hb⟩
  · rw [if_neg hb]
    obtain ⟨h3, h4, h5⟩ := h1 hb
    refine .inr ⟨_, h5, h4, ?_, fun q hq hl => (h2 q hq hl).2⟩
    rw [h3]
    simp only [Prod.mk.injEq, and_true]
    unfold pickBM lstS
    apply List.map_congr_left
    intro i hi
    exact kM_eq hc hb (by simpa using hi)

/-- The sums of a choice that is a list. -/
theorem lst_sums {pick : List Int} : ∀ j ≤ c.items.length, linesM c pick c.items.length = linesM c pick (c.items.length - j) + linS c (fun i => (pickM pick i).toNat) j ∧ turnsM c pick c.items.length = turnsM c pick (c.items.length - j) + trnS c (fun i => (pickM pick i).toNat) j
  | 0, _ => by simp [linS, trnS]
  | j + 1, hj => by
    obtain ⟨h1, h2⟩ := lst_sums (pick := pick) j (by omega)
    rw [h1, h2, show c.items.length - j = (c.items.length - (j + 1)) + 1 by omega]
    simp only [linesM, turnsM, linS, trnS, opS, optM, itemM, weightM, show c.items.length - 1 - j = c.items.length - (j + 1) by omega, Int.mul_comm]
    constructor <;> omega
theorem lst_all {pick : List Int} : linesM c pick c.items.length = linS c (fun i => (pickM pick i).toNat) c.items.length ∧ turnsM c pick c.items.length = trnS c (fun i => (pickM pick i).toNat) c.items.length := by
  obtain ⟨h1, h2⟩ := lst_sums (c := c) (pick := pick) c.items.length (Nat.le_refl _)
  rw [h1, h2]
  simp [linesM, turnsM]
theorem lst_in {pick : List Int} (hp : OkP c pick) (hl : pick.length = c.items.length) : InS c (fun i => (pickM pick i).toNat) c.items.length := fun i _ h => by
  have := hp.at_ i (by omega)
  simp only [itemM] at this
  show (pickM pick i).toNat < _
  omega

end
end Go.Proofs.YthcfjdkflmkhbaaDoor

namespace Go.Proofs.YthcfjdkflmkhbaaDoor
open Go.Av

theorem getD_mem {α : Type} [Inhabited α] (l : List α) (i : Nat) (h : i < l.length) : l.getD i default ∈ l := by
  rw [List.getD_eq_getElem?_getD, List.getElem?_eq_getElem h]
  exact List.getElem_mem _

section
variable {c : CaseM} {p q : Int}
theorem minV_le {i : Nat} : ∀ k, ∀ j, j < k ∨ (j = 0 ∧ k = 0) → minV c p q i k ≤ valM c p q i ((c.items.getD i default).getD j default)
  | 0, j, h => by
    obtain rfl : j = 0 := by omega
    exact Int.le_refl _
  | k + 1, j, h => by
    simp only [minV]
    by_cases hj : j = k
    · subst hj
      split <;> omega
    · by_cases hk : k = 0
      · omega
      · have := minV_le (i := i) k j (by omega)
        split <;> omega
theorem minV_at {i : Nat} : ∀ k, ∃ j, (j < k ∨ (j = 0 ∧ k = 0)) ∧ minV c p q i k = valM c p q i ((c.items.getD i default).getD j default)
  | 0 => ⟨0, .inr ⟨rfl, rfl⟩, rfl⟩
  | k + 1 => by
    obtain ⟨j, h1, h2⟩ := minV_at (i := i) k
    simp only [minV]
    split
    · exact ⟨k, by omega, rfl⟩
    · exact ⟨j, by omega, h2⟩

theorem val_sum {i : Nat} {o : Int × Int} (L T : Int) : valM c p q i o + (p * L + q * T) = p * (L + o.1) + q * (T + o.2 * weightM c i) := by
  simp only [valM, weightM, Int.mul_add]
  have : q * c.weights.getD i default * o.2 = q * (o.2 * c.weights.getD i default) := by rw [Int.mul_assoc, Int.mul_comm (c.weights.getD i default)]
  omega

/-- No choice has less than the sum of the least values. -/
theorem bnd_le (hc : OkC c) {pick : List Int} (hp : OkP c pick) : ∀ i ≤ pick.length, bndM c p q i ≤ (0 - p) * c.room + (p * linesM c pick i + q * turnsM c pick i)
  | 0, _ => by simp [bndM, linesM, turnsM]
  | i + 1, h => by
    have ih := bnd_le hc hp i (by omega)
    have h1 := hp.at_ i (by omega)
    have h2 := minV_le (c := c) (p := p) (q := q) (i := i) (c.items.getD i default).length (pickM pick i).toNat (by simp only [itemM] at h1; omega)
    simp only [bndM, linesM, turnsM]
    rw [← val_sum]
    have : (c.items.getD i default).getD (pickM pick i).toNat default = optM c pick i := rfl
    rw [this] at h2
    omega
/-- One that has the least values has just that. -/
theorem bnd_eq (hc : OkC c) {pick : List Int} (hv : ∀ i < pick.length, valM c p q i (optM c pick i) = minV c p q i (c.items.getD i default).length) : ∀ i ≤ pick.length, bndM c p q i = (0 - p) * c.room + (p * linesM c pick i + q * turnsM c pick i)
  | 0, _ => by simp [bndM, linesM, turnsM]
  | i + 1, h => by
    have ih := bnd_eq hc hv i (by omega)
    have h1 := hv i (by omega)
    simp only [bndM, linesM, turnsM]
    rw [← val_sum]
    omega

theorem lstS_len (f : Nat → Nat) : (lstS c f).length = c.items.length := by simp [lstS]
theorem lstS_at (f : Nat → Nat) {i : Nat} (h : i < c.items.length) : pickM (lstS c f) i = (f i : Int) := by
  unfold pickM lstS
  rw [getD_map_range _ _ _ h]
theorem lstS_ok {f : Nat → Nat} (h : InS c f c.items.length) : OkP c (lstS c f) := ⟨by rw [lstS_len]; exact Nat.le_refl _, fun i hi => by
  rw [lstS_len] at hi
  have := h i (by omega) hi
  rw [lstS_at f hi]
  simp only [itemM]
  omega⟩
theorem lstS_sums (f : Nat → Nat) : linesM c (lstS c f) c.items.length = linS c f c.items.length ∧ turnsM c (lstS c f) c.items.length = trnS c f c.items.length := by
  obtain ⟨h1, h2⟩ := lst_all (c := c) (pick := lstS c f)
  obtain ⟨h3, h4, _⟩ := lin_congr (c := c) (q := fun i => (pickM (lstS c f) i).toNat) (q' := f) c.items.length (Nat.le_refl _) (fun i _ hi => by
    show (pickM (lstS c f) i).toNat = f i
    rw [lstS_at f hi]; omega)
  exact ⟨h1.trans h3, h2.trans h4⟩

/-- Best, by lists: the best choice fits, and no choice that fits has fewer turns. -/
theorem best_lists (hc : OkC c) : (bestM c = ([], 0, 21) ∧ ∀ pick, OkP c pick → pick.length = c.items.length → ¬ linesM c pick c.items.length ≤ c.room) ∨
    ∃ pick, OkP c pick ∧ pick.length = c.items.length ∧ linesM c pick c.items.length ≤ c.room ∧ bestM c = (pick, turnsM c pick c.items.length, 0) ∧ ∀ pick', OkP c pick' → pick'.length = c.items.length → linesM c pick' c.items.length ≤ c.room → turnsM c pick c.items.length ≤ turnsM c pick' c.items.length := by
  rcases best_spec hc with ⟨h1, h2⟩ | ⟨f, h1, h2, h3, h4⟩
  · refine .inl ⟨h1, fun pick hp hl hr => h2 _ (lst_in hp hl) ?_⟩
    rw [← (lst_all (c := c) (pick := pick)).1]
    exact hr
  · obtain ⟨e1, e2⟩ := lstS_sums (c := c) f
    refine .inr ⟨lstS c f, lstS_ok h1, lstS_len f, by omega, by rw [h3, e2], fun pick hp hl hr => ?_⟩
    obtain ⟨e3, e4⟩ := lst_all (c := c) (pick := pick)
    have := h4 _ (lst_in hp hl) (by omega)
    unfold leC at this
    omega

/-- The costs of a choice that fits. -/
theorem cost_fits (hc : OkC c) {pick : List Int} (hp : OkP c pick) (hl : pick.length = c.items.length) (hr : linesM c pick c.items.length ≤ c.room) : costM c pick = (linesM c pick c.items.length, turnsM c pick c.items.length, 0) := by
  unfold costM
  have hb : ¬ BadP c pick := by
    rintro ⟨i, hi, h⟩
    have := hp.at_ i hi
    omega
  have h0 := validM_ok.2 hc
  rw [if_neg (by omega), if_neg (by omega), if_neg hb, hl, if_neg (by omega)]
end

section
variable (c : CaseM) (p q : Int) (m : List Int)
/-- The options with the least value. -/
def smM (i : Nat) : Nat → List Int
  | 0 => []
  | k + 1 => if valM c p q i ((c.items.getD i default).getD k default) = minV c p q i (c.items.getD i default).length then smM i k ++ [(k : Int)] else smM i k
theorem smM_zero (i : Nat) : smM c p q i 0 = [] := rfl
def tpM (i : Nat) : Int := (smM c p q i (c.items.getD i default).length).getD (atM m i (smM c p q i (c.items.getD i default).length).length).toNat default
def tpL (i : Nat) : List Int := (List.range i).map (tpM c p q m)
theorem tpL_len (i : Nat) : (tpL c p q m i).length = i := by simp [tpL]
theorem tpL_zero : tpL c p q m 0 = [] := rfl
theorem tpL_succ (i : Nat) : tpL c p q m (i + 1) = tpL c p q m i ++ [tpM c p q m i] := by simp [tpL, List.range_succ]
variable {c p q m}
theorem smM_mem {i : Nat} : ∀ k, ∀ x, x ∈ smM c p q i k ↔ ∃ j : Nat, x = (j : Int) ∧ j < k ∧ valM c p q i ((c.items.getD i default).getD j default) = minV c p q i (c.items.getD i default).length
  | 0, x => by simp [smM]
  | k + 1, x => by
    simp only [smM]
    split
    · rename_i h
      rw [List.mem_append, smM_mem k x, List.mem_singleton]
      constructor
      · rintro (⟨j, h1, h2, h3⟩ | rfl)
        · exact ⟨j, h1, by omega, h3⟩
        · exact ⟨k, rfl, by omega, h⟩
      · rintro ⟨j, h1, h2, h3⟩
        by_cases hj : j = k
        · exact .inr (by rw [h1, hj])
        · exact .inl ⟨j, h1, by omega, h3⟩
    · rename_i h
      rw [smM_mem k x]
      constructor
      · rintro ⟨j, h1, h2, h3⟩
        exact ⟨j, h1, by omega, h3⟩
      · rintro ⟨j, h1, h2, h3⟩
        by_cases hj : j = k
        · subst hj; exact absurd h3 h
        · exact ⟨j, h1, by omega, h3⟩
theorem smM_le {i : Nat} : ∀ k, (smM c p q i k).length ≤ k
  | 0 => by simp [smM]
  | k + 1 => by
    have := smM_le (i := i) k
    simp only [smM]
    split <;> simp <;> omega
theorem smM_pos {i : Nat} (h : 0 < (c.items.getD i default).length) : 0 < (smM c p q i (c.items.getD i default).length).length := by
  obtain ⟨j, h1, h2⟩ := minV_at (c := c) (p := p) (q := q) (i := i) (c.items.getD i default).length
  exact List.length_pos_of_mem ((smM_mem _ _).2 ⟨j, rfl, by omega, h2.symm⟩)
theorem tpM_spec {i : Nat} (h : 0 < (c.items.getD i default).length) : (0 ≤ tpM c p q m i ∧ tpM c p q m i < ((c.items.getD i default).length : Int)) ∧ valM c p q i ((c.items.getD i default).getD (tpM c p q m i).toNat default) = minV c p q i (c.items.getD i default).length := by
  have hp := smM_pos (c := c) (p := p) (q := q) h
  have ha := atM_range (l := m) (i := (i : Int)) (m := ((smM c p q i (c.items.getD i default).length).length : Int)) (by omega)
  have hm : tpM c p q m i ∈ smM c p q i (c.items.getD i default).length := by
    exact getD_mem _ _ (by omega)
  obtain ⟨j, h1, h2, h3⟩ := (smM_mem _ _).1 hm
  rw [h1]
  exact ⟨by omega, by simpa using h3⟩

theorem tpL_at {i n : Nat} (h : i < n) : pickM (tpL c p q m n) i = tpM c p q m i := by
  unfold pickM tpL
  rw [getD_map_range _ _ _ h]
theorem tpL_ok (hc : OkC c) : OkP c (tpL c p q m c.items.length) := ⟨by rw [tpL_len]; exact Nat.le_refl _, fun i hi => by
  rw [tpL_len] at hi
  rw [tpL_at hi]
  exact (tpM_spec (hc.n1 i hi)).1⟩
theorem tpL_val (hc : OkC c) : ∀ i < (tpL c p q m c.items.length).length, valM c p q i (optM c (tpL c p q m c.items.length) i) = minV c p q i (c.items.getD i default).length := fun i hi => by
  rw [tpL_len] at hi
  unfold optM
  rw [tpL_at hi]
  exact (tpM_spec (hc.n1 i hi)).2

end

/-- The case with room for just this choice. -/
def tcM (c : CaseM) (p q : Int) (m : List Int) : CaseM :=
  if 0 < p ∨ c.room < linesM c (tpL c p q m c.items.length) c.items.length then ⟨c.items, c.weights, linesM c (tpL c p q m c.items.length) c.items.length⟩ else c
theorem lines_room (c : CaseM) (r : Int) (pick : List Int) : ∀ i, linesM ⟨c.items, c.weights, r⟩ pick i = linesM c pick i ∧ turnsM ⟨c.items, c.weights, r⟩ pick i = turnsM c pick i
  | 0 => ⟨rfl, rfl⟩
  | i + 1 => by
    obtain ⟨h1, h2⟩ := lines_room c r pick i
    exact ⟨by simp only [linesM, h1], by simp only [turnsM, h2]⟩
theorem minV_room (c : CaseM) (r p q : Int) (i : Nat) : ∀ k, minV ⟨c.items, c.weights, r⟩ p q i k = minV c p q i k
  | 0 => rfl
  | k + 1 => by simp only [minV, minV_room c r p q i k]; rfl
theorem smM_room (c : CaseM) (r p q : Int) (i : Nat) : ∀ k, smM ⟨c.items, c.weights, r⟩ p q i k = smM c p q i k
  | 0 => rfl
  | k + 1 => by simp only [smM, smM_room c r p q i k, minV_room]; rfl
theorem tpL_room (c : CaseM) (r p q : Int) (m : List Int) (i : Nat) : tpL ⟨c.items, c.weights, r⟩ p q m i = tpL c p q m i := by
  unfold tpL
  apply List.map_congr_left
  intro k _
  simp only [tpM, smM_room]
theorem room_ok {c : CaseM} (hc : OkC c) {r : Int} (hr : 0 ≤ r ∧ r ≤ 4096) : OkC ⟨c.items, c.weights, r⟩ := ⟨hc.n64, hc.n8, hc.n1, hc.wl, hr, hc.w, hc.o⟩

theorem tight {c : CaseM} {p q : Int} {m : List Int} (hc : OkC c) (hp : 0 ≤ p) (hq : 1 ≤ q) (hpq : okPQ p q) :
    OkC (tcM c p q m) ∧ costM (tcM c p q m) (tpL c p q m c.items.length) = (linesM c (tpL c p q m c.items.length) c.items.length, turnsM c (tpL c p q m c.items.length) c.items.length, 0) ∧
    (∃ P, bestM (tcM c p q m) = (P, turnsM c (tpL c p q m c.items.length) c.items.length, 0)) ∧
    boundE (tcM c p q m) p q = ((p, q, turnsM c (tpL c p q m c.items.length) c.items.length * q), 0) := by
  have hl := tpL_len c p q m c.items.length
  have ht := tpL_ok (p := p) (q := q) (m := m) hc
  have hsr := sums_range hc ht c.items.length (by omega)
  have h64 := hc.n64
  have hroom := hc.room
  -- the new case
  obtain ⟨r, hr, hlr, hpr, he⟩ : ∃ r : Int, (0 ≤ r ∧ r ≤ 4096) ∧ linesM c (tpL c p q m c.items.length) c.items.length ≤ r ∧ (p = 0 ∨ r = linesM c (tpL c p q m c.items.length) c.items.length) ∧ tcM c p q m = ⟨c.items, c.weights, r⟩ := by
    unfold tcM
    split
    · exact ⟨_, by omega, Int.le_refl _, .inr rfl, rfl⟩
    · exact ⟨c.room, hroom, by omega, .inl (by omega), rfl⟩
  rw [he]
  have hc' := room_ok hc hr
  have htn : tpL ⟨c.items, c.weights, r⟩ p q m c.items.length = tpL c p q m c.items.length := tpL_room ..
  have ht' : OkP ⟨c.items, c.weights, r⟩ (tpL c p q m c.items.length) := ⟨ht.len, ht.at_⟩
  obtain ⟨l1, l2⟩ := lines_room c r (tpL c p q m c.items.length) c.items.length
  have hv' : ∀ i < (tpL c p q m c.items.length).length, valM ⟨c.items, c.weights, r⟩ p q i (optM ⟨c.items, c.weights, r⟩ (tpL c p q m c.items.length) i) = minV ⟨c.items, c.weights, r⟩ p q i (c.items.getD i default).length := by
    have := tpL_val (c := ⟨c.items, c.weights, r⟩) (p := p) (q := q) (m := m) hc'
    rw [htn] at this
    exact this
  have hbe := bnd_eq hc' hv' c.items.length (by omega)
  simp only at hbe
  rw [l1, l2] at hbe
  refine ⟨hc', ?_, ?_, ?_⟩
  · rw [cost_fits hc' ht' hl (by simp only; omega)]
    simp only
    rw [l1, l2]
  · rcases best_lists hc' with ⟨_, h2⟩ | ⟨pick, h1, h2, h3, h4, h5⟩
    · exact absurd (by simp only; omega) (h2 _ ht' hl)
    · refine ⟨pick, ?_⟩
      rw [h4]
      simp only [Prod.mk.injEq, true_and, and_true]
      have h6 := h5 _ ht' hl (by simp only; omega)
      simp only at h6 h3 h2
      rw [l2] at h6
      have h7 := bnd_le (p := p) (q := q) hc' h1 c.items.length (by omega)
      rw [hbe] at h7
      simp only at h7
      have h8 : q * turnsM c (tpL c p q m c.items.length) c.items.length ≤ q * turnsM ⟨c.items, c.weights, r⟩ pick c.items.length := by
        rcases hpr with h0 | h0
        · subst h0; omega
        · have : p * linesM ⟨c.items, c.weights, r⟩ pick c.items.length ≤ p * linesM c (tpL c p q m c.items.length) c.items.length := Int.mul_le_mul_of_nonneg_left (by omega) hp
          omega
      have h9 := Int.le_of_mul_le_mul_left h8 (by omega)
      omega
  · have h0 := validM_ok.2 hc'
    unfold boundE
    unfold okPQ at hpq
    rw [if_neg (by omega), if_neg (by omega)]
    simp only [boundM, Prod.mk.injEq, true_and, and_true]
    rw [hbe, Int.mul_comm q]
    rcases hpr with h0 | h0
    · subst h0; simp
    · rw [h0, Int.sub_mul]; omega
end Go.Proofs.YthcfjdkflmkhbaaDoor

