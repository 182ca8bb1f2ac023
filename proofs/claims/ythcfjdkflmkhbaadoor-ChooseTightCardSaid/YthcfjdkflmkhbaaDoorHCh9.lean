/- The contract of Made. -/
import Derived.Test.YthcfjdkflmkhbaaDoorHCh8
import Derived.Test.YthcfjdkflmkhbaaDoorHChA
set_option linter.all false
namespace Go.Proofs.YthcfjdkflmkhbaaDoor
open Go.Av

theorem lit6 (l : List Int) (i : Nat) : (([Dat.int .i64 1, Dat.int .i64 2, Dat.int .i64 3, Dat.int .i64 0, Dat.int .i64 10, Dat.int .i64 1] : List Dat)[(atM l (7 + 5 * (i : Int)) 6).toNat]?).getD Dat.nilp = .int .i64 (mW l i) := by
  have h := at6 l i
  exact nth_map (Dat.int .i64) [1, 2, 3, 0, 10, 1] _ _ (by simp; omega)


theorem made_ok (G) (l : List Int) (hl : ∀ x ∈ l, I64 x) : Gives Tryd.prog G 10 [isD l] [caseD (madeM l)] := by
  have hcr := mCnt_range l
  have i7 : I64 7 := by unfold I64; omega
  have i4 : I64 4 := by unfold I64; omega
  have i4096 : I64 4096 := by unfold I64; omega
  have i6 : I64 6 := by unfold I64; omega
  have i16 : I64 16 := by unfold I64; omega
  refine gives_intro [] [] [] Tryd.func10 rfl (by rfl) (by simp [Tryd.ntmps10]) fun F hP hG hN hR => ?_
  rw [Tryd.ntmps10] at hN
  apply aw_regs [0, 2] [2, 40, 41, 52, 53, 65, 66]
  · simp (disch := omega) only [avR2, avD, avT2, datsOf, fillA, ↓reduceIte, Nat.reduceEqDiff, Nat.reduceLT, Nat.reduceLeDiff, Nat.reduceAdd, Nat.reduceSub, reduceCtorEq, ne_eq, eq_self, if_true, if_false, forall_eq, forall_eq_or_imp, Int.reduceToNat, Int.reduceLT, Int.reduceLE, ↓List.forall_mem_cons, Nat.reduceMul, ite_self, forall_const, implies_true, Op.operands, avT0, avT1, hN, hP, hG, hR.1, hR.2.1, hR.2.2.1, tiA]
    first | exact ⟨rfl, rfl⟩ | ((repeat' first | refine And.intro ?_ ?_ | intro _) <;> first | with_reducible rfl | assumption | omega | rfl | (rename_i hq; rw [hq]; rfl) | (simp_all; done))
  apply aw_regs [0, 2, 3] [2, 3, 40, 41, 52, 53, 65, 66]
  · simp (disch := omega) only [avR2, avD, avT2, datsOf, fillA, ↓reduceIte, Nat.reduceEqDiff, Nat.reduceLT, Nat.reduceLeDiff, Nat.reduceAdd, Nat.reduceSub, reduceCtorEq, ne_eq, eq_self, if_true, if_false, forall_eq, forall_eq_or_imp, Int.reduceToNat, Int.reduceLT, Int.reduceLE, ↓List.forall_mem_cons, Nat.reduceMul, ite_self, forall_const, implies_true, Op.operands, avT0, avT1, hN, hP, hG, hR.1, hR.2.1, hR.2.2.1, tiA]
    first | exact ⟨rfl, rfl⟩ | ((repeat' first | refine And.intro ?_ ?_ | intro _) <;> first | with_reducible rfl | assumption | omega | rfl | (rename_i hq; rw [hq]; rfl) | (simp_all; done))
  apply aw_regs [0, 2, 3, 4] [2, 3, 40, 41, 52, 53, 65, 66]
  · simp (disch := omega) only [avR2, avD, avT2, datsOf, fillA, ↓reduceIte, Nat.reduceEqDiff, Nat.reduceLT, Nat.reduceLeDiff, Nat.reduceAdd, Nat.reduceSub, reduceCtorEq, ne_eq, eq_self, if_true, if_false, forall_eq, forall_eq_or_imp, Int.reduceToNat, Int.reduceLT, Int.reduceLE, ↓List.forall_mem_cons, Nat.reduceMul, ite_self, forall_const, implies_true, Op.operands, avT0, avT1, hN, hP, hG, hR.1, hR.2.1, hR.2.2.1, tiA]
    first | exact ⟨rfl, rfl⟩ | ((repeat' first | refine And.intro ?_ ?_ | intro _) <;> first | with_reducible rfl | assumption | omega | rfl | (rename_i hq; rw [hq]; rfl) | (simp_all; done))
  apply aw_seq
  apply aw_regs [0, 2, 3, 4, 5] [2, 3, 40, 41, 52, 53, 65, 66]
  · simp (disch := omega) only [avR2, avD, avT2, datsOf, fillA, ↓reduceIte, Nat.reduceEqDiff, Nat.reduceLT, Nat.reduceLeDiff, Nat.reduceAdd, Nat.reduceSub, reduceCtorEq, ne_eq, eq_self, if_true, if_false, forall_eq, forall_eq_or_imp, Int.reduceToNat, Int.reduceLT, Int.reduceLE, ↓List.forall_mem_cons, Nat.reduceMul, ite_self, forall_const, implies_true, Op.operands, avT0, avT1, hN, hP, hG, hR.1, hR.2.1, hR.2.2.1, tiA]
    first | exact ⟨rfl, rfl⟩ | ((repeat' first | refine And.intro ?_ ?_ | intro _) <;> first | with_reducible rfl | assumption | omega | rfl | (rename_i hq; rw [hq]; rfl) | (simp_all; done))
  apply aw_block
  refine aw_new0 53 1 (by omega) ?_
  refine aw_nilO 3 53 1 0 rfl rfl rfl rfl ?_
  refine aw_new0 66 1 (by omega) ?_
  refine aw_nilO 3 66 1 1 rfl rfl rfl rfl ?_
  refine aw_loop (ι := {i : Nat // (i : Int) ≤ mCnt l}) (fun ⟨i, hi⟩ => .of [(0, .dat (isD l)), (2, .ptr 2 3 0 0), (3, .ptr 3 3 0 0), (4, .dat (iD (mF l i))), (5, .dat (iD i))] [(2, ⟨3, [.agg [.nils, .nils, .dat (iD 0)]]⟩), (3, ⟨3, [.agg [.osl 53 1 0 i, .osl 66 1 0 i, .dat (iD 0)]]⟩), (53, ⟨1, ((mItems l i).map osD).map .dat⟩), (66, ⟨1, ((mWs l i).map iD).map .dat⟩)]) (fun ⟨i, hi⟩ => (mCnt l).toNat - i) (⟨0, by simp; omega⟩) (Le.of ?_ ?_) fun ix => ?_
  · try simp (disch := omega) only [LeE, LeO, avD, avT2, datsOf, fillA, ↓reduceIte, Nat.reduceEqDiff, Nat.reduceLT, Nat.reduceLeDiff, Nat.reduceAdd, Nat.reduceSub, reduceCtorEq, ne_eq, eq_self, if_true, if_false, forall_eq, forall_eq_or_imp, Int.reduceToNat, Int.reduceLT, Int.reduceLE, ↓List.forall_mem_cons, Nat.reduceMul, ite_self, forall_const, implies_true, Op.operands, avT0, avT1, mItems_zero, mWs_zero, mItems_succ, mWs_succ, mF, mItems_len, mWs_len]
    all_goals first | done | (repeat' apply And.intro) <;> first | rfl | omega | assumption | (simp only [AV.dat.injEq, Dat.int.injEq, true_and]; omega) | (congr <;> omega)
  · try simp (disch := omega) only [LeE, LeO, avD, avT2, datsOf, fillA, ↓reduceIte, Nat.reduceEqDiff, Nat.reduceLT, Nat.reduceLeDiff, Nat.reduceAdd, Nat.reduceSub, reduceCtorEq, ne_eq, eq_self, if_true, if_false, forall_eq, forall_eq_or_imp, Int.reduceToNat, Int.reduceLT, Int.reduceLE, ↓List.forall_mem_cons, Nat.reduceMul, ite_self, forall_const, implies_true, Op.operands, avT0, avT1, mItems_zero, mWs_zero, mItems_succ, mWs_succ, mF, mItems_len, mWs_len]
    all_goals first | done | (repeat' apply And.intro) <;> first | rfl | omega | assumption | (simp only [AV.dat.injEq, Dat.int.injEq, true_and]; omega) | (congr <;> omega)
  obtain ⟨i, hi⟩ := ix
  dsimp only
  apply aw_seq
  apply aw_regs [0, 2, 3, 4, 5, 13] [2, 3, 40, 41, 52, 53, 65, 66]
  · simp (disch := omega) only [avR2, avD, avT2, datsOf, fillA, ↓reduceIte, Nat.reduceEqDiff, Nat.reduceLT, Nat.reduceLeDiff, Nat.reduceAdd, Nat.reduceSub, reduceCtorEq, ne_eq, eq_self, if_true, if_false, forall_eq, forall_eq_or_imp, Int.reduceToNat, Int.reduceLT, Int.reduceLE, ↓List.forall_mem_cons, Nat.reduceMul, ite_self, forall_const, implies_true, Op.operands, avT0, avT1, hN, hP, hG, hR.1, hR.2.1, hR.2.2.1, tiA]
    (repeat' refine And.intro ?_ ?_) <;> try first | omega | assumption | with_reducible rfl | exact rfl | (intro hside; (repeat' refine And.intro ?_ ?_) <;> first | exact hside | omega | (rw [hside]; rfl) | (simp_all; done))
    refine CallC.use (gvF hP hG (at_ok G l 0 7 hl (by omega) i7)) rfl ?_
    try simp (maxSteps := 2000000) (disch := omega) only [avR2, avD, avT2, datsOf, fillA, ↓reduceIte, Nat.reduceEqDiff, Nat.reduceLT, Nat.reduceLeDiff, Nat.reduceAdd, Nat.reduceSub, reduceCtorEq, ne_eq, eq_self, if_true, if_false, forall_eq, forall_eq_or_imp, Int.reduceToNat, Int.reduceLT, Int.reduceLE, ↓List.forall_mem_cons, Nat.reduceMul, ite_self, forall_const, implies_true, Op.operands, avT0, avT1, hN, hP, hG, hR.1, hR.2.1, hR.2.2.1, tiA]
    first | exact ⟨rfl, rfl⟩ | ((repeat' first | refine And.intro ?_ ?_ | intro _) <;> first | with_reducible rfl | assumption | omega | rfl | (rename_i hq; rw [hq]; rfl) | (simp_all; done))
  refine aw_if _ rfl (fun hb => ?_) (fun hb => ?_) <;> (try simp only [pickB_true, pickB_false, Bool.false_or, Bool.false_and, Bool.true_and, decide_eq_true_eq, decide_eq_false_iff_not, Bool.or_eq_true, Bool.and_eq_true, Bool.or_eq_false_iff, Bool.and_eq_false_imp, Bool.not_eq_true, Bool.not_eq_false, Bool.not_eq_eq_eq_not, Bool.not_true, Bool.not_false, Int.not_lt, Int.not_le, beq_iff_eq, beq_eq_false_iff_ne, bne_iff_ne, bne_eq_false_iff_eq, ne_eq, Bool.true_eq_false, Bool.false_eq_true, if_false_left, if_true_left, Bool.not_eq_eq_eq_not, Bool.decide_eq_true, Classical.not_not] at hb)
  · skip
    have hic : (i : Int) < mCnt l := hb
    have hil := mItems_len l i
    have hwl := mWs_len l i
    have hkr := mK_range l i
    have hfr := mF_range l i
    apply aw_skip
    apply q_seq
    apply aw_seq
    apply aw_block
    apply aw_regs [0, 2, 3, 4, 5, 6] [2, 3, 40, 41, 52, 53, 65, 66]
    · simp (disch := omega) only [avR2, avD, avT2, datsOf, fillA, ↓reduceIte, Nat.reduceEqDiff, Nat.reduceLT, Nat.reduceLeDiff, Nat.reduceAdd, Nat.reduceSub, reduceCtorEq, ne_eq, eq_self, if_true, if_false, forall_eq, forall_eq_or_imp, Int.reduceToNat, Int.reduceLT, Int.reduceLE, ↓List.forall_mem_cons, Nat.reduceMul, ite_self, forall_const, implies_true, Op.operands, avT0, avT1, hN, hP, hG, hR.1, hR.2.1, hR.2.2.1, tiA]
      first | exact ⟨rfl, rfl⟩ | ((repeat' first | refine And.intro ?_ ?_ | intro _) <;> first | with_reducible rfl | assumption | omega | rfl | (rename_i hq; rw [hq]; rfl) | (simp_all; done))
    apply aw_regs [0, 2, 3, 4, 5, 6, 7] [2, 3, 40, 41, 52, 53, 65, 66]
    · simp (disch := omega) only [avR2, avD, avT2, datsOf, fillA, ↓reduceIte, Nat.reduceEqDiff, Nat.reduceLT, Nat.reduceLeDiff, Nat.reduceAdd, Nat.reduceSub, reduceCtorEq, ne_eq, eq_self, if_true, if_false, forall_eq, forall_eq_or_imp, Int.reduceToNat, Int.reduceLT, Int.reduceLE, ↓List.forall_mem_cons, Nat.reduceMul, ite_self, forall_const, implies_true, Op.operands, avT0, avT1, hN, hP, hG, hR.1, hR.2.1, hR.2.2.1, tiA]
      first | exact ⟨rfl, rfl⟩ | ((repeat' first | refine And.intro ?_ ?_ | intro _) <;> first | with_reducible rfl | assumption | omega | rfl | (rename_i hq; rw [hq]; rfl) | (simp_all; done))
    apply aw_seq
    apply aw_regs [0, 2, 3, 4, 5, 6, 7, 8] [2, 3, 40, 41, 52, 53, 65, 66]
    · simp (disch := omega) only [avR2, avD, avT2, datsOf, fillA, ↓reduceIte, Nat.reduceEqDiff, Nat.reduceLT, Nat.reduceLeDiff, Nat.reduceAdd, Nat.reduceSub, reduceCtorEq, ne_eq, eq_self, if_true, if_false, forall_eq, forall_eq_or_imp, Int.reduceToNat, Int.reduceLT, Int.reduceLE, ↓List.forall_mem_cons, Nat.reduceMul, ite_self, forall_const, implies_true, Op.operands, avT0, avT1, hN, hP, hG, hR.1, hR.2.1, hR.2.2.1, tiA]
      first | exact ⟨rfl, rfl⟩ | ((repeat' first | refine And.intro ?_ ?_ | intro _) <;> first | with_reducible rfl | assumption | omega | rfl | (rename_i hq; rw [hq]; rfl) | (simp_all; done))
    apply aw_block
    refine aw_new0 41 2 (by omega) ?_
    refine aw_nilE 6 41 2 rfl rfl ?_
    refine aw_loop (ι := {k : Nat // (k : Int) ≤ mK l i}) (fun ⟨k, hk⟩ => .of [(0, .dat (isD l)), (2, .ptr 2 3 0 0), (3, .ptr 3 3 0 0), (4, .dat (iD (mF l i))), (5, .dat (iD i)), (6, .osl 41 2 0 k), (7, .dat (iD (mL l i k))), (8, .dat (iD k))] [(2, ⟨3, [.agg [.nils, .nils, .dat (iD 0)]]⟩), (3, ⟨3, [.agg [.osl 53 1 0 i, .osl 66 1 0 i, .dat (iD 0)]]⟩), (53, ⟨1, ((mItems l i).map osD).map .dat⟩), (66, ⟨1, ((mWs l i).map iD).map .dat⟩), (41, ⟨2, ((mRow l i k).map oD).map .dat⟩)]) (fun ⟨k, hk⟩ => (mK l i).toNat - k) (⟨0, by simp; omega⟩) (Le.of ?_ ?_) fun ix => ?_
    · try simp (disch := omega) only [LeE, LeO, avD, avT2, datsOf, fillA, ↓reduceIte, Nat.reduceEqDiff, Nat.reduceLT, Nat.reduceLeDiff, Nat.reduceAdd, Nat.reduceSub, reduceCtorEq, ne_eq, eq_self, if_true, if_false, forall_eq, forall_eq_or_imp, Int.reduceToNat, Int.reduceLT, Int.reduceLE, ↓List.forall_mem_cons, Nat.reduceMul, ite_self, forall_const, implies_true, Op.operands, avT0, avT1, mRow_zero, mRow_succ, mO, mL, mN, mRow_len]
      all_goals first | done | (repeat' apply And.intro) <;> first | rfl | omega | assumption | (simp only [AV.dat.injEq, Dat.int.injEq, true_and]; omega) | (congr <;> omega)
    · try simp (disch := omega) only [LeE, LeO, avD, avT2, datsOf, fillA, ↓reduceIte, Nat.reduceEqDiff, Nat.reduceLT, Nat.reduceLeDiff, Nat.reduceAdd, Nat.reduceSub, reduceCtorEq, ne_eq, eq_self, if_true, if_false, forall_eq, forall_eq_or_imp, Int.reduceToNat, Int.reduceLT, Int.reduceLE, ↓List.forall_mem_cons, Nat.reduceMul, ite_self, forall_const, implies_true, Op.operands, avT0, avT1, mRow_zero, mRow_succ, mO, mL, mN, mRow_len]
      all_goals first | done | (repeat' apply And.intro) <;> first | rfl | omega | assumption | (simp only [AV.dat.injEq, Dat.int.injEq, true_and]; omega) | (congr <;> omega)
    obtain ⟨k, hk⟩ := ix
    dsimp only
    have ha4 := atM_range (l := l) (i := 2 + 5 * (i : Int)) (m := 4) (by omega)
    apply aw_seq
    apply aw_regs [0, 2, 3, 4, 5, 6, 7, 8, 23] [2, 3, 40, 41, 52, 53, 65, 66]
    · simp (disch := omega) only [avR2, avD, avT2, datsOf, fillA, ↓reduceIte, Nat.reduceEqDiff, Nat.reduceLT, Nat.reduceLeDiff, Nat.reduceAdd, Nat.reduceSub, reduceCtorEq, ne_eq, eq_self, if_true, if_false, forall_eq, forall_eq_or_imp, Int.reduceToNat, Int.reduceLT, Int.reduceLE, ↓List.forall_mem_cons, Nat.reduceMul, ite_self, forall_const, implies_true, Op.operands, avT0, avT1, hN, hP, hG, hR.1, hR.2.1, hR.2.2.1, tiA]
      (repeat' refine And.intro ?_ ?_) <;> try first | omega | assumption | with_reducible rfl | exact rfl | (intro hside; (repeat' refine And.intro ?_ ?_) <;> first | exact hside | omega | (rw [hside]; rfl) | (simp_all; done))
      refine CallC.use (gvF hP hG (at_ok G l (2 + 5 * (i : Int)) 4 hl (by omega) i4)) rfl ?_
      try simp (maxSteps := 2000000) (disch := omega) only [avR2, avD, avT2, datsOf, fillA, ↓reduceIte, Nat.reduceEqDiff, Nat.reduceLT, Nat.reduceLeDiff, Nat.reduceAdd, Nat.reduceSub, reduceCtorEq, ne_eq, eq_self, if_true, if_false, forall_eq, forall_eq_or_imp, Int.reduceToNat, Int.reduceLT, Int.reduceLE, ↓List.forall_mem_cons, Nat.reduceMul, ite_self, forall_const, implies_true, Op.operands, avT0, avT1, hN, hP, hG, hR.1, hR.2.1, hR.2.2.1, tiA]
      first | exact ⟨rfl, rfl⟩ | ((repeat' first | refine And.intro ?_ ?_ | intro _) <;> first | with_reducible rfl | assumption | omega | rfl | (rename_i hq; rw [hq]; rfl) | (simp_all; done))
    refine aw_if _ rfl (fun hb => ?_) (fun hb => ?_) <;> (try simp only [pickB_true, pickB_false, Bool.false_or, Bool.false_and, Bool.true_and, decide_eq_true_eq, decide_eq_false_iff_not, Bool.or_eq_true, Bool.and_eq_true, Bool.or_eq_false_iff, Bool.and_eq_false_imp, Bool.not_eq_true, Bool.not_eq_false, Bool.not_eq_eq_eq_not, Bool.not_true, Bool.not_false, Int.not_lt, Int.not_le, beq_iff_eq, beq_eq_false_iff_ne, bne_iff_ne, bne_eq_false_iff_eq, ne_eq, Bool.true_eq_false, Bool.false_eq_true, if_false_left, if_true_left, Bool.not_eq_eq_eq_not, Bool.decide_eq_true, Classical.not_not] at hb)
    · skip
      have hkk : (k : Int) < mK l i := hb
      have hrl := mRow_len l i k
      have hnr := mN_range l i k
      have hor := mO_range l i k
      have hlr := mL_range l i k
      simp only [mN] at hnr hor
      apply aw_skip
      apply q_seq
      apply aw_seq
      apply aw_block
      apply aw_regs [0, 2, 3, 4, 5, 6, 7, 8, 9] [2, 3, 40, 41, 52, 53, 65, 66]
      · simp (disch := omega) only [avR2, avD, avT2, datsOf, fillA, ↓reduceIte, Nat.reduceEqDiff, Nat.reduceLT, Nat.reduceLeDiff, Nat.reduceAdd, Nat.reduceSub, reduceCtorEq, ne_eq, eq_self, if_true, if_false, forall_eq, forall_eq_or_imp, Int.reduceToNat, Int.reduceLT, Int.reduceLE, ↓List.forall_mem_cons, Nat.reduceMul, ite_self, forall_const, implies_true, Op.operands, avT0, avT1, hN, hP, hG, hR.1, hR.2.1, hR.2.2.1, tiA]
        (repeat' refine And.intro ?_ ?_) <;> try first | omega | assumption | with_reducible rfl | exact rfl | (intro hside; (repeat' refine And.intro ?_ ?_) <;> first | exact hside | omega | (rw [hside]; rfl) | (simp_all; done))
        refine CallC.use (gvF hP hG (at_ok G l (3 + 5 * (i : Int) + (k : Int)) 4096 hl (by omega) i4096)) rfl ?_
        try simp (maxSteps := 2000000) (disch := omega) only [avR2, avD, avT2, datsOf, fillA, ↓reduceIte, Nat.reduceEqDiff, Nat.reduceLT, Nat.reduceLeDiff, Nat.reduceAdd, Nat.reduceSub, reduceCtorEq, ne_eq, eq_self, if_true, if_false, forall_eq, forall_eq_or_imp, Int.reduceToNat, Int.reduceLT, Int.reduceLE, ↓List.forall_mem_cons, Nat.reduceMul, ite_self, forall_const, implies_true, Op.operands, avT0, avT1, hN, hP, hG, hR.1, hR.2.1, hR.2.2.1, tiA]
        first | exact ⟨rfl, rfl⟩ | ((repeat' first | refine And.intro ?_ ?_ | intro _) <;> first | with_reducible rfl | assumption | omega | rfl | (rename_i hq; rw [hq]; rfl) | (simp_all; done))
      apply aw_regs [0, 2, 3, 4, 5, 6, 7, 8, 9] [2, 3, 40, 41, 52, 53, 65, 66]
      · simp (disch := omega) only [avR2, avD, avT2, datsOf, fillA, ↓reduceIte, Nat.reduceEqDiff, Nat.reduceLT, Nat.reduceLeDiff, Nat.reduceAdd, Nat.reduceSub, reduceCtorEq, ne_eq, eq_self, if_true, if_false, forall_eq, forall_eq_or_imp, Int.reduceToNat, Int.reduceLT, Int.reduceLE, ↓List.forall_mem_cons, Nat.reduceMul, ite_self, forall_const, implies_true, Op.operands, avT0, avT1, hN, hP, hG, hR.1, hR.2.1, hR.2.2.1, tiA, mRow_len]
        first | exact ⟨rfl, rfl⟩ | ((repeat' first | refine And.intro ?_ ?_ | intro _) <;> first | with_reducible rfl | assumption | omega | rfl | (rename_i hq; rw [hq]; rfl) | (simp_all; done))
      apply aw_reg [0, 2, 3, 4, 5, 6, 7, 8] [2, 3, 40, 41, 52, 53, 65, 66]
      · simp (disch := omega) only [avR2, avD, avT2, datsOf, fillA, ↓reduceIte, Nat.reduceEqDiff, Nat.reduceLT, Nat.reduceLeDiff, Nat.reduceAdd, Nat.reduceSub, reduceCtorEq, ne_eq, eq_self, if_true, if_false, forall_eq, forall_eq_or_imp, Int.reduceToNat, Int.reduceLT, Int.reduceLE, ↓List.forall_mem_cons, Nat.reduceMul, ite_self, forall_const, implies_true, Op.operands, avT0, avT1, hN, hP, hG, hR.1, hR.2.1, hR.2.2.1, tiA]
        first | exact ⟨rfl, rfl⟩ | ((repeat' first | refine And.intro ?_ ?_ | intro _) <;> first | with_reducible rfl | assumption | omega | rfl | (rename_i hq; rw [hq]; rfl) | (simp_all; done))
      apply q_block
      apply q_seq
      apply aw_reg [0, 2, 3, 4, 5, 6, 7, 8] [2, 3, 40, 41, 52, 53, 65, 66]
      · simp (disch := omega) only [avR2, avD, avT2, datsOf, fillA, ↓reduceIte, Nat.reduceEqDiff, Nat.reduceLT, Nat.reduceLeDiff, Nat.reduceAdd, Nat.reduceSub, reduceCtorEq, ne_eq, eq_self, if_true, if_false, forall_eq, forall_eq_or_imp, Int.reduceToNat, Int.reduceLT, Int.reduceLE, ↓List.forall_mem_cons, Nat.reduceMul, ite_self, forall_const, implies_true, Op.operands, avT0, avT1, hN, hP, hG, hR.1, hR.2.1, hR.2.2.1, tiA]
        first | exact ⟨rfl, rfl⟩ | ((repeat' first | refine And.intro ?_ ?_ | intro _) <;> first | with_reducible rfl | assumption | omega | rfl | (rename_i hq; rw [hq]; rfl) | (simp_all; done))
      refine q_loop (⟨k + 1, by omega⟩) (Le.of ?_ ?_) (by dsimp only; omega)
      · try simp (disch := omega) only [LeE, LeO, avD, avT2, datsOf, fillA, ↓reduceIte, Nat.reduceEqDiff, Nat.reduceLT, Nat.reduceLeDiff, Nat.reduceAdd, Nat.reduceSub, reduceCtorEq, ne_eq, eq_self, if_true, if_false, forall_eq, forall_eq_or_imp, Int.reduceToNat, Int.reduceLT, Int.reduceLE, ↓List.forall_mem_cons, Nat.reduceMul, ite_self, forall_const, implies_true, Op.operands, avT0, avT1, mRow_zero, mRow_succ, mO, mL, mN, mRow_len]
        all_goals first | done | (repeat' apply And.intro) <;> first | rfl | omega | assumption | (simp only [AV.dat.injEq, Dat.int.injEq, true_and]; omega) | (congr <;> omega)
      · try simp (disch := omega) only [LeE, LeO, avD, avT2, datsOf, fillA, ↓reduceIte, Nat.reduceEqDiff, Nat.reduceLT, Nat.reduceLeDiff, Nat.reduceAdd, Nat.reduceSub, reduceCtorEq, ne_eq, eq_self, if_true, if_false, forall_eq, forall_eq_or_imp, Int.reduceToNat, Int.reduceLT, Int.reduceLE, ↓List.forall_mem_cons, Nat.reduceMul, ite_self, forall_const, implies_true, Op.operands, avT0, avT1, mRow_zero, mRow_succ, mO, mL, mN, mRow_len]
        all_goals first | done | (repeat' apply And.intro) <;> first | rfl | omega | assumption | (simp only [AV.dat.injEq, Dat.int.injEq, true_and]; omega) | (congr <;> omega)
    · skip
      have hkk : k = (mK l i).toNat := by
        have : mK l i ≤ (k : Int) := hb
        omega
      subst hkk
      have hrl := mRow_len l i (mK l i).toNat
      have hlr := mL_range l i (mK l i).toNat
      have h6 := at6 l i
      refine aw_frz 41 hR.2.2.2 rfl (datE_map _) ?_
      apply aw_exit
      apply q_exit_seq
      apply q_exit_loop
      apply q_exit
      apply q_seq
      apply aw_regs [0, 2, 3, 4, 5, 6] [2, 3, 40, 41, 52, 53, 65, 66]
      · simp (disch := omega) only [avR2, avD, avT2, datsOf, fillA, ↓reduceIte, Nat.reduceEqDiff, Nat.reduceLT, Nat.reduceLeDiff, Nat.reduceAdd, Nat.reduceSub, reduceCtorEq, ne_eq, eq_self, if_true, if_false, forall_eq, forall_eq_or_imp, Int.reduceToNat, Int.reduceLT, Int.reduceLE, ↓List.forall_mem_cons, Nat.reduceMul, ite_self, forall_const, implies_true, Op.operands, avT0, avT1, hN, hP, hG, hR.1, hR.2.1, hR.2.2.1, tiA, mRow_len]
        first | exact ⟨rfl, rfl⟩ | ((repeat' first | refine And.intro ?_ ?_ | intro _) <;> first | with_reducible rfl | assumption | omega | rfl | (rename_i hq; rw [hq]; rfl) | (simp_all; done))
      apply aw_regs [0, 2, 3, 4, 5] [2, 3, 40, 41, 52, 53, 65, 66]
      · simp (disch := omega) only [avR2, avD, avT2, datsOf, fillA, ↓reduceIte, Nat.reduceEqDiff, Nat.reduceLT, Nat.reduceLeDiff, Nat.reduceAdd, Nat.reduceSub, reduceCtorEq, ne_eq, eq_self, if_true, if_false, forall_eq, forall_eq_or_imp, Int.reduceToNat, Int.reduceLT, Int.reduceLE, ↓List.forall_mem_cons, Nat.reduceMul, ite_self, forall_const, implies_true, Op.operands, avT0, avT1, hN, hP, hG, hR.1, hR.2.1, hR.2.2.1, tiA, mItems_len]
        first | exact ⟨rfl, rfl⟩ | ((repeat' first | refine And.intro ?_ ?_ | intro _) <;> first | with_reducible rfl | assumption | omega | rfl | (rename_i hq; rw [hq]; rfl) | (simp_all; done))
      apply aw_rgd [0, 2, 3, 4, 5] [2, 3, 40, 41, 52, 53, 65, 66] [0, 1, 2, 3, 4, 5, 6, 7, 8, 9, 10, 11, 12, 13] []
      · rw [hP]; kernel_rfl
      · exact hR
      · kernel_rfl
      · (repeat (apply PickL.cons; exact rfl)); exact PickL.nil _
      · simp (maxSteps := 2000000) (disch := omega) only [avR2, avD, avT2, datsOf, fillA, ↓reduceIte, Nat.reduceEqDiff, Nat.reduceLT, Nat.reduceLeDiff, Nat.reduceAdd, Nat.reduceSub, reduceCtorEq, ne_eq, eq_self, if_true, if_false, forall_eq, forall_eq_or_imp, Int.reduceToNat, Int.reduceLT, Int.reduceLE, ↓List.forall_mem_cons, Nat.reduceMul, ite_self, forall_const, implies_true, Op.operands, avT0, avT1, hN, hP, hG, hR.1, hR.2.1, hR.2.2.1, tiA, mWs_len, lit6]
        (repeat' refine And.intro ?_ ?_) <;> try first | omega | assumption | with_reducible rfl | exact rfl | (intro hside; (repeat' refine And.intro ?_ ?_) <;> first | exact hside | omega | (rw [hside]; rfl) | (simp_all; done))
        refine CallC.use (gvF hP hG (at_ok G l (7 + 5 * (i : Int)) 6 hl (by omega) i6)) rfl ?_
        try simp (maxSteps := 2000000) (disch := omega) only [avR2, avD, avT2, datsOf, fillA, ↓reduceIte, Nat.reduceEqDiff, Nat.reduceLT, Nat.reduceLeDiff, Nat.reduceAdd, Nat.reduceSub, reduceCtorEq, ne_eq, eq_self, if_true, if_false, forall_eq, forall_eq_or_imp, Int.reduceToNat, Int.reduceLT, Int.reduceLE, ↓List.forall_mem_cons, Nat.reduceMul, ite_self, forall_const, implies_true, Op.operands, avT0, avT1, hN, hP, hG, hR.1, hR.2.1, hR.2.2.1, tiA, lit6, mWs_len]
        first | exact ⟨rfl, rfl⟩ | ((repeat' first | refine And.intro ?_ ?_ | intro _) <;> first | with_reducible rfl | assumption | omega | rfl | (rename_i hq; rw [hq]; rfl) | (simp_all; done))
      apply q_block
      apply q_seq
      apply aw_reg [0, 2, 3, 4, 5] [2, 3, 40, 41, 52, 53, 65, 66]
      · simp (disch := omega) only [avR2, avD, avT2, datsOf, fillA, ↓reduceIte, Nat.reduceEqDiff, Nat.reduceLT, Nat.reduceLeDiff, Nat.reduceAdd, Nat.reduceSub, reduceCtorEq, ne_eq, eq_self, if_true, if_false, forall_eq, forall_eq_or_imp, Int.reduceToNat, Int.reduceLT, Int.reduceLE, ↓List.forall_mem_cons, Nat.reduceMul, ite_self, forall_const, implies_true, Op.operands, avT0, avT1, hN, hP, hG, hR.1, hR.2.1, hR.2.2.1, tiA]
        first | exact ⟨rfl, rfl⟩ | ((repeat' first | refine And.intro ?_ ?_ | intro _) <;> first | with_reducible rfl | assumption | omega | rfl | (rename_i hq; rw [hq]; rfl) | (simp_all; done))
      refine q_loop (⟨i + 1, by omega⟩) (Le.of ?_ ?_) (by dsimp only; omega)
      · try simp (disch := omega) only [LeE, LeO, avD, avT2, datsOf, fillA, ↓reduceIte, Nat.reduceEqDiff, Nat.reduceLT, Nat.reduceLeDiff, Nat.reduceAdd, Nat.reduceSub, reduceCtorEq, ne_eq, eq_self, if_true, if_false, forall_eq, forall_eq_or_imp, Int.reduceToNat, Int.reduceLT, Int.reduceLE, ↓List.forall_mem_cons, Nat.reduceMul, ite_self, forall_const, implies_true, Op.operands, avT0, avT1, mItems_zero, mWs_zero, mItems_succ, mWs_succ, mF, mItems_len, mWs_len]
        all_goals first | done | (repeat' apply And.intro) <;> first | rfl | omega | assumption | (simp only [AV.dat.injEq, Dat.int.injEq, true_and]; omega) | (congr <;> omega)
      · try simp (disch := omega) only [LeE, LeO, avD, avT2, datsOf, fillA, ↓reduceIte, Nat.reduceEqDiff, Nat.reduceLT, Nat.reduceLeDiff, Nat.reduceAdd, Nat.reduceSub, reduceCtorEq, ne_eq, eq_self, if_true, if_false, forall_eq, forall_eq_or_imp, Int.reduceToNat, Int.reduceLT, Int.reduceLE, ↓List.forall_mem_cons, Nat.reduceMul, ite_self, forall_const, implies_true, Op.operands, avT0, avT1, mItems_zero, mWs_zero, mItems_succ, mWs_succ, mF, mItems_len, mWs_len]
        all_goals first | done | (repeat' apply And.intro) <;> first | rfl | omega | assumption | (simp only [AV.dat.injEq, Dat.int.injEq, true_and]; omega) | (congr <;> omega)
  · skip
    have hii : i = (mCnt l).toNat := by
      have : mCnt l ≤ (i : Int) := hb
      omega
    subst hii
    have hfr := mF_range l (mCnt l).toNat
    have har := atM_range (l := l) (i := 1) (m := 16) (by omega)
    apply aw_exit
    apply q_exit_seq
    apply q_exit_loop
    apply q_exit
    apply q_seq
    apply aw_regs [2, 3] [2, 3, 40, 41, 52, 53, 65, 66]
    · simp (disch := omega) only [avR2, avD, avT2, datsOf, fillA, ↓reduceIte, Nat.reduceEqDiff, Nat.reduceLT, Nat.reduceLeDiff, Nat.reduceAdd, Nat.reduceSub, reduceCtorEq, ne_eq, eq_self, if_true, if_false, forall_eq, forall_eq_or_imp, Int.reduceToNat, Int.reduceLT, Int.reduceLE, ↓List.forall_mem_cons, Nat.reduceMul, ite_self, forall_const, implies_true, Op.operands, avT0, avT1, hN, hP, hG, hR.1, hR.2.1, hR.2.2.1, tiA]
      (repeat' refine And.intro ?_ ?_) <;> try first | omega | assumption | with_reducible rfl | exact rfl | (intro hside; (repeat' refine And.intro ?_ ?_) <;> first | exact hside | omega | (rw [hside]; rfl) | (simp_all; done))
      refine CallC.use (gvF hP hG (at_ok G l 1 16 hl (by omega) i16)) rfl ?_
      try simp (maxSteps := 2000000) (disch := omega) only [avR2, avD, avT2, datsOf, fillA, ↓reduceIte, Nat.reduceEqDiff, Nat.reduceLT, Nat.reduceLeDiff, Nat.reduceAdd, Nat.reduceSub, reduceCtorEq, ne_eq, eq_self, if_true, if_false, forall_eq, forall_eq_or_imp, Int.reduceToNat, Int.reduceLT, Int.reduceLE, ↓List.forall_mem_cons, Nat.reduceMul, ite_self, forall_const, implies_true, Op.operands, avT0, avT1, hN, hP, hG, hR.1, hR.2.1, hR.2.2.1, tiA]
      first | exact ⟨rfl, rfl⟩ | ((repeat' first | refine And.intro ?_ ?_ | intro _) <;> first | with_reducible rfl | assumption | omega | rfl | (rename_i hq; rw [hq]; rfl) | (simp_all; done))
    apply aw_regs [2] [2, 40, 41, 52, 53, 65, 66]
    · simp (disch := omega) only [avR2, avD, avT2, datsOf, fillA, ↓reduceIte, Nat.reduceEqDiff, Nat.reduceLT, Nat.reduceLeDiff, Nat.reduceAdd, Nat.reduceSub, reduceCtorEq, ne_eq, eq_self, if_true, if_false, forall_eq, forall_eq_or_imp, Int.reduceToNat, Int.reduceLT, Int.reduceLE, ↓List.forall_mem_cons, Nat.reduceMul, ite_self, forall_const, implies_true, Op.operands, avT0, avT1, hN, hP, hG, hR.1, hR.2.1, hR.2.2.1, tiA]
      first | exact ⟨rfl, rfl⟩ | ((repeat' first | refine And.intro ?_ ?_ | intro _) <;> first | with_reducible rfl | assumption | omega | rfl | (rename_i hq; rw [hq]; rfl) | (simp_all; done))
    apply aw_ret
    simp only [QRet, QRetM, objsAre, Tryd.results10, resA, mapO_nil, mapO_cons, vD_dat, vD_nils, vD_rp, vD_osl, vD_ptr, vD_agg, vD_fn, vL_dat, vL_app, viewL, avD, avT2, datsOf, fillA, ↓reduceIte, Nat.reduceEqDiff, Nat.reduceLT, Nat.reduceLeDiff, Nat.reduceAdd, Nat.reduceSub, reduceCtorEq, ne_eq, eq_self, if_true, if_false, forall_eq, forall_eq_or_imp, Int.reduceToNat, Int.reduceLT, Int.reduceLE, ↓List.forall_mem_cons, Nat.reduceMul, ite_self, forall_const, implies_true, Op.operands, avT0, avT1, hP, hG, tiA]
    simp [mItems_len, mWs_len, madeM, mRoom, List.take_of_length_le]
    

end Go.Proofs.YthcfjdkflmkhbaaDoor

