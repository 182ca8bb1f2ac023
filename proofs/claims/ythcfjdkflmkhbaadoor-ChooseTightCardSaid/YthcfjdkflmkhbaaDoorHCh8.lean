/- Contracts of what makes a case of the package. -/
import Derived.Test.YthcfjdkflmkhbaaDoorHCh7
set_option linter.all false
namespace Go.Proofs.YthcfjdkflmkhbaaDoor
open Go.Av


theorem own_ok (G) (c : CaseM) (hs : SzC c) : Gives Tryd.prog G 14 [caseD c] [caseD c] := by
  have hni := hs.ni
  have hnw := hs.nw
  refine gives_intro [] [] [10] Tryd.func14 rfl (by rfl) (by simp [Tryd.ntmps14]) fun F hP hG hN hR => ?_
  rw [Tryd.ntmps14] at hN
  apply aw_regs [1, 2] [1, 2, 7, 10, 51, 52, 56, 57]
  · simp (disch := omega) only [avR2, avD, avT2, datsOf, fillA, ↓reduceIte, Nat.reduceEqDiff, Nat.reduceLT, Nat.reduceLeDiff, Nat.reduceAdd, Nat.reduceSub, reduceCtorEq, ne_eq, eq_self, if_true, if_false, forall_eq, forall_eq_or_imp, Int.reduceToNat, Int.reduceLT, Int.reduceLE, ↓List.forall_mem_cons, Nat.reduceMul, ite_self, forall_const, implies_true, Op.operands, avT0, avT1, hN, hP, hG, hR.1, hR.2.1, hR.2.2.1, tiA]
    first | exact ⟨rfl, rfl⟩ | ((repeat' first | refine And.intro ?_ ?_ | intro _) <;> first | with_reducible rfl | assumption | omega | rfl | (rename_i hq; rw [hq]; rfl) | (simp_all; done))
  apply aw_rgds [1, 2, 3] [1, 2, 3, 7, 10, 51, 52, 56, 57] [0, 1, 2, 3, 4, 5, 6, 7, 8] [10, 3]
  · rw [hP]; kernel_rfl
  · exact hR
  · kernel_rfl
  · (repeat (apply PickL.cons; exact rfl)); exact PickL.nil _
  · simp (disch := omega) only [avR2, avD, avT2, datsOf, fillA, ↓reduceIte, Nat.reduceEqDiff, Nat.reduceLT, Nat.reduceLeDiff, Nat.reduceAdd, Nat.reduceSub, reduceCtorEq, ne_eq, eq_self, if_true, if_false, forall_eq, forall_eq_or_imp, Int.reduceToNat, Int.reduceLT, Int.reduceLE, ↓List.forall_mem_cons, Nat.reduceMul, ite_self, forall_const, implies_true, Op.operands, avT0, avT1, hN, hP, hG, hR.1, hR.2.1, hR.2.2.1, tiA]
    first | exact ⟨rfl, rfl⟩ | ((repeat' first | refine And.intro ?_ ?_ | intro _) <;> first | with_reducible rfl | assumption | omega | rfl | (rename_i hq; rw [hq]; rfl) | (simp_all; done))
  apply aw_seq
  apply aw_regs [1, 2, 3, 4] [1, 2, 3, 7, 10, 51, 52, 56, 57]
  · simp (disch := omega) only [avR2, avD, avT2, datsOf, fillA, ↓reduceIte, Nat.reduceEqDiff, Nat.reduceLT, Nat.reduceLeDiff, Nat.reduceAdd, Nat.reduceSub, reduceCtorEq, ne_eq, eq_self, if_true, if_false, forall_eq, forall_eq_or_imp, Int.reduceToNat, Int.reduceLT, Int.reduceLE, ↓List.forall_mem_cons, Nat.reduceMul, ite_self, forall_const, implies_true, Op.operands, avT0, avT1, hN, hP, hG, hR.1, hR.2.1, hR.2.2.1, tiA]
    first | exact ⟨rfl, rfl⟩ | ((repeat' first | refine And.intro ?_ ?_ | intro _) <;> first | with_reducible rfl | assumption | omega | rfl | (rename_i hq; rw [hq]; rfl) | (simp_all; done))
  apply aw_block
  refine aw_new0 57 1 (by omega) ?_
  refine aw_nilO 3 57 1 0 rfl rfl rfl rfl ?_
  refine aw_loop (ι := {i : Nat // i ≤ c.items.length}) (fun ⟨i, hi⟩ => .of [(1, .ptr 1 3 0 0), (2, .ptr 2 3 0 0), (3, .ptr 3 3 0 0), (4, .dat (iD i))] [(1, ⟨3, [.dat (caseD c)]⟩), (2, ⟨3, [.agg [.nils, .nils, .dat (iD 0)]]⟩), (3, ⟨3, [.agg [.osl 57 1 0 i, .osl 10 1 0 c.weights.length, .dat (iD c.room)]]⟩), (10, ⟨1, (c.weights.map iD).map .dat⟩), (57, ⟨1, ((preM c.items i).map osD).map .dat⟩)]) (fun ⟨i, hi⟩ => c.items.length - i) (⟨0, by omega⟩) (Le.of ?_ ?_) fun ix => ?_
  · try simp (disch := omega) only [LeE, LeO, avD, avT2, datsOf, fillA, ↓reduceIte, Nat.reduceEqDiff, Nat.reduceLT, Nat.reduceLeDiff, Nat.reduceAdd, Nat.reduceSub, reduceCtorEq, ne_eq, eq_self, if_true, if_false, forall_eq, forall_eq_or_imp, Int.reduceToNat, Int.reduceLT, Int.reduceLE, ↓List.forall_mem_cons, Nat.reduceMul, ite_self, forall_const, implies_true, Op.operands, avT0, avT1, preM_zero, preM_succ, preM_all, preM_len]
    all_goals first | done | (repeat' apply And.intro) <;> first | rfl | omega | assumption | (simp only [AV.dat.injEq, Dat.int.injEq, true_and]; omega) | (congr <;> omega)
  · try simp (disch := omega) only [LeE, LeO, avD, avT2, datsOf, fillA, ↓reduceIte, Nat.reduceEqDiff, Nat.reduceLT, Nat.reduceLeDiff, Nat.reduceAdd, Nat.reduceSub, reduceCtorEq, ne_eq, eq_self, if_true, if_false, forall_eq, forall_eq_or_imp, Int.reduceToNat, Int.reduceLT, Int.reduceLE, ↓List.forall_mem_cons, Nat.reduceMul, ite_self, forall_const, implies_true, Op.operands, avT0, avT1, preM_zero, preM_succ, preM_all, preM_len]
    all_goals first | done | (repeat' apply And.intro) <;> first | rfl | omega | assumption | (simp only [AV.dat.injEq, Dat.int.injEq, true_and]; omega) | (congr <;> omega)
  obtain ⟨i, hi⟩ := ix
  dsimp only
  apply aw_seq
  apply aw_regs [1, 2, 3, 4, 18] [1, 2, 3, 7, 10, 51, 52, 56, 57]
  · simp (disch := omega) only [avR2, avD, avT2, datsOf, fillA, ↓reduceIte, Nat.reduceEqDiff, Nat.reduceLT, Nat.reduceLeDiff, Nat.reduceAdd, Nat.reduceSub, reduceCtorEq, ne_eq, eq_self, if_true, if_false, forall_eq, forall_eq_or_imp, Int.reduceToNat, Int.reduceLT, Int.reduceLE, ↓List.forall_mem_cons, Nat.reduceMul, ite_self, forall_const, implies_true, Op.operands, avT0, avT1, hN, hP, hG, hR.1, hR.2.1, hR.2.2.1, tiA]
    first | exact ⟨rfl, rfl⟩ | ((repeat' first | refine And.intro ?_ ?_ | intro _) <;> first | with_reducible rfl | assumption | omega | rfl | (rename_i hq; rw [hq]; rfl) | (simp_all; done))
  refine aw_if _ rfl (fun hb => ?_) (fun hb => ?_) <;> (try simp only [pickB_true, pickB_false, Bool.false_or, Bool.false_and, Bool.true_and, decide_eq_true_eq, decide_eq_false_iff_not, Bool.or_eq_true, Bool.and_eq_true, Bool.or_eq_false_iff, Bool.and_eq_false_imp, Bool.not_eq_true, Bool.not_eq_false, Bool.not_eq_eq_eq_not, Bool.not_true, Bool.not_false, Int.not_lt, Int.not_le, beq_iff_eq, beq_eq_false_iff_ne, bne_iff_ne, bne_eq_false_iff_eq, ne_eq, Bool.true_eq_false, Bool.false_eq_true, if_false_left, if_true_left, Bool.not_eq_eq_eq_not, Bool.decide_eq_true, Classical.not_not] at hb)
  · skip
    have hli := hs.nl i (by omega)
    simp only [itemM] at hli
    have hpl := preM_len c.items i (by omega)
    apply aw_skip
    apply q_seq
    apply aw_seq
    apply aw_block
    apply aw_regs [1, 2, 3, 4, 5] [1, 2, 3, 7, 10, 51, 52, 56, 57]
    · simp (disch := omega) only [avR2, avD, avT2, datsOf, fillA, ↓reduceIte, Nat.reduceEqDiff, Nat.reduceLT, Nat.reduceLeDiff, Nat.reduceAdd, Nat.reduceSub, reduceCtorEq, ne_eq, eq_self, if_true, if_false, forall_eq, forall_eq_or_imp, Int.reduceToNat, Int.reduceLT, Int.reduceLE, ↓List.forall_mem_cons, Nat.reduceMul, ite_self, forall_const, implies_true, Op.operands, avT0, avT1, hN, hP, hG, hR.1, hR.2.1, hR.2.2.1, tiA]
      first | exact ⟨rfl, rfl⟩ | ((repeat' first | refine And.intro ?_ ?_ | intro _) <;> first | with_reducible rfl | assumption | omega | rfl | (rename_i hq; rw [hq]; rfl) | (simp_all; done))
    apply aw_seq
    apply aw_regs [1, 2, 3, 4, 5, 6] [1, 2, 3, 7, 10, 51, 52, 56, 57]
    · simp (disch := omega) only [avR2, avD, avT2, datsOf, fillA, ↓reduceIte, Nat.reduceEqDiff, Nat.reduceLT, Nat.reduceLeDiff, Nat.reduceAdd, Nat.reduceSub, reduceCtorEq, ne_eq, eq_self, if_true, if_false, forall_eq, forall_eq_or_imp, Int.reduceToNat, Int.reduceLT, Int.reduceLE, ↓List.forall_mem_cons, Nat.reduceMul, ite_self, forall_const, implies_true, Op.operands, avT0, avT1, hN, hP, hG, hR.1, hR.2.1, hR.2.2.1, tiA]
      first | exact ⟨rfl, rfl⟩ | ((repeat' first | refine And.intro ?_ ?_ | intro _) <;> first | with_reducible rfl | assumption | omega | rfl | (rename_i hq; rw [hq]; rfl) | (simp_all; done))
    apply aw_block
    refine aw_new0 52 2 (by omega) ?_
    refine aw_nilE 5 52 2 rfl rfl ?_
    refine aw_loop (ι := {k : Nat // k ≤ (c.items.getD i default).length}) (fun ⟨k, hk⟩ => .of [(1, .ptr 1 3 0 0), (2, .ptr 2 3 0 0), (3, .ptr 3 3 0 0), (4, .dat (iD i)), (5, .osl 52 2 0 k), (6, .dat (iD k))] [(1, ⟨3, [.dat (caseD c)]⟩), (2, ⟨3, [.agg [.nils, .nils, .dat (iD 0)]]⟩), (3, ⟨3, [.agg [.osl 57 1 0 i, .osl 10 1 0 c.weights.length, .dat (iD c.room)]]⟩), (10, ⟨1, (c.weights.map iD).map .dat⟩), (57, ⟨1, ((preM c.items i).map osD).map .dat⟩), (52, ⟨2, ((preM (c.items.getD i default) k).map oD).map .dat⟩)]) (fun ⟨k, hk⟩ => (c.items.getD i default).length - k) (⟨0, by omega⟩) (Le.of ?_ ?_) fun ix => ?_
    · try simp (disch := omega) only [LeE, LeO, avD, avT2, datsOf, fillA, ↓reduceIte, Nat.reduceEqDiff, Nat.reduceLT, Nat.reduceLeDiff, Nat.reduceAdd, Nat.reduceSub, reduceCtorEq, ne_eq, eq_self, if_true, if_false, forall_eq, forall_eq_or_imp, Int.reduceToNat, Int.reduceLT, Int.reduceLE, ↓List.forall_mem_cons, Nat.reduceMul, ite_self, forall_const, implies_true, Op.operands, avT0, avT1, preM_zero, preM_succ, preM_all, preM_len]
      all_goals first | done | (repeat' apply And.intro) <;> first | rfl | omega | assumption | (simp only [AV.dat.injEq, Dat.int.injEq, true_and]; omega) | (congr <;> omega)
    · try simp (disch := omega) only [LeE, LeO, avD, avT2, datsOf, fillA, ↓reduceIte, Nat.reduceEqDiff, Nat.reduceLT, Nat.reduceLeDiff, Nat.reduceAdd, Nat.reduceSub, reduceCtorEq, ne_eq, eq_self, if_true, if_false, forall_eq, forall_eq_or_imp, Int.reduceToNat, Int.reduceLT, Int.reduceLE, ↓List.forall_mem_cons, Nat.reduceMul, ite_self, forall_const, implies_true, Op.operands, avT0, avT1, preM_zero, preM_succ, preM_all, preM_len]
      all_goals first | done | (repeat' apply And.intro) <;> first | rfl | omega | assumption | (simp only [AV.dat.injEq, Dat.int.injEq, true_and]; omega) | (congr <;> omega)
    obtain ⟨k, hk⟩ := ix
    dsimp only
    apply aw_seq
    apply aw_regs [1, 2, 3, 4, 5, 6, 28] [1, 2, 3, 7, 10, 51, 52, 56, 57]
    · simp (disch := omega) only [avR2, avD, avT2, datsOf, fillA, ↓reduceIte, Nat.reduceEqDiff, Nat.reduceLT, Nat.reduceLeDiff, Nat.reduceAdd, Nat.reduceSub, reduceCtorEq, ne_eq, eq_self, if_true, if_false, forall_eq, forall_eq_or_imp, Int.reduceToNat, Int.reduceLT, Int.reduceLE, ↓List.forall_mem_cons, Nat.reduceMul, ite_self, forall_const, implies_true, Op.operands, avT0, avT1, hN, hP, hG, hR.1, hR.2.1, hR.2.2.1, tiA]
      first | exact ⟨rfl, rfl⟩ | ((repeat' first | refine And.intro ?_ ?_ | intro _) <;> first | with_reducible rfl | assumption | omega | rfl | (rename_i hq; rw [hq]; rfl) | (simp_all; done))
    refine aw_if _ rfl (fun hb => ?_) (fun hb => ?_) <;> (try simp only [pickB_true, pickB_false, Bool.false_or, Bool.false_and, Bool.true_and, decide_eq_true_eq, decide_eq_false_iff_not, Bool.or_eq_true, Bool.and_eq_true, Bool.or_eq_false_iff, Bool.and_eq_false_imp, Bool.not_eq_true, Bool.not_eq_false, Bool.not_eq_eq_eq_not, Bool.not_true, Bool.not_false, Int.not_lt, Int.not_le, beq_iff_eq, beq_eq_false_iff_ne, bne_iff_ne, bne_eq_false_iff_eq, ne_eq, Bool.true_eq_false, Bool.false_eq_true, if_false_left, if_true_left, Bool.not_eq_eq_eq_not, Bool.decide_eq_true, Classical.not_not] at hb)
    · skip
      have hpk := preM_len (c.items.getD i default) k (by omega)
      apply aw_skip
      apply q_seq
      apply aw_seq
      apply aw_block
      apply aw_rgd [1, 2, 3, 4, 5, 6] [1, 2, 3, 7, 10, 51, 52, 56, 57] [0, 1, 2, 3, 4, 5, 6, 7, 8, 9, 10, 11, 12, 13, 14, 15, 16, 17, 18, 19, 20, 21, 22] []
      · rw [hP]; kernel_rfl
      · exact hR
      · kernel_rfl
      · (repeat (apply PickL.cons; exact rfl)); exact PickL.nil _
      · simp (maxSteps := 2000000) (disch := omega) only [avR2, avD, avT2, datsOf, fillA, ↓reduceIte, Nat.reduceEqDiff, Nat.reduceLT, Nat.reduceLeDiff, Nat.reduceAdd, Nat.reduceSub, reduceCtorEq, ne_eq, eq_self, if_true, if_false, forall_eq, forall_eq_or_imp, Int.reduceToNat, Int.reduceLT, Int.reduceLE, ↓List.forall_mem_cons, Nat.reduceMul, ite_self, forall_const, implies_true, Op.operands, avT0, avT1, hN, hP, hG, hR.1, hR.2.1, hR.2.2.1, tiA, preM_len]
        first | exact ⟨rfl, rfl⟩ | ((repeat' first | refine And.intro ?_ ?_ | intro _) <;> first | with_reducible rfl | assumption | omega | rfl | (rename_i hq; rw [hq]; rfl) | (simp_all; done))
      apply q_block
      apply q_seq
      apply aw_reg [1, 2, 3, 4, 5, 6] [1, 2, 3, 7, 10, 51, 52, 56, 57]
      · simp (disch := omega) only [avR2, avD, avT2, datsOf, fillA, ↓reduceIte, Nat.reduceEqDiff, Nat.reduceLT, Nat.reduceLeDiff, Nat.reduceAdd, Nat.reduceSub, reduceCtorEq, ne_eq, eq_self, if_true, if_false, forall_eq, forall_eq_or_imp, Int.reduceToNat, Int.reduceLT, Int.reduceLE, ↓List.forall_mem_cons, Nat.reduceMul, ite_self, forall_const, implies_true, Op.operands, avT0, avT1, hN, hP, hG, hR.1, hR.2.1, hR.2.2.1, tiA]
        first | exact ⟨rfl, rfl⟩ | ((repeat' first | refine And.intro ?_ ?_ | intro _) <;> first | with_reducible rfl | assumption | omega | rfl | (rename_i hq; rw [hq]; rfl) | (simp_all; done))
      refine q_loop (⟨k + 1, by omega⟩) (Le.of ?_ ?_) (by dsimp only; omega)
      · try simp (disch := omega) only [LeE, LeO, avD, avT2, datsOf, fillA, ↓reduceIte, Nat.reduceEqDiff, Nat.reduceLT, Nat.reduceLeDiff, Nat.reduceAdd, Nat.reduceSub, reduceCtorEq, ne_eq, eq_self, if_true, if_false, forall_eq, forall_eq_or_imp, Int.reduceToNat, Int.reduceLT, Int.reduceLE, ↓List.forall_mem_cons, Nat.reduceMul, ite_self, forall_const, implies_true, Op.operands, avT0, avT1, preM_zero, preM_succ, preM_all, preM_len]
        all_goals first | done | (repeat' apply And.intro) <;> first | rfl | omega | assumption | (simp only [AV.dat.injEq, Dat.int.injEq, true_and]; omega) | (congr <;> omega)
      · try simp (disch := omega) only [LeE, LeO, avD, avT2, datsOf, fillA, ↓reduceIte, Nat.reduceEqDiff, Nat.reduceLT, Nat.reduceLeDiff, Nat.reduceAdd, Nat.reduceSub, reduceCtorEq, ne_eq, eq_self, if_true, if_false, forall_eq, forall_eq_or_imp, Int.reduceToNat, Int.reduceLT, Int.reduceLE, ↓List.forall_mem_cons, Nat.reduceMul, ite_self, forall_const, implies_true, Op.operands, avT0, avT1, preM_zero, preM_succ, preM_all, preM_len]
        all_goals first | done | (repeat' apply And.intro) <;> first | rfl | omega | assumption | (simp only [AV.dat.injEq, Dat.int.injEq, true_and]; omega) | (congr <;> omega)
    · skip
      have hkk : k = (c.items.getD i default).length := by omega
      subst hkk
      refine aw_frz 52 hR.2.2.2 rfl (datE_map _) ?_
      apply aw_exit
      apply q_exit_seq
      apply q_exit_loop
      apply q_exit
      apply q_seq
      apply aw_reg [1, 2, 3, 4] [1, 2, 3, 7, 10, 51, 52, 56, 57]
      · simp (disch := omega) only [avR2, avD, avT2, datsOf, fillA, ↓reduceIte, Nat.reduceEqDiff, Nat.reduceLT, Nat.reduceLeDiff, Nat.reduceAdd, Nat.reduceSub, reduceCtorEq, ne_eq, eq_self, if_true, if_false, forall_eq, forall_eq_or_imp, Int.reduceToNat, Int.reduceLT, Int.reduceLE, ↓List.forall_mem_cons, Nat.reduceMul, ite_self, forall_const, implies_true, Op.operands, avT0, avT1, hN, hP, hG, hR.1, hR.2.1, hR.2.2.1, tiA, preM_len, preM_all]
        first | exact ⟨rfl, rfl⟩ | ((repeat' first | refine And.intro ?_ ?_ | intro _) <;> first | with_reducible rfl | assumption | omega | rfl | (rename_i hq; rw [hq]; rfl) | (simp_all; done))
      apply q_block
      apply q_seq
      apply aw_reg [1, 2, 3, 4] [1, 2, 3, 7, 10, 51, 52, 56, 57]
      · simp (disch := omega) only [avR2, avD, avT2, datsOf, fillA, ↓reduceIte, Nat.reduceEqDiff, Nat.reduceLT, Nat.reduceLeDiff, Nat.reduceAdd, Nat.reduceSub, reduceCtorEq, ne_eq, eq_self, if_true, if_false, forall_eq, forall_eq_or_imp, Int.reduceToNat, Int.reduceLT, Int.reduceLE, ↓List.forall_mem_cons, Nat.reduceMul, ite_self, forall_const, implies_true, Op.operands, avT0, avT1, hN, hP, hG, hR.1, hR.2.1, hR.2.2.1, tiA]
        first | exact ⟨rfl, rfl⟩ | ((repeat' first | refine And.intro ?_ ?_ | intro _) <;> first | with_reducible rfl | assumption | omega | rfl | (rename_i hq; rw [hq]; rfl) | (simp_all; done))
      refine q_loop (⟨i + 1, by omega⟩) (Le.of ?_ ?_) (by dsimp only; omega)
      · try simp (disch := omega) only [LeE, LeO, avD, avT2, datsOf, fillA, ↓reduceIte, Nat.reduceEqDiff, Nat.reduceLT, Nat.reduceLeDiff, Nat.reduceAdd, Nat.reduceSub, reduceCtorEq, ne_eq, eq_self, if_true, if_false, forall_eq, forall_eq_or_imp, Int.reduceToNat, Int.reduceLT, Int.reduceLE, ↓List.forall_mem_cons, Nat.reduceMul, ite_self, forall_const, implies_true, Op.operands, avT0, avT1, preM_zero, preM_succ, preM_all, preM_len]
        all_goals first | done | (repeat' apply And.intro) <;> first | rfl | omega | assumption | (simp only [AV.dat.injEq, Dat.int.injEq, true_and]; omega) | (congr <;> omega)
      · try simp (disch := omega) only [LeE, LeO, avD, avT2, datsOf, fillA, ↓reduceIte, Nat.reduceEqDiff, Nat.reduceLT, Nat.reduceLeDiff, Nat.reduceAdd, Nat.reduceSub, reduceCtorEq, ne_eq, eq_self, if_true, if_false, forall_eq, forall_eq_or_imp, Int.reduceToNat, Int.reduceLT, Int.reduceLE, ↓List.forall_mem_cons, Nat.reduceMul, ite_self, forall_const, implies_true, Op.operands, avT0, avT1, preM_zero, preM_succ, preM_all, preM_len]
        all_goals first | done | (repeat' apply And.intro) <;> first | rfl | omega | assumption | (simp only [AV.dat.injEq, Dat.int.injEq, true_and]; omega) | (congr <;> omega)
  · skip
    have hii : i = c.items.length := by omega
    subst hii
    apply aw_exit
    apply q_exit_seq
    apply q_exit_loop
    apply q_exit
    apply q_seq
    apply aw_regs [2] [2, 7, 10, 51, 52, 56, 57]
    · simp (disch := omega) only [avR2, avD, avT2, datsOf, fillA, ↓reduceIte, Nat.reduceEqDiff, Nat.reduceLT, Nat.reduceLeDiff, Nat.reduceAdd, Nat.reduceSub, reduceCtorEq, ne_eq, eq_self, if_true, if_false, forall_eq, forall_eq_or_imp, Int.reduceToNat, Int.reduceLT, Int.reduceLE, ↓List.forall_mem_cons, Nat.reduceMul, ite_self, forall_const, implies_true, Op.operands, avT0, avT1, hN, hP, hG, hR.1, hR.2.1, hR.2.2.1, tiA]
      first | exact ⟨rfl, rfl⟩ | ((repeat' first | refine And.intro ?_ ?_ | intro _) <;> first | with_reducible rfl | assumption | omega | rfl | (rename_i hq; rw [hq]; rfl) | (simp_all; done))
    apply aw_ret
    simp only [QRet, QRetM, objsAre, Tryd.results14, resA, mapO_nil, mapO_cons, vD_dat, vD_nils, vD_rp, vD_osl, vD_ptr, vD_agg, vD_fn, vL_dat, vL_app, viewL, avD, avT2, datsOf, fillA, ↓reduceIte, Nat.reduceEqDiff, Nat.reduceLT, Nat.reduceLeDiff, Nat.reduceAdd, Nat.reduceSub, reduceCtorEq, ne_eq, eq_self, if_true, if_false, forall_eq, forall_eq_or_imp, Int.reduceToNat, Int.reduceLT, Int.reduceLE, ↓List.forall_mem_cons, Nat.reduceMul, ite_self, forall_const, implies_true, Op.operands, avT0, avT1, hP, hG, tiA]
    simp [preM_all]
    

end Go.Proofs.YthcfjdkflmkhbaaDoor

