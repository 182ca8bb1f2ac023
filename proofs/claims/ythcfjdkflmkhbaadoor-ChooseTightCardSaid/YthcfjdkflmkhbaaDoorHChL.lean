/- The contract of Least. -/
import Derived.Test.YthcfjdkflmkhbaaDoorHCh16
import Derived.Test.YthcfjdkflmkhbaaDoorHChA
set_option linter.all false
namespace Go.Proofs.YthcfjdkflmkhbaaDoor
open Go.Av


theorem least_ok (G) (c : CaseM) (i : Nat) (p q : Int) (hc : OkC c) (hpq : okPQ p q) (hi : i < c.items.length) : Gives Tryd.prog G 31 [caseD c, iD i, iD p, iD q] [iD (minV c p q i (c.items.getD i default).length)] := by
  have hst : (0 : Nat) = 0 := rfl
  have hn := hc.n64
  have hwl := hc.wl
  have hi8 := hc.n8 i hi
  have hi1 := hc.n1 i hi
  have hw := hc.w i hi
  have hpq' := hpq
  unfold okPQ at hpq'
  simp only [itemM, weightM] at hi8 hi1 hw
  refine gives_intro [] [] [] Tryd.func31 rfl (by rfl) (by simp [Tryd.ntmps31]) fun F hP hG hN hR => ?_
  rw [Tryd.ntmps31] at hN
  apply aw_regs [1, 2, 3, 4] [4]
  · simp (disch := omega) only [avR2, avD, avT2, datsOf, fillA, ↓reduceIte, Nat.reduceEqDiff, Nat.reduceLT, Nat.reduceLeDiff, Nat.reduceAdd, Nat.reduceSub, reduceCtorEq, ne_eq, eq_self, if_true, if_false, forall_eq, forall_eq_or_imp, Int.reduceToNat, Int.reduceLT, Int.reduceLE, ↓List.forall_mem_cons, Nat.reduceMul, ite_self, forall_const, implies_true, Op.operands, avT0, avT1, hN, hP, hG, hR.1, hR.2.1, hR.2.2.1, tiA]
    first | exact ⟨rfl, rfl⟩ | ((repeat' first | refine And.intro ?_ ?_ | intro _) <;> first | with_reducible rfl | assumption | omega | rfl | (rename_i hq; rw [hq]; rfl) | (simp_all; done))
  apply aw_regs [1, 2, 3, 4, 9] [4]
  · simp (disch := omega) only [avR2, avD, avT2, datsOf, fillA, ↓reduceIte, Nat.reduceEqDiff, Nat.reduceLT, Nat.reduceLeDiff, Nat.reduceAdd, Nat.reduceSub, reduceCtorEq, ne_eq, eq_self, if_true, if_false, forall_eq, forall_eq_or_imp, Int.reduceToNat, Int.reduceLT, Int.reduceLE, ↓List.forall_mem_cons, Nat.reduceMul, ite_self, forall_const, implies_true, Op.operands, avT0, avT1, hN, hP, hG, hR.1, hR.2.1, hR.2.2.1, tiA]
    first | exact ⟨rfl, rfl⟩ | ((repeat' first | refine And.intro ?_ ?_ | intro _) <;> first | with_reducible rfl | assumption | omega | rfl | (rename_i hq; rw [hq]; rfl) | (simp_all; done))
  apply aw_seq
  apply aw_regs [1, 2, 3, 4, 9, 10] [4]
  · simp (disch := omega) only [avR2, avD, avT2, datsOf, fillA, ↓reduceIte, Nat.reduceEqDiff, Nat.reduceLT, Nat.reduceLeDiff, Nat.reduceAdd, Nat.reduceSub, reduceCtorEq, ne_eq, eq_self, if_true, if_false, forall_eq, forall_eq_or_imp, Int.reduceToNat, Int.reduceLT, Int.reduceLE, ↓List.forall_mem_cons, Nat.reduceMul, ite_self, forall_const, implies_true, Op.operands, avT0, avT1, hN, hP, hG, hR.1, hR.2.1, hR.2.2.1, tiA]
    first | exact ⟨rfl, rfl⟩ | ((repeat' first | refine And.intro ?_ ?_ | intro _) <;> first | with_reducible rfl | assumption | omega | rfl | (rename_i hq; rw [hq]; rfl) | (simp_all; done))
  apply aw_block
  refine aw_loop (ι := {k : Nat // k ≤ (c.items.getD i default).length}) (fun ⟨k, hk⟩ => .of [(1, .dat (iD i)), (2, .dat (iD p)), (3, .dat (iD q)), (4, .ptr 4 3 0 0), (9, .dat (iD (lsN c p q i k))), (10, .dat (iD k))] [(4, ⟨3, [.dat (caseD c)]⟩)]) (fun ⟨k, hk⟩ => (c.items.getD i default).length - k) (⟨0, by omega⟩) (Le.of ?_ ?_) fun ix => ?_
  · try simp (disch := omega) only [LeE, LeO, avD, avT2, datsOf, fillA, ↓reduceIte, Nat.reduceEqDiff, Nat.reduceLT, Nat.reduceLeDiff, Nat.reduceAdd, Nat.reduceSub, reduceCtorEq, ne_eq, eq_self, if_true, if_false, forall_eq, forall_eq_or_imp, Int.reduceToNat, Int.reduceLT, Int.reduceLE, ↓List.forall_mem_cons, Nat.reduceMul, ite_self, forall_const, implies_true, Op.operands, avT0, avT1, lsN_zero, hst]
    all_goals first | done | (repeat' apply And.intro) <;> first | rfl | omega | assumption | (simp only [AV.dat.injEq, Dat.int.injEq, true_and]; omega) | (congr <;> omega)
  · try simp (disch := omega) only [LeE, LeO, avD, avT2, datsOf, fillA, ↓reduceIte, Nat.reduceEqDiff, Nat.reduceLT, Nat.reduceLeDiff, Nat.reduceAdd, Nat.reduceSub, reduceCtorEq, ne_eq, eq_self, if_true, if_false, forall_eq, forall_eq_or_imp, Int.reduceToNat, Int.reduceLT, Int.reduceLE, ↓List.forall_mem_cons, Nat.reduceMul, ite_self, forall_const, implies_true, Op.operands, avT0, avT1, lsN_zero, hst]
    all_goals first | done | (repeat' apply And.intro) <;> first | rfl | omega | assumption | (simp only [AV.dat.injEq, Dat.int.injEq, true_and]; omega) | (congr <;> omega)
  obtain ⟨k, hk⟩ := ix
  dsimp only
  apply aw_seq
  apply aw_regs [1, 2, 3, 4, 9, 10, 20] [4]
  · simp (disch := omega) only [avR2, avD, avT2, datsOf, fillA, ↓reduceIte, Nat.reduceEqDiff, Nat.reduceLT, Nat.reduceLeDiff, Nat.reduceAdd, Nat.reduceSub, reduceCtorEq, ne_eq, eq_self, if_true, if_false, forall_eq, forall_eq_or_imp, Int.reduceToNat, Int.reduceLT, Int.reduceLE, ↓List.forall_mem_cons, Nat.reduceMul, ite_self, forall_const, implies_true, Op.operands, avT0, avT1, hN, hP, hG, hR.1, hR.2.1, hR.2.2.1, tiA]
    first | exact ⟨rfl, rfl⟩ | ((repeat' first | refine And.intro ?_ ?_ | intro _) <;> first | with_reducible rfl | assumption | omega | rfl | (rename_i hq; rw [hq]; rfl) | (simp_all; done))
  refine aw_if _ rfl (fun hb => ?_) (fun hb => ?_) <;> (try simp only [pickB_true, pickB_false, Bool.false_or, Bool.false_and, Bool.true_and, decide_eq_true_eq, decide_eq_false_iff_not, Bool.or_eq_true, Bool.and_eq_true, Bool.or_eq_false_iff, Bool.and_eq_false_imp, Bool.not_eq_true, Bool.not_eq_false, Bool.not_eq_eq_eq_not, Bool.not_true, Bool.not_false, Int.not_lt, Int.not_le, beq_iff_eq, beq_eq_false_iff_ne, bne_iff_ne, bne_eq_false_iff_eq, ne_eq, Bool.true_eq_false, Bool.false_eq_true, if_false_left, if_true_left, Bool.not_eq_eq_eq_not, Bool.decide_eq_true, Classical.not_not] at hb)
  · skip
    have hkl : k < (c.items.getD i default).length := by omega
    have hok := getD_all (hc.o i hi) (i := k) (by simp only [itemM]; omega)
    simp only [itemM] at hok
    have hv := val_range hpq hw hok
    have hve := val_eq (c := c) (p := p) (q := q) i ((c.items.getD i default).getD k default)
    have hls := lsN_succ hc hpq hi hkl
    unfold okO at hok
    have n1 : 0 ≤ ((c.items.getD i default).getD k default).2 * c.weights.getD i default := Int.mul_nonneg hok.2.2.1 hw.1
    have n2 : ((c.items.getD i default).getD k default).2 * c.weights.getD i default ≤ 64 * 1024 := Int.mul_le_mul hok.2.2.2 hw.2 hw.1 (by omega)
    have n3 : ((c.items.getD i default).getD k default).2 * c.weights.getD i default * q = q * c.weights.getD i default * ((c.items.getD i default).getD k default).2 := by rw [Int.mul_comm, Int.mul_comm ((c.items.getD i default).getD k default).2, ← Int.mul_assoc]
    have n4 : ((c.items.getD i default).getD k default).1 * p = p * ((c.items.getD i default).getD k default).1 := Int.mul_comm _ _
    apply aw_skip
    apply q_seq
    apply aw_seq
    apply aw_block
    apply aw_regs [1, 2, 3, 4, 9, 10, 11] [4, 11]
    · simp (disch := omega) only [avR2, avD, avT2, datsOf, fillA, ↓reduceIte, Nat.reduceEqDiff, Nat.reduceLT, Nat.reduceLeDiff, Nat.reduceAdd, Nat.reduceSub, reduceCtorEq, ne_eq, eq_self, if_true, if_false, forall_eq, forall_eq_or_imp, Int.reduceToNat, Int.reduceLT, Int.reduceLE, ↓List.forall_mem_cons, Nat.reduceMul, ite_self, forall_const, implies_true, Op.operands, avT0, avT1, hN, hP, hG, hR.1, hR.2.1, hR.2.2.1, tiA]
      first | exact ⟨rfl, rfl⟩ | ((repeat' first | refine And.intro ?_ ?_ | intro _) <;> first | with_reducible rfl | assumption | omega | rfl | (rename_i hq; rw [hq]; rfl) | (simp_all; done))
    apply aw_rgds [1, 2, 3, 4, 9, 10, 12] [4] [0, 1, 2, 3, 4, 5, 6, 7, 8, 9, 10, 11, 12, 13, 14, 15] []
    · rw [hP]; kernel_rfl
    · exact hR
    · kernel_rfl
    · (repeat (apply PickL.cons; exact rfl)); exact PickL.nil _
    · simp (maxSteps := 2000000) (disch := omega) only [avR2, avD, avT2, datsOf, fillA, ↓reduceIte, Nat.reduceEqDiff, Nat.reduceLT, Nat.reduceLeDiff, Nat.reduceAdd, Nat.reduceSub, reduceCtorEq, ne_eq, eq_self, if_true, if_false, forall_eq, forall_eq_or_imp, Int.reduceToNat, Int.reduceLT, Int.reduceLE, ↓List.forall_mem_cons, Nat.reduceMul, ite_self, forall_const, implies_true, Op.operands, avT0, avT1, hN, hP, hG, hR.1, hR.2.1, hR.2.2.1, tiA, hve]
      first | exact ⟨rfl, rfl⟩ | ((repeat' first | refine And.intro ?_ ?_ | intro _) <;> first | with_reducible rfl | assumption | omega | rfl | (rename_i hq; rw [hq]; rfl) | (simp_all; done))
    apply aw_regs [1, 2, 3, 4, 9, 10, 12, 52] [4]
    · simp (disch := omega) only [avR2, avD, avT2, datsOf, fillA, ↓reduceIte, Nat.reduceEqDiff, Nat.reduceLT, Nat.reduceLeDiff, Nat.reduceAdd, Nat.reduceSub, reduceCtorEq, ne_eq, eq_self, if_true, if_false, forall_eq, forall_eq_or_imp, Int.reduceToNat, Int.reduceLT, Int.reduceLE, ↓List.forall_mem_cons, Nat.reduceMul, ite_self, forall_const, implies_true, Op.operands, avT0, avT1, hN, hP, hG, hR.1, hR.2.1, hR.2.2.1, tiA]
      first | exact ⟨rfl, rfl⟩ | ((repeat' first | refine And.intro ?_ ?_ | intro _) <;> first | with_reducible rfl | assumption | omega | rfl | (rename_i hq; rw [hq]; rfl) | (simp_all; done))
    refine aw_if _ rfl (fun hb => ?_) (fun hb => ?_) <;> (try simp only [pickB_true, pickB_false, Bool.false_or, Bool.false_and, Bool.true_and, decide_eq_true_eq, decide_eq_false_iff_not, Bool.or_eq_true, Bool.and_eq_true, Bool.or_eq_false_iff, Bool.and_eq_false_imp, Bool.not_eq_true, Bool.not_eq_false, Bool.not_eq_eq_eq_not, Bool.not_true, Bool.not_false, Int.not_lt, Int.not_le, beq_iff_eq, beq_eq_false_iff_ne, bne_iff_ne, bne_eq_false_iff_eq, ne_eq, Bool.true_eq_false, Bool.false_eq_true, if_false_left, if_true_left, Bool.not_eq_eq_eq_not, Bool.decide_eq_true, Classical.not_not] at hb)
    · skip
      have hst : lsN c p q i (k + 1) = valM c p q i ((c.items.getD i default).getD k default) := by rw [hls, if_pos hb]
      apply aw_reg [1, 2, 3, 4, 9, 10] [4]
      · simp (disch := omega) only [avR2, avD, avT2, datsOf, fillA, ↓reduceIte, Nat.reduceEqDiff, Nat.reduceLT, Nat.reduceLeDiff, Nat.reduceAdd, Nat.reduceSub, reduceCtorEq, ne_eq, eq_self, if_true, if_false, forall_eq, forall_eq_or_imp, Int.reduceToNat, Int.reduceLT, Int.reduceLE, ↓List.forall_mem_cons, Nat.reduceMul, ite_self, forall_const, implies_true, Op.operands, avT0, avT1, hN, hP, hG, hR.1, hR.2.1, hR.2.2.1, tiA]
        first | exact ⟨rfl, rfl⟩ | ((repeat' first | refine And.intro ?_ ?_ | intro _) <;> first | with_reducible rfl | assumption | omega | rfl | (rename_i hq; rw [hq]; rfl) | (simp_all; done))
      apply q_block
      apply q_seq
      apply aw_reg [1, 2, 3, 4, 9, 10] [4]
      · simp (disch := omega) only [avR2, avD, avT2, datsOf, fillA, ↓reduceIte, Nat.reduceEqDiff, Nat.reduceLT, Nat.reduceLeDiff, Nat.reduceAdd, Nat.reduceSub, reduceCtorEq, ne_eq, eq_self, if_true, if_false, forall_eq, forall_eq_or_imp, Int.reduceToNat, Int.reduceLT, Int.reduceLE, ↓List.forall_mem_cons, Nat.reduceMul, ite_self, forall_const, implies_true, Op.operands, avT0, avT1, hN, hP, hG, hR.1, hR.2.1, hR.2.2.1, tiA]
        first | exact ⟨rfl, rfl⟩ | ((repeat' first | refine And.intro ?_ ?_ | intro _) <;> first | with_reducible rfl | assumption | omega | rfl | (rename_i hq; rw [hq]; rfl) | (simp_all; done))
      refine q_loop (⟨k + 1, by omega⟩) (Le.of ?_ ?_) (by dsimp only; omega)
      · try simp (disch := omega) only [LeE, LeO, avD, avT2, datsOf, fillA, ↓reduceIte, Nat.reduceEqDiff, Nat.reduceLT, Nat.reduceLeDiff, Nat.reduceAdd, Nat.reduceSub, reduceCtorEq, ne_eq, eq_self, if_true, if_false, forall_eq, forall_eq_or_imp, Int.reduceToNat, Int.reduceLT, Int.reduceLE, ↓List.forall_mem_cons, Nat.reduceMul, ite_self, forall_const, implies_true, Op.operands, avT0, avT1, lsN_zero, hst]
        all_goals first | done | (repeat' apply And.intro) <;> first | rfl | omega | assumption | (simp only [AV.dat.injEq, Dat.int.injEq, true_and]; omega) | (congr <;> omega)
      · try simp (disch := omega) only [LeE, LeO, avD, avT2, datsOf, fillA, ↓reduceIte, Nat.reduceEqDiff, Nat.reduceLT, Nat.reduceLeDiff, Nat.reduceAdd, Nat.reduceSub, reduceCtorEq, ne_eq, eq_self, if_true, if_false, forall_eq, forall_eq_or_imp, Int.reduceToNat, Int.reduceLT, Int.reduceLE, ↓List.forall_mem_cons, Nat.reduceMul, ite_self, forall_const, implies_true, Op.operands, avT0, avT1, lsN_zero, hst]
        all_goals first | done | (repeat' apply And.intro) <;> first | rfl | omega | assumption | (simp only [AV.dat.injEq, Dat.int.injEq, true_and]; omega) | (congr <;> omega)
    · skip
      have hst : lsN c p q i (k + 1) = lsN c p q i k := by rw [hls, if_neg (by omega)]
      apply aw_skip
      apply q_block
      apply q_seq
      apply aw_reg [1, 2, 3, 4, 9, 10] [4]
      · simp (disch := omega) only [avR2, avD, avT2, datsOf, fillA, ↓reduceIte, Nat.reduceEqDiff, Nat.reduceLT, Nat.reduceLeDiff, Nat.reduceAdd, Nat.reduceSub, reduceCtorEq, ne_eq, eq_self, if_true, if_false, forall_eq, forall_eq_or_imp, Int.reduceToNat, Int.reduceLT, Int.reduceLE, ↓List.forall_mem_cons, Nat.reduceMul, ite_self, forall_const, implies_true, Op.operands, avT0, avT1, hN, hP, hG, hR.1, hR.2.1, hR.2.2.1, tiA]
        first | exact ⟨rfl, rfl⟩ | ((repeat' first | refine And.intro ?_ ?_ | intro _) <;> first | with_reducible rfl | assumption | omega | rfl | (rename_i hq; rw [hq]; rfl) | (simp_all; done))
      refine q_loop (⟨k + 1, by omega⟩) (Le.of ?_ ?_) (by dsimp only; omega)
      · try simp (disch := omega) only [LeE, LeO, avD, avT2, datsOf, fillA, ↓reduceIte, Nat.reduceEqDiff, Nat.reduceLT, Nat.reduceLeDiff, Nat.reduceAdd, Nat.reduceSub, reduceCtorEq, ne_eq, eq_self, if_true, if_false, forall_eq, forall_eq_or_imp, Int.reduceToNat, Int.reduceLT, Int.reduceLE, ↓List.forall_mem_cons, Nat.reduceMul, ite_self, forall_const, implies_true, Op.operands, avT0, avT1, lsN_zero, hst]
        all_goals first | done | (repeat' apply And.intro) <;> first | rfl | omega | assumption | (simp only [AV.dat.injEq, Dat.int.injEq, true_and]; omega) | (congr <;> omega)
      · try simp (disch := omega) only [LeE, LeO, avD, avT2, datsOf, fillA, ↓reduceIte, Nat.reduceEqDiff, Nat.reduceLT, Nat.reduceLeDiff, Nat.reduceAdd, Nat.reduceSub, reduceCtorEq, ne_eq, eq_self, if_true, if_false, forall_eq, forall_eq_or_imp, Int.reduceToNat, Int.reduceLT, Int.reduceLE, ↓List.forall_mem_cons, Nat.reduceMul, ite_self, forall_const, implies_true, Op.operands, avT0, avT1, lsN_zero, hst]
        all_goals first | done | (repeat' apply And.intro) <;> first | rfl | omega | assumption | (simp only [AV.dat.injEq, Dat.int.injEq, true_and]; omega) | (congr <;> omega)
  · skip
    have hkk : k = (c.items.getD i default).length := by omega
    subst hkk
    have hmr := minV_range hc hpq hi (c.items.getD i default).length (Nat.le_refl _)
    have hln : lsN c p q i (c.items.getD i default).length = minV c p q i (c.items.getD i default).length := by unfold lsN; rw [if_neg (by omega)]
    rw [hln]
    apply aw_exit
    apply q_exit_seq
    apply q_exit_loop
    apply q_exit
    apply q_seq
    apply aw_regs [8] []
    · simp (disch := omega) only [avR2, avD, avT2, datsOf, fillA, ↓reduceIte, Nat.reduceEqDiff, Nat.reduceLT, Nat.reduceLeDiff, Nat.reduceAdd, Nat.reduceSub, reduceCtorEq, ne_eq, eq_self, if_true, if_false, forall_eq, forall_eq_or_imp, Int.reduceToNat, Int.reduceLT, Int.reduceLE, ↓List.forall_mem_cons, Nat.reduceMul, ite_self, forall_const, implies_true, Op.operands, avT0, avT1, hN, hP, hG, hR.1, hR.2.1, hR.2.2.1, tiA]
      first | exact ⟨rfl, rfl⟩ | ((repeat' first | refine And.intro ?_ ?_ | intro _) <;> first | with_reducible rfl | assumption | omega | rfl | (rename_i hq; rw [hq]; rfl) | (simp_all; done))
    apply aw_ret
    simp only [QRet, QRetM, objsAre, Tryd.results31, resA, mapO_nil, mapO_cons, vD_dat, vD_nils, vD_rp, vD_osl, vD_ptr, vD_agg, vD_fn, vL_dat, vL_app, viewL, avD, avT2, datsOf, fillA, ↓reduceIte, Nat.reduceEqDiff, Nat.reduceLT, Nat.reduceLeDiff, Nat.reduceAdd, Nat.reduceSub, reduceCtorEq, ne_eq, eq_self, if_true, if_false, forall_eq, forall_eq_or_imp, Int.reduceToNat, Int.reduceLT, Int.reduceLE, ↓List.forall_mem_cons, Nat.reduceMul, ite_self, forall_const, implies_true, Op.operands, avT0, avT1, hP, hG, tiA]
    rw [if_neg (by omega)]
    

end Go.Proofs.YthcfjdkflmkhbaaDoor

