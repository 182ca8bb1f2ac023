/- Contracts: searching, the closures of Valid, the sums of a choice. -/
import Derived.Test.YthcfjdkflmkhbaaDoorHCh3
import Derived.Test.YthcfjdkflmkhbaaDoorHChA
set_option linter.all false
namespace Go.Proofs.YthcfjdkflmkhbaaDoor
open Go.Av


theorem index_ok (G) (l : List (Int × Int)) (g : FuncId) (p : Int × Int → Bool) (hl : l.length ≤ 100) (hg : ∀ o ∈ l, Gives Tryd.prog G g [oD o] [.bool (p o)]) : Gives Tryd.prog G 53 [osD l, .fn g []] [iD (firstI (fun k => p (l.getD k default)) l.length)] := by
  refine gives_introF [] [] [] Tryd.func53 rfl (by rfl) (by simp [Tryd.ntmps53]) fun F hP hG hN hR => ?_
  rw [Tryd.ntmps53] at hN
  apply aw_regs [0, 1] []
  · simp (disch := omega) only [avR2, avD, avT2, datsOf, fillA, ↓reduceIte, Nat.reduceEqDiff, Nat.reduceLT, Nat.reduceLeDiff, Nat.reduceAdd, Nat.reduceSub, reduceCtorEq, ne_eq, eq_self, if_true, if_false, forall_eq, forall_eq_or_imp, Int.reduceToNat, Int.reduceLT, Int.reduceLE, ↓List.forall_mem_cons, Nat.reduceMul, ite_self, forall_const, implies_true, Op.operands, avT0, avT1, hN, hP, hG, hR.1, hR.2.1, hR.2.2.1, tiA]
    first | exact ⟨rfl, rfl⟩ | ((repeat' first | refine And.intro ?_ ?_ | intro _) <;> first | with_reducible rfl | assumption | omega | rfl | (rename_i hq; rw [hq]; rfl) | (simp_all; done))
  apply aw_seq
  apply aw_regs [0, 1, 7, 8] []
  · simp (disch := omega) only [avR2, avD, avT2, datsOf, fillA, ↓reduceIte, Nat.reduceEqDiff, Nat.reduceLT, Nat.reduceLeDiff, Nat.reduceAdd, Nat.reduceSub, reduceCtorEq, ne_eq, eq_self, if_true, if_false, forall_eq, forall_eq_or_imp, Int.reduceToNat, Int.reduceLT, Int.reduceLE, ↓List.forall_mem_cons, Nat.reduceMul, ite_self, forall_const, implies_true, Op.operands, avT0, avT1, hN, hP, hG, hR.1, hR.2.1, hR.2.2.1, tiA]
    first | exact ⟨rfl, rfl⟩ | ((repeat' first | refine And.intro ?_ ?_ | intro _) <;> first | with_reducible rfl | assumption | omega | rfl | (rename_i hq; rw [hq]; rfl) | (simp_all; done))
  apply aw_block
  refine aw_loop (ι := {i : Nat // i ≤ l.length ∧ firstI (fun k => p (l.getD k default)) i < 0}) (fun ⟨i, hif⟩ => .of [(0, .dat (osD l)), (1, .fn g []), (7, .dat (iD l.length)), (8, .dat (iD i))] []) (fun ⟨i, hif⟩ => l.length - i) (⟨0, by simp [firstI]⟩) (Le.of ?_ ?_) fun ix => ?_
  · try simp (disch := omega) only [LeE, LeO, avD, avT2, datsOf, fillA, ↓reduceIte, Nat.reduceEqDiff, Nat.reduceLT, Nat.reduceLeDiff, Nat.reduceAdd, Nat.reduceSub, reduceCtorEq, ne_eq, eq_self, if_true, if_false, forall_eq, forall_eq_or_imp, Int.reduceToNat, Int.reduceLT, Int.reduceLE, ↓List.forall_mem_cons, Nat.reduceMul, ite_self, forall_const, implies_true, Op.operands, avT0, avT1]
    all_goals first | done | (repeat' apply And.intro) <;> first | rfl | omega | assumption | (simp only [AV.dat.injEq, Dat.int.injEq, true_and]; omega) | (congr <;> omega)
  · try simp (disch := omega) only [LeE, LeO, avD, avT2, datsOf, fillA, ↓reduceIte, Nat.reduceEqDiff, Nat.reduceLT, Nat.reduceLeDiff, Nat.reduceAdd, Nat.reduceSub, reduceCtorEq, ne_eq, eq_self, if_true, if_false, forall_eq, forall_eq_or_imp, Int.reduceToNat, Int.reduceLT, Int.reduceLE, ↓List.forall_mem_cons, Nat.reduceMul, ite_self, forall_const, implies_true, Op.operands, avT0, avT1]
    all_goals first | done | (repeat' apply And.intro) <;> first | rfl | omega | assumption | (simp only [AV.dat.injEq, Dat.int.injEq, true_and]; omega) | (congr <;> omega)
  obtain ⟨i, hif⟩ := ix
  dsimp only
  obtain ⟨hi, hf⟩ := hif
  apply aw_regs [0, 1, 7, 8, 9] []
  · simp (disch := omega) only [avR2, avD, avT2, datsOf, fillA, ↓reduceIte, Nat.reduceEqDiff, Nat.reduceLT, Nat.reduceLeDiff, Nat.reduceAdd, Nat.reduceSub, reduceCtorEq, ne_eq, eq_self, if_true, if_false, forall_eq, forall_eq_or_imp, Int.reduceToNat, Int.reduceLT, Int.reduceLE, ↓List.forall_mem_cons, Nat.reduceMul, ite_self, forall_const, implies_true, Op.operands, avT0, avT1, hN, hP, hG, hR.1, hR.2.1, hR.2.2.1, tiA]
    first | exact ⟨rfl, rfl⟩ | ((repeat' first | refine And.intro ?_ ?_ | intro _) <;> first | with_reducible rfl | assumption | omega | rfl | (rename_i hq; rw [hq]; rfl) | (simp_all; done))
  apply aw_seq
  refine aw_if _ rfl (fun hb => ?_) (fun hb => ?_) <;> (try simp only [pickB_true, pickB_false, Bool.false_or, Bool.false_and, Bool.true_and, decide_eq_true_eq, decide_eq_false_iff_not, Bool.or_eq_true, Bool.and_eq_true, Bool.or_eq_false_iff, Bool.and_eq_false_imp, Bool.not_eq_true, Bool.not_eq_false, Bool.not_eq_eq_eq_not, Bool.not_true, Bool.not_false, Int.not_lt, Int.not_le, beq_iff_eq, beq_eq_false_iff_ne, bne_iff_ne, bne_eq_false_iff_eq, ne_eq, Bool.true_eq_false, Bool.false_eq_true, if_false_left, if_true_left, Bool.not_eq_eq_eq_not, Bool.decide_eq_true, Classical.not_not] at hb)
  · skip
    apply aw_skip
    apply q_seq
    apply aw_seq
    apply aw_block
    apply aw_regs [0, 1, 5, 7, 8] []
    · simp (disch := omega) only [avR2, avD, avT2, datsOf, fillA, ↓reduceIte, Nat.reduceEqDiff, Nat.reduceLT, Nat.reduceLeDiff, Nat.reduceAdd, Nat.reduceSub, reduceCtorEq, ne_eq, eq_self, if_true, if_false, forall_eq, forall_eq_or_imp, Int.reduceToNat, Int.reduceLT, Int.reduceLE, ↓List.forall_mem_cons, Nat.reduceMul, ite_self, forall_const, implies_true, Op.operands, avT0, avT1, hN, hP, hG, hR.1, hR.2.1, hR.2.2.1, tiA]
      first | exact ⟨rfl, rfl⟩ | ((repeat' first | refine And.intro ?_ ?_ | intro _) <;> first | with_reducible rfl | assumption | omega | rfl | (rename_i hq; rw [hq]; rfl) | (simp_all; done))
    apply aw_regs [0, 1, 5, 7, 8, 16] []
    · simp (disch := omega) only [avR2, avD, avT2, datsOf, fillA, ↓reduceIte, Nat.reduceEqDiff, Nat.reduceLT, Nat.reduceLeDiff, Nat.reduceAdd, Nat.reduceSub, reduceCtorEq, ne_eq, eq_self, if_true, if_false, forall_eq, forall_eq_or_imp, Int.reduceToNat, Int.reduceLT, Int.reduceLE, ↓List.forall_mem_cons, Nat.reduceMul, ite_self, forall_const, implies_true, Op.operands, avT0, avT1, hN, hP, hG, hR.1, hR.2.1, hR.2.2.1, tiA]
      (repeat' refine And.intro ?_ ?_) <;> try first | omega | assumption | with_reducible rfl | exact rfl | (intro hside; (repeat' refine And.intro ?_ ?_) <;> first | exact hside | omega | (rw [hside]; rfl) | (simp_all; done))
      refine CallC.use (gvF hP hG (hg (l.getD i default) (getD_all (p := fun o => o ∈ l) (fun o h => h) (by omega)))) rfl ?_
      try simp (maxSteps := 2000000) (disch := omega) only [avR2, avD, avT2, datsOf, fillA, ↓reduceIte, Nat.reduceEqDiff, Nat.reduceLT, Nat.reduceLeDiff, Nat.reduceAdd, Nat.reduceSub, reduceCtorEq, ne_eq, eq_self, if_true, if_false, forall_eq, forall_eq_or_imp, Int.reduceToNat, Int.reduceLT, Int.reduceLE, ↓List.forall_mem_cons, Nat.reduceMul, ite_self, forall_const, implies_true, Op.operands, avT0, avT1, hN, hP, hG, hR.1, hR.2.1, hR.2.2.1, tiA]
      first | exact ⟨rfl, rfl⟩ | ((repeat' first | refine And.intro ?_ ?_ | intro _) <;> first | with_reducible rfl | assumption | omega | rfl | (rename_i hq; rw [hq]; rfl) | (simp_all; done))
    refine aw_if _ rfl (fun hb => ?_) (fun hb => ?_) <;> (try simp only [pickB_true, pickB_false, Bool.false_or, Bool.false_and, Bool.true_and, decide_eq_true_eq, decide_eq_false_iff_not, Bool.or_eq_true, Bool.and_eq_true, Bool.or_eq_false_iff, Bool.and_eq_false_imp, Bool.not_eq_true, Bool.not_eq_false, Bool.not_eq_eq_eq_not, Bool.not_true, Bool.not_false, Int.not_lt, Int.not_le, beq_iff_eq, beq_eq_false_iff_ne, bne_iff_ne, bne_eq_false_iff_eq, ne_eq, Bool.true_eq_false, Bool.false_eq_true, if_false_left, if_true_left, Bool.not_eq_eq_eq_not, Bool.decide_eq_true, Classical.not_not] at hb)
    · skip
      have hhit := firstI_hit (fun k => p (l.getD k default)) hf hb (show i < l.length by omega)
      apply aw_regs [4] []
      · simp (disch := omega) only [avR2, avD, avT2, datsOf, fillA, ↓reduceIte, Nat.reduceEqDiff, Nat.reduceLT, Nat.reduceLeDiff, Nat.reduceAdd, Nat.reduceSub, reduceCtorEq, ne_eq, eq_self, if_true, if_false, forall_eq, forall_eq_or_imp, Int.reduceToNat, Int.reduceLT, Int.reduceLE, ↓List.forall_mem_cons, Nat.reduceMul, ite_self, forall_const, implies_true, Op.operands, avT0, avT1, hN, hP, hG, hR.1, hR.2.1, hR.2.2.1, tiA]
        first | exact ⟨rfl, rfl⟩ | ((repeat' first | refine And.intro ?_ ?_ | intro _) <;> first | with_reducible rfl | assumption | omega | rfl | (rename_i hq; rw [hq]; rfl) | (simp_all; done))
      apply aw_ret
      apply q_ret_block
      apply q_ret_seq
      apply q_ret_loop
      apply q_ret_block
      apply q_ret_seq
      simp only [QRet, QRetM, objsAre, Tryd.results53, resA, mapO_nil, mapO_cons, vD_dat, vD_nils, vD_rp, vD_osl, vD_ptr, vD_agg, vD_fn, vL_dat, vL_app, viewL, avD, avT2, datsOf, fillA, ↓reduceIte, Nat.reduceEqDiff, Nat.reduceLT, Nat.reduceLeDiff, Nat.reduceAdd, Nat.reduceSub, reduceCtorEq, ne_eq, eq_self, if_true, if_false, forall_eq, forall_eq_or_imp, Int.reduceToNat, Int.reduceLT, Int.reduceLE, ↓List.forall_mem_cons, Nat.reduceMul, ite_self, forall_const, implies_true, Op.operands, avT0, avT1, hP, hG, tiA]
      first | rw [hhit] | rw [hfin]
      
    · skip
      apply aw_skip
      apply q_block
      apply q_seq
      apply aw_reg [0, 1, 7, 8] []
      · simp (disch := omega) only [avR2, avD, avT2, datsOf, fillA, ↓reduceIte, Nat.reduceEqDiff, Nat.reduceLT, Nat.reduceLeDiff, Nat.reduceAdd, Nat.reduceSub, reduceCtorEq, ne_eq, eq_self, if_true, if_false, forall_eq, forall_eq_or_imp, Int.reduceToNat, Int.reduceLT, Int.reduceLE, ↓List.forall_mem_cons, Nat.reduceMul, ite_self, forall_const, implies_true, Op.operands, avT0, avT1, hN, hP, hG, hR.1, hR.2.1, hR.2.2.1, tiA]
        first | exact ⟨rfl, rfl⟩ | ((repeat' first | refine And.intro ?_ ?_ | intro _) <;> first | with_reducible rfl | assumption | omega | rfl | (rename_i hq; rw [hq]; rfl) | (simp_all; done))
      refine q_loop (⟨i + 1, by omega, firstI_miss _ hf (by simpa using hb)⟩) (Le.of ?_ ?_) (by dsimp only; omega)
      · try simp (disch := omega) only [LeE, LeO, avD, avT2, datsOf, fillA, ↓reduceIte, Nat.reduceEqDiff, Nat.reduceLT, Nat.reduceLeDiff, Nat.reduceAdd, Nat.reduceSub, reduceCtorEq, ne_eq, eq_self, if_true, if_false, forall_eq, forall_eq_or_imp, Int.reduceToNat, Int.reduceLT, Int.reduceLE, ↓List.forall_mem_cons, Nat.reduceMul, ite_self, forall_const, implies_true, Op.operands, avT0, avT1]
        all_goals first | done | (repeat' apply And.intro) <;> first | rfl | omega | assumption | (simp only [AV.dat.injEq, Dat.int.injEq, true_and]; omega) | (congr <;> omega)
      · try simp (disch := omega) only [LeE, LeO, avD, avT2, datsOf, fillA, ↓reduceIte, Nat.reduceEqDiff, Nat.reduceLT, Nat.reduceLeDiff, Nat.reduceAdd, Nat.reduceSub, reduceCtorEq, ne_eq, eq_self, if_true, if_false, forall_eq, forall_eq_or_imp, Int.reduceToNat, Int.reduceLT, Int.reduceLE, ↓List.forall_mem_cons, Nat.reduceMul, ite_self, forall_const, implies_true, Op.operands, avT0, avT1]
        all_goals first | done | (repeat' apply And.intro) <;> first | rfl | omega | assumption | (simp only [AV.dat.injEq, Dat.int.injEq, true_and]; omega) | (congr <;> omega)
  · skip
    have hil : i = l.length := by omega
    subst hil
    have hfr := firstI_range (fun k => p (l.getD k default)) l.length
    have hfin : firstI (fun k => p (l.getD k default)) l.length = -1 := by omega
    apply aw_exit
    apply q_exit_seq
    apply q_exit_loop
    apply q_exit
    apply q_seq
    apply aw_regs [4] []
    · simp (disch := omega) only [avR2, avD, avT2, datsOf, fillA, ↓reduceIte, Nat.reduceEqDiff, Nat.reduceLT, Nat.reduceLeDiff, Nat.reduceAdd, Nat.reduceSub, reduceCtorEq, ne_eq, eq_self, if_true, if_false, forall_eq, forall_eq_or_imp, Int.reduceToNat, Int.reduceLT, Int.reduceLE, ↓List.forall_mem_cons, Nat.reduceMul, ite_self, forall_const, implies_true, Op.operands, avT0, avT1, hN, hP, hG, hR.1, hR.2.1, hR.2.2.1, tiA]
      first | exact ⟨rfl, rfl⟩ | ((repeat' first | refine And.intro ?_ ?_ | intro _) <;> first | with_reducible rfl | assumption | omega | rfl | (rename_i hq; rw [hq]; rfl) | (simp_all; done))
    apply aw_ret
    simp only [QRet, QRetM, objsAre, Tryd.results53, resA, mapO_nil, mapO_cons, vD_dat, vD_nils, vD_rp, vD_osl, vD_ptr, vD_agg, vD_fn, vL_dat, vL_app, viewL, avD, avT2, datsOf, fillA, ↓reduceIte, Nat.reduceEqDiff, Nat.reduceLT, Nat.reduceLeDiff, Nat.reduceAdd, Nat.reduceSub, reduceCtorEq, ne_eq, eq_self, if_true, if_false, forall_eq, forall_eq_or_imp, Int.reduceToNat, Int.reduceLT, Int.reduceLE, ↓List.forall_mem_cons, Nat.reduceMul, ite_self, forall_const, implies_true, Op.operands, avT0, avT1, hP, hG, tiA]
    first | rw [hhit] | rw [hfin]
    

theorem indexL_ok (G) (l : List (List (Int × Int))) (g : FuncId) (p : List (Int × Int) → Bool) (hl : l.length ≤ 100) (hg : ∀ o ∈ l, Gives Tryd.prog G g [osD o] [.bool (p o)]) : Gives Tryd.prog G 52 [.sl (l.map osD), .fn g []] [iD (firstI (fun k => p (l.getD k default)) l.length)] := by
  refine gives_introF [] [] [] Tryd.func52 rfl (by rfl) (by simp [Tryd.ntmps52]) fun F hP hG hN hR => ?_
  rw [Tryd.ntmps52] at hN
  apply aw_regs [0, 1] []
  · simp (disch := omega) only [avR2, avD, avT2, datsOf, fillA, ↓reduceIte, Nat.reduceEqDiff, Nat.reduceLT, Nat.reduceLeDiff, Nat.reduceAdd, Nat.reduceSub, reduceCtorEq, ne_eq, eq_self, if_true, if_false, forall_eq, forall_eq_or_imp, Int.reduceToNat, Int.reduceLT, Int.reduceLE, ↓List.forall_mem_cons, Nat.reduceMul, ite_self, forall_const, implies_true, Op.operands, avT0, avT1, hN, hP, hG, hR.1, hR.2.1, hR.2.2.1, tiA]
    first | exact ⟨rfl, rfl⟩ | ((repeat' first | refine And.intro ?_ ?_ | intro _) <;> first | with_reducible rfl | assumption | omega | rfl | (rename_i hq; rw [hq]; rfl) | (simp_all; done))
  apply aw_seq
  apply aw_regs [0, 1, 7, 8] []
  · simp (disch := omega) only [avR2, avD, avT2, datsOf, fillA, ↓reduceIte, Nat.reduceEqDiff, Nat.reduceLT, Nat.reduceLeDiff, Nat.reduceAdd, Nat.reduceSub, reduceCtorEq, ne_eq, eq_self, if_true, if_false, forall_eq, forall_eq_or_imp, Int.reduceToNat, Int.reduceLT, Int.reduceLE, ↓List.forall_mem_cons, Nat.reduceMul, ite_self, forall_const, implies_true, Op.operands, avT0, avT1, hN, hP, hG, hR.1, hR.2.1, hR.2.2.1, tiA]
    first | exact ⟨rfl, rfl⟩ | ((repeat' first | refine And.intro ?_ ?_ | intro _) <;> first | with_reducible rfl | assumption | omega | rfl | (rename_i hq; rw [hq]; rfl) | (simp_all; done))
  apply aw_block
  refine aw_loop (ι := {i : Nat // i ≤ l.length ∧ firstI (fun k => p (l.getD k default)) i < 0}) (fun ⟨i, hif⟩ => .of [(0, .dat (.sl (l.map osD))), (1, .fn g []), (7, .dat (iD l.length)), (8, .dat (iD i))] []) (fun ⟨i, hif⟩ => l.length - i) (⟨0, by simp [firstI]⟩) (Le.of ?_ ?_) fun ix => ?_
  · try simp (disch := omega) only [LeE, LeO, avD, avT2, datsOf, fillA, ↓reduceIte, Nat.reduceEqDiff, Nat.reduceLT, Nat.reduceLeDiff, Nat.reduceAdd, Nat.reduceSub, reduceCtorEq, ne_eq, eq_self, if_true, if_false, forall_eq, forall_eq_or_imp, Int.reduceToNat, Int.reduceLT, Int.reduceLE, ↓List.forall_mem_cons, Nat.reduceMul, ite_self, forall_const, implies_true, Op.operands, avT0, avT1]
    all_goals first | done | (repeat' apply And.intro) <;> first | rfl | omega | assumption | (simp only [AV.dat.injEq, Dat.int.injEq, true_and]; omega) | (congr <;> omega)
  · try simp (disch := omega) only [LeE, LeO, avD, avT2, datsOf, fillA, ↓reduceIte, Nat.reduceEqDiff, Nat.reduceLT, Nat.reduceLeDiff, Nat.reduceAdd, Nat.reduceSub, reduceCtorEq, ne_eq, eq_self, if_true, if_false, forall_eq, forall_eq_or_imp, Int.reduceToNat, Int.reduceLT, Int.reduceLE, ↓List.forall_mem_cons, Nat.reduceMul, ite_self, forall_const, implies_true, Op.operands, avT0, avT1]
    all_goals first | done | (repeat' apply And.intro) <;> first | rfl | omega | assumption | (simp only [AV.dat.injEq, Dat.int.injEq, true_and]; omega) | (congr <;> omega)
  obtain ⟨i, hif⟩ := ix
  dsimp only
  obtain ⟨hi, hf⟩ := hif
  apply aw_regs [0, 1, 7, 8, 9] []
  · simp (disch := omega) only [avR2, avD, avT2, datsOf, fillA, ↓reduceIte, Nat.reduceEqDiff, Nat.reduceLT, Nat.reduceLeDiff, Nat.reduceAdd, Nat.reduceSub, reduceCtorEq, ne_eq, eq_self, if_true, if_false, forall_eq, forall_eq_or_imp, Int.reduceToNat, Int.reduceLT, Int.reduceLE, ↓List.forall_mem_cons, Nat.reduceMul, ite_self, forall_const, implies_true, Op.operands, avT0, avT1, hN, hP, hG, hR.1, hR.2.1, hR.2.2.1, tiA]
    first | exact ⟨rfl, rfl⟩ | ((repeat' first | refine And.intro ?_ ?_ | intro _) <;> first | with_reducible rfl | assumption | omega | rfl | (rename_i hq; rw [hq]; rfl) | (simp_all; done))
  apply aw_seq
  refine aw_if _ rfl (fun hb => ?_) (fun hb => ?_) <;> (try simp only [pickB_true, pickB_false, Bool.false_or, Bool.false_and, Bool.true_and, decide_eq_true_eq, decide_eq_false_iff_not, Bool.or_eq_true, Bool.and_eq_true, Bool.or_eq_false_iff, Bool.and_eq_false_imp, Bool.not_eq_true, Bool.not_eq_false, Bool.not_eq_eq_eq_not, Bool.not_true, Bool.not_false, Int.not_lt, Int.not_le, beq_iff_eq, beq_eq_false_iff_ne, bne_iff_ne, bne_eq_false_iff_eq, ne_eq, Bool.true_eq_false, Bool.false_eq_true, if_false_left, if_true_left, Bool.not_eq_eq_eq_not, Bool.decide_eq_true, Classical.not_not] at hb)
  · skip
    apply aw_skip
    apply q_seq
    apply aw_seq
    apply aw_block
    apply aw_regs [0, 1, 5, 7, 8] []
    · simp (disch := omega) only [avR2, avD, avT2, datsOf, fillA, ↓reduceIte, Nat.reduceEqDiff, Nat.reduceLT, Nat.reduceLeDiff, Nat.reduceAdd, Nat.reduceSub, reduceCtorEq, ne_eq, eq_self, if_true, if_false, forall_eq, forall_eq_or_imp, Int.reduceToNat, Int.reduceLT, Int.reduceLE, ↓List.forall_mem_cons, Nat.reduceMul, ite_self, forall_const, implies_true, Op.operands, avT0, avT1, hN, hP, hG, hR.1, hR.2.1, hR.2.2.1, tiA]
      first | exact ⟨rfl, rfl⟩ | ((repeat' first | refine And.intro ?_ ?_ | intro _) <;> first | with_reducible rfl | assumption | omega | rfl | (rename_i hq; rw [hq]; rfl) | (simp_all; done))
    apply aw_regs [0, 1, 5, 7, 8, 16] []
    · simp (disch := omega) only [avR2, avD, avT2, datsOf, fillA, ↓reduceIte, Nat.reduceEqDiff, Nat.reduceLT, Nat.reduceLeDiff, Nat.reduceAdd, Nat.reduceSub, reduceCtorEq, ne_eq, eq_self, if_true, if_false, forall_eq, forall_eq_or_imp, Int.reduceToNat, Int.reduceLT, Int.reduceLE, ↓List.forall_mem_cons, Nat.reduceMul, ite_self, forall_const, implies_true, Op.operands, avT0, avT1, hN, hP, hG, hR.1, hR.2.1, hR.2.2.1, tiA]
      (repeat' refine And.intro ?_ ?_) <;> try first | omega | assumption | with_reducible rfl | exact rfl | (intro hside; (repeat' refine And.intro ?_ ?_) <;> first | exact hside | omega | (rw [hside]; rfl) | (simp_all; done))
      refine CallC.use (gvF hP hG (hg (l.getD i default) (getD_all (p := fun o => o ∈ l) (fun o h => h) (by omega)))) rfl ?_
      try simp (maxSteps := 2000000) (disch := omega) only [avR2, avD, avT2, datsOf, fillA, ↓reduceIte, Nat.reduceEqDiff, Nat.reduceLT, Nat.reduceLeDiff, Nat.reduceAdd, Nat.reduceSub, reduceCtorEq, ne_eq, eq_self, if_true, if_false, forall_eq, forall_eq_or_imp, Int.reduceToNat, Int.reduceLT, Int.reduceLE, ↓List.forall_mem_cons, Nat.reduceMul, ite_self, forall_const, implies_true, Op.operands, avT0, avT1, hN, hP, hG, hR.1, hR.2.1, hR.2.2.1, tiA]
      first | exact ⟨rfl, rfl⟩ | ((repeat' first | refine And.intro ?_ ?_ | intro _) <;> first | with_reducible rfl | assumption | omega | rfl | (rename_i hq; rw [hq]; rfl) | (simp_all; done))
    refine aw_if _ rfl (fun hb => ?_) (fun hb => ?_) <;> (try simp only [pickB_true, pickB_false, Bool.false_or, Bool.false_and, Bool.true_and, decide_eq_true_eq, decide_eq_false_iff_not, Bool.or_eq_true, Bool.and_eq_true, Bool.or_eq_false_iff, Bool.and_eq_false_imp, Bool.not_eq_true, Bool.not_eq_false, Bool.not_eq_eq_eq_not, Bool.not_true, Bool.not_false, Int.not_lt, Int.not_le, beq_iff_eq, beq_eq_false_iff_ne, bne_iff_ne, bne_eq_false_iff_eq, ne_eq, Bool.true_eq_false, Bool.false_eq_true, if_false_left, if_true_left, Bool.not_eq_eq_eq_not, Bool.decide_eq_true, Classical.not_not] at hb)
    · skip
      have hhit := firstI_hit (fun k => p (l.getD k default)) hf hb (show i < l.length by omega)
      apply aw_regs [4] []
      · simp (disch := omega) only [avR2, avD, avT2, datsOf, fillA, ↓reduceIte, Nat.reduceEqDiff, Nat.reduceLT, Nat.reduceLeDiff, Nat.reduceAdd, Nat.reduceSub, reduceCtorEq, ne_eq, eq_self, if_true, if_false, forall_eq, forall_eq_or_imp, Int.reduceToNat, Int.reduceLT, Int.reduceLE, ↓List.forall_mem_cons, Nat.reduceMul, ite_self, forall_const, implies_true, Op.operands, avT0, avT1, hN, hP, hG, hR.1, hR.2.1, hR.2.2.1, tiA]
        first | exact ⟨rfl, rfl⟩ | ((repeat' first | refine And.intro ?_ ?_ | intro _) <;> first | with_reducible rfl | assumption | omega | rfl | (rename_i hq; rw [hq]; rfl) | (simp_all; done))
      apply aw_ret
      apply q_ret_block
      apply q_ret_seq
      apply q_ret_loop
      apply q_ret_block
      apply q_ret_seq
      simp only [QRet, QRetM, objsAre, Tryd.results52, resA, mapO_nil, mapO_cons, vD_dat, vD_nils, vD_rp, vD_osl, vD_ptr, vD_agg, vD_fn, vL_dat, vL_app, viewL, avD, avT2, datsOf, fillA, ↓reduceIte, Nat.reduceEqDiff, Nat.reduceLT, Nat.reduceLeDiff, Nat.reduceAdd, Nat.reduceSub, reduceCtorEq, ne_eq, eq_self, if_true, if_false, forall_eq, forall_eq_or_imp, Int.reduceToNat, Int.reduceLT, Int.reduceLE, ↓List.forall_mem_cons, Nat.reduceMul, ite_self, forall_const, implies_true, Op.operands, avT0, avT1, hP, hG, tiA]
      first | rw [hhit] | rw [hfin]
      
    · skip
      apply aw_skip
      apply q_block
      apply q_seq
      apply aw_reg [0, 1, 7, 8] []
      · simp (disch := omega) only [avR2, avD, avT2, datsOf, fillA, ↓reduceIte, Nat.reduceEqDiff, Nat.reduceLT, Nat.reduceLeDiff, Nat.reduceAdd, Nat.reduceSub, reduceCtorEq, ne_eq, eq_self, if_true, if_false, forall_eq, forall_eq_or_imp, Int.reduceToNat, Int.reduceLT, Int.reduceLE, ↓List.forall_mem_cons, Nat.reduceMul, ite_self, forall_const, implies_true, Op.operands, avT0, avT1, hN, hP, hG, hR.1, hR.2.1, hR.2.2.1, tiA]
        first | exact ⟨rfl, rfl⟩ | ((repeat' first | refine And.intro ?_ ?_ | intro _) <;> first | with_reducible rfl | assumption | omega | rfl | (rename_i hq; rw [hq]; rfl) | (simp_all; done))
      refine q_loop (⟨i + 1, by omega, firstI_miss _ hf (by simpa using hb)⟩) (Le.of ?_ ?_) (by dsimp only; omega)
      · try simp (disch := omega) only [LeE, LeO, avD, avT2, datsOf, fillA, ↓reduceIte, Nat.reduceEqDiff, Nat.reduceLT, Nat.reduceLeDiff, Nat.reduceAdd, Nat.reduceSub, reduceCtorEq, ne_eq, eq_self, if_true, if_false, forall_eq, forall_eq_or_imp, Int.reduceToNat, Int.reduceLT, Int.reduceLE, ↓List.forall_mem_cons, Nat.reduceMul, ite_self, forall_const, implies_true, Op.operands, avT0, avT1]
        all_goals first | done | (repeat' apply And.intro) <;> first | rfl | omega | assumption | (simp only [AV.dat.injEq, Dat.int.injEq, true_and]; omega) | (congr <;> omega)
      · try simp (disch := omega) only [LeE, LeO, avD, avT2, datsOf, fillA, ↓reduceIte, Nat.reduceEqDiff, Nat.reduceLT, Nat.reduceLeDiff, Nat.reduceAdd, Nat.reduceSub, reduceCtorEq, ne_eq, eq_self, if_true, if_false, forall_eq, forall_eq_or_imp, Int.reduceToNat, Int.reduceLT, Int.reduceLE, ↓List.forall_mem_cons, Nat.reduceMul, ite_self, forall_const, implies_true, Op.operands, avT0, avT1]
        all_goals first | done | (repeat' apply And.intro) <;> first | rfl | omega | assumption | (simp only [AV.dat.injEq, Dat.int.injEq, true_and]; omega) | (congr <;> omega)
  · skip
    have hil : i = l.length := by omega
    subst hil
    have hfr := firstI_range (fun k => p (l.getD k default)) l.length
    have hfin : firstI (fun k => p (l.getD k default)) l.length = -1 := by omega
    apply aw_exit
    apply q_exit_seq
    apply q_exit_loop
    apply q_exit
    apply q_seq
    apply aw_regs [4] []
    · simp (disch := omega) only [avR2, avD, avT2, datsOf, fillA, ↓reduceIte, Nat.reduceEqDiff, Nat.reduceLT, Nat.reduceLeDiff, Nat.reduceAdd, Nat.reduceSub, reduceCtorEq, ne_eq, eq_self, if_true, if_false, forall_eq, forall_eq_or_imp, Int.reduceToNat, Int.reduceLT, Int.reduceLE, ↓List.forall_mem_cons, Nat.reduceMul, ite_self, forall_const, implies_true, Op.operands, avT0, avT1, hN, hP, hG, hR.1, hR.2.1, hR.2.2.1, tiA]
      first | exact ⟨rfl, rfl⟩ | ((repeat' first | refine And.intro ?_ ?_ | intro _) <;> first | with_reducible rfl | assumption | omega | rfl | (rename_i hq; rw [hq]; rfl) | (simp_all; done))
    apply aw_ret
    simp only [QRet, QRetM, objsAre, Tryd.results52, resA, mapO_nil, mapO_cons, vD_dat, vD_nils, vD_rp, vD_osl, vD_ptr, vD_agg, vD_fn, vL_dat, vL_app, viewL, avD, avT2, datsOf, fillA, ↓reduceIte, Nat.reduceEqDiff, Nat.reduceLT, Nat.reduceLeDiff, Nat.reduceAdd, Nat.reduceSub, reduceCtorEq, ne_eq, eq_self, if_true, if_false, forall_eq, forall_eq_or_imp, Int.reduceToNat, Int.reduceLT, Int.reduceLE, ↓List.forall_mem_cons, Nat.reduceMul, ite_self, forall_const, implies_true, Op.operands, avT0, avT1, hP, hG, tiA]
    first | rw [hhit] | rw [hfin]
    

theorem contains_ok (G) (l : List (Int × Int)) (g : FuncId) (p : Int × Int → Bool) (hl : l.length ≤ 100) (hg : ∀ o ∈ l, Gives Tryd.prog G g [oD o] [.bool (p o)]) : Gives Tryd.prog G 42 [osD l, .fn g []] [.bool (decide (0 ≤ firstI (fun k => p (l.getD k default)) l.length))] := by
  refine gives_introF [] [] [] Tryd.func42 rfl (by rfl) (by simp [Tryd.ntmps42]) fun F hP hG hN hR => ?_
  rw [Tryd.ntmps42] at hN
  apply aw_regs [0, 1] []
  · simp (disch := omega) only [avR2, avD, avT2, datsOf, fillA, ↓reduceIte, Nat.reduceEqDiff, Nat.reduceLT, Nat.reduceLeDiff, Nat.reduceAdd, Nat.reduceSub, reduceCtorEq, ne_eq, eq_self, if_true, if_false, forall_eq, forall_eq_or_imp, Int.reduceToNat, Int.reduceLT, Int.reduceLE, ↓List.forall_mem_cons, Nat.reduceMul, ite_self, forall_const, implies_true, Op.operands, avT0, avT1, hN, hP, hG, hR.1, hR.2.1, hR.2.2.1, tiA]
    first | exact ⟨rfl, rfl⟩ | ((repeat' first | refine And.intro ?_ ?_ | intro _) <;> first | with_reducible rfl | assumption | omega | rfl | (rename_i hq; rw [hq]; rfl) | (simp_all; done))
  apply aw_regs [4] []
  · simp (disch := omega) only [avR2, avD, avT2, datsOf, fillA, ↓reduceIte, Nat.reduceEqDiff, Nat.reduceLT, Nat.reduceLeDiff, Nat.reduceAdd, Nat.reduceSub, reduceCtorEq, ne_eq, eq_self, if_true, if_false, forall_eq, forall_eq_or_imp, Int.reduceToNat, Int.reduceLT, Int.reduceLE, ↓List.forall_mem_cons, Nat.reduceMul, ite_self, forall_const, implies_true, Op.operands, avT0, avT1, hN, hP, hG, hR.1, hR.2.1, hR.2.2.1, tiA]
    (repeat' refine And.intro ?_ ?_) <;> try first | omega | assumption | with_reducible rfl | exact rfl | (intro hside; (repeat' refine And.intro ?_ ?_) <;> first | exact hside | omega | (rw [hside]; rfl) | (simp_all; done))
    refine CallC.use (gvF hP hG (index_ok G l g p hl hg)) rfl ?_
    try simp (maxSteps := 2000000) (disch := omega) only [avR2, avD, avT2, datsOf, fillA, ↓reduceIte, Nat.reduceEqDiff, Nat.reduceLT, Nat.reduceLeDiff, Nat.reduceAdd, Nat.reduceSub, reduceCtorEq, ne_eq, eq_self, if_true, if_false, forall_eq, forall_eq_or_imp, Int.reduceToNat, Int.reduceLT, Int.reduceLE, ↓List.forall_mem_cons, Nat.reduceMul, ite_self, forall_const, implies_true, Op.operands, avT0, avT1, hN, hP, hG, hR.1, hR.2.1, hR.2.2.1, tiA]
    first | exact ⟨rfl, rfl⟩ | ((repeat' first | refine And.intro ?_ ?_ | intro _) <;> first | with_reducible rfl | assumption | omega | rfl | (rename_i hq; rw [hq]; rfl) | (simp_all; done))
  apply aw_ret
  simp only [QRet, QRetM, objsAre, Tryd.results42, resA, mapO_nil, mapO_cons, vD_dat, vD_nils, vD_rp, vD_osl, vD_ptr, vD_agg, vD_fn, vL_dat, vL_app, viewL, avD, avT2, datsOf, fillA, ↓reduceIte, Nat.reduceEqDiff, Nat.reduceLT, Nat.reduceLeDiff, Nat.reduceAdd, Nat.reduceSub, reduceCtorEq, ne_eq, eq_self, if_true, if_false, forall_eq, forall_eq_or_imp, Int.reduceToNat, Int.reduceLT, Int.reduceLE, ↓List.forall_mem_cons, Nat.reduceMul, ite_self, forall_const, implies_true, Op.operands, avT0, avT1, hP, hG, tiA]

theorem containsL_ok (G) (l : List (List (Int × Int))) (g : FuncId) (p : List (Int × Int) → Bool) (hl : l.length ≤ 100) (hg : ∀ o ∈ l, Gives Tryd.prog G g [osD o] [.bool (p o)]) : Gives Tryd.prog G 39 [.sl (l.map osD), .fn g []] [.bool (decide (0 ≤ firstI (fun k => p (l.getD k default)) l.length))] := by
  refine gives_introF [] [] [] Tryd.func39 rfl (by rfl) (by simp [Tryd.ntmps39]) fun F hP hG hN hR => ?_
  rw [Tryd.ntmps39] at hN
  apply aw_regs [0, 1] []
  · simp (disch := omega) only [avR2, avD, avT2, datsOf, fillA, ↓reduceIte, Nat.reduceEqDiff, Nat.reduceLT, Nat.reduceLeDiff, Nat.reduceAdd, Nat.reduceSub, reduceCtorEq, ne_eq, eq_self, if_true, if_false, forall_eq, forall_eq_or_imp, Int.reduceToNat, Int.reduceLT, Int.reduceLE, ↓List.forall_mem_cons, Nat.reduceMul, ite_self, forall_const, implies_true, Op.operands, avT0, avT1, hN, hP, hG, hR.1, hR.2.1, hR.2.2.1, tiA]
    first | exact ⟨rfl, rfl⟩ | ((repeat' first | refine And.intro ?_ ?_ | intro _) <;> first | with_reducible rfl | assumption | omega | rfl | (rename_i hq; rw [hq]; rfl) | (simp_all; done))
  apply aw_regs [4] []
  · simp (disch := omega) only [avR2, avD, avT2, datsOf, fillA, ↓reduceIte, Nat.reduceEqDiff, Nat.reduceLT, Nat.reduceLeDiff, Nat.reduceAdd, Nat.reduceSub, reduceCtorEq, ne_eq, eq_self, if_true, if_false, forall_eq, forall_eq_or_imp, Int.reduceToNat, Int.reduceLT, Int.reduceLE, ↓List.forall_mem_cons, Nat.reduceMul, ite_self, forall_const, implies_true, Op.operands, avT0, avT1, hN, hP, hG, hR.1, hR.2.1, hR.2.2.1, tiA]
    (repeat' refine And.intro ?_ ?_) <;> try first | omega | assumption | with_reducible rfl | exact rfl | (intro hside; (repeat' refine And.intro ?_ ?_) <;> first | exact hside | omega | (rw [hside]; rfl) | (simp_all; done))
    refine CallC.use (gvF hP hG (indexL_ok G l g p hl hg)) rfl ?_
    try simp (maxSteps := 2000000) (disch := omega) only [avR2, avD, avT2, datsOf, fillA, ↓reduceIte, Nat.reduceEqDiff, Nat.reduceLT, Nat.reduceLeDiff, Nat.reduceAdd, Nat.reduceSub, reduceCtorEq, ne_eq, eq_self, if_true, if_false, forall_eq, forall_eq_or_imp, Int.reduceToNat, Int.reduceLT, Int.reduceLE, ↓List.forall_mem_cons, Nat.reduceMul, ite_self, forall_const, implies_true, Op.operands, avT0, avT1, hN, hP, hG, hR.1, hR.2.1, hR.2.2.1, tiA]
    first | exact ⟨rfl, rfl⟩ | ((repeat' first | refine And.intro ?_ ?_ | intro _) <;> first | with_reducible rfl | assumption | omega | rfl | (rename_i hq; rw [hq]; rfl) | (simp_all; done))
  apply aw_ret
  simp only [QRet, QRetM, objsAre, Tryd.results39, resA, mapO_nil, mapO_cons, vD_dat, vD_nils, vD_rp, vD_osl, vD_ptr, vD_agg, vD_fn, vL_dat, vL_app, viewL, avD, avT2, datsOf, fillA, ↓reduceIte, Nat.reduceEqDiff, Nat.reduceLT, Nat.reduceLeDiff, Nat.reduceAdd, Nat.reduceSub, reduceCtorEq, ne_eq, eq_self, if_true, if_false, forall_eq, forall_eq_or_imp, Int.reduceToNat, Int.reduceLT, Int.reduceLE, ↓List.forall_mem_cons, Nat.reduceMul, ite_self, forall_const, implies_true, Op.operands, avT0, avT1, hP, hG, tiA]

theorem valid1_ok (G) (l : List (Int × Int)) (hl : l.length ≤ 100) : Gives Tryd.prog G 40 [osD l] [.bool (decide (8 < (l.length : Int)))] := by
  refine gives_intro [] [] [] Tryd.func40 rfl (by rfl) (by simp [Tryd.ntmps40]) fun F hP hG hN hR => ?_
  rw [Tryd.ntmps40] at hN
  apply aw_regs [0] []
  · simp (disch := omega) only [avR2, avD, avT2, datsOf, fillA, ↓reduceIte, Nat.reduceEqDiff, Nat.reduceLT, Nat.reduceLeDiff, Nat.reduceAdd, Nat.reduceSub, reduceCtorEq, ne_eq, eq_self, if_true, if_false, forall_eq, forall_eq_or_imp, Int.reduceToNat, Int.reduceLT, Int.reduceLE, ↓List.forall_mem_cons, Nat.reduceMul, ite_self, forall_const, implies_true, Op.operands, avT0, avT1, hN, hP, hG, hR.1, hR.2.1, hR.2.2.1, tiA]
    first | exact ⟨rfl, rfl⟩ | ((repeat' first | refine And.intro ?_ ?_ | intro _) <;> first | with_reducible rfl | assumption | omega | rfl | (rename_i hq; rw [hq]; rfl) | (simp_all; done))
  apply aw_regs [2] []
  · simp (disch := omega) only [avR2, avD, avT2, datsOf, fillA, ↓reduceIte, Nat.reduceEqDiff, Nat.reduceLT, Nat.reduceLeDiff, Nat.reduceAdd, Nat.reduceSub, reduceCtorEq, ne_eq, eq_self, if_true, if_false, forall_eq, forall_eq_or_imp, Int.reduceToNat, Int.reduceLT, Int.reduceLE, ↓List.forall_mem_cons, Nat.reduceMul, ite_self, forall_const, implies_true, Op.operands, avT0, avT1, hN, hP, hG, hR.1, hR.2.1, hR.2.2.1, tiA]
    first | exact ⟨rfl, rfl⟩ | ((repeat' first | refine And.intro ?_ ?_ | intro _) <;> first | with_reducible rfl | assumption | omega | rfl | (rename_i hq; rw [hq]; rfl) | (simp_all; done))
  apply aw_ret
  simp only [QRet, QRetM, objsAre, Tryd.results40, resA, mapO_nil, mapO_cons, vD_dat, vD_nils, vD_rp, vD_osl, vD_ptr, vD_agg, vD_fn, vL_dat, vL_app, viewL, avD, avT2, datsOf, fillA, ↓reduceIte, Nat.reduceEqDiff, Nat.reduceLT, Nat.reduceLeDiff, Nat.reduceAdd, Nat.reduceSub, reduceCtorEq, ne_eq, eq_self, if_true, if_false, forall_eq, forall_eq_or_imp, Int.reduceToNat, Int.reduceLT, Int.reduceLE, ↓List.forall_mem_cons, Nat.reduceMul, ite_self, forall_const, implies_true, Op.operands, avT0, avT1, hP, hG, tiA]

theorem valid2_ok (G) (o : Int × Int) : Gives Tryd.prog G 41 [oD o] [.bool (decide (¬ okO o))] := by
  refine gives_intro [] [] [] Tryd.func41 rfl (by rfl) (by simp [Tryd.ntmps41]) fun F hP hG hN hR => ?_
  rw [Tryd.ntmps41] at hN
  apply aw_regs [1] [1]
  · simp (disch := omega) only [avR2, avD, avT2, datsOf, fillA, ↓reduceIte, Nat.reduceEqDiff, Nat.reduceLT, Nat.reduceLeDiff, Nat.reduceAdd, Nat.reduceSub, reduceCtorEq, ne_eq, eq_self, if_true, if_false, forall_eq, forall_eq_or_imp, Int.reduceToNat, Int.reduceLT, Int.reduceLE, ↓List.forall_mem_cons, Nat.reduceMul, ite_self, forall_const, implies_true, Op.operands, avT0, avT1, hN, hP, hG, hR.1, hR.2.1, hR.2.2.1, tiA]
    first | exact ⟨rfl, rfl⟩ | ((repeat' first | refine And.intro ?_ ?_ | intro _) <;> first | with_reducible rfl | assumption | omega | rfl | (rename_i hq; rw [hq]; rfl) | (simp_all; done))
  apply aw_regs [2] []
  · simp (maxSteps := 2000000) (disch := omega) only [avR2, avD, avT2, datsOf, fillA, ↓reduceIte, Nat.reduceEqDiff, Nat.reduceLT, Nat.reduceLeDiff, Nat.reduceAdd, Nat.reduceSub, reduceCtorEq, ne_eq, eq_self, if_true, if_false, forall_eq, forall_eq_or_imp, Int.reduceToNat, Int.reduceLT, Int.reduceLE, ↓List.forall_mem_cons, Nat.reduceMul, ite_self, forall_const, implies_true, Op.operands, avT0, avT1, hN, hP, hG, hR.1, hR.2.1, hR.2.2.1, tiA]
    first | exact ⟨rfl, rfl⟩ | ((repeat' first | refine And.intro ?_ ?_ | intro _) <;> first | with_reducible rfl | assumption | omega | rfl | (rename_i hq; rw [hq]; rfl) | (simp_all; done))
  apply aw_ret
  simp only [QRet, QRetM, objsAre, Tryd.results41, resA, mapO_nil, mapO_cons, vD_dat, vD_nils, vD_rp, vD_osl, vD_ptr, vD_agg, vD_fn, vL_dat, vL_app, viewL, avD, avT2, datsOf, fillA, ↓reduceIte, Nat.reduceEqDiff, Nat.reduceLT, Nat.reduceLeDiff, Nat.reduceAdd, Nat.reduceSub, reduceCtorEq, ne_eq, eq_self, if_true, if_false, forall_eq, forall_eq_or_imp, Int.reduceToNat, Int.reduceLT, Int.reduceLE, ↓List.forall_mem_cons, Nat.reduceMul, ite_self, forall_const, implies_true, Op.operands, avT0, avT1, hP, hG, tiA]
  unfold okO
  simp only [Option.some.injEq, List.cons.injEq, Dat.bool.injEq, and_true]
  rw [Bool.eq_iff_iff]
  simp only [Bool.or_eq_true, decide_eq_true_eq]
  omega
  

theorem cost_ok (G) (c : CaseM) (pick : List Int) (hc : OkC c) (hp : OkP c pick) : Gives Tryd.prog G 43 [caseD c, isD pick] [iD (turnsM c pick pick.length), iD (linesM c pick pick.length)] := by
  have hw := hc.wl
  have hpl := hp.len
  have hn := hc.n64
  refine gives_intro [] [] [] Tryd.func43 rfl (by rfl) (by simp [Tryd.ntmps43]) fun F hP hG hN hR => ?_
  rw [Tryd.ntmps43] at hN
  apply aw_regs [1, 2] [2]
  · simp (disch := omega) only [avR2, avD, avT2, datsOf, fillA, ↓reduceIte, Nat.reduceEqDiff, Nat.reduceLT, Nat.reduceLeDiff, Nat.reduceAdd, Nat.reduceSub, reduceCtorEq, ne_eq, eq_self, if_true, if_false, forall_eq, forall_eq_or_imp, Int.reduceToNat, Int.reduceLT, Int.reduceLE, ↓List.forall_mem_cons, Nat.reduceMul, ite_self, forall_const, implies_true, Op.operands, avT0, avT1, hN, hP, hG, hR.1, hR.2.1, hR.2.2.1, tiA]
    first | exact ⟨rfl, rfl⟩ | ((repeat' first | refine And.intro ?_ ?_ | intro _) <;> first | with_reducible rfl | assumption | omega | rfl | (rename_i hq; rw [hq]; rfl) | (simp_all; done))
  apply aw_regs [1, 2, 6, 7] [2]
  · simp (disch := omega) only [avR2, avD, avT2, datsOf, fillA, ↓reduceIte, Nat.reduceEqDiff, Nat.reduceLT, Nat.reduceLeDiff, Nat.reduceAdd, Nat.reduceSub, reduceCtorEq, ne_eq, eq_self, if_true, if_false, forall_eq, forall_eq_or_imp, Int.reduceToNat, Int.reduceLT, Int.reduceLE, ↓List.forall_mem_cons, Nat.reduceMul, ite_self, forall_const, implies_true, Op.operands, avT0, avT1, hN, hP, hG, hR.1, hR.2.1, hR.2.2.1, tiA]
    first | exact ⟨rfl, rfl⟩ | ((repeat' first | refine And.intro ?_ ?_ | intro _) <;> first | with_reducible rfl | assumption | omega | rfl | (rename_i hq; rw [hq]; rfl) | (simp_all; done))
  apply aw_seq
  apply aw_regs [2, 6, 7, 10, 11, 12] [2]
  · simp (disch := omega) only [avR2, avD, avT2, datsOf, fillA, ↓reduceIte, Nat.reduceEqDiff, Nat.reduceLT, Nat.reduceLeDiff, Nat.reduceAdd, Nat.reduceSub, reduceCtorEq, ne_eq, eq_self, if_true, if_false, forall_eq, forall_eq_or_imp, Int.reduceToNat, Int.reduceLT, Int.reduceLE, ↓List.forall_mem_cons, Nat.reduceMul, ite_self, forall_const, implies_true, Op.operands, avT0, avT1, hN, hP, hG, hR.1, hR.2.1, hR.2.2.1, tiA]
    first | exact ⟨rfl, rfl⟩ | ((repeat' first | refine And.intro ?_ ?_ | intro _) <;> first | with_reducible rfl | assumption | omega | rfl | (rename_i hq; rw [hq]; rfl) | (simp_all; done))
  apply aw_block
  refine aw_loop (ι := {i : Nat // i ≤ pick.length}) (fun ⟨i, hi⟩ => .of [(2, .ptr 2 3 0 0), (6, .dat (iD (turnsM c pick i))), (7, .dat (iD (linesM c pick i))), (10, .dat (isD pick)), (11, .dat (iD pick.length)), (12, .dat (iD i))] [(2, ⟨3, [.dat (caseD c)]⟩)]) (fun ⟨i, hi⟩ => pick.length - i) (⟨0, by omega⟩) (Le.of ?_ ?_) fun ix => ?_
  · try simp (disch := omega) only [LeE, LeO, avD, avT2, datsOf, fillA, ↓reduceIte, Nat.reduceEqDiff, Nat.reduceLT, Nat.reduceLeDiff, Nat.reduceAdd, Nat.reduceSub, reduceCtorEq, ne_eq, eq_self, if_true, if_false, forall_eq, forall_eq_or_imp, Int.reduceToNat, Int.reduceLT, Int.reduceLE, ↓List.forall_mem_cons, Nat.reduceMul, ite_self, forall_const, implies_true, Op.operands, avT0, avT1, linesM, turnsM, optM, itemM, weightM, pickM, Int.mul_comm]
    all_goals first | done | (repeat' apply And.intro) <;> first | rfl | omega | assumption | (simp only [AV.dat.injEq, Dat.int.injEq, true_and]; omega) | (congr <;> omega)
  · try simp (disch := omega) only [LeE, LeO, avD, avT2, datsOf, fillA, ↓reduceIte, Nat.reduceEqDiff, Nat.reduceLT, Nat.reduceLeDiff, Nat.reduceAdd, Nat.reduceSub, reduceCtorEq, ne_eq, eq_self, if_true, if_false, forall_eq, forall_eq_or_imp, Int.reduceToNat, Int.reduceLT, Int.reduceLE, ↓List.forall_mem_cons, Nat.reduceMul, ite_self, forall_const, implies_true, Op.operands, avT0, avT1, linesM, turnsM, optM, itemM, weightM, pickM, Int.mul_comm]
    all_goals first | done | (repeat' apply And.intro) <;> first | rfl | omega | assumption | (simp only [AV.dat.injEq, Dat.int.injEq, true_and]; omega) | (congr <;> omega)
  obtain ⟨i, hi⟩ := ix
  dsimp only
  apply aw_regs [2, 6, 7, 10, 11, 12, 13] [2]
  · simp (disch := omega) only [avR2, avD, avT2, datsOf, fillA, ↓reduceIte, Nat.reduceEqDiff, Nat.reduceLT, Nat.reduceLeDiff, Nat.reduceAdd, Nat.reduceSub, reduceCtorEq, ne_eq, eq_self, if_true, if_false, forall_eq, forall_eq_or_imp, Int.reduceToNat, Int.reduceLT, Int.reduceLE, ↓List.forall_mem_cons, Nat.reduceMul, ite_self, forall_const, implies_true, Op.operands, avT0, avT1, hN, hP, hG, hR.1, hR.2.1, hR.2.2.1, tiA]
    first | exact ⟨rfl, rfl⟩ | ((repeat' first | refine And.intro ?_ ?_ | intro _) <;> first | with_reducible rfl | assumption | omega | rfl | (rename_i hq; rw [hq]; rfl) | (simp_all; done))
  apply aw_seq
  refine aw_if _ rfl (fun hb => ?_) (fun hb => ?_) <;> (try simp only [pickB_true, pickB_false, Bool.false_or, Bool.false_and, Bool.true_and, decide_eq_true_eq, decide_eq_false_iff_not, Bool.or_eq_true, Bool.and_eq_true, Bool.or_eq_false_iff, Bool.and_eq_false_imp, Bool.not_eq_true, Bool.not_eq_false, Bool.not_eq_eq_eq_not, Bool.not_true, Bool.not_false, Int.not_lt, Int.not_le, beq_iff_eq, beq_eq_false_iff_ne, bne_iff_ne, bne_eq_false_iff_eq, ne_eq, Bool.true_eq_false, Bool.false_eq_true, if_false_left, if_true_left, Bool.not_eq_eq_eq_not, Bool.decide_eq_true, Classical.not_not] at hb)
  · skip
    have hpi := hp.at_ i (by omega)
    have ho := hp.opt hc (show i < pick.length by omega)
    have hs := sums_range hc hp i (by omega)
    have hwi := hc.w i (by omega)
    have hm1 : 0 ≤ weightM c i * (optM c pick i).2 := Int.mul_nonneg hwi.1 ho.2.2.1
    have hm2 : weightM c i * (optM c pick i).2 ≤ 1024 * 64 := Int.mul_le_mul hwi.2 ho.2.2.2 ho.2.2.1 (by omega)
    unfold okO at ho
    simp only [optM, itemM, weightM, pickM] at hpi ho hs hwi hm1 hm2
    apply aw_skip
    apply q_seq
    apply aw_seq
    apply aw_block
    apply aw_regs [2, 6, 7, 8, 9, 10, 11, 12] [2]
    · simp (disch := omega) only [avR2, avD, avT2, datsOf, fillA, ↓reduceIte, Nat.reduceEqDiff, Nat.reduceLT, Nat.reduceLeDiff, Nat.reduceAdd, Nat.reduceSub, reduceCtorEq, ne_eq, eq_self, if_true, if_false, forall_eq, forall_eq_or_imp, Int.reduceToNat, Int.reduceLT, Int.reduceLE, ↓List.forall_mem_cons, Nat.reduceMul, ite_self, forall_const, implies_true, Op.operands, avT0, avT1, hN, hP, hG, hR.1, hR.2.1, hR.2.2.1, tiA]
      first | exact ⟨rfl, rfl⟩ | ((repeat' first | refine And.intro ?_ ?_ | intro _) <;> first | with_reducible rfl | assumption | omega | rfl | (rename_i hq; rw [hq]; rfl) | (simp_all; done))
    apply aw_rgds [2, 6, 7, 8, 9, 10, 11, 12] [2] [0, 1, 2, 3, 4, 5, 6, 7, 8, 9, 10, 11, 12, 13, 14, 15, 16, 17] []
    · rw [hP]; kernel_rfl
    · exact hR
    · kernel_rfl
    · (repeat (apply PickL.cons; exact rfl)); exact PickL.nil _
    · simp (maxSteps := 2000000) (disch := omega) only [avR2, avD, avT2, datsOf, fillA, ↓reduceIte, Nat.reduceEqDiff, Nat.reduceLT, Nat.reduceLeDiff, Nat.reduceAdd, Nat.reduceSub, reduceCtorEq, ne_eq, eq_self, if_true, if_false, forall_eq, forall_eq_or_imp, Int.reduceToNat, Int.reduceLT, Int.reduceLE, ↓List.forall_mem_cons, Nat.reduceMul, ite_self, forall_const, implies_true, Op.operands, avT0, avT1, hN, hP, hG, hR.1, hR.2.1, hR.2.2.1, tiA]
      first | exact ⟨rfl, rfl⟩ | ((repeat' first | refine And.intro ?_ ?_ | intro _) <;> first | with_reducible rfl | assumption | omega | rfl | (rename_i hq; rw [hq]; rfl) | (simp_all; done))
    apply aw_reg [2, 6, 7, 10, 11, 12] [2]
    · simp (disch := omega) only [avR2, avD, avT2, datsOf, fillA, ↓reduceIte, Nat.reduceEqDiff, Nat.reduceLT, Nat.reduceLeDiff, Nat.reduceAdd, Nat.reduceSub, reduceCtorEq, ne_eq, eq_self, if_true, if_false, forall_eq, forall_eq_or_imp, Int.reduceToNat, Int.reduceLT, Int.reduceLE, ↓List.forall_mem_cons, Nat.reduceMul, ite_self, forall_const, implies_true, Op.operands, avT0, avT1, hN, hP, hG, hR.1, hR.2.1, hR.2.2.1, tiA]
      first | exact ⟨rfl, rfl⟩ | ((repeat' first | refine And.intro ?_ ?_ | intro _) <;> first | with_reducible rfl | assumption | omega | rfl | (rename_i hq; rw [hq]; rfl) | (simp_all; done))
    apply q_block
    apply q_seq
    apply aw_reg [2, 6, 7, 10, 11, 12] [2]
    · simp (disch := omega) only [avR2, avD, avT2, datsOf, fillA, ↓reduceIte, Nat.reduceEqDiff, Nat.reduceLT, Nat.reduceLeDiff, Nat.reduceAdd, Nat.reduceSub, reduceCtorEq, ne_eq, eq_self, if_true, if_false, forall_eq, forall_eq_or_imp, Int.reduceToNat, Int.reduceLT, Int.reduceLE, ↓List.forall_mem_cons, Nat.reduceMul, ite_self, forall_const, implies_true, Op.operands, avT0, avT1, hN, hP, hG, hR.1, hR.2.1, hR.2.2.1, tiA]
      first | exact ⟨rfl, rfl⟩ | ((repeat' first | refine And.intro ?_ ?_ | intro _) <;> first | with_reducible rfl | assumption | omega | rfl | (rename_i hq; rw [hq]; rfl) | (simp_all; done))
    refine q_loop (⟨i + 1, by omega⟩) (Le.of ?_ ?_) (by dsimp only; omega)
    · try simp (disch := omega) only [LeE, LeO, avD, avT2, datsOf, fillA, ↓reduceIte, Nat.reduceEqDiff, Nat.reduceLT, Nat.reduceLeDiff, Nat.reduceAdd, Nat.reduceSub, reduceCtorEq, ne_eq, eq_self, if_true, if_false, forall_eq, forall_eq_or_imp, Int.reduceToNat, Int.reduceLT, Int.reduceLE, ↓List.forall_mem_cons, Nat.reduceMul, ite_self, forall_const, implies_true, Op.operands, avT0, avT1, linesM, turnsM, optM, itemM, weightM, pickM, Int.mul_comm]
      all_goals first | done | (repeat' apply And.intro) <;> first | rfl | omega | assumption | (simp only [AV.dat.injEq, Dat.int.injEq, true_and]; omega) | (congr <;> omega)
    · try simp (disch := omega) only [LeE, LeO, avD, avT2, datsOf, fillA, ↓reduceIte, Nat.reduceEqDiff, Nat.reduceLT, Nat.reduceLeDiff, Nat.reduceAdd, Nat.reduceSub, reduceCtorEq, ne_eq, eq_self, if_true, if_false, forall_eq, forall_eq_or_imp, Int.reduceToNat, Int.reduceLT, Int.reduceLE, ↓List.forall_mem_cons, Nat.reduceMul, ite_self, forall_const, implies_true, Op.operands, avT0, avT1, linesM, turnsM, optM, itemM, weightM, pickM, Int.mul_comm]
      all_goals first | done | (repeat' apply And.intro) <;> first | rfl | omega | assumption | (simp only [AV.dat.injEq, Dat.int.injEq, true_and]; omega) | (congr <;> omega)
  · skip
    have hie : i = pick.length := by omega
    subst hie
    
    apply aw_exit
    apply q_exit_seq
    apply q_exit_loop
    apply q_exit
    apply q_seq
    apply aw_regs [4, 5] []
    · simp (disch := omega) only [avR2, avD, avT2, datsOf, fillA, ↓reduceIte, Nat.reduceEqDiff, Nat.reduceLT, Nat.reduceLeDiff, Nat.reduceAdd, Nat.reduceSub, reduceCtorEq, ne_eq, eq_self, if_true, if_false, forall_eq, forall_eq_or_imp, Int.reduceToNat, Int.reduceLT, Int.reduceLE, ↓List.forall_mem_cons, Nat.reduceMul, ite_self, forall_const, implies_true, Op.operands, avT0, avT1, hN, hP, hG, hR.1, hR.2.1, hR.2.2.1, tiA]
      first | exact ⟨rfl, rfl⟩ | ((repeat' first | refine And.intro ?_ ?_ | intro _) <;> first | with_reducible rfl | assumption | omega | rfl | (rename_i hq; rw [hq]; rfl) | (simp_all; done))
    apply aw_ret
    simp only [QRet, QRetM, objsAre, Tryd.results43, resA, mapO_nil, mapO_cons, vD_dat, vD_nils, vD_rp, vD_osl, vD_ptr, vD_agg, vD_fn, vL_dat, vL_app, viewL, avD, avT2, datsOf, fillA, ↓reduceIte, Nat.reduceEqDiff, Nat.reduceLT, Nat.reduceLeDiff, Nat.reduceAdd, Nat.reduceSub, reduceCtorEq, ne_eq, eq_self, if_true, if_false, forall_eq, forall_eq_or_imp, Int.reduceToNat, Int.reduceLT, Int.reduceLE, ↓List.forall_mem_cons, Nat.reduceMul, ite_self, forall_const, implies_true, Op.operands, avT0, avT1, hP, hG, tiA]

end Go.Proofs.YthcfjdkflmkhbaaDoor

