/- The contract of ChooseBounds. -/
import Derived.Test.YthcfjdkflmkhbaaDoorHCh19
set_option linter.all false
namespace Go.Proofs.YthcfjdkflmkhbaaDoor
open Go.Av

/-- The prices and the certificates that are compared. -/
def psM (p q : Int) : List (Int × Int) := [(p, q), (aroundM p 40, 1 + aroundM q 9), (0, 1)]
def cesM (c : CaseM) (p q bd : Int) (k : Nat) : List (Int × Int × Int) := [(dualM c).1, ((dualM c).1.1, (dualM c).1.2.1, (dualM c).1.2.2 + 1), (p, q, bd)] ++ ((psM p q).take k).map fun e => (boundE c e.1 e.2).1
theorem cesM_zero (c : CaseM) (p q bd : Int) : cesM c p q bd 0 = [(dualM c).1, ((dualM c).1.1, (dualM c).1.2.1, (dualM c).1.2.2 + 1), (p, q, bd)] := rfl
theorem cesM_succ (c : CaseM) (p q bd : Int) {k : Nat} (hk : k < (psM p q).length) : cesM c p q bd (k + 1) = cesM c p q bd k ++ [(boundE c ((psM p q).getD k default).1 ((psM p q).getD k default).2).1] := by
  unfold cesM
  simp only [List.take_add_one, List.getD_eq_getElem?_getD, List.getElem?_eq_getElem hk, Option.toList_some, Option.getD_some, List.map_append, List.map_cons, List.map_nil, List.append_assoc]
theorem cesM_len (c : CaseM) (p q bd : Int) {k : Nat} (hk : k ≤ (psM p q).length) : (cesM c p q bd k).length = 3 + k := by
  unfold cesM
  simp
  omega
theorem dual_range (c : CaseM) : -4294967296 ≤ (dualM c).1.2.2 ∧ (dualM c).1.2.2 ≤ 5000000000000 := by
  unfold dualM
  split
  · simp
  · split
    · simp
    · rename_i h _
      have hc : OkC c := validM_ok.1 (by omega)
      have := dA_okB hc _ (Nat.le_refl _)
      unfold okB at this
      simp only
      omega
theorem bound_range (c : CaseM) (p q : Int) : -4294967296 ≤ (boundE c p q).1.2.2 ∧ (boundE c p q).1.2.2 ≤ 5000000000000 := by
  by_cases h : (boundE c p q).2 = 0
  · obtain ⟨hc, hpq, _, hB⟩ := boundE_ok h
    have := bnd_range hc hpq _ (Nat.le_refl _)
    have hn := hc.n64
    rw [hB]
    simp only [boundM]
    omega
  · unfold boundE at h ⊢
    split
    · simp
    · split
      · simp
      · rename_i h1 h2
        rw [if_neg h1, if_neg h2] at h
        simp at h
theorem cesM_i64 (c : CaseM) (p q bd : Int) (hb : I64 bd) (k : Nat) : ∀ x ∈ cesM c p q bd k, I64 x.2.2 := by
  have hd := dual_range c
  intro x hx
  unfold cesM at hx
  rcases List.mem_append.1 hx with hx | hx
  · simp only [List.mem_cons, List.not_mem_nil, or_false] at hx
    rcases hx with rfl | rfl | rfl
    · unfold I64; omega
    · unfold I64; simp only; omega
    · exact hb
  · obtain ⟨e, _, rfl⟩ := List.mem_map.1 hx
    have := bound_range c e.1 e.2
    unfold I64; omega
def pk2 (c : CaseM) (y : Int) : List (List Int) := [pickNM c y, pickNM c 0]


set_option maxHeartbeats 4000000 in
theorem bounds_ok (l : List Int) (how y : Int) (raw : List (Int × Int × Int × Int)) (weights : List Int) (room p q bd : Int) (hl : ∀ x ∈ l, I64 x) (hh : I64 how) (hy : I64 y) (hr : ∀ r ∈ raw, I64 r.1 ∧ I64 r.2.1 ∧ I64 r.2.2.1 ∧ I64 r.2.2.2) (hw : ∀ x ∈ weights, I64 x) (hm : I64 room) (hp : I64 p) (hq : I64 q) (hbd : I64 bd) : Gives Tryd.prog gG 4 [isD l, iD how, iD y, .sl (raw.map rD), isD weights, iD room, iD p, iD q, iD bd] [.bool true] := by
  have hcs := csM_sz l how y raw weights room hr hw hm
  have hcl := csM_len l how y raw weights room
  have i40 : I64 40 := by unfold I64; omega
  have i9 : I64 9 := by unfold I64; omega
  have i0 : I64 0 := by unfold I64; omega
  have h40 := aroundM_range (n := p) (m := 40) (by omega)
  have h9 := aroundM_range (n := q) (m := 9) (by omega)
  have hpl : (psM p q).length = 3 := rfl
  refine gives_intro [105] [] [] Tryd.func4 rfl (by rfl) (by simp [Tryd.ntmps4]) fun F hP hG hN hR => ?_
  rw [Tryd.ntmps4] at hN
  apply aw_regs [0, 1, 2, 3, 4, 5, 6, 7, 8] []
  · simp (disch := omega) only [avR2, avD, avT2, datsOf, fillA, ↓reduceIte, Nat.reduceEqDiff, Nat.reduceLT, Nat.reduceLeDiff, Nat.reduceAdd, Nat.reduceSub, reduceCtorEq, ne_eq, eq_self, if_true, if_false, forall_eq, forall_eq_or_imp, Int.reduceToNat, Int.reduceLT, Int.reduceLE, ↓List.forall_mem_cons, Nat.reduceMul, ite_self, forall_const, implies_true, Op.operands, avT0, avT1, hN, hP, hG, hR.1, hR.2.1, hR.2.2.1, tiA]
    first | exact ⟨rfl, rfl⟩ | ((repeat' first | refine And.intro ?_ ?_ | intro _) <;> first | with_reducible rfl | assumption | omega | rfl | (rename_i hq; rw [hq]; rfl) | (simp_all; done))
  apply aw_regs [1, 2, 3, 4, 5, 6, 7, 8, 19] [19]
  · simp (disch := omega) only [avR2, avD, avT2, datsOf, fillA, ↓reduceIte, Nat.reduceEqDiff, Nat.reduceLT, Nat.reduceLeDiff, Nat.reduceAdd, Nat.reduceSub, reduceCtorEq, ne_eq, eq_self, if_true, if_false, forall_eq, forall_eq_or_imp, Int.reduceToNat, Int.reduceLT, Int.reduceLE, ↓List.forall_mem_cons, Nat.reduceMul, ite_self, forall_const, implies_true, Op.operands, avT0, avT1, hN, hP, hG, hR.1, hR.2.1, hR.2.2.1, tiA]
    (repeat' refine And.intro ?_ ?_) <;> try first | omega | assumption | with_reducible rfl | exact rfl | (intro hside; (repeat' refine And.intro ?_ ?_) <;> first | exact hside | omega | (rw [hside]; rfl) | (simp_all; done))
    refine CallC.use (gvF hP hG (made_ok gG l hl)) rfl ?_
    try simp (maxSteps := 2000000) (disch := omega) only [avR2, avD, avT2, datsOf, fillA, ↓reduceIte, Nat.reduceEqDiff, Nat.reduceLT, Nat.reduceLeDiff, Nat.reduceAdd, Nat.reduceSub, reduceCtorEq, ne_eq, eq_self, if_true, if_false, forall_eq, forall_eq_or_imp, Int.reduceToNat, Int.reduceLT, Int.reduceLE, ↓List.forall_mem_cons, Nat.reduceMul, ite_self, forall_const, implies_true, Op.operands, avT0, avT1, hN, hP, hG, hR.1, hR.2.1, hR.2.2.1, tiA]
    first | exact ⟨rfl, rfl⟩ | ((repeat' first | refine And.intro ?_ ?_ | intro _) <;> first | with_reducible rfl | assumption | omega | rfl | (rename_i hq; rw [hq]; rfl) | (simp_all; done))
  apply aw_rgds [2, 6, 7, 8, 20] [48] [0, 1, 2, 3, 4, 5, 6, 7, 8, 9, 10] []
  · rw [hP]; kernel_rfl
  · exact hR
  · kernel_rfl
  · (repeat (apply PickL.cons; exact rfl)); exact PickL.nil _
  · simp (disch := omega) only [avR2, avD, avT2, datsOf, fillA, ↓reduceIte, Nat.reduceEqDiff, Nat.reduceLT, Nat.reduceLeDiff, Nat.reduceAdd, Nat.reduceSub, reduceCtorEq, ne_eq, eq_self, if_true, if_false, forall_eq, forall_eq_or_imp, Int.reduceToNat, Int.reduceLT, Int.reduceLE, ↓List.forall_mem_cons, Nat.reduceMul, ite_self, forall_const, implies_true, Op.operands, avT0, avT1, hN, hP, hG, hR.1, hR.2.1, hR.2.2.1, tiA]
    (repeat' refine And.intro ?_ ?_) <;> try first | omega | assumption | with_reducible rfl | exact rfl | (intro hside; (repeat' refine And.intro ?_ ?_) <;> first | exact hside | omega | (rw [hside]; rfl) | (simp_all; done))
    refine CallC.use (gvF hP hG (spoilt_ok gG (madeM l) how y (madeM_ok l) (madeM_len l) hh hy)) rfl ?_
    try simp (maxSteps := 2000000) (disch := omega) only [avR2, avD, avT2, datsOf, fillA, ↓reduceIte, Nat.reduceEqDiff, Nat.reduceLT, Nat.reduceLeDiff, Nat.reduceAdd, Nat.reduceSub, reduceCtorEq, ne_eq, eq_self, if_true, if_false, forall_eq, forall_eq_or_imp, Int.reduceToNat, Int.reduceLT, Int.reduceLE, ↓List.forall_mem_cons, Nat.reduceMul, ite_self, forall_const, implies_true, Op.operands, avT0, avT1, hN, hP, hG, hR.1, hR.2.1, hR.2.2.1, tiA]
    (repeat' refine And.intro ?_ ?_) <;> try first | omega | assumption | with_reducible rfl | exact rfl | (intro hside; (repeat' refine And.intro ?_ ?_) <;> first | exact hside | omega | (rw [hside]; rfl) | (simp_all; done))
    refine CallC.use (gvF hP hG (of_ok gG raw weights room)) rfl ?_
    try simp (maxSteps := 2000000) (disch := omega) only [avR2, avD, avT2, datsOf, fillA, ↓reduceIte, Nat.reduceEqDiff, Nat.reduceLT, Nat.reduceLeDiff, Nat.reduceAdd, Nat.reduceSub, reduceCtorEq, ne_eq, eq_self, if_true, if_false, forall_eq, forall_eq_or_imp, Int.reduceToNat, Int.reduceLT, Int.reduceLE, ↓List.forall_mem_cons, Nat.reduceMul, ite_self, forall_const, implies_true, Op.operands, avT0, avT1, hN, hP, hG, hR.1, hR.2.1, hR.2.2.1, tiA]
    first | exact ⟨rfl, rfl⟩ | ((repeat' first | refine And.intro ?_ ?_ | intro _) <;> first | with_reducible rfl | assumption | omega | rfl | (rename_i hq; rw [hq]; rfl) | (simp_all; done))
  apply aw_seq
  apply aw_regs [2, 6, 7, 8, 20, 21] [48]
  · simp (disch := omega) only [avR2, avD, avT2, datsOf, fillA, ↓reduceIte, Nat.reduceEqDiff, Nat.reduceLT, Nat.reduceLeDiff, Nat.reduceAdd, Nat.reduceSub, reduceCtorEq, ne_eq, eq_self, if_true, if_false, forall_eq, forall_eq_or_imp, Int.reduceToNat, Int.reduceLT, Int.reduceLE, ↓List.forall_mem_cons, Nat.reduceMul, ite_self, forall_const, implies_true, Op.operands, avT0, avT1, hN, hP, hG, hR.1, hR.2.1, hR.2.2.1, tiA]
    first | exact ⟨rfl, rfl⟩ | ((repeat' first | refine And.intro ?_ ?_ | intro _) <;> first | with_reducible rfl | assumption | omega | rfl | (rename_i hq; rw [hq]; rfl) | (simp_all; done))
  apply aw_block
  refine aw_loop (ι := {i : Nat // i ≤ 3}) (fun ⟨i, hi⟩ => .of [(2, .dat (iD y)), (6, .dat (iD p)), (7, .dat (iD q)), (8, .dat (iD bd)), (20, .dat (.sl ((csM l how y raw weights room).map caseD))), (21, .dat (iD i))] []) (fun ⟨i, hi⟩ => 3 - i) (⟨0, by omega⟩) (Le.of ?_ ?_) fun ix => ?_
  · try simp (disch := omega) only [LeE, LeO, avD, avT2, datsOf, fillA, ↓reduceIte, Nat.reduceEqDiff, Nat.reduceLT, Nat.reduceLeDiff, Nat.reduceAdd, Nat.reduceSub, reduceCtorEq, ne_eq, eq_self, if_true, if_false, forall_eq, forall_eq_or_imp, Int.reduceToNat, Int.reduceLT, Int.reduceLE, ↓List.forall_mem_cons, Nat.reduceMul, ite_self, forall_const, implies_true, Op.operands, avT0, avT1, csM, List.map_cons, List.map_nil]
    all_goals first | done | (repeat' apply And.intro) <;> first | rfl | omega | assumption | (simp only [AV.dat.injEq, Dat.int.injEq, true_and]; omega) | (congr <;> omega)
  · try simp (disch := omega) only [LeE, LeO, avD, avT2, datsOf, fillA, ↓reduceIte, Nat.reduceEqDiff, Nat.reduceLT, Nat.reduceLeDiff, Nat.reduceAdd, Nat.reduceSub, reduceCtorEq, ne_eq, eq_self, if_true, if_false, forall_eq, forall_eq_or_imp, Int.reduceToNat, Int.reduceLT, Int.reduceLE, ↓List.forall_mem_cons, Nat.reduceMul, ite_self, forall_const, implies_true, Op.operands, avT0, avT1, csM, List.map_cons, List.map_nil]
    all_goals first | done | (repeat' apply And.intro) <;> first | rfl | omega | assumption | (simp only [AV.dat.injEq, Dat.int.injEq, true_and]; omega) | (congr <;> omega)
  obtain ⟨i, hi⟩ := ix
  dsimp only
  apply aw_seq
  apply aw_regs [2, 6, 7, 8, 20, 21, 52] [48]
  · simp (disch := omega) only [avR2, avD, avT2, datsOf, fillA, ↓reduceIte, Nat.reduceEqDiff, Nat.reduceLT, Nat.reduceLeDiff, Nat.reduceAdd, Nat.reduceSub, reduceCtorEq, ne_eq, eq_self, if_true, if_false, forall_eq, forall_eq_or_imp, Int.reduceToNat, Int.reduceLT, Int.reduceLE, ↓List.forall_mem_cons, Nat.reduceMul, ite_self, forall_const, implies_true, Op.operands, avT0, avT1, hN, hP, hG, hR.1, hR.2.1, hR.2.2.1, tiA, hcl]
    first | exact ⟨rfl, rfl⟩ | ((repeat' first | refine And.intro ?_ ?_ | intro _) <;> first | with_reducible rfl | assumption | omega | rfl | (rename_i hq; rw [hq]; rfl) | (simp_all; done))
  refine aw_if _ rfl (fun hb => ?_) (fun hb => ?_) <;> (try simp only [pickB_true, pickB_false, Bool.false_or, Bool.false_and, Bool.true_and, decide_eq_true_eq, decide_eq_false_iff_not, Bool.or_eq_true, Bool.and_eq_true, Bool.or_eq_false_iff, Bool.and_eq_false_imp, Bool.not_eq_true, Bool.not_eq_false, Bool.not_eq_eq_eq_not, Bool.not_true, Bool.not_false, Int.not_lt, Int.not_le, beq_iff_eq, beq_eq_false_iff_ne, bne_iff_ne, bne_eq_false_iff_eq, ne_eq, Bool.true_eq_false, Bool.false_eq_true, if_false_left, if_true_left, Bool.not_eq_eq_eq_not, Bool.decide_eq_true, Classical.not_not] at hb)
  · skip
    have hil : i < (csM l how y raw weights room).length := by omega
    have hsz : SzC ((csM l how y raw weights room).getD i default) := getD_all hcs hil
    have hni := hsz.ni
    have hdr := dual_range ((csM l how y raw weights room).getD i default)
    apply aw_skip
    apply q_seq
    apply aw_seq
    apply aw_block
    apply aw_regs [2, 6, 7, 8, 20, 21, 22] [48, 65]
    · simp (disch := omega) only [avR2, avD, avT2, datsOf, fillA, ↓reduceIte, Nat.reduceEqDiff, Nat.reduceLT, Nat.reduceLeDiff, Nat.reduceAdd, Nat.reduceSub, reduceCtorEq, ne_eq, eq_self, if_true, if_false, forall_eq, forall_eq_or_imp, Int.reduceToNat, Int.reduceLT, Int.reduceLE, ↓List.forall_mem_cons, Nat.reduceMul, ite_self, forall_const, implies_true, Op.operands, avT0, avT1, hN, hP, hG, hR.1, hR.2.1, hR.2.2.1, tiA]
      (repeat' refine And.intro ?_ ?_) <;> try first | omega | assumption | with_reducible rfl | exact rfl | (intro hside; (repeat' refine And.intro ?_ ?_) <;> first | exact hside | omega | (rw [hside]; rfl) | (simp_all; done))
      refine CallC.use (gvF hP hG (around_ok gG p 40 hp (by omega) i40)) rfl ?_
      try simp (maxSteps := 2000000) (disch := omega) only [avR2, avD, avT2, datsOf, fillA, ↓reduceIte, Nat.reduceEqDiff, Nat.reduceLT, Nat.reduceLeDiff, Nat.reduceAdd, Nat.reduceSub, reduceCtorEq, ne_eq, eq_self, if_true, if_false, forall_eq, forall_eq_or_imp, Int.reduceToNat, Int.reduceLT, Int.reduceLE, ↓List.forall_mem_cons, Nat.reduceMul, ite_self, forall_const, implies_true, Op.operands, avT0, avT1, hN, hP, hG, hR.1, hR.2.1, hR.2.2.1, tiA]
      (repeat' refine And.intro ?_ ?_) <;> try first | omega | assumption | with_reducible rfl | exact rfl | (intro hside; (repeat' refine And.intro ?_ ?_) <;> first | exact hside | omega | (rw [hside]; rfl) | (simp_all; done))
      refine CallC.use (gvF hP hG (around_ok gG q 9 hq (by omega) i9)) rfl ?_
      try simp (maxSteps := 2000000) (disch := omega) only [avR2, avD, avT2, datsOf, fillA, ↓reduceIte, Nat.reduceEqDiff, Nat.reduceLT, Nat.reduceLeDiff, Nat.reduceAdd, Nat.reduceSub, reduceCtorEq, ne_eq, eq_self, if_true, if_false, forall_eq, forall_eq_or_imp, Int.reduceToNat, Int.reduceLT, Int.reduceLE, ↓List.forall_mem_cons, Nat.reduceMul, ite_self, forall_const, implies_true, Op.operands, avT0, avT1, hN, hP, hG, hR.1, hR.2.1, hR.2.2.1, tiA]
      first | exact ⟨rfl, rfl⟩ | ((repeat' first | refine And.intro ?_ ?_ | intro _) <;> first | with_reducible rfl | assumption | omega | rfl | (rename_i hq; rw [hq]; rfl) | (simp_all; done))
    apply aw_regs [2, 6, 7, 8, 20, 21, 22, 23, 24] [23, 48, 65]
    · simp (disch := omega) only [avR2, avD, avT2, datsOf, fillA, ↓reduceIte, Nat.reduceEqDiff, Nat.reduceLT, Nat.reduceLeDiff, Nat.reduceAdd, Nat.reduceSub, reduceCtorEq, ne_eq, eq_self, if_true, if_false, forall_eq, forall_eq_or_imp, Int.reduceToNat, Int.reduceLT, Int.reduceLE, ↓List.forall_mem_cons, Nat.reduceMul, ite_self, forall_const, implies_true, Op.operands, avT0, avT1, hN, hP, hG, hR.1, hR.2.1, hR.2.2.1, tiA, hcl]
      (repeat' refine And.intro ?_ ?_) <;> try first | omega | assumption | with_reducible rfl | exact rfl | (intro hside; (repeat' refine And.intro ?_ ?_) <;> first | exact hside | omega | (rw [hside]; rfl) | (simp_all; done))
      refine CallC.use (gvF hP hG (own_ok gG ((csM l how y raw weights room).getD i default) hsz)) rfl ?_
      try simp (maxSteps := 2000000) (disch := omega) only [avR2, avD, avT2, datsOf, fillA, ↓reduceIte, Nat.reduceEqDiff, Nat.reduceLT, Nat.reduceLeDiff, Nat.reduceAdd, Nat.reduceSub, reduceCtorEq, ne_eq, eq_self, if_true, if_false, forall_eq, forall_eq_or_imp, Int.reduceToNat, Int.reduceLT, Int.reduceLE, ↓List.forall_mem_cons, Nat.reduceMul, ite_self, forall_const, implies_true, Op.operands, avT0, avT1, hN, hP, hG, hR.1, hR.2.1, hR.2.2.1, tiA]
      (repeat' refine And.intro ?_ ?_) <;> try first | omega | assumption | with_reducible rfl | exact rfl | (intro hside; (repeat' refine And.intro ?_ ?_) <;> first | exact hside | omega | (rw [hside]; rfl) | (simp_all; done))
      refine CallC.use (gvF hP hG (dual_ok gG ((csM l how y raw weights room).getD i default) hsz)) rfl ?_
      try simp (maxSteps := 2000000) (disch := omega) only [avR2, avD, avT2, datsOf, fillA, ↓reduceIte, Nat.reduceEqDiff, Nat.reduceLT, Nat.reduceLeDiff, Nat.reduceAdd, Nat.reduceSub, reduceCtorEq, ne_eq, eq_self, if_true, if_false, forall_eq, forall_eq_or_imp, Int.reduceToNat, Int.reduceLT, Int.reduceLE, ↓List.forall_mem_cons, Nat.reduceMul, ite_self, forall_const, implies_true, Op.operands, avT0, avT1, hN, hP, hG, hR.1, hR.2.1, hR.2.2.1, tiA]
      first | exact ⟨rfl, rfl⟩ | ((repeat' first | refine And.intro ?_ ?_ | intro _) <;> first | with_reducible rfl | assumption | omega | rfl | (rename_i hq; rw [hq]; rfl) | (simp_all; done))
    apply aw_regs [2, 6, 7, 8, 20, 21, 22, 23, 24, 25, 26] [23, 25, 48, 65]
    · simp (disch := omega) only [avR2, avD, avT2, datsOf, fillA, ↓reduceIte, Nat.reduceEqDiff, Nat.reduceLT, Nat.reduceLeDiff, Nat.reduceAdd, Nat.reduceSub, reduceCtorEq, ne_eq, eq_self, if_true, if_false, forall_eq, forall_eq_or_imp, Int.reduceToNat, Int.reduceLT, Int.reduceLE, ↓List.forall_mem_cons, Nat.reduceMul, ite_self, forall_const, implies_true, Op.operands, avT0, avT1, hN, hP, hG, hR.1, hR.2.1, hR.2.2.1, tiA, hcl]
      (repeat' refine And.intro ?_ ?_) <;> try first | omega | assumption | with_reducible rfl | exact rfl | (intro hside; (repeat' refine And.intro ?_ ?_) <;> first | exact hside | omega | (rw [hside]; rfl) | (simp_all; done))
      refine CallC.use (gvF hP hG (rdual_ok gG ((csM l how y raw weights room).getD i default) hsz)) rfl ?_
      try simp (maxSteps := 2000000) (disch := omega) only [avR2, avD, avT2, datsOf, fillA, ↓reduceIte, Nat.reduceEqDiff, Nat.reduceLT, Nat.reduceLeDiff, Nat.reduceAdd, Nat.reduceSub, reduceCtorEq, ne_eq, eq_self, if_true, if_false, forall_eq, forall_eq_or_imp, Int.reduceToNat, Int.reduceLT, Int.reduceLE, ↓List.forall_mem_cons, Nat.reduceMul, ite_self, forall_const, implies_true, Op.operands, avT0, avT1, hN, hP, hG, hR.1, hR.2.1, hR.2.2.1, tiA]
      first | exact ⟨rfl, rfl⟩ | ((repeat' first | refine And.intro ?_ ?_ | intro _) <;> first | with_reducible rfl | assumption | omega | rfl | (rename_i hq; rw [hq]; rfl) | (simp_all; done))
    apply aw_seq
    apply aw_regs [2, 6, 7, 8, 20, 21, 22, 23, 25, 91] [23, 25, 48, 65]
    · simp (disch := omega) only [avR2, avD, avT2, datsOf, fillA, ↓reduceIte, Nat.reduceEqDiff, Nat.reduceLT, Nat.reduceLeDiff, Nat.reduceAdd, Nat.reduceSub, reduceCtorEq, ne_eq, eq_self, if_true, if_false, forall_eq, forall_eq_or_imp, Int.reduceToNat, Int.reduceLT, Int.reduceLE, ↓List.forall_mem_cons, Nat.reduceMul, ite_self, forall_const, implies_true, Op.operands, avT0, avT1, hN, hP, hG, hR.1, hR.2.1, hR.2.2.1, tiA, bne_self_eq_false, beq_self_eq_true]
      (repeat' refine And.intro ?_ ?_) <;> try first | omega | assumption | with_reducible rfl | exact rfl | (intro hside; (repeat' refine And.intro ?_ ?_) <;> first | exact hside | omega | (rw [hside]; rfl) | (simp_all; done))
      refine CallGC.use rfl (fun hg => ⟨by simp_all [gdAll], gvF hP hG (equal_ok gG (dualM ((csM l how y raw weights room).getD i default)).1 (dualM ((csM l how y raw weights room).getD i default)).1)⟩) ?_
      try simp (maxSteps := 2000000) (disch := omega) only [avR2, avD, avT2, datsOf, fillA, ↓reduceIte, Nat.reduceEqDiff, Nat.reduceLT, Nat.reduceLeDiff, Nat.reduceAdd, Nat.reduceSub, reduceCtorEq, ne_eq, eq_self, if_true, if_false, forall_eq, forall_eq_or_imp, Int.reduceToNat, Int.reduceLT, Int.reduceLE, ↓List.forall_mem_cons, Nat.reduceMul, ite_self, forall_const, implies_true, Op.operands, avT0, avT1, hN, hP, hG, hR.1, hR.2.1, hR.2.2.1, tiA, bne_self_eq_false, beq_self_eq_true]
      first | exact ⟨rfl, rfl⟩ | ((repeat' first | refine And.intro ?_ ?_ | intro _) <;> first | with_reducible rfl | assumption | omega | rfl | (rename_i hq; rw [hq]; rfl) | (simp_all; done))
    refine aw_iff rfl ?_
    apply aw_skip
    apply q_seq
    apply aw_regs [2, 6, 7, 8, 20, 21, 22, 23, 25, 27] [23, 25, 48, 65, 105, 160, 161]
    · simp (maxSteps := 2000000) (disch := omega) only [avR2, avD, avT2, datsOf, fillA, ↓reduceIte, Nat.reduceEqDiff, Nat.reduceLT, Nat.reduceLeDiff, Nat.reduceAdd, Nat.reduceSub, reduceCtorEq, ne_eq, eq_self, if_true, if_false, forall_eq, forall_eq_or_imp, Int.reduceToNat, Int.reduceLT, Int.reduceLE, ↓List.forall_mem_cons, Nat.reduceMul, ite_self, forall_const, implies_true, Op.operands, avT0, avT1, hN, hP, hG, hR.1, hR.2.1, hR.2.2.1, tiA]
      first | exact ⟨rfl, rfl⟩ | ((repeat' first | refine And.intro ?_ ?_ | intro _) <;> first | with_reducible rfl | assumption | omega | rfl | (rename_i hq; rw [hq]; rfl) | (simp_all; done))
    apply aw_seq
    apply aw_regs [2, 6, 7, 8, 20, 21, 22, 23, 25, 27, 28] [23, 25, 48, 65, 105, 160, 161]
    · simp (disch := omega) only [avR2, avD, avT2, datsOf, fillA, ↓reduceIte, Nat.reduceEqDiff, Nat.reduceLT, Nat.reduceLeDiff, Nat.reduceAdd, Nat.reduceSub, reduceCtorEq, ne_eq, eq_self, if_true, if_false, forall_eq, forall_eq_or_imp, Int.reduceToNat, Int.reduceLT, Int.reduceLE, ↓List.forall_mem_cons, Nat.reduceMul, ite_self, forall_const, implies_true, Op.operands, avT0, avT1, hN, hP, hG, hR.1, hR.2.1, hR.2.2.1, tiA]
      first | exact ⟨rfl, rfl⟩ | ((repeat' first | refine And.intro ?_ ?_ | intro _) <;> first | with_reducible rfl | assumption | omega | rfl | (rename_i hq; rw [hq]; rfl) | (simp_all; done))
    apply aw_block
    refine aw_swap 105 161 (by omega) (by omega) ?_
    refine aw_loop (ι := {kx : Nat × ((Int × Int × Int) × (Int × Int × Int)) // kx.1 ≤ 3}) (fun ⟨kx, hk⟩ => .of [(2, .dat (iD y)), (6, .dat (iD p)), (7, .dat (iD q)), (8, .dat (iD bd)), (20, .dat (.sl ((csM l how y raw weights room).map caseD))), (21, .dat (iD i)), (22, .dat (.sl ((psM p q).map oD))), (23, .ptr 23 3 0 0), (25, .ptr 25 3 0 0), (27, .osl 161 3 0 (3 + kx.1)), (28, .dat (iD kx.1))] [(23, ⟨3, [.dat (ceD kx.2.1)]⟩), (25, ⟨3, [.dat (ceD kx.2.2)]⟩), (161, ⟨3, ((cesM ((csM l how y raw weights room).getD i default) p q bd kx.1).map ceD).map .dat⟩)]) (fun ⟨kx, hk⟩ => 3 - kx.1) (⟨(0, ((dualM ((csM l how y raw weights room).getD i default)).1, (dualM ((csM l how y raw weights room).getD i default)).1)), by simp⟩) (Le.of ?_ ?_) fun ix => ?_
    · try simp (disch := omega) only [LeE, LeO, avD, avT2, datsOf, fillA, ↓reduceIte, Nat.reduceEqDiff, Nat.reduceLT, Nat.reduceLeDiff, Nat.reduceAdd, Nat.reduceSub, reduceCtorEq, ne_eq, eq_self, if_true, if_false, forall_eq, forall_eq_or_imp, Int.reduceToNat, Int.reduceLT, Int.reduceLE, ↓List.forall_mem_cons, Nat.reduceMul, ite_self, forall_const, implies_true, Op.operands, avT0, avT1, cesM_zero, cesM_succ, cesM_len, psM, List.map_cons, List.map_nil, Nat.add_assoc]
      all_goals first | done | (repeat' apply And.intro) <;> first | rfl | omega | assumption | (simp only [AV.dat.injEq, Dat.int.injEq, true_and]; omega) | (congr <;> omega)
    · try simp (disch := omega) only [LeE, LeO, avD, avT2, datsOf, fillA, ↓reduceIte, Nat.reduceEqDiff, Nat.reduceLT, Nat.reduceLeDiff, Nat.reduceAdd, Nat.reduceSub, reduceCtorEq, ne_eq, eq_self, if_true, if_false, forall_eq, forall_eq_or_imp, Int.reduceToNat, Int.reduceLT, Int.reduceLE, ↓List.forall_mem_cons, Nat.reduceMul, ite_self, forall_const, implies_true, Op.operands, avT0, avT1, cesM_zero, cesM_succ, cesM_len, psM, List.map_cons, List.map_nil, Nat.add_assoc]
      all_goals first | done | (repeat' apply And.intro) <;> first | rfl | omega | assumption | (simp only [AV.dat.injEq, Dat.int.injEq, true_and]; omega) | (congr <;> omega)
    obtain ⟨kx, hk⟩ := ix
    dsimp only
    apply aw_seq
    apply aw_regs [2, 6, 7, 8, 20, 21, 22, 23, 25, 27, 28, 109] [23, 25, 48, 65, 105, 160, 161]
    · simp (disch := omega) only [avR2, avD, avT2, datsOf, fillA, ↓reduceIte, Nat.reduceEqDiff, Nat.reduceLT, Nat.reduceLeDiff, Nat.reduceAdd, Nat.reduceSub, reduceCtorEq, ne_eq, eq_self, if_true, if_false, forall_eq, forall_eq_or_imp, Int.reduceToNat, Int.reduceLT, Int.reduceLE, ↓List.forall_mem_cons, Nat.reduceMul, ite_self, forall_const, implies_true, Op.operands, avT0, avT1, hN, hP, hG, hR.1, hR.2.1, hR.2.2.1, tiA, hpl]
      first | exact ⟨rfl, rfl⟩ | ((repeat' first | refine And.intro ?_ ?_ | intro _) <;> first | with_reducible rfl | assumption | omega | rfl | (rename_i hq; rw [hq]; rfl) | (simp_all; done))
    refine aw_if _ rfl (fun hb => ?_) (fun hb => ?_) <;> (try simp only [pickB_true, pickB_false, Bool.false_or, Bool.false_and, Bool.true_and, decide_eq_true_eq, decide_eq_false_iff_not, Bool.or_eq_true, Bool.and_eq_true, Bool.or_eq_false_iff, Bool.and_eq_false_imp, Bool.not_eq_true, Bool.not_eq_false, Bool.not_eq_eq_eq_not, Bool.not_true, Bool.not_false, Int.not_lt, Int.not_le, beq_iff_eq, beq_eq_false_iff_ne, bne_iff_ne, bne_eq_false_iff_eq, ne_eq, Bool.true_eq_false, Bool.false_eq_true, if_false_left, if_true_left, Bool.not_eq_eq_eq_not, Bool.decide_eq_true, Classical.not_not] at hb)
    · skip
      have hkl : kx.1 < (psM p q).length := by omega
      have hcel := cesM_len ((csM l how y raw weights room).getD i default) p q bd (show kx.1 ≤ (psM p q).length by omega)
      apply aw_skip
      apply q_seq
      apply aw_seq
      apply aw_block
      apply aw_rgds [2, 6, 7, 8, 20, 21, 22, 23, 24, 25, 27, 28] [23, 25, 48, 65, 105, 160, 161] [0, 1, 2, 3, 4, 5, 6, 7, 8, 9, 10, 11, 12, 13, 14, 15, 16, 17, 19, 18, 20] []
      · rw [hP]; kernel_rfl
      · exact hR
      · kernel_rfl
      · (repeat (apply PickL.cons; exact rfl)); exact PickL.nil _
      · simp (maxSteps := 2000000) (disch := omega) only [avR2, avD, avT2, datsOf, fillA, ↓reduceIte, Nat.reduceEqDiff, Nat.reduceLT, Nat.reduceLeDiff, Nat.reduceAdd, Nat.reduceSub, reduceCtorEq, ne_eq, eq_self, if_true, if_false, forall_eq, forall_eq_or_imp, Int.reduceToNat, Int.reduceLT, Int.reduceLE, ↓List.forall_mem_cons, Nat.reduceMul, ite_self, forall_const, implies_true, Op.operands, avT0, avT1, hN, hP, hG, hR.1, hR.2.1, hR.2.2.1, tiA, hcl, hpl]
        (repeat' refine And.intro ?_ ?_) <;> try first | omega | assumption | with_reducible rfl | exact rfl | (intro hside; (repeat' refine And.intro ?_ ?_) <;> first | exact hside | omega | (rw [hside]; rfl) | (simp_all; done))
        refine CallC.use (gvF hP hG (own_ok gG ((csM l how y raw weights room).getD i default) hsz)) rfl ?_
        try simp (maxSteps := 2000000) (disch := omega) only [avR2, avD, avT2, datsOf, fillA, ↓reduceIte, Nat.reduceEqDiff, Nat.reduceLT, Nat.reduceLeDiff, Nat.reduceAdd, Nat.reduceSub, reduceCtorEq, ne_eq, eq_self, if_true, if_false, forall_eq, forall_eq_or_imp, Int.reduceToNat, Int.reduceLT, Int.reduceLE, ↓List.forall_mem_cons, Nat.reduceMul, ite_self, forall_const, implies_true, Op.operands, avT0, avT1, hN, hP, hG, hR.1, hR.2.1, hR.2.2.1, tiA]
        (repeat' refine And.intro ?_ ?_) <;> try first | omega | assumption | with_reducible rfl | exact rfl | (intro hside; (repeat' refine And.intro ?_ ?_) <;> first | exact hside | omega | (rw [hside]; rfl) | (simp_all; done))
        refine CallC.use (gvF hP hG (boundF_ok gG ((csM l how y raw weights room).getD i default) ((psM p q).getD kx.1 default).1 ((psM p q).getD kx.1 default).2 hsz)) rfl ?_
        try simp (maxSteps := 2000000) (disch := omega) only [avR2, avD, avT2, datsOf, fillA, ↓reduceIte, Nat.reduceEqDiff, Nat.reduceLT, Nat.reduceLeDiff, Nat.reduceAdd, Nat.reduceSub, reduceCtorEq, ne_eq, eq_self, if_true, if_false, forall_eq, forall_eq_or_imp, Int.reduceToNat, Int.reduceLT, Int.reduceLE, ↓List.forall_mem_cons, Nat.reduceMul, ite_self, forall_const, implies_true, Op.operands, avT0, avT1, hN, hP, hG, hR.1, hR.2.1, hR.2.2.1, tiA]
        first | exact ⟨rfl, rfl⟩ | ((repeat' first | refine And.intro ?_ ?_ | intro _) <;> first | with_reducible rfl | assumption | omega | rfl | (rename_i hq; rw [hq]; rfl) | (simp_all; done))
      apply aw_rgds [2, 6, 7, 8, 20, 21, 22, 23, 24, 25, 26, 27, 28] [23, 25, 48, 65, 105, 160, 161] [0, 1, 2, 3, 4, 5, 6, 7, 8, 9, 10, 11, 12, 13, 14, 15, 16, 18, 17, 19] []
      · rw [hP]; kernel_rfl
      · exact hR
      · kernel_rfl
      · (repeat (apply PickL.cons; exact rfl)); exact PickL.nil _
      · simp (maxSteps := 2000000) (disch := omega) only [avR2, avD, avT2, datsOf, fillA, ↓reduceIte, Nat.reduceEqDiff, Nat.reduceLT, Nat.reduceLeDiff, Nat.reduceAdd, Nat.reduceSub, reduceCtorEq, ne_eq, eq_self, if_true, if_false, forall_eq, forall_eq_or_imp, Int.reduceToNat, Int.reduceLT, Int.reduceLE, ↓List.forall_mem_cons, Nat.reduceMul, ite_self, forall_const, implies_true, Op.operands, avT0, avT1, hN, hP, hG, hR.1, hR.2.1, hR.2.2.1, tiA, hcl, hpl]
        (repeat' refine And.intro ?_ ?_) <;> try first | omega | assumption | with_reducible rfl | exact rfl | (intro hside; (repeat' refine And.intro ?_ ?_) <;> first | exact hside | omega | (rw [hside]; rfl) | (simp_all; done))
        refine CallC.use (gvF hP hG (rboundF_ok gG ((csM l how y raw weights room).getD i default) ((psM p q).getD kx.1 default).1 ((psM p q).getD kx.1 default).2 hsz)) rfl ?_
        try simp (maxSteps := 2000000) (disch := omega) only [avR2, avD, avT2, datsOf, fillA, ↓reduceIte, Nat.reduceEqDiff, Nat.reduceLT, Nat.reduceLeDiff, Nat.reduceAdd, Nat.reduceSub, reduceCtorEq, ne_eq, eq_self, if_true, if_false, forall_eq, forall_eq_or_imp, Int.reduceToNat, Int.reduceLT, Int.reduceLE, ↓List.forall_mem_cons, Nat.reduceMul, ite_self, forall_const, implies_true, Op.operands, avT0, avT1, hN, hP, hG, hR.1, hR.2.1, hR.2.2.1, tiA]
        first | exact ⟨rfl, rfl⟩ | ((repeat' first | refine And.intro ?_ ?_ | intro _) <;> first | with_reducible rfl | assumption | omega | rfl | (rename_i hq; rw [hq]; rfl) | (simp_all; done))
      apply aw_seq
      apply aw_regs [2, 6, 7, 8, 20, 21, 22, 23, 25, 27, 28, 157] [23, 25, 48, 65, 105, 160, 161]
      · simp (disch := omega) only [avR2, avD, avT2, datsOf, fillA, ↓reduceIte, Nat.reduceEqDiff, Nat.reduceLT, Nat.reduceLeDiff, Nat.reduceAdd, Nat.reduceSub, reduceCtorEq, ne_eq, eq_self, if_true, if_false, forall_eq, forall_eq_or_imp, Int.reduceToNat, Int.reduceLT, Int.reduceLE, ↓List.forall_mem_cons, Nat.reduceMul, ite_self, forall_const, implies_true, Op.operands, avT0, avT1, hN, hP, hG, hR.1, hR.2.1, hR.2.2.1, tiA, bne_self_eq_false, beq_self_eq_true]
        (repeat' refine And.intro ?_ ?_) <;> try first | omega | assumption | with_reducible rfl | exact rfl | (intro hside; (repeat' refine And.intro ?_ ?_) <;> first | exact hside | omega | (rw [hside]; rfl) | (simp_all; done))
        refine CallGC.use rfl (fun hg => ⟨by simp_all [gdAll], gvF hP hG (equal_ok gG (boundE ((csM l how y raw weights room).getD i default) ((psM p q).getD kx.1 default).1 ((psM p q).getD kx.1 default).2).1 (boundE ((csM l how y raw weights room).getD i default) ((psM p q).getD kx.1 default).1 ((psM p q).getD kx.1 default).2).1)⟩) ?_
        try simp (maxSteps := 2000000) (disch := omega) only [avR2, avD, avT2, datsOf, fillA, ↓reduceIte, Nat.reduceEqDiff, Nat.reduceLT, Nat.reduceLeDiff, Nat.reduceAdd, Nat.reduceSub, reduceCtorEq, ne_eq, eq_self, if_true, if_false, forall_eq, forall_eq_or_imp, Int.reduceToNat, Int.reduceLT, Int.reduceLE, ↓List.forall_mem_cons, Nat.reduceMul, ite_self, forall_const, implies_true, Op.operands, avT0, avT1, hN, hP, hG, hR.1, hR.2.1, hR.2.2.1, tiA, bne_self_eq_false, beq_self_eq_true]
        first | exact ⟨rfl, rfl⟩ | ((repeat' first | refine And.intro ?_ ?_ | intro _) <;> first | with_reducible rfl | assumption | omega | rfl | (rename_i hq; rw [hq]; rfl) | (simp_all; done))
      refine aw_iff rfl ?_
      apply aw_skip
      apply q_seq
      apply aw_reg [2, 6, 7, 8, 20, 21, 22, 23, 25, 27, 28] [23, 25, 48, 65, 105, 160, 161]
      · simp (disch := omega) only [avR2, avD, avT2, datsOf, fillA, ↓reduceIte, Nat.reduceEqDiff, Nat.reduceLT, Nat.reduceLeDiff, Nat.reduceAdd, Nat.reduceSub, reduceCtorEq, ne_eq, eq_self, if_true, if_false, forall_eq, forall_eq_or_imp, Int.reduceToNat, Int.reduceLT, Int.reduceLE, ↓List.forall_mem_cons, Nat.reduceMul, ite_self, forall_const, implies_true, Op.operands, avT0, avT1, hN, hP, hG, hR.1, hR.2.1, hR.2.2.1, tiA, hcel]
        first | exact ⟨rfl, rfl⟩ | ((repeat' first | refine And.intro ?_ ?_ | intro _) <;> first | with_reducible rfl | assumption | omega | rfl | (rename_i hq; rw [hq]; rfl) | (simp_all; done))
      apply q_block
      apply q_seq
      apply aw_reg [2, 6, 7, 8, 20, 21, 22, 23, 25, 27, 28] [23, 25, 48, 65, 105, 160, 161]
      · simp (disch := omega) only [avR2, avD, avT2, datsOf, fillA, ↓reduceIte, Nat.reduceEqDiff, Nat.reduceLT, Nat.reduceLeDiff, Nat.reduceAdd, Nat.reduceSub, reduceCtorEq, ne_eq, eq_self, if_true, if_false, forall_eq, forall_eq_or_imp, Int.reduceToNat, Int.reduceLT, Int.reduceLE, ↓List.forall_mem_cons, Nat.reduceMul, ite_self, forall_const, implies_true, Op.operands, avT0, avT1, hN, hP, hG, hR.1, hR.2.1, hR.2.2.1, tiA]
        first | exact ⟨rfl, rfl⟩ | ((repeat' first | refine And.intro ?_ ?_ | intro _) <;> first | with_reducible rfl | assumption | omega | rfl | (rename_i hq; rw [hq]; rfl) | (simp_all; done))
      refine q_loop (⟨(kx.1 + 1, ((boundE ((csM l how y raw weights room).getD i default) ((psM p q).getD kx.1 default).1 ((psM p q).getD kx.1 default).2).1, (boundE ((csM l how y raw weights room).getD i default) ((psM p q).getD kx.1 default).1 ((psM p q).getD kx.1 default).2).1)), by simp only; omega⟩) (Le.of ?_ ?_) (by dsimp only; omega)
      · try simp (disch := omega) only [LeE, LeO, avD, avT2, datsOf, fillA, ↓reduceIte, Nat.reduceEqDiff, Nat.reduceLT, Nat.reduceLeDiff, Nat.reduceAdd, Nat.reduceSub, reduceCtorEq, ne_eq, eq_self, if_true, if_false, forall_eq, forall_eq_or_imp, Int.reduceToNat, Int.reduceLT, Int.reduceLE, ↓List.forall_mem_cons, Nat.reduceMul, ite_self, forall_const, implies_true, Op.operands, avT0, avT1, cesM_zero, cesM_succ, cesM_len, psM, List.map_cons, List.map_nil, Nat.add_assoc]
        all_goals first | done | (repeat' apply And.intro) <;> first | rfl | omega | assumption | (simp only [AV.dat.injEq, Dat.int.injEq, true_and]; omega) | (congr <;> omega)
      · try simp (disch := omega) only [LeE, LeO, avD, avT2, datsOf, fillA, ↓reduceIte, Nat.reduceEqDiff, Nat.reduceLT, Nat.reduceLeDiff, Nat.reduceAdd, Nat.reduceSub, reduceCtorEq, ne_eq, eq_self, if_true, if_false, forall_eq, forall_eq_or_imp, Int.reduceToNat, Int.reduceLT, Int.reduceLE, ↓List.forall_mem_cons, Nat.reduceMul, ite_self, forall_const, implies_true, Op.operands, avT0, avT1, cesM_zero, cesM_succ, cesM_len, psM, List.map_cons, List.map_nil, Nat.add_assoc]
        all_goals first | done | (repeat' apply And.intro) <;> first | rfl | omega | assumption | (simp only [AV.dat.injEq, Dat.int.injEq, true_and]; omega) | (congr <;> omega)
    · skip
      have hk3 : kx.1 = 3 := by omega
      have hc6 : (cesM ((csM l how y raw weights room).getD i default) p q bd 3).length = 6 := cesM_len ((csM l how y raw weights room).getD i default) p q bd (by simp [psM])
      rw [hk3]
      refine aw_frz 161 hR.2.2.2 rfl (datE_map _) ?_
      apply aw_exit
      apply q_exit_seq
      apply q_exit_loop
      apply q_exit
      apply q_seq
      apply aw_rgds [2, 6, 7, 8, 20, 21, 27, 29] [48, 105, 160, 161, 173] [0, 1, 2, 3, 4, 5, 6, 7, 8, 9, 10, 11, 12] []
      · rw [hP]; kernel_rfl
      · exact hR
      · kernel_rfl
      · (repeat (apply PickL.cons; exact rfl)); exact PickL.nil _
      · simp (maxSteps := 2000000) (disch := omega) only [avR2, avD, avT2, datsOf, fillA, ↓reduceIte, Nat.reduceEqDiff, Nat.reduceLT, Nat.reduceLeDiff, Nat.reduceAdd, Nat.reduceSub, reduceCtorEq, ne_eq, eq_self, if_true, if_false, forall_eq, forall_eq_or_imp, Int.reduceToNat, Int.reduceLT, Int.reduceLE, ↓List.forall_mem_cons, Nat.reduceMul, ite_self, forall_const, implies_true, Op.operands, avT0, avT1, hN, hP, hG, hR.1, hR.2.1, hR.2.2.1, tiA, hcl, hc6, List.take_of_length_le]
        (repeat' refine And.intro ?_ ?_) <;> try first | omega | assumption | with_reducible rfl | exact rfl | (intro hside; (repeat' refine And.intro ?_ ?_) <;> first | exact hside | omega | (rw [hside]; rfl) | (simp_all; done))
        refine CallC.use (gvF hP hG (pick_ok gG ((csM l how y raw weights room).getD i default) y hsz hy)) rfl ?_
        try simp (maxSteps := 2000000) (disch := omega) only [avR2, avD, avT2, datsOf, fillA, ↓reduceIte, Nat.reduceEqDiff, Nat.reduceLT, Nat.reduceLeDiff, Nat.reduceAdd, Nat.reduceSub, reduceCtorEq, ne_eq, eq_self, if_true, if_false, forall_eq, forall_eq_or_imp, Int.reduceToNat, Int.reduceLT, Int.reduceLE, ↓List.forall_mem_cons, Nat.reduceMul, ite_self, forall_const, implies_true, Op.operands, avT0, avT1, hN, hP, hG, hR.1, hR.2.1, hR.2.2.1, tiA]
        (repeat' refine And.intro ?_ ?_) <;> try first | omega | assumption | with_reducible rfl | exact rfl | (intro hside; (repeat' refine And.intro ?_ ?_) <;> first | exact hside | omega | (rw [hside]; rfl) | (simp_all; done))
        refine CallC.use (gvF hP hG (pick_ok gG ((csM l how y raw weights room).getD i default) 0 hsz i0)) rfl ?_
        try simp (maxSteps := 2000000) (disch := omega) only [avR2, avD, avT2, datsOf, fillA, ↓reduceIte, Nat.reduceEqDiff, Nat.reduceLT, Nat.reduceLeDiff, Nat.reduceAdd, Nat.reduceSub, reduceCtorEq, ne_eq, eq_self, if_true, if_false, forall_eq, forall_eq_or_imp, Int.reduceToNat, Int.reduceLT, Int.reduceLE, ↓List.forall_mem_cons, Nat.reduceMul, ite_self, forall_const, implies_true, Op.operands, avT0, avT1, hN, hP, hG, hR.1, hR.2.1, hR.2.2.1, tiA]
        first | exact ⟨rfl, rfl⟩ | ((repeat' first | refine And.intro ?_ ?_ | intro _) <;> first | with_reducible rfl | assumption | omega | rfl | (rename_i hq; rw [hq]; rfl) | (simp_all; done))
      apply aw_regs [2, 6, 7, 8, 20, 21, 27, 29, 30] [48, 105, 160, 161, 173]
      · simp (disch := omega) only [avR2, avD, avT2, datsOf, fillA, ↓reduceIte, Nat.reduceEqDiff, Nat.reduceLT, Nat.reduceLeDiff, Nat.reduceAdd, Nat.reduceSub, reduceCtorEq, ne_eq, eq_self, if_true, if_false, forall_eq, forall_eq_or_imp, Int.reduceToNat, Int.reduceLT, Int.reduceLE, ↓List.forall_mem_cons, Nat.reduceMul, ite_self, forall_const, implies_true, Op.operands, avT0, avT1, hN, hP, hG, hR.1, hR.2.1, hR.2.2.1, tiA]
        first | exact ⟨rfl, rfl⟩ | ((repeat' first | refine And.intro ?_ ?_ | intro _) <;> first | with_reducible rfl | assumption | omega | rfl | (rename_i hq; rw [hq]; rfl) | (simp_all; done))
      apply aw_block
      refine aw_loop (ι := {k : Nat // k ≤ 12}) (fun ⟨k, hk12⟩ => .of [(2, .dat (iD y)), (6, .dat (iD p)), (7, .dat (iD q)), (8, .dat (iD bd)), (20, .dat (.sl ((csM l how y raw weights room).map caseD))), (21, .dat (iD i)), (27, .dat (.sl ((cesM ((csM l how y raw weights room).getD i default) p q bd 3).map ceD))), (29, .dat (.sl ((pk2 ((csM l how y raw weights room).getD i default) y).map isD))), (30, .dat (iD k))] []) (fun ⟨k, hk12⟩ => 12 - k) (⟨0, by omega⟩) (Le.of ?_ ?_) fun ix => ?_
      · try simp (disch := omega) only [LeE, LeO, avD, avT2, datsOf, fillA, ↓reduceIte, Nat.reduceEqDiff, Nat.reduceLT, Nat.reduceLeDiff, Nat.reduceAdd, Nat.reduceSub, reduceCtorEq, ne_eq, eq_self, if_true, if_false, forall_eq, forall_eq_or_imp, Int.reduceToNat, Int.reduceLT, Int.reduceLE, ↓List.forall_mem_cons, Nat.reduceMul, ite_self, forall_const, implies_true, Op.operands, avT0, avT1, pk2, List.map_cons, List.map_nil]
        all_goals first | done | (repeat' apply And.intro) <;> first | rfl | omega | assumption | (simp only [AV.dat.injEq, Dat.int.injEq, true_and]; omega) | (congr <;> omega)
      · try simp (disch := omega) only [LeE, LeO, avD, avT2, datsOf, fillA, ↓reduceIte, Nat.reduceEqDiff, Nat.reduceLT, Nat.reduceLeDiff, Nat.reduceAdd, Nat.reduceSub, reduceCtorEq, ne_eq, eq_self, if_true, if_false, forall_eq, forall_eq_or_imp, Int.reduceToNat, Int.reduceLT, Int.reduceLE, ↓List.forall_mem_cons, Nat.reduceMul, ite_self, forall_const, implies_true, Op.operands, avT0, avT1, pk2, List.map_cons, List.map_nil]
        all_goals first | done | (repeat' apply And.intro) <;> first | rfl | omega | assumption | (simp only [AV.dat.injEq, Dat.int.injEq, true_and]; omega) | (congr <;> omega)
      obtain ⟨k, hk12⟩ := ix
      dsimp only
      apply aw_seq
      apply aw_regs [2, 6, 7, 8, 20, 21, 27, 29, 30, 178] [48, 105, 160, 161, 173]
      · simp (disch := omega) only [avR2, avD, avT2, datsOf, fillA, ↓reduceIte, Nat.reduceEqDiff, Nat.reduceLT, Nat.reduceLeDiff, Nat.reduceAdd, Nat.reduceSub, reduceCtorEq, ne_eq, eq_self, if_true, if_false, forall_eq, forall_eq_or_imp, Int.reduceToNat, Int.reduceLT, Int.reduceLE, ↓List.forall_mem_cons, Nat.reduceMul, ite_self, forall_const, implies_true, Op.operands, avT0, avT1, hN, hP, hG, hR.1, hR.2.1, hR.2.2.1, tiA, hc6]
        first | exact ⟨rfl, rfl⟩ | ((repeat' first | refine And.intro ?_ ?_ | intro _) <;> first | with_reducible rfl | assumption | omega | rfl | (rename_i hq; rw [hq]; rfl) | (simp_all; done))
      refine aw_if _ rfl (fun hb => ?_) (fun hb => ?_) <;> (try simp only [pickB_true, pickB_false, Bool.false_or, Bool.false_and, Bool.true_and, decide_eq_true_eq, decide_eq_false_iff_not, Bool.or_eq_true, Bool.and_eq_true, Bool.or_eq_false_iff, Bool.and_eq_false_imp, Bool.not_eq_true, Bool.not_eq_false, Bool.not_eq_eq_eq_not, Bool.not_true, Bool.not_false, Int.not_lt, Int.not_le, beq_iff_eq, beq_eq_false_iff_ne, bne_iff_ne, bne_eq_false_iff_eq, ne_eq, Bool.true_eq_false, Bool.false_eq_true, if_false_left, if_true_left, Bool.not_eq_eq_eq_not, Bool.decide_eq_true, Classical.not_not] at hb)
      · skip
        have hkl : k < 12 := by omega
        have hm2 : (k : Int).tmod 2 = ((k % 2 : Nat) : Int) := rfl
        have hd2 : (k : Int).tdiv 2 = ((k / 2 : Nat) : Int) := rfl
        have hp2 : (pk2 ((csM l how y raw weights room).getD i default) y).length = 2 := rfl
        have hpa : ∀ x ∈ pk2 ((csM l how y raw weights room).getD i default) y, x.length ≤ 1000 := by
          intro x hx
          simp only [pk2, List.mem_cons, List.not_mem_nil, or_false] at hx
          rcases hx with rfl | rfl <;> (rw [pickNM_length]; omega)
        have hpk := getD_all hpa (show k % 2 < (pk2 ((csM l how y raw weights room).getD i default) y).length by omega)
        have hce := getD_all (cesM_i64 ((csM l how y raw weights room).getD i default) p q bd hbd 3) (show k / 2 < (cesM ((csM l how y raw weights room).getD i default) p q bd 3).length by omega)
        apply aw_skip
        apply q_seq
        apply aw_seq
        apply aw_block
        apply aw_rgds [2, 6, 7, 8, 20, 21, 27, 29, 30, 31, 32, 33] [48, 105, 160, 161, 173] [0, 1, 2, 3, 4, 5, 6, 7, 8, 9, 10, 11, 12, 13, 14, 15, 16, 17, 18, 19, 20, 21, 22, 23] []
        · rw [hP]; kernel_rfl
        · exact hR
        · kernel_rfl
        · (repeat (apply PickL.cons; exact rfl)); exact PickL.nil _
        · simp (maxSteps := 2000000) (disch := omega) only [avR2, avD, avT2, datsOf, fillA, ↓reduceIte, Nat.reduceEqDiff, Nat.reduceLT, Nat.reduceLeDiff, Nat.reduceAdd, Nat.reduceSub, reduceCtorEq, ne_eq, eq_self, if_true, if_false, forall_eq, forall_eq_or_imp, Int.reduceToNat, Int.reduceLT, Int.reduceLE, ↓List.forall_mem_cons, Nat.reduceMul, ite_self, forall_const, implies_true, Op.operands, avT0, avT1, hN, hP, hG, hR.1, hR.2.1, hR.2.2.1, tiA, hcl, hm2, hd2, hp2, hc6]
          (repeat' refine And.intro ?_ ?_) <;> try first | omega | assumption | with_reducible rfl | exact rfl | (intro hside; (repeat' refine And.intro ?_ ?_) <;> first | exact hside | omega | (rw [hside]; rfl) | (simp_all; done))
          refine CallC.use (gvF hP hG (own_ok gG ((csM l how y raw weights room).getD i default) hsz)) rfl ?_
          try simp (maxSteps := 2000000) (disch := omega) only [avR2, avD, avT2, datsOf, fillA, ↓reduceIte, Nat.reduceEqDiff, Nat.reduceLT, Nat.reduceLeDiff, Nat.reduceAdd, Nat.reduceSub, reduceCtorEq, ne_eq, eq_self, if_true, if_false, forall_eq, forall_eq_or_imp, Int.reduceToNat, Int.reduceLT, Int.reduceLE, ↓List.forall_mem_cons, Nat.reduceMul, ite_self, forall_const, implies_true, Op.operands, avT0, avT1, hN, hP, hG, hR.1, hR.2.1, hR.2.2.1, tiA]
          (repeat' refine And.intro ?_ ?_) <;> try first | omega | assumption | with_reducible rfl | exact rfl | (intro hside; (repeat' refine And.intro ?_ ?_) <;> first | exact hside | omega | (rw [hside]; rfl) | (simp_all; done))
          refine CallC.use (gvF hP hG (cert_ok gG ((cesM ((csM l how y raw weights room).getD i default) p q bd 3).getD (k / 2) default))) rfl ?_
          try simp (maxSteps := 2000000) (disch := omega) only [avR2, avD, avT2, datsOf, fillA, ↓reduceIte, Nat.reduceEqDiff, Nat.reduceLT, Nat.reduceLeDiff, Nat.reduceAdd, Nat.reduceSub, reduceCtorEq, ne_eq, eq_self, if_true, if_false, forall_eq, forall_eq_or_imp, Int.reduceToNat, Int.reduceLT, Int.reduceLE, ↓List.forall_mem_cons, Nat.reduceMul, ite_self, forall_const, implies_true, Op.operands, avT0, avT1, hN, hP, hG, hR.1, hR.2.1, hR.2.2.1, tiA]
          (repeat' refine And.intro ?_ ?_) <;> try first | omega | assumption | with_reducible rfl | exact rfl | (intro hside; (repeat' refine And.intro ?_ ?_) <;> first | exact hside | omega | (rw [hside]; rfl) | (simp_all; done))
          refine CallC.use (gvF hP hG (checkF_ok gG ((csM l how y raw weights room).getD i default) ((pk2 ((csM l how y raw weights room).getD i default) y).getD (k % 2) default) ((cesM ((csM l how y raw weights room).getD i default) p q bd 3).getD (k / 2) default) hsz hpk hce)) rfl ?_
          try simp (maxSteps := 2000000) (disch := omega) only [avR2, avD, avT2, datsOf, fillA, ↓reduceIte, Nat.reduceEqDiff, Nat.reduceLT, Nat.reduceLeDiff, Nat.reduceAdd, Nat.reduceSub, reduceCtorEq, ne_eq, eq_self, if_true, if_false, forall_eq, forall_eq_or_imp, Int.reduceToNat, Int.reduceLT, Int.reduceLE, ↓List.forall_mem_cons, Nat.reduceMul, ite_self, forall_const, implies_true, Op.operands, avT0, avT1, hN, hP, hG, hR.1, hR.2.1, hR.2.2.1, tiA]
          first | exact ⟨rfl, rfl⟩ | ((repeat' first | refine And.intro ?_ ?_ | intro _) <;> first | with_reducible rfl | assumption | omega | rfl | (rename_i hq; rw [hq]; rfl) | (simp_all; done))
        apply aw_rgds [2, 6, 7, 8, 20, 21, 27, 29, 30, 31, 32, 33, 34, 35, 36] [48, 105, 160, 161, 173] [0, 1, 2, 3, 4, 5, 6, 7, 8, 9, 10, 11, 12, 13, 14, 15, 16, 17, 18, 19, 20, 21] []
        · rw [hP]; kernel_rfl
        · exact hR
        · kernel_rfl
        · (repeat (apply PickL.cons; exact rfl)); exact PickL.nil _
        · simp (maxSteps := 2000000) (disch := omega) only [avR2, avD, avT2, datsOf, fillA, ↓reduceIte, Nat.reduceEqDiff, Nat.reduceLT, Nat.reduceLeDiff, Nat.reduceAdd, Nat.reduceSub, reduceCtorEq, ne_eq, eq_self, if_true, if_false, forall_eq, forall_eq_or_imp, Int.reduceToNat, Int.reduceLT, Int.reduceLE, ↓List.forall_mem_cons, Nat.reduceMul, ite_self, forall_const, implies_true, Op.operands, avT0, avT1, hN, hP, hG, hR.1, hR.2.1, hR.2.2.1, tiA, hcl, hm2, hd2, hp2, hc6]
          (repeat' refine And.intro ?_ ?_) <;> try first | omega | assumption | with_reducible rfl | exact rfl | (intro hside; (repeat' refine And.intro ?_ ?_) <;> first | exact hside | omega | (rw [hside]; rfl) | (simp_all; done))
          refine CallC.use (gvF hP hG (rcheckF_ok gG ((csM l how y raw weights room).getD i default) ((pk2 ((csM l how y raw weights room).getD i default) y).getD (k % 2) default) ((cesM ((csM l how y raw weights room).getD i default) p q bd 3).getD (k / 2) default) hsz hpk hce)) rfl ?_
          try simp (maxSteps := 2000000) (disch := omega) only [avR2, avD, avT2, datsOf, fillA, ↓reduceIte, Nat.reduceEqDiff, Nat.reduceLT, Nat.reduceLeDiff, Nat.reduceAdd, Nat.reduceSub, reduceCtorEq, ne_eq, eq_self, if_true, if_false, forall_eq, forall_eq_or_imp, Int.reduceToNat, Int.reduceLT, Int.reduceLE, ↓List.forall_mem_cons, Nat.reduceMul, ite_self, forall_const, implies_true, Op.operands, avT0, avT1, hN, hP, hG, hR.1, hR.2.1, hR.2.2.1, tiA]
          first | exact ⟨rfl, rfl⟩ | ((repeat' first | refine And.intro ?_ ?_ | intro _) <;> first | with_reducible rfl | assumption | omega | rfl | (rename_i hq; rw [hq]; rfl) | (simp_all; done))
        apply aw_regs [2, 6, 7, 8, 20, 21, 27, 29, 30, 233] [48, 105, 160, 161, 173]
        · simp (maxSteps := 2000000) (disch := omega) only [avR2, avD, avT2, datsOf, fillA, ↓reduceIte, Nat.reduceEqDiff, Nat.reduceLT, Nat.reduceLeDiff, Nat.reduceAdd, Nat.reduceSub, reduceCtorEq, ne_eq, eq_self, if_true, if_false, forall_eq, forall_eq_or_imp, Int.reduceToNat, Int.reduceLT, Int.reduceLE, ↓List.forall_mem_cons, Nat.reduceMul, ite_self, forall_const, implies_true, Op.operands, avT0, avT1, hN, hP, hG, hR.1, hR.2.1, hR.2.2.1, tiA, bne_self_eq_false]
          first | exact ⟨rfl, rfl⟩ | ((repeat' first | refine And.intro ?_ ?_ | intro _) <;> first | with_reducible rfl | assumption | omega | rfl | (rename_i hq; rw [hq]; rfl) | (simp_all; done))
        refine aw_iff rfl ?_
        apply aw_skip
        apply q_block
        apply q_seq
        apply aw_reg [2, 6, 7, 8, 20, 21, 27, 29, 30] [48, 105, 160, 161, 173]
        · simp (disch := omega) only [avR2, avD, avT2, datsOf, fillA, ↓reduceIte, Nat.reduceEqDiff, Nat.reduceLT, Nat.reduceLeDiff, Nat.reduceAdd, Nat.reduceSub, reduceCtorEq, ne_eq, eq_self, if_true, if_false, forall_eq, forall_eq_or_imp, Int.reduceToNat, Int.reduceLT, Int.reduceLE, ↓List.forall_mem_cons, Nat.reduceMul, ite_self, forall_const, implies_true, Op.operands, avT0, avT1, hN, hP, hG, hR.1, hR.2.1, hR.2.2.1, tiA]
          first | exact ⟨rfl, rfl⟩ | ((repeat' first | refine And.intro ?_ ?_ | intro _) <;> first | with_reducible rfl | assumption | omega | rfl | (rename_i hq; rw [hq]; rfl) | (simp_all; done))
        refine q_loop (⟨k + 1, by omega⟩) (Le.of ?_ ?_) (by dsimp only; omega)
        · try simp (disch := omega) only [LeE, LeO, avD, avT2, datsOf, fillA, ↓reduceIte, Nat.reduceEqDiff, Nat.reduceLT, Nat.reduceLeDiff, Nat.reduceAdd, Nat.reduceSub, reduceCtorEq, ne_eq, eq_self, if_true, if_false, forall_eq, forall_eq_or_imp, Int.reduceToNat, Int.reduceLT, Int.reduceLE, ↓List.forall_mem_cons, Nat.reduceMul, ite_self, forall_const, implies_true, Op.operands, avT0, avT1, pk2, List.map_cons, List.map_nil]
          all_goals first | done | (repeat' apply And.intro) <;> first | rfl | omega | assumption | (simp only [AV.dat.injEq, Dat.int.injEq, true_and]; omega) | (congr <;> omega)
        · try simp (disch := omega) only [LeE, LeO, avD, avT2, datsOf, fillA, ↓reduceIte, Nat.reduceEqDiff, Nat.reduceLT, Nat.reduceLeDiff, Nat.reduceAdd, Nat.reduceSub, reduceCtorEq, ne_eq, eq_self, if_true, if_false, forall_eq, forall_eq_or_imp, Int.reduceToNat, Int.reduceLT, Int.reduceLE, ↓List.forall_mem_cons, Nat.reduceMul, ite_self, forall_const, implies_true, Op.operands, avT0, avT1, pk2, List.map_cons, List.map_nil]
          all_goals first | done | (repeat' apply And.intro) <;> first | rfl | omega | assumption | (simp only [AV.dat.injEq, Dat.int.injEq, true_and]; omega) | (congr <;> omega)
      · skip
        apply aw_exit
        apply q_exit_seq
        apply q_exit_loop
        apply q_exit
        apply q_block
        apply q_seq
        apply aw_reg [2, 6, 7, 8, 20, 21] [48]
        · simp (disch := omega) only [avR2, avD, avT2, datsOf, fillA, ↓reduceIte, Nat.reduceEqDiff, Nat.reduceLT, Nat.reduceLeDiff, Nat.reduceAdd, Nat.reduceSub, reduceCtorEq, ne_eq, eq_self, if_true, if_false, forall_eq, forall_eq_or_imp, Int.reduceToNat, Int.reduceLT, Int.reduceLE, ↓List.forall_mem_cons, Nat.reduceMul, ite_self, forall_const, implies_true, Op.operands, avT0, avT1, hN, hP, hG, hR.1, hR.2.1, hR.2.2.1, tiA]
          first | exact ⟨rfl, rfl⟩ | ((repeat' first | refine And.intro ?_ ?_ | intro _) <;> first | with_reducible rfl | assumption | omega | rfl | (rename_i hq; rw [hq]; rfl) | (simp_all; done))
        refine q_loop (⟨i + 1, by omega⟩) (Le.of ?_ ?_) (by dsimp only; omega)
        · try simp (disch := omega) only [LeE, LeO, avD, avT2, datsOf, fillA, ↓reduceIte, Nat.reduceEqDiff, Nat.reduceLT, Nat.reduceLeDiff, Nat.reduceAdd, Nat.reduceSub, reduceCtorEq, ne_eq, eq_self, if_true, if_false, forall_eq, forall_eq_or_imp, Int.reduceToNat, Int.reduceLT, Int.reduceLE, ↓List.forall_mem_cons, Nat.reduceMul, ite_self, forall_const, implies_true, Op.operands, avT0, avT1, csM, List.map_cons, List.map_nil]
          all_goals first | done | (repeat' apply And.intro) <;> first | rfl | omega | assumption | (simp only [AV.dat.injEq, Dat.int.injEq, true_and]; omega) | (congr <;> omega)
        · try simp (disch := omega) only [LeE, LeO, avD, avT2, datsOf, fillA, ↓reduceIte, Nat.reduceEqDiff, Nat.reduceLT, Nat.reduceLeDiff, Nat.reduceAdd, Nat.reduceSub, reduceCtorEq, ne_eq, eq_self, if_true, if_false, forall_eq, forall_eq_or_imp, Int.reduceToNat, Int.reduceLT, Int.reduceLE, ↓List.forall_mem_cons, Nat.reduceMul, ite_self, forall_const, implies_true, Op.operands, avT0, avT1, csM, List.map_cons, List.map_nil]
          all_goals first | done | (repeat' apply And.intro) <;> first | rfl | omega | assumption | (simp only [AV.dat.injEq, Dat.int.injEq, true_and]; omega) | (congr <;> omega)
  · skip
    apply aw_exit
    apply q_exit_seq
    apply q_exit_loop
    apply q_exit
    apply q_seq
    apply aw_regs [18] []
    · simp (disch := omega) only [avR2, avD, avT2, datsOf, fillA, ↓reduceIte, Nat.reduceEqDiff, Nat.reduceLT, Nat.reduceLeDiff, Nat.reduceAdd, Nat.reduceSub, reduceCtorEq, ne_eq, eq_self, if_true, if_false, forall_eq, forall_eq_or_imp, Int.reduceToNat, Int.reduceLT, Int.reduceLE, ↓List.forall_mem_cons, Nat.reduceMul, ite_self, forall_const, implies_true, Op.operands, avT0, avT1, hN, hP, hG, hR.1, hR.2.1, hR.2.2.1, tiA]
      (repeat' refine And.intro ?_ ?_) <;> try first | omega | assumption | with_reducible rfl | exact rfl | (intro hside; (repeat' refine And.intro ?_ ?_) <;> first | exact hside | omega | (rw [hside]; rfl) | (simp_all; done))
      refine CallC.use (gvF hP hG (lives_ok)) rfl ?_
      try simp (maxSteps := 2000000) (disch := omega) only [avR2, avD, avT2, datsOf, fillA, ↓reduceIte, Nat.reduceEqDiff, Nat.reduceLT, Nat.reduceLeDiff, Nat.reduceAdd, Nat.reduceSub, reduceCtorEq, ne_eq, eq_self, if_true, if_false, forall_eq, forall_eq_or_imp, Int.reduceToNat, Int.reduceLT, Int.reduceLE, ↓List.forall_mem_cons, Nat.reduceMul, ite_self, forall_const, implies_true, Op.operands, avT0, avT1, hN, hP, hG, hR.1, hR.2.1, hR.2.2.1, tiA]
      first | exact ⟨rfl, rfl⟩ | ((repeat' first | refine And.intro ?_ ?_ | intro _) <;> first | with_reducible rfl | assumption | omega | rfl | (rename_i hq; rw [hq]; rfl) | (simp_all; done))
    apply aw_ret
    simp only [QRet, QRetM, objsAre, Tryd.results4, resA, mapO_nil, mapO_cons, vD_dat, vD_nils, vD_rp, vD_osl, vD_ptr, vD_agg, vD_fn, vL_dat, vL_app, viewL, avD, avT2, datsOf, fillA, ↓reduceIte, Nat.reduceEqDiff, Nat.reduceLT, Nat.reduceLeDiff, Nat.reduceAdd, Nat.reduceSub, reduceCtorEq, ne_eq, eq_self, if_true, if_false, forall_eq, forall_eq_or_imp, Int.reduceToNat, Int.reduceLT, Int.reduceLE, ↓List.forall_mem_cons, Nat.reduceMul, ite_self, forall_const, implies_true, Op.operands, avT0, avT1, hP, hG, tiA]

end Go.Proofs.YthcfjdkflmkhbaaDoor

