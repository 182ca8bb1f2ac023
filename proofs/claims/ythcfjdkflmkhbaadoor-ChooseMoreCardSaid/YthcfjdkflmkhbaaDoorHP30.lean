/- The contract of Best. -/
import Derived.Test.YthcfjdkflmkhbaaDoorHP29
import Derived.Test.YthcfjdkflmkhbaaDoorHAv39
import Derived.Test.YthcfjdkflmkhbaaDoorHAv41
set_option linter.all false
namespace Go.Proofs.YthcfjdkflmkhbaaDoor
open Go.Av


set_option maxHeartbeats 4000000 in
theorem best_ok (c : CaseM) (hs : SzC c) : Gives Tryd.prog gG 30 [caseD c] [isD (bestM c).1, iD (bestM c).2.1, iD (bestM c).2.2] := by
  have hni := hs.ni
  have hst : (0 : Nat) = 0 := rfl
  have hir := hs.ir
  unfold I64 at hir
  have hidx : ∀ j : Nat, j < c.items.length → ((c.items.length : Int) - 1 - (j : Int)).toNat = c.items.length - 1 - j := by intro j h; omega
  refine gives_intro [] [] [] Tryd.func30 rfl (by rfl) (by simp [Tryd.ntmps30]) fun F hP hG hN hR => ?_
  rw [Tryd.ntmps30] at hN
  have hA := And.intro hN (And.intro hP (And.intro hG (And.intro hR.1 (And.intro hR.2.1 hR.2.2.1))))
  apply aw_regs [1] [1]
  · simp (disch := omega) only [avR2, avA, datsOf, fillA, seval, ↓List.forall_mem_cons, Op.operands, hA, tiA]
    first | exact ⟨rfl, rfl⟩ | ((repeat' first | refine And.intro ?_ ?_ | intro _) <;> first | with_reducible rfl | assumption | omega | rfl | (rename_i hq; rw [hq]; rfl) | (simp_all; done))
  apply aw_seq
  apply aw_regs [1, 5] [1]
  · simp (disch := omega) only [avR2, avA, datsOf, fillA, seval, ↓List.forall_mem_cons, Op.operands, hA, tiA]
    (repeat' refine And.intro ?_ ?_) <;> try first | omega | assumption | with_reducible rfl | exact rfl | (intro hside; (repeat' refine And.intro ?_ ?_) <;> first | exact hside | omega | (rw [hside]; rfl) | (simp_all; done))
    refine CallC.use (gvF hP hG (valid_ok gG c hs)) rfl ?_
    try simp (maxSteps := 2000000) (disch := omega) only [avR2, avA, datsOf, fillA, seval, ↓List.forall_mem_cons, Op.operands, hA, tiA]
    first | exact ⟨rfl, rfl⟩ | ((repeat' first | refine And.intro ?_ ?_ | intro _) <;> first | with_reducible rfl | assumption | omega | rfl | (rename_i hq; rw [hq]; rfl) | (simp_all; done))
  apply aw_regs [1, 5, 23] [1]
  · simp (disch := omega) only [avR2, avA, datsOf, fillA, seval, ↓List.forall_mem_cons, Op.operands, hA, tiA]
    first | exact ⟨rfl, rfl⟩ | ((repeat' first | refine And.intro ?_ ?_ | intro _) <;> first | with_reducible rfl | assumption | omega | rfl | (rename_i hq; rw [hq]; rfl) | (simp_all; done))
  refine aw_if _ rfl (fun hb => ?_) (fun hb => ?_) <;> (try simp only [pickB_true, pickB_false, Bool.false_or, Bool.false_and, Bool.true_and, decide_eq_true_eq, decide_eq_false_iff_not, Bool.or_eq_true, Bool.and_eq_true, Bool.or_eq_false_iff, Bool.and_eq_false_imp, Bool.not_eq_true, Bool.not_eq_false, Bool.not_eq_eq_eq_not, Bool.not_true, Bool.not_false, Int.not_lt, Int.not_le, beq_iff_eq, beq_eq_false_iff_ne, bne_iff_ne, bne_eq_false_iff_eq, ne_eq, Bool.true_eq_false, Bool.false_eq_true, if_false_left, if_true_left, Bool.not_eq_eq_eq_not, Bool.decide_eq_true, Classical.not_not] at hb)
  · skip
    have hv : bestM c = ([], 0, validM c) := by
      unfold bestM
      rw [if_pos hb]
    apply aw_regs [2, 3, 4] [158, 159]
    · simp (disch := omega) only [avR2, avA, datsOf, fillA, seval, ↓List.forall_mem_cons, Op.operands, hA, tiA]
      first | exact ⟨rfl, rfl⟩ | ((repeat' first | refine And.intro ?_ ?_ | intro _) <;> first | with_reducible rfl | assumption | omega | rfl | (rename_i hq; rw [hq]; rfl) | (simp_all; done))
    apply aw_ret
    apply q_ret_seq
    simp only [QRet, QRetM, QRetX, retsX_nil, retsX_cons, objsAre, Tryd.results30, resA, mapO_nil, mapO_cons, vD_dat, vD_nils, vD_rp, vD_osl, vD_ptr, vD_agg, vD_fn, vL_dat, vL_app, viewL, avA, datsOf, fillA, seval, ↓List.forall_mem_cons, Op.operands, hP, hG, tiA]
    rw [hv]
    try simp [pickBM_len, List.take_of_length_le]
    
  · skip
    have h0 : ¬ validM c ≠ 0 := by omega
    have hc : OkC c := validM_ok.1 (by omega)
    have hc64 := hc.n64
    have hcr := hc.room
    have hcw := hc.wl
    have hn1 := n1_room hc
    have hd1 : (c.room + 1).toNat = n1M c := rfl
    apply aw_skip
    apply q_seq
    apply aw_regs [1, 6] [1, 28, 44]
    · simp (disch := omega) only [avR2, avA, datsOf, fillA, seval, ↓List.forall_mem_cons, Op.operands, hA, tiA, hd1, List.map_replicate]
      first | exact ⟨rfl, rfl⟩ | ((repeat' first | refine And.intro ?_ ?_ | intro _) <;> first | with_reducible rfl | assumption | omega | rfl | (rename_i hq; rw [hq]; rfl) | (simp_all; done))
    apply aw_regs [1, 6, 7] [1, 28, 32, 44, 50]
    · simp (disch := omega) only [avR2, avA, datsOf, fillA, seval, ↓List.forall_mem_cons, Op.operands, hA, tiA, List.map_replicate]
      first | exact ⟨rfl, rfl⟩ | ((repeat' first | refine And.intro ?_ ?_ | intro _) <;> first | with_reducible rfl | assumption | omega | rfl | (rename_i hq; rw [hq]; rfl) | (simp_all; done))
    apply aw_seq
    apply aw_regs [1, 6, 7, 8] [1, 28, 32, 44, 50]
    · simp (disch := omega) only [avR2, avA, datsOf, fillA, seval, ↓List.forall_mem_cons, Op.operands, hA, tiA]
      first | exact ⟨rfl, rfl⟩ | ((repeat' first | refine And.intro ?_ ?_ | intro _) <;> first | with_reducible rfl | assumption | omega | rfl | (rename_i hq; rw [hq]; rfl) | (simp_all; done))
    apply aw_block
    refine aw_frz 28 hR.2.2.2 rfl (datE_rep _ _) ?_
    refine aw_loop (ι := {j : Nat // j ≤ c.items.length}) (fun ⟨j, hj⟩ => .of [(1, .ptr 1 3 0 0), (6, .dat (.sl ((aftM c j).map oD))), (7, .osl 32 1 0 c.items.length), (8, .dat (iD (c.items.length - 1 - j)))] [(1, ⟨3, [.dat (caseD c)]⟩), (32, ⟨1, rowsA c j⟩)]) (fun ⟨j, hj⟩ => c.items.length - j) (⟨0, by omega⟩) (Le.of ?_ ?_) fun ix => ?_
    · try simp (disch := omega) only [LeE, LeO, avA, datsOf, fillA, seval, ↓List.forall_mem_cons, Op.operands, aftM_zero, aftM_succ, rowsA_zero, rowsA_next, nowL_all, List.map_replicate, Int.sub_zero, List.take_replicate, Nat.min_self, List.length_replicate, Nat.le_refl]
      all_goals first | done | (repeat' apply And.intro) <;> first | rfl | omega | assumption | (simp only [AV.dat.injEq, Dat.int.injEq, true_and]; omega) | (congr <;> omega)
    · try simp (disch := omega) only [LeE, LeO, avA, datsOf, fillA, seval, ↓List.forall_mem_cons, Op.operands, aftM_zero, aftM_succ, rowsA_zero, rowsA_next, nowL_all, List.map_replicate, Int.sub_zero, List.take_replicate, Nat.min_self, List.length_replicate, Nat.le_refl]
      all_goals first | done | (repeat' apply And.intro) <;> first | rfl | omega | assumption | (simp only [AV.dat.injEq, Dat.int.injEq, true_and]; omega) | (congr <;> omega)
    obtain ⟨j, hj⟩ := ix
    dsimp only
    apply aw_seq
    apply aw_regs [1, 6, 7, 8, 38] [1, 28, 32, 44, 50]
    · simp (disch := omega) only [avR2, avA, datsOf, fillA, seval, ↓List.forall_mem_cons, Op.operands, hA, tiA]
      first | exact ⟨rfl, rfl⟩ | ((repeat' first | refine And.intro ?_ ?_ | intro _) <;> first | with_reducible rfl | assumption | omega | rfl | (rename_i hq; rw [hq]; rfl) | (simp_all; done))
    refine aw_if _ rfl (fun hb => ?_) (fun hb => ?_) <;> (try simp only [pickB_true, pickB_false, Bool.false_or, Bool.false_and, Bool.true_and, decide_eq_true_eq, decide_eq_false_iff_not, Bool.or_eq_true, Bool.and_eq_true, Bool.or_eq_false_iff, Bool.and_eq_false_imp, Bool.not_eq_true, Bool.not_eq_false, Bool.not_eq_eq_eq_not, Bool.not_true, Bool.not_false, Int.not_lt, Int.not_le, beq_iff_eq, beq_eq_false_iff_ne, bne_iff_ne, bne_eq_false_iff_eq, ne_eq, Bool.true_eq_false, Bool.false_eq_true, if_false_left, if_true_left, Bool.not_eq_eq_eq_not, Bool.decide_eq_true, Classical.not_not] at hb)
    · skip
      have hjn : j < c.items.length := by omega
      have hal := aftM_len c j
      have hi8 := hc.n8 (c.items.length - 1 - j) (by omega)
      have hwj := hc.w (c.items.length - 1 - j) (by omega)
      have hrl := rowsA_len c j
      simp only [itemM, weightM] at hi8 hwj
      apply aw_skip
      apply q_seq
      apply aw_seq
      apply aw_block
      apply aw_regs [1, 6, 7, 8, 9] [1, 28, 32, 44, 50]
      · simp (disch := omega) only [avR2, avA, datsOf, fillA, seval, ↓List.forall_mem_cons, Op.operands, hA, tiA, hd1, List.map_replicate, rowsA_kill]
        first | exact ⟨rfl, rfl⟩ | ((repeat' first | refine And.intro ?_ ?_ | intro _) <;> first | with_reducible rfl | assumption | omega | rfl | (rename_i hq; rw [hq]; rfl) | (simp_all; done))
      apply aw_regs [1, 6, 7, 8, 9] [1, 28, 32, 44, 50]
      · simp (disch := omega) only [avR2, avA, datsOf, fillA, seval, ↓List.forall_mem_cons, Op.operands, hA, tiA, hd1, hidx, List.map_replicate, rowsA_kill, rowsA_nil, rowsA_len]
        first | exact ⟨rfl, rfl⟩ | ((repeat' first | refine And.intro ?_ ?_ | intro _) <;> first | with_reducible rfl | assumption | omega | rfl | (rename_i hq; rw [hq]; rfl) | (simp_all; done))
      apply aw_seq
      apply aw_regs [1, 6, 7, 8, 9, 54, 55] [1, 28, 32, 44, 50]
      · simp (disch := omega) only [avR2, avA, datsOf, fillA, seval, ↓List.forall_mem_cons, Op.operands, hA, tiA]
        first | exact ⟨rfl, rfl⟩ | ((repeat' first | refine And.intro ?_ ?_ | intro _) <;> first | with_reducible rfl | assumption | omega | rfl | (rename_i hq; rw [hq]; rfl) | (simp_all; done))
      apply aw_block
      refine aw_loop (ι := {r : Nat // r ≤ n1M c}) (fun ⟨r, hr⟩ => .of [(1, .ptr 1 3 0 0), (6, .dat (.sl ((aftM c j).map oD))), (7, .osl 32 1 0 c.items.length), (8, .dat (iD (c.items.length - 1 - j))), (9, .osl 44 2 0 (n1M c)), (54, .dat (iD (c.room + 1))), (55, .dat (iD r))] [(1, ⟨3, [.dat (caseD c)]⟩), (32, ⟨1, (rowsA c j).set (c.items.length - 1 - j) (.osl 50 1 0 (n1M c))⟩), (44, ⟨2, ((nowL (aftJ c j) (0, 0) (n1M c) r).map oD).map .dat⟩), (50, ⟨1, ((nowL (firJ c j) 0 (n1M c) r).map iD).map .dat⟩)]) (fun ⟨r, hr⟩ => n1M c - r) (⟨0, by omega⟩) (Le.of ?_ ?_) fun ix => ?_
      · try simp (disch := omega) only [LeE, LeO, avA, datsOf, fillA, seval, ↓List.forall_mem_cons, Op.operands, nowL_zero, nowA_next, nowF_next, List.map_replicate]
        all_goals first | done | (repeat' apply And.intro) <;> first | rfl | omega | assumption | (simp only [AV.dat.injEq, Dat.int.injEq, true_and]; omega) | (congr <;> omega)
      · try simp (disch := omega) only [LeE, LeO, avA, datsOf, fillA, seval, ↓List.forall_mem_cons, Op.operands, nowL_zero, nowA_next, nowF_next, List.map_replicate]
        all_goals first | done | (repeat' apply And.intro) <;> first | rfl | omega | assumption | (simp only [AV.dat.injEq, Dat.int.injEq, true_and]; omega) | (congr <;> omega)
      obtain ⟨r, hr⟩ := ix
      dsimp only
      apply aw_regs [1, 6, 7, 8, 9, 54, 55, 56] [1, 28, 32, 44, 50]
      · simp (disch := omega) only [avR2, avA, datsOf, fillA, seval, ↓List.forall_mem_cons, Op.operands, hA, tiA]
        first | exact ⟨rfl, rfl⟩ | ((repeat' first | refine And.intro ?_ ?_ | intro _) <;> first | with_reducible rfl | assumption | omega | rfl | (rename_i hq; rw [hq]; rfl) | (simp_all; done))
      apply aw_seq
      refine aw_if _ rfl (fun hb => ?_) (fun hb => ?_) <;> (try simp only [pickB_true, pickB_false, Bool.false_or, Bool.false_and, Bool.true_and, decide_eq_true_eq, decide_eq_false_iff_not, Bool.or_eq_true, Bool.and_eq_true, Bool.or_eq_false_iff, Bool.and_eq_false_imp, Bool.not_eq_true, Bool.not_eq_false, Bool.not_eq_eq_eq_not, Bool.not_true, Bool.not_false, Int.not_lt, Int.not_le, beq_iff_eq, beq_eq_false_iff_ne, bne_iff_ne, bne_eq_false_iff_eq, ne_eq, Bool.true_eq_false, Bool.false_eq_true, if_false_left, if_true_left, Bool.not_eq_eq_eq_not, Bool.decide_eq_true, Classical.not_not] at hb)
      · skip
        have hrn : r < n1M c := by omega
        have hnl1 := nowL_len (aftJ c j) (0, 0) (n1M c) r
        have hnl2 := nowL_len (firJ c j) 0 (n1M c) r
        apply aw_skip
        apply q_seq
        apply aw_seq
        apply aw_block
        apply aw_regs [1, 6, 7, 8, 9, 10, 54, 55] [1, 28, 32, 44, 50]
        · simp (disch := omega) only [avR2, avA, datsOf, fillA, seval, ↓List.forall_mem_cons, Op.operands, hA, tiA]
          first | exact ⟨rfl, rfl⟩ | ((repeat' first | refine And.intro ?_ ?_ | intro _) <;> first | with_reducible rfl | assumption | omega | rfl | (rename_i hq; rw [hq]; rfl) | (simp_all; done))
        apply aw_regs [1, 6, 7, 8, 9, 10, 54, 55] [1, 28, 32, 44, 50]
        · simp (disch := omega) only [avR2, avA, datsOf, fillA, seval, ↓List.forall_mem_cons, Op.operands, hA, tiA, Dat.flat, gG_look, set_rowP]
          first | exact ⟨rfl, rfl⟩ | ((repeat' first | refine And.intro ?_ ?_ | intro _) <;> first | with_reducible rfl | assumption | omega | rfl | (rename_i hq; rw [hq]; rfl) | (simp_all; done))
        apply aw_regs [1, 6, 7, 8, 9, 10, 54, 55, 66, 67, 68] [1, 28, 32, 44, 50]
        · simp (disch := omega) only [avR2, avA, datsOf, fillA, seval, ↓List.forall_mem_cons, Op.operands, hA, tiA, hidx]
          first | exact ⟨rfl, rfl⟩ | ((repeat' first | refine And.intro ?_ ?_ | intro _) <;> first | with_reducible rfl | assumption | omega | rfl | (rename_i hq; rw [hq]; rfl) | (simp_all; done))
        apply aw_block
        refine aw_loop (ι := {k : Nat // k ≤ (c.items.getD (c.items.length - 1 - j) default).length}) (fun ⟨k, hk⟩ => .of [(1, .ptr 1 3 0 0), (6, .dat (.sl ((aftM c j).map oD))), (7, .osl 32 1 0 c.items.length), (8, .dat (iD (c.items.length - 1 - j))), (9, .osl 44 2 0 (n1M c)), (54, .dat (iD (c.room + 1))), (55, .dat (iD r)), (10, .dat (iD r)), (66, .dat (osD (c.items.getD (c.items.length - 1 - j) default))), (67, .dat (iD (c.items.getD (c.items.length - 1 - j) default).length)), (68, .dat (iD k))] [(1, ⟨3, [.dat (caseD c)]⟩), (32, ⟨1, (rowsA c j).set (c.items.length - 1 - j) (.osl 50 1 0 (n1M c))⟩), (44, ⟨2, (((nowL (aftJ c j) (0, 0) (n1M c) r).set r (cellK c j r k).1).map oD).map .dat⟩), (50, ⟨1, (((nowL (firJ c j) 0 (n1M c) r).set r (cellK c j r k).2).map iD).map .dat⟩)]) (fun ⟨k, hk⟩ => (c.items.getD (c.items.length - 1 - j) default).length - k) (⟨0, by omega⟩) (Le.of ?_ ?_) fun ix => ?_
        · try simp (disch := omega) only [LeE, LeO, avA, datsOf, fillA, seval, ↓List.forall_mem_cons, Op.operands, cellK_zero, nowL_self, hst, List.set_set]
          all_goals first | done | (repeat' apply And.intro) <;> first | rfl | omega | assumption | (simp only [AV.dat.injEq, Dat.int.injEq, true_and]; omega) | (congr <;> omega)
        · try simp (disch := omega) only [LeE, LeO, avA, datsOf, fillA, seval, ↓List.forall_mem_cons, Op.operands, cellK_zero, nowL_self, hst, List.set_set]
          all_goals first | done | (repeat' apply And.intro) <;> first | rfl | omega | assumption | (simp only [AV.dat.injEq, Dat.int.injEq, true_and]; omega) | (congr <;> omega)
        obtain ⟨k, hk⟩ := ix
        dsimp only
        apply aw_regs [1, 6, 7, 8, 9, 10, 54, 55, 66, 67, 68, 69] [1, 28, 32, 44, 50]
        · simp (disch := omega) only [avR2, avA, datsOf, fillA, seval, ↓List.forall_mem_cons, Op.operands, hA, tiA]
          first | exact ⟨rfl, rfl⟩ | ((repeat' first | refine And.intro ?_ ?_ | intro _) <;> first | with_reducible rfl | assumption | omega | rfl | (rename_i hq; rw [hq]; rfl) | (simp_all; done))
        apply aw_seq
        refine aw_if _ rfl (fun hb => ?_) (fun hb => ?_) <;> (try simp only [pickB_true, pickB_false, Bool.false_or, Bool.false_and, Bool.true_and, decide_eq_true_eq, decide_eq_false_iff_not, Bool.or_eq_true, Bool.and_eq_true, Bool.or_eq_false_iff, Bool.and_eq_false_imp, Bool.not_eq_true, Bool.not_eq_false, Bool.not_eq_eq_eq_not, Bool.not_true, Bool.not_false, Int.not_lt, Int.not_le, beq_iff_eq, beq_eq_false_iff_ne, bne_iff_ne, bne_eq_false_iff_eq, ne_eq, Bool.true_eq_false, Bool.false_eq_true, if_false_left, if_true_left, Bool.not_eq_eq_eq_not, Bool.decide_eq_true, Classical.not_not] at hb)
        · skip
          have hkl : k < (c.items.getD (c.items.length - 1 - j) default).length := by omega
          have hok := getD_all (hc.o (c.items.length - 1 - j) (by omega)) (i := k) (by simp only [itemM]; omega)
          simp only [itemM] at hok
          unfold okO at hok
          have hsl1 : ((nowL (aftJ c j) (0, 0) (n1M c) r).set r (cellK c j r k).1).length = n1M c := by simp [nowL_len]
          have hsl2 : ((nowL (firJ c j) 0 (n1M c) r).set r (cellK c j r k).2).length = n1M c := by simp [nowL_len]
          have hck := (cell_ok (r := r) (m := j) (w := c.weights.getD (c.items.length - 1 - j) default) (aft := aftM c j) (opts := (c.items.getD (c.items.length - 1 - j) default)) hwj (fun k hk => getD_all (hc.o (c.items.length - 1 - j) (by omega)) (by simp only [itemM]; omega)) (by omega) (aft_ok hc j (by omega)) k (by omega)).i64
          have hcs := cell_snd (opts := (c.items.getD (c.items.length - 1 - j) default)) (w := c.weights.getD (c.items.length - 1 - j) default) (aft := aftM c j) (r := r) k
          apply aw_skip
          apply q_seq
          apply aw_seq
          apply aw_block
          apply aw_regs [1, 6, 7, 8, 9, 10, 11, 12, 54, 55, 66, 67, 68] [1, 12, 28, 32, 44, 50]
          · simp (disch := omega) only [avR2, avA, datsOf, fillA, seval, ↓List.forall_mem_cons, Op.operands, hA, tiA, rowsA_kset]
            first | exact ⟨rfl, rfl⟩ | ((repeat' first | refine And.intro ?_ ?_ | intro _) <;> first | with_reducible rfl | assumption | omega | rfl | (rename_i hq; rw [hq]; rfl) | (simp_all; done))
          apply aw_seq
          by_cases hsp : (r : Int) < ((c.items.getD (c.items.length - 1 - j) default).getD k default).1
          · skip
            have hdc : decide ((r : Int) < ((c.items.getD (c.items.length - 1 - j) default).getD k default).1) = true := by rw [decide_eq_true_eq]; exact hsp
            have hst : cellK c j r (k + 1) = cellK c j r k := by
              rw [cellK_succ]
              unfold stepM
              rw [if_pos (.inl hsp)]
            apply aw_rgds [1, 6, 7, 8, 9, 10, 11, 12, 54, 55, 66, 67, 68, 87] [1, 12, 28, 32, 44, 50] [0, 1, 2, 3, 4, 5, 6, 7, 8, 9, 10, 11, 12, 13, 14] []
            · rw [hP]; kernel_rfl
            · exact hR
            · kernel_rfl
            · (repeat (apply PickL.cons; exact rfl)); exact PickL.nil _
            · simp (maxSteps := 2000000) (disch := omega) only [avR2, avA, datsOf, fillA, seval, ↓List.forall_mem_cons, Op.operands, hA, tiA, hdc, eq97, Dat.flat, gG_look]
              first | exact ⟨rfl, rfl⟩ | ((repeat' first | refine And.intro ?_ ?_ | intro _) <;> first | with_reducible rfl | assumption | omega | rfl | (rename_i hq; rw [hq]; rfl) | (simp_all; done))
            refine aw_ift rfl ?_
            apply aw_exit
            apply q_exit_seq
            apply q_exit
            apply q_seq
            apply aw_reg [1, 6, 7, 8, 9, 10, 54, 55, 66, 67, 68] [1, 28, 32, 44, 50]
            · simp (disch := omega) only [avR2, avA, datsOf, fillA, seval, ↓List.forall_mem_cons, Op.operands, hA, tiA]
              first | exact ⟨rfl, rfl⟩ | ((repeat' first | refine And.intro ?_ ?_ | intro _) <;> first | with_reducible rfl | assumption | omega | rfl | (rename_i hq; rw [hq]; rfl) | (simp_all; done))
            refine q_loop (⟨k + 1, by omega⟩) (Le.of ?_ ?_) (by dsimp only; omega)
            · try simp (disch := omega) only [LeE, LeO, avA, datsOf, fillA, seval, ↓List.forall_mem_cons, Op.operands, cellK_zero, nowL_self, hst, List.set_set]
              all_goals first | done | (repeat' apply And.intro) <;> first | rfl | omega | assumption | (simp only [AV.dat.injEq, Dat.int.injEq, true_and]; omega) | (congr <;> omega)
            · try simp (disch := omega) only [LeE, LeO, avA, datsOf, fillA, seval, ↓List.forall_mem_cons, Op.operands, cellK_zero, nowL_self, hst, List.set_set]
              all_goals first | done | (repeat' apply And.intro) <;> first | rfl | omega | assumption | (simp only [AV.dat.injEq, Dat.int.injEq, true_and]; omega) | (congr <;> omega)
          · skip
            have hdc : decide ((r : Int) < ((c.items.getD (c.items.length - 1 - j) default).getD k default).1) = false := by rw [decide_eq_false_iff_not]; exact hsp
            have hqb : ((r : Int) - ((c.items.getD (c.items.length - 1 - j) default).getD k default).1).toNat < (aftM c j).length := by omega
            have hq := (aft_ok hc j (by omega) ((r : Int) - ((c.items.getD (c.items.length - 1 - j) default).getD k default).1).toNat hqb).i64
            have hm1 : 0 ≤ c.weights.getD (c.items.length - 1 - j) default * ((c.items.getD (c.items.length - 1 - j) default).getD k default).2 := Int.mul_nonneg hwj.1 hok.2.2.1
            have hm2 : c.weights.getD (c.items.length - 1 - j) default * ((c.items.getD (c.items.length - 1 - j) default).getD k default).2 ≤ 1024 * 64 := Int.mul_le_mul hwj.2 hok.2.2.2 hok.2.2.1 (by omega)
            apply aw_rgds [1, 6, 7, 8, 9, 10, 11, 12, 54, 55, 66, 67, 68, 87] [1, 12, 28, 32, 44, 50] [0, 1, 2, 3, 4, 5, 6, 7, 8, 9, 10, 11, 12, 13, 14] []
            · rw [hP]; kernel_rfl
            · exact hR
            · kernel_rfl
            · (repeat (apply PickL.cons; exact rfl)); exact PickL.nil _
            · simp (maxSteps := 2000000) (disch := omega) only [avR2, avA, datsOf, fillA, seval, ↓List.forall_mem_cons, Op.operands, hA, tiA, hdc, eq97, Dat.flat, gG_look]
              first | exact ⟨rfl, rfl⟩ | ((repeat' first | refine And.intro ?_ ?_ | intro _) <;> first | with_reducible rfl | assumption | omega | rfl | (rename_i hq; rw [hq]; rfl) | (simp_all; done))
            refine aw_if _ rfl (fun hb => ?_) (fun hb => ?_) <;> (try simp only [pickB_true, pickB_false, Bool.false_or, Bool.false_and, Bool.true_and, decide_eq_true_eq, decide_eq_false_iff_not, Bool.or_eq_true, Bool.and_eq_true, Bool.or_eq_false_iff, Bool.and_eq_false_imp, Bool.not_eq_true, Bool.not_eq_false, Bool.not_eq_eq_eq_not, Bool.not_true, Bool.not_false, Int.not_lt, Int.not_le, beq_iff_eq, beq_eq_false_iff_ne, bne_iff_ne, bne_eq_false_iff_eq, ne_eq, Bool.true_eq_false, Bool.false_eq_true, if_false_left, if_true_left, Bool.not_eq_eq_eq_not, Bool.decide_eq_true, Classical.not_not] at hb)
            · skip
              have hst : cellK c j r (k + 1) = cellK c j r k := by
                rw [cellK_succ]
                unfold stepM
                rw [if_pos (.inr (Prod.ext hb.1 hb.2))]
              apply aw_exit
              apply q_exit_seq
              apply q_exit
              apply q_seq
              apply aw_reg [1, 6, 7, 8, 9, 10, 54, 55, 66, 67, 68] [1, 28, 32, 44, 50]
              · simp (disch := omega) only [avR2, avA, datsOf, fillA, seval, ↓List.forall_mem_cons, Op.operands, hA, tiA]
                first | exact ⟨rfl, rfl⟩ | ((repeat' first | refine And.intro ?_ ?_ | intro _) <;> first | with_reducible rfl | assumption | omega | rfl | (rename_i hq; rw [hq]; rfl) | (simp_all; done))
              refine q_loop (⟨k + 1, by omega⟩) (Le.of ?_ ?_) (by dsimp only; omega)
              · try simp (disch := omega) only [LeE, LeO, avA, datsOf, fillA, seval, ↓List.forall_mem_cons, Op.operands, cellK_zero, nowL_self, hst, List.set_set]
                all_goals first | done | (repeat' apply And.intro) <;> first | rfl | omega | assumption | (simp only [AV.dat.injEq, Dat.int.injEq, true_and]; omega) | (congr <;> omega)
              · try simp (disch := omega) only [LeE, LeO, avA, datsOf, fillA, seval, ↓List.forall_mem_cons, Op.operands, cellK_zero, nowL_self, hst, List.set_set]
                all_goals first | done | (repeat' apply And.intro) <;> first | rfl | omega | assumption | (simp only [AV.dat.injEq, Dat.int.injEq, true_and]; omega) | (congr <;> omega)
            · skip
              have hne : ¬ ((r : Int) < ((c.items.getD (c.items.length - 1 - j) default).getD k default).1 ∨ (aftM c j).getD ((r : Int) - ((c.items.getD (c.items.length - 1 - j) default).getD k default).1).toNat default = none2) := by
                rintro (h | h)
                · exact hsp h
                · rw [h] at hb; simp at hb
              apply aw_skip
              apply q_seq
              apply aw_regs [1, 6, 7, 8, 9, 10, 11, 12, 13, 54, 55, 66, 67, 68] [1, 12, 13, 28, 32, 44, 50]
              · simp (disch := omega) only [avR2, avA, datsOf, fillA, seval, ↓List.forall_mem_cons, Op.operands, hA, tiA, rowsA_kset]
                first | exact ⟨rfl, rfl⟩ | ((repeat' first | refine And.intro ?_ ?_ | intro _) <;> first | with_reducible rfl | assumption | omega | rfl | (rename_i hq; rw [hq]; rfl) | (simp_all; done))
              apply aw_rgds [1, 6, 7, 8, 9, 10, 11, 14, 54, 55, 66, 67, 68] [1, 14, 28, 32, 44, 50] [0, 1, 2, 3, 4, 5, 6, 7, 8, 9, 10, 11, 12, 13, 14, 15, 16, 17, 18] [14]
              · rw [hP]; kernel_rfl
              · exact hR
              · kernel_rfl
              · (repeat (apply PickL.cons; exact rfl)); exact PickL.nil _
              · simp (maxSteps := 2000000) (disch := omega) only [avR2, avA, datsOf, fillA, seval, ↓List.forall_mem_cons, Op.operands, hA, tiA, rowsA_kset, hidx]
                first | exact ⟨rfl, rfl⟩ | ((repeat' first | refine And.intro ?_ ?_ | intro _) <;> first | with_reducible rfl | assumption | omega | rfl | (rename_i hq; rw [hq]; rfl) | (simp_all; done))
              apply aw_rgds [1, 6, 7, 8, 9, 10, 11, 14, 54, 55, 66, 67, 68, 117] [1, 14, 28, 32, 44, 50] [0, 1, 2, 3, 4, 5] []
              · rw [hP]; kernel_rfl
              · exact hR
              · kernel_rfl
              · (repeat (apply PickL.cons; exact rfl)); exact PickL.nil _
              · simp (disch := omega) only [avR2, avA, datsOf, fillA, seval, ↓List.forall_mem_cons, Op.operands, hA, tiA, getD_set_self]
                (repeat' refine And.intro ?_ ?_) <;> try first | omega | assumption | with_reducible rfl | exact rfl | (intro hside; (repeat' refine And.intro ?_ ?_) <;> first | exact hside | omega | (rw [hside]; rfl) | (simp_all; done))
                refine CallC.use (gvF hP hG (less_ok (((aftM c j).getD ((r : Int) - ((c.items.getD (c.items.length - 1 - j) default).getD k default).1).toNat default).1 + c.weights.getD (c.items.length - 1 - j) default * ((c.items.getD (c.items.length - 1 - j) default).getD k default).2, ((aftM c j).getD ((r : Int) - ((c.items.getD (c.items.length - 1 - j) default).getD k default).1).toNat default).2 + ((c.items.getD (c.items.length - 1 - j) default).getD k default).1) (cellK c j r k).1)) rfl ?_
                try simp (maxSteps := 2000000) (disch := omega) only [avR2, avA, datsOf, fillA, seval, ↓List.forall_mem_cons, Op.operands, hA, tiA]
                first | exact ⟨rfl, rfl⟩ | ((repeat' first | refine And.intro ?_ ?_ | intro _) <;> first | with_reducible rfl | assumption | omega | rfl | (rename_i hq; rw [hq]; rfl) | (simp_all; done))
              refine aw_if _ rfl (fun hb => ?_) (fun hb => ?_) <;> (try simp only [pickB_true, pickB_false, Bool.false_or, Bool.false_and, Bool.true_and, decide_eq_true_eq, decide_eq_false_iff_not, Bool.or_eq_true, Bool.and_eq_true, Bool.or_eq_false_iff, Bool.and_eq_false_imp, Bool.not_eq_true, Bool.not_eq_false, Bool.not_eq_eq_eq_not, Bool.not_true, Bool.not_false, Int.not_lt, Int.not_le, beq_iff_eq, beq_eq_false_iff_ne, bne_iff_ne, bne_eq_false_iff_eq, ne_eq, Bool.true_eq_false, Bool.false_eq_true, if_false_left, if_true_left, Bool.not_eq_eq_eq_not, Bool.decide_eq_true, Classical.not_not] at hb)
              · skip
                have hst : cellK c j r (k + 1) = ((((aftM c j).getD ((r : Int) - ((c.items.getD (c.items.length - 1 - j) default).getD k default).1).toNat default).1 + c.weights.getD (c.items.length - 1 - j) default * ((c.items.getD (c.items.length - 1 - j) default).getD k default).2, ((aftM c j).getD ((r : Int) - ((c.items.getD (c.items.length - 1 - j) default).getD k default).1).toNat default).2 + ((c.items.getD (c.items.length - 1 - j) default).getD k default).1), (k : Int)) := by
                  rw [cellK_succ]
                  unfold stepM
                  rw [if_neg hne, if_pos hb]
                apply aw_rgd [1, 6, 7, 8, 9, 10, 54, 55, 66, 67, 68] [1, 28, 32, 44, 50] [0, 1, 2, 3, 4, 5, 7, 9, 10, 6, 8, 11, 12] []
                · rw [hP]; kernel_rfl
                · exact hR
                · kernel_rfl
                · (repeat (apply PickL.cons; exact rfl)); exact PickL.nil _
                · simp (maxSteps := 2000000) (disch := omega) only [avR2, avA, datsOf, fillA, seval, ↓List.forall_mem_cons, Op.operands, hA, tiA, List.length_set, rowsA_len, hidx, getA_set_self, set_rowP, set_row]
                  first | exact ⟨rfl, rfl⟩ | ((repeat' first | refine And.intro ?_ ?_ | intro _) <;> first | with_reducible rfl | assumption | omega | rfl | (rename_i hq; rw [hq]; rfl) | (simp_all; done))
                apply q_block
                apply q_seq
                apply aw_reg [1, 6, 7, 8, 9, 10, 54, 55, 66, 67, 68] [1, 28, 32, 44, 50]
                · simp (disch := omega) only [avR2, avA, datsOf, fillA, seval, ↓List.forall_mem_cons, Op.operands, hA, tiA]
                  first | exact ⟨rfl, rfl⟩ | ((repeat' first | refine And.intro ?_ ?_ | intro _) <;> first | with_reducible rfl | assumption | omega | rfl | (rename_i hq; rw [hq]; rfl) | (simp_all; done))
                refine q_loop (⟨k + 1, by omega⟩) (Le.of ?_ ?_) (by dsimp only; omega)
                · try simp (disch := omega) only [LeE, LeO, avA, datsOf, fillA, seval, ↓List.forall_mem_cons, Op.operands, cellK_zero, nowL_self, hst, List.set_set]
                  all_goals first | done | (repeat' apply And.intro) <;> first | rfl | omega | assumption | (simp only [AV.dat.injEq, Dat.int.injEq, true_and]; omega) | (congr <;> omega)
                · try simp (disch := omega) only [LeE, LeO, avA, datsOf, fillA, seval, ↓List.forall_mem_cons, Op.operands, cellK_zero, nowL_self, hst, List.set_set]
                  all_goals first | done | (repeat' apply And.intro) <;> first | rfl | omega | assumption | (simp only [AV.dat.injEq, Dat.int.injEq, true_and]; omega) | (congr <;> omega)
              · skip
                have hst : cellK c j r (k + 1) = cellK c j r k := by
                  rw [cellK_succ]
                  unfold stepM
                  rw [if_neg hne, if_neg (by rw [hb]; simp)]
                apply aw_skip
                apply q_block
                apply q_seq
                apply aw_reg [1, 6, 7, 8, 9, 10, 54, 55, 66, 67, 68] [1, 28, 32, 44, 50]
                · simp (disch := omega) only [avR2, avA, datsOf, fillA, seval, ↓List.forall_mem_cons, Op.operands, hA, tiA]
                  first | exact ⟨rfl, rfl⟩ | ((repeat' first | refine And.intro ?_ ?_ | intro _) <;> first | with_reducible rfl | assumption | omega | rfl | (rename_i hq; rw [hq]; rfl) | (simp_all; done))
                refine q_loop (⟨k + 1, by omega⟩) (Le.of ?_ ?_) (by dsimp only; omega)
                · try simp (disch := omega) only [LeE, LeO, avA, datsOf, fillA, seval, ↓List.forall_mem_cons, Op.operands, cellK_zero, nowL_self, hst, List.set_set]
                  all_goals first | done | (repeat' apply And.intro) <;> first | rfl | omega | assumption | (simp only [AV.dat.injEq, Dat.int.injEq, true_and]; omega) | (congr <;> omega)
                · try simp (disch := omega) only [LeE, LeO, avA, datsOf, fillA, seval, ↓List.forall_mem_cons, Op.operands, cellK_zero, nowL_self, hst, List.set_set]
                  all_goals first | done | (repeat' apply And.intro) <;> first | rfl | omega | assumption | (simp only [AV.dat.injEq, Dat.int.injEq, true_and]; omega) | (congr <;> omega)
        · skip
          have hkk : k = (c.items.getD (c.items.length - 1 - j) default).length := by omega
          subst hkk
          apply aw_exit
          apply q_exit_seq
          apply q_exit_loop
          apply q_exit
          apply q_block
          apply q_seq
          apply aw_reg [1, 6, 7, 8, 9, 54, 55] [1, 28, 32, 44, 50]
          · simp (disch := omega) only [avR2, avA, datsOf, fillA, seval, ↓List.forall_mem_cons, Op.operands, hA, tiA]
            first | exact ⟨rfl, rfl⟩ | ((repeat' first | refine And.intro ?_ ?_ | intro _) <;> first | with_reducible rfl | assumption | omega | rfl | (rename_i hq; rw [hq]; rfl) | (simp_all; done))
          refine q_loop (⟨r + 1, by omega⟩) (Le.of ?_ ?_) (by dsimp only; omega)
          · try simp (disch := omega) only [LeE, LeO, avA, datsOf, fillA, seval, ↓List.forall_mem_cons, Op.operands, nowL_zero, nowA_next, nowF_next, List.map_replicate]
            all_goals first | done | (repeat' apply And.intro) <;> first | rfl | omega | assumption | (simp only [AV.dat.injEq, Dat.int.injEq, true_and]; omega) | (congr <;> omega)
          · try simp (disch := omega) only [LeE, LeO, avA, datsOf, fillA, seval, ↓List.forall_mem_cons, Op.operands, nowL_zero, nowA_next, nowF_next, List.map_replicate]
            all_goals first | done | (repeat' apply And.intro) <;> first | rfl | omega | assumption | (simp only [AV.dat.injEq, Dat.int.injEq, true_and]; omega) | (congr <;> omega)
      · skip
        have hrr : r = n1M c := by omega
        subst hrr
        have hnl1 := nowL_len (aftJ c j) (0, 0) (n1M c) (n1M c)
        have hnl2 := nowL_len (firJ c j) 0 (n1M c) (n1M c)
        refine aw_frz 44 hR.2.2.2 rfl (datE_map _) ?_
        refine aw_frz 50 hR.2.2.2 rfl (by simp only [frz_dats]; exact datE_map _) ?_
        apply aw_exit
        apply q_exit_seq
        apply q_exit_loop
        apply q_exit
        apply q_seq
        apply aw_reg [1, 6, 7, 8] [1, 28, 32, 44, 50]
        · simp (disch := omega) only [avR2, avA, datsOf, fillA, seval, ↓List.forall_mem_cons, Op.operands, hA, tiA, rowsA_frz, List.map_set, List.take_of_length_le, nowL_len]
          first | exact ⟨rfl, rfl⟩ | ((repeat' first | refine And.intro ?_ ?_ | intro _) <;> first | with_reducible rfl | assumption | omega | rfl | (rename_i hq; rw [hq]; rfl) | (simp_all; done))
        apply q_block
        apply q_seq
        apply aw_reg [1, 6, 7, 8] [1, 28, 32, 44, 50]
        · simp (disch := omega) only [avR2, avA, datsOf, fillA, seval, ↓List.forall_mem_cons, Op.operands, hA, tiA]
          first | exact ⟨rfl, rfl⟩ | ((repeat' first | refine And.intro ?_ ?_ | intro _) <;> first | with_reducible rfl | assumption | omega | rfl | (rename_i hq; rw [hq]; rfl) | (simp_all; done))
        refine q_loop (⟨j + 1, by omega⟩) (Le.of ?_ ?_) (by dsimp only; omega)
        · try simp (disch := omega) only [LeE, LeO, avA, datsOf, fillA, seval, ↓List.forall_mem_cons, Op.operands, aftM_zero, aftM_succ, rowsA_zero, rowsA_next, nowL_all, List.map_replicate, Int.sub_zero, List.take_replicate, Nat.min_self, List.length_replicate, Nat.le_refl]
          all_goals first | done | (repeat' apply And.intro) <;> first | rfl | omega | assumption | (simp only [AV.dat.injEq, Dat.int.injEq, true_and]; omega) | (congr <;> omega)
        · try simp (disch := omega) only [LeE, LeO, avA, datsOf, fillA, seval, ↓List.forall_mem_cons, Op.operands, aftM_zero, aftM_succ, rowsA_zero, rowsA_next, nowL_all, List.map_replicate, Int.sub_zero, List.take_replicate, Nat.min_self, List.length_replicate, Nat.le_refl]
          all_goals first | done | (repeat' apply And.intro) <;> first | rfl | omega | assumption | (simp only [AV.dat.injEq, Dat.int.injEq, true_and]; omega) | (congr <;> omega)
    · skip
      have hjj : j = c.items.length := by omega
      subst hjj
      have hal := aftM_len c c.items.length
      simp only [rowsA_all]
      apply aw_exit
      apply q_exit_seq
      apply q_exit_loop
      apply q_exit
      apply q_seq
      apply aw_seq
      apply aw_rgds [1, 6, 7, 138] [1, 28, 32, 44, 50] [0, 1, 2, 3, 4, 5, 6] []
      · rw [hP]; kernel_rfl
      · exact hR
      · kernel_rfl
      · (repeat (apply PickL.cons; exact rfl)); exact PickL.nil _
      · simp (disch := omega) only [avR2, avA, datsOf, fillA, seval, ↓List.forall_mem_cons, Op.operands, hA, tiA, eq97, Dat.flat, gG_look]
        first | exact ⟨rfl, rfl⟩ | ((repeat' first | refine And.intro ?_ ?_ | intro _) <;> first | with_reducible rfl | assumption | omega | rfl | (rename_i hq; rw [hq]; rfl) | (simp_all; done))
      refine aw_if _ rfl (fun hb => ?_) (fun hb => ?_) <;> (try simp only [pickB_true, pickB_false, Bool.false_or, Bool.false_and, Bool.true_and, decide_eq_true_eq, decide_eq_false_iff_not, Bool.or_eq_true, Bool.and_eq_true, Bool.or_eq_false_iff, Bool.and_eq_false_imp, Bool.not_eq_true, Bool.not_eq_false, Bool.not_eq_eq_eq_not, Bool.not_true, Bool.not_false, Int.not_lt, Int.not_le, beq_iff_eq, beq_eq_false_iff_ne, bne_iff_ne, bne_eq_false_iff_eq, ne_eq, Bool.true_eq_false, Bool.false_eq_true, if_false_left, if_true_left, Bool.not_eq_eq_eq_not, Bool.decide_eq_true, Classical.not_not] at hb)
      · skip
        have hv : bestM c = ([], 0, 21) := by
          unfold bestM
          rw [if_neg h0, if_pos (Prod.ext hb.1 hb.2)]
        apply aw_regs [2, 3, 4] [158, 159]
        · simp (disch := omega) only [avR2, avA, datsOf, fillA, seval, ↓List.forall_mem_cons, Op.operands, hA, tiA]
          first | exact ⟨rfl, rfl⟩ | ((repeat' first | refine And.intro ?_ ?_ | intro _) <;> first | with_reducible rfl | assumption | omega | rfl | (rename_i hq; rw [hq]; rfl) | (simp_all; done))
        apply aw_ret
        apply q_ret_seq
        simp only [QRet, QRetM, QRetX, retsX_nil, retsX_cons, objsAre, Tryd.results30, resA, mapO_nil, mapO_cons, vD_dat, vD_nils, vD_rp, vD_osl, vD_ptr, vD_agg, vD_fn, vL_dat, vL_app, viewL, avA, datsOf, fillA, seval, ↓List.forall_mem_cons, Op.operands, hP, hG, tiA]
        rw [hv]
        try simp [pickBM_len, List.take_of_length_le]
        
      · skip
        have hnb : (aftM c c.items.length).getD c.room.toNat default ≠ none2 := by
          intro h
          rw [h] at hb
          simp at hb
        have hv : bestM c = (pickBM c c.items.length, ((aftM c c.items.length).getD c.room.toNat default).1, 0) := by
          unfold bestM
          rw [if_neg h0, if_neg hnb]
        apply aw_skip
        apply q_seq
        apply aw_regs [1, 6, 7, 15] [1, 28, 32, 44, 50, 158, 159]
        · simp (disch := omega) only [avR2, avA, datsOf, fillA, seval, ↓List.forall_mem_cons, Op.operands, hA, tiA]
          first | exact ⟨rfl, rfl⟩ | ((repeat' first | refine And.intro ?_ ?_ | intro _) <;> first | with_reducible rfl | assumption | omega | rfl | (rename_i hq; rw [hq]; rfl) | (simp_all; done))
        apply aw_regs [1, 6, 7, 15, 16] [1, 28, 32, 44, 50, 158, 159]
        · simp (disch := omega) only [avR2, avA, datsOf, fillA, seval, ↓List.forall_mem_cons, Op.operands, hA, tiA]
          first | exact ⟨rfl, rfl⟩ | ((repeat' first | refine And.intro ?_ ?_ | intro _) <;> first | with_reducible rfl | assumption | omega | rfl | (rename_i hq; rw [hq]; rfl) | (simp_all; done))
        apply aw_seq
        apply aw_regs [1, 6, 7, 15, 16, 142, 143, 144] [1, 28, 32, 44, 50, 158, 159]
        · simp (disch := omega) only [avR2, avA, datsOf, fillA, seval, ↓List.forall_mem_cons, Op.operands, hA, tiA]
          first | exact ⟨rfl, rfl⟩ | ((repeat' first | refine And.intro ?_ ?_ | intro _) <;> first | with_reducible rfl | assumption | omega | rfl | (rename_i hq; rw [hq]; rfl) | (simp_all; done))
        apply aw_block
        refine aw_new0 159 1 (by omega) ?_
        refine aw_nilE 15 159 1 rfl rfl ?_
        refine aw_loop (ι := {i : Nat // i ≤ c.items.length}) (fun ⟨i, hi⟩ => .of [(1, .ptr 1 3 0 0), (6, .dat (.sl ((aftM c c.items.length).map oD))), (7, .osl 32 1 0 c.items.length), (15, .osl 159 1 0 i), (16, .dat (iD (curM c i))), (142, .dat (.sl (c.items.map osD))), (143, .dat (iD c.items.length)), (144, .dat (iD i))] [(1, ⟨3, [.dat (caseD c)]⟩), (32, ⟨1, (((List.range c.items.length).map (firM c)).map isD).map .dat⟩), (159, ⟨1, ((pickBM c i).map iD).map .dat⟩)]) (fun ⟨i, hi⟩ => c.items.length - i) (⟨0, by omega⟩) (Le.of ?_ ?_) fun ix => ?_
        · try simp (disch := omega) only [LeE, LeO, avA, datsOf, fillA, seval, ↓List.forall_mem_cons, Op.operands, pickBM_zero, pickBM_succ, curM, kM, pickBM_len]
          all_goals first | done | (repeat' apply And.intro) <;> first | rfl | omega | assumption | (simp only [AV.dat.injEq, Dat.int.injEq, true_and]; omega) | (congr <;> omega)
        · try simp (disch := omega) only [LeE, LeO, avA, datsOf, fillA, seval, ↓List.forall_mem_cons, Op.operands, pickBM_zero, pickBM_succ, curM, kM, pickBM_len]
          all_goals first | done | (repeat' apply And.intro) <;> first | rfl | omega | assumption | (simp only [AV.dat.injEq, Dat.int.injEq, true_and]; omega) | (congr <;> omega)
        obtain ⟨i, hi⟩ := ix
        dsimp only
        apply aw_regs [1, 6, 7, 15, 16, 142, 143, 144, 145] [1, 28, 32, 44, 50, 158, 159]
        · simp (disch := omega) only [avR2, avA, datsOf, fillA, seval, ↓List.forall_mem_cons, Op.operands, hA, tiA]
          first | exact ⟨rfl, rfl⟩ | ((repeat' first | refine And.intro ?_ ?_ | intro _) <;> first | with_reducible rfl | assumption | omega | rfl | (rename_i hq; rw [hq]; rfl) | (simp_all; done))
        apply aw_seq
        refine aw_if _ rfl (fun hb => ?_) (fun hb => ?_) <;> (try simp only [pickB_true, pickB_false, Bool.false_or, Bool.false_and, Bool.true_and, decide_eq_true_eq, decide_eq_false_iff_not, Bool.or_eq_true, Bool.and_eq_true, Bool.or_eq_false_iff, Bool.and_eq_false_imp, Bool.not_eq_true, Bool.not_eq_false, Bool.not_eq_eq_eq_not, Bool.not_true, Bool.not_false, Int.not_lt, Int.not_le, beq_iff_eq, beq_eq_false_iff_ne, bne_iff_ne, bne_eq_false_iff_eq, ne_eq, Bool.true_eq_false, Bool.false_eq_true, if_false_left, if_true_left, Bool.not_eq_eq_eq_not, Bool.decide_eq_true, Classical.not_not] at hb)
        · skip
          have hin : i < c.items.length := by omega
          have hpl := pickBM_len c i
          have hcu := cur_ok hc hnb i (by omega)
          have hkm := kM_ok hc hnb hin
          have hlr : ((List.range c.items.length).map (firM c)).length = c.items.length := by simp
          have hfl : (firM c i).length = n1M c := by simp [firM]
          simp only [kM] at hkm
          unfold okO at hkm
          apply aw_skip
          apply q_seq
          apply aw_seq
          apply aw_block
          apply aw_regs [1, 6, 7, 15, 16, 17, 18, 142, 143, 144] [1, 28, 32, 44, 50, 158, 159]
          · simp (disch := omega) only [avR2, avA, datsOf, fillA, seval, ↓List.forall_mem_cons, Op.operands, hA, tiA]
            first | exact ⟨rfl, rfl⟩ | ((repeat' first | refine And.intro ?_ ?_ | intro _) <;> first | with_reducible rfl | assumption | omega | rfl | (rename_i hq; rw [hq]; rfl) | (simp_all; done))
          apply aw_regs [1, 6, 7, 15, 16, 18, 19, 142, 143, 144] [1, 28, 32, 44, 50, 158, 159]
          · simp (disch := omega) only [avR2, avA, datsOf, fillA, seval, ↓List.forall_mem_cons, Op.operands, hA, tiA, getD_map_range]
            first | exact ⟨rfl, rfl⟩ | ((repeat' first | refine And.intro ?_ ?_ | intro _) <;> first | with_reducible rfl | assumption | omega | rfl | (rename_i hq; rw [hq]; rfl) | (simp_all; done))
          apply aw_regs [1, 6, 7, 15, 16, 18, 19, 142, 143, 144] [1, 28, 32, 44, 50, 158, 159]
          · simp (disch := omega) only [avR2, avA, datsOf, fillA, seval, ↓List.forall_mem_cons, Op.operands, hA, tiA, pickBM_len]
            first | exact ⟨rfl, rfl⟩ | ((repeat' first | refine And.intro ?_ ?_ | intro _) <;> first | with_reducible rfl | assumption | omega | rfl | (rename_i hq; rw [hq]; rfl) | (simp_all; done))
          apply aw_reg [1, 6, 7, 15, 16, 142, 143, 144] [1, 28, 32, 44, 50, 158, 159]
          · simp (disch := omega) only [avR2, avA, datsOf, fillA, seval, ↓List.forall_mem_cons, Op.operands, hA, tiA]
            first | exact ⟨rfl, rfl⟩ | ((repeat' first | refine And.intro ?_ ?_ | intro _) <;> first | with_reducible rfl | assumption | omega | rfl | (rename_i hq; rw [hq]; rfl) | (simp_all; done))
          apply q_block
          apply q_seq
          apply aw_reg [1, 6, 7, 15, 16, 142, 143, 144] [1, 28, 32, 44, 50, 158, 159]
          · simp (disch := omega) only [avR2, avA, datsOf, fillA, seval, ↓List.forall_mem_cons, Op.operands, hA, tiA]
            first | exact ⟨rfl, rfl⟩ | ((repeat' first | refine And.intro ?_ ?_ | intro _) <;> first | with_reducible rfl | assumption | omega | rfl | (rename_i hq; rw [hq]; rfl) | (simp_all; done))
          refine q_loop (⟨i + 1, by omega⟩) (Le.of ?_ ?_) (by dsimp only; omega)
          · try simp (disch := omega) only [LeE, LeO, avA, datsOf, fillA, seval, ↓List.forall_mem_cons, Op.operands, pickBM_zero, pickBM_succ, curM, kM, pickBM_len]
            all_goals first | done | (repeat' apply And.intro) <;> first | rfl | omega | assumption | (simp only [AV.dat.injEq, Dat.int.injEq, true_and]; omega) | (congr <;> omega)
          · try simp (disch := omega) only [LeE, LeO, avA, datsOf, fillA, seval, ↓List.forall_mem_cons, Op.operands, pickBM_zero, pickBM_succ, curM, kM, pickBM_len]
            all_goals first | done | (repeat' apply And.intro) <;> first | rfl | omega | assumption | (simp only [AV.dat.injEq, Dat.int.injEq, true_and]; omega) | (congr <;> omega)
        · skip
          have hii : i = c.items.length := by omega
          subst hii
          have hpl := pickBM_len c c.items.length
          have hfin := (aft_ok hc c.items.length (Nat.le_refl _) c.room.toNat (by omega)).i64
          apply aw_exit
          apply q_exit_seq
          apply q_exit_loop
          apply q_exit
          apply q_seq
          apply aw_rgds [2, 3, 4] [158, 159] [0, 1, 2, 3, 4, 5, 6, 7, 8, 9] []
          · rw [hP]; kernel_rfl
          · exact hR
          · kernel_rfl
          · (repeat (apply PickL.cons; exact rfl)); exact PickL.nil _
          · simp (disch := omega) only [avR2, avA, datsOf, fillA, seval, ↓List.forall_mem_cons, Op.operands, hA, tiA]
            first | exact ⟨rfl, rfl⟩ | ((repeat' first | refine And.intro ?_ ?_ | intro _) <;> first | with_reducible rfl | assumption | omega | rfl | (rename_i hq; rw [hq]; rfl) | (simp_all; done))
          apply aw_ret
          simp only [QRet, QRetM, QRetX, retsX_nil, retsX_cons, objsAre, Tryd.results30, resA, mapO_nil, mapO_cons, vD_dat, vD_nils, vD_rp, vD_osl, vD_ptr, vD_agg, vD_fn, vL_dat, vL_app, viewL, avA, datsOf, fillA, seval, ↓List.forall_mem_cons, Op.operands, hP, hG, tiA]
          rw [hv]
          try simp [pickBM_len, List.take_of_length_le]
          

end Go.Proofs.YthcfjdkflmkhbaaDoor

namespace Go.Proofs.YthcfjdkflmkhbaaDoor
open Go.Av

abbrev ceD (x : Int × Int × Int) : Dat := .agg [.int .i64 x.1, .int .i64 x.2.1, .int .i64 x.2.2]

section
variable (c : CaseM) (p q : Int)
def valM (i : Nat) (o : Int × Int) : Int := q * (c.weights.getD i default) * o.2 + p * o.1
def minV (i : Nat) : Nat → Int
  | 0 => valM c p q i ((c.items.getD i default).getD 0 default)
  | k + 1 => if valM c p q i ((c.items.getD i default).getD k default) < minV i k then valM c p q i ((c.items.getD i default).getD k default) else minV i k
def bndM : Nat → Int
  | 0 => (0 - p) * c.room
  | i + 1 => bndM i + minV c p q i (c.items.getD i default).length
def boundM : Int × Int × Int := (p, q, bndM c p q c.items.length)
def okPQ (p q : Int) : Prop := 0 ≤ p ∧ p ≤ 1048576 ∧ 0 ≤ q ∧ q ≤ 1048576

variable {c p q}
theorem val_range (hpq : okPQ p q) {i : Nat} {o : Int × Int} (hw : 0 ≤ c.weights.getD i default ∧ c.weights.getD i default ≤ 1024) (ho : okO o) :
    (0 ≤ q * (c.weights.getD i default) ∧ q * (c.weights.getD i default) ≤ 1048576 * 1024) ∧ (0 ≤ q * (c.weights.getD i default) * o.2 ∧ q * (c.weights.getD i default) * o.2 ≤ 1048576 * 1024 * 64) ∧ (0 ≤ p * o.1 ∧ p * o.1 ≤ 1048576 * 64) ∧
    0 ≤ valM c p q i o ∧ valM c p q i o ≤ 68786585600 := by
  obtain ⟨p1, p2, q1, q2⟩ := hpq
  obtain ⟨o1, o2, o3, o4⟩ := ho
  have h1 : 0 ≤ q * (c.weights.getD i default) := Int.mul_nonneg q1 hw.1
  have h2 : q * (c.weights.getD i default) ≤ 1048576 * 1024 := Int.mul_le_mul q2 hw.2 hw.1 (by omega)
  have h3 : 0 ≤ q * (c.weights.getD i default) * o.2 := Int.mul_nonneg h1 o3
  have h4 : q * (c.weights.getD i default) * o.2 ≤ 1048576 * 1024 * 64 := Int.mul_le_mul h2 o4 o3 (by omega)
  have h5 : 0 ≤ p * o.1 := Int.mul_nonneg p1 o1
  have h6 : p * o.1 ≤ 1048576 * 64 := Int.mul_le_mul p2 o2 o1 (by omega)
  unfold valM
  omega
theorem minV_range (hc : OkC c) (hpq : okPQ p q) {i : Nat} (hi : i < c.items.length) : ∀ k ≤ (c.items.getD i default).length, 0 ≤ minV c p q i k ∧ minV c p q i k ≤ 68786585600
  | 0, _ => (val_range hpq (hc.w i hi) (getD_all (hc.o i hi) (hc.n1 i hi))).2.2.2
  | k + 1, hk => by
    have h1 := minV_range hc hpq hi k (by omega)
    have h2 := (val_range (p := p) (q := q) hpq (hc.w i hi) (getD_all (hc.o i hi) (i := k) (by simp only [itemM]; omega))).2.2.2
    simp only [minV]
    split
    · exact h2
    · exact h1
theorem room_range (hc : OkC c) (hpq : okPQ p q) : -4294967296 ≤ (0 - p) * c.room ∧ (0 - p) * c.room ≤ 0 := by
  obtain ⟨p1, p2, _⟩ := hpq
  have hr := hc.room
  have h1 : 0 ≤ p * c.room := Int.mul_nonneg p1 hr.1
  have h2 : p * c.room ≤ 1048576 * 4096 := Int.mul_le_mul p2 hr.2 hr.1 (by omega)
  have h3 : (0 - p) * c.room = -(p * c.room) := by rw [Int.zero_sub, Int.neg_mul]
  omega
theorem bnd_range (hc : OkC c) (hpq : okPQ p q) : ∀ i ≤ c.items.length, -4294967296 ≤ bndM c p q i ∧ bndM c p q i ≤ 68786585600 * (i : Int)
  | 0, _ => by
    have := room_range hc hpq
    simp only [bndM]; omega
  | i + 1, h => by
    have h1 := bnd_range hc hpq i (by omega)
    have h2 := minV_range hc hpq (show i < c.items.length by omega) _ (Nat.le_refl _)
    simp only [bndM]
    omega
end

/-- The option with the fewest lines, and of these the fewest turns. -/
def shAt (l : List (Int × Int)) : Nat → Nat
  | 0 => 0
  | k + 1 => if (l.getD k default).1 < (l.getD (shAt l k) default).1 ∨ ((l.getD k default).1 = (l.getD (shAt l k) default).1 ∧ (l.getD k default).2 < (l.getD (shAt l k) default).2) then k else shAt l k
theorem shAt_zero (l : List (Int × Int)) : shAt l 0 = 0 := rfl
theorem shAt_le (l : List (Int × Int)) : ∀ k, shAt l k ≤ k ∧ (0 < k → shAt l k < k)
  | 0 => by simp [shAt]
  | k + 1 => by
    have h := shAt_le l k
    simp only [shAt]
    split
    · omega
    · omega
def shortI (c : CaseM) (i : Nat) : Int := (shAt (c.items.getD i default) (c.items.getD i default).length : Int)
def shortM (c : CaseM) (i : Nat) : List Int := (List.range i).map (shortI c)
theorem shortM_len (c : CaseM) (i : Nat) : (shortM c i).length = i := by simp [shortM]
theorem shortM_zero (c : CaseM) : shortM c 0 = [] := rfl
theorem shortM_succ (c : CaseM) (i : Nat) : shortM c (i + 1) = shortM c i ++ [shortI c i] := by simp [shortM, List.range_succ]
theorem shortM_ok {c : CaseM} (hc : OkC c) : OkP c (shortM c c.items.length) := by
  refine ⟨by rw [shortM_len]; exact Nat.le_refl _, fun i hi => ?_⟩
  rw [shortM_len] at hi
  have hn := hc.n1 i hi
  simp only [itemM] at hn
  have h := (shAt_le (c.items.getD i default) (c.items.getD i default).length).2 hn
  have : pickM (shortM c c.items.length) i = shortI c i := getD_map_range _ _ _ hi
  rw [this]
  unfold shortI
  simp only [itemM]
  omega

/-- The certificate of a price, or the error. -/
def boundE (c : CaseM) (p q : Int) : (Int × Int × Int) × Int :=
  if validM c ≠ 0 then ((0, 0, 0), validM c)
  else if p < 0 ∨ 1048576 < p ∨ q < 1 ∨ 1048576 < q then ((0, 0, 0), 5)
  else (boundM c p q, 0)

theorem boundE_ok {c : CaseM} {p q : Int} (h : (boundE c p q).2 = 0) : OkC c ∧ okPQ p q ∧ 1 ≤ q ∧ (boundE c p q).1 = boundM c p q := by
  unfold boundE at h ⊢
  split at h
  · rename_i h1; exact absurd h h1
  · rename_i h1
    rw [if_neg h1]
    split at h
    · simp at h
    · rename_i h2
      rw [if_neg h2]
      refine ⟨validM_ok.1 (by omega), by unfold okPQ; omega, by omega, rfl⟩
theorem tdiv_small {a b : Int} (h : -4294967296 ≤ a ∧ a ≤ 5000000000000) : -5000000000000 ≤ a.tdiv b ∧ a.tdiv b ≤ 5000000000000 := by
  have h1 : (a.tdiv b).natAbs ≤ a.natAbs := by rw [Int.natAbs_tdiv]; exact Nat.div_le_self _ _
  omega

/-- How many turns there are at least. -/
def checkM (c : CaseM) (pick : List Int) (x : Int × Int × Int) : Int × Int × Int :=
  if (costM c pick).2.2 ≠ 0 then (0, 0, (costM c pick).2.2)
  else if (boundE c x.1 x.2.1).2 ≠ 0 ∨ (boundE c x.1 x.2.1).1 ≠ x then (0, 0, 17)
  else ((costM c pick).2.1, (if 0 < x.2.2 ∧ x.2.2.tmod x.2.1 ≠ 0 then x.2.2.tdiv x.2.1 + 1 else x.2.2.tdiv x.2.1), 0)

theorem mulB {a b A B : Int} (h : -A ≤ a ∧ a ≤ A) (hb : 0 ≤ b ∧ b ≤ B) : -(A * B) ≤ a * b ∧ a * b ≤ A * B := by
  have hA : 0 ≤ A := by omega
  have h1 : a * b ≤ A * B := Int.le_trans (Int.mul_le_mul_of_nonneg_right h.2 hb.1) (Int.mul_le_mul_of_nonneg_left hb.2 hA)
  have h2 : (-a) * b ≤ A * B := Int.le_trans (Int.mul_le_mul_of_nonneg_right (by omega) hb.1) (Int.mul_le_mul_of_nonneg_left hb.2 hA)
  rw [Int.neg_mul] at h2
  omega

/-- What a certificate's numbers may be. -/
def okB (x : Int × Int × Int) : Prop := (0 ≤ x.1 ∧ x.1 ≤ 65536) ∧ (1 ≤ x.2.1 ∧ x.2.1 ≤ 64) ∧ -4294967296 ≤ x.2.2 ∧ x.2.2 ≤ 5000000000000
theorem bound_okB {c : CaseM} (hc : OkC c) {p q : Int} (hp : 0 ≤ p ∧ p ≤ 65536) (hq : 1 ≤ q ∧ q ≤ 64) : okB (boundM c p q) := by
  have hpq : okPQ p q := by unfold okPQ; omega
  have h := bnd_range hc hpq c.items.length (Nat.le_refl _)
  have hn := hc.n64
  unfold okB boundM
  simp only
  omega

theorem pq_div {p q : Nat} (hp : 0 < p ∧ p ≤ 65536) (hq : 0 < q ∧ q ≤ 64) : (0 ≤ (p : Int).tdiv (Nat.gcd p q : Nat) ∧ (p : Int).tdiv (Nat.gcd p q : Nat) ≤ 65536) ∧ 1 ≤ (q : Int).tdiv (Nat.gcd p q : Nat) ∧ (q : Int).tdiv (Nat.gcd p q : Nat) ≤ 64 := by
  have hg : 0 < Nat.gcd p q := Nat.gcd_pos_of_pos_left _ hp.1
  have h1 : (p : Int).tdiv (Nat.gcd p q : Nat) = ((p / Nat.gcd p q : Nat) : Int) := rfl
  have h2 : (q : Int).tdiv (Nat.gcd p q : Nat) = ((q / Nat.gcd p q : Nat) : Int) := rfl
  rw [h1, h2]
  have h3 : p / Nat.gcd p q ≤ p := Nat.div_le_self _ _
  have h4 : q / Nat.gcd p q ≤ q := Nat.div_le_self _ _
  have h5 : 0 < q / Nat.gcd p q := Nat.div_pos (Nat.le_of_dvd hq.1 (Nat.gcd_dvd_right _ _)) hg
  generalize p / Nat.gcd p q = P at *
  generalize q / Nat.gcd p q = Q at *
  omega

/-- The better one of a certificate and that of a price. -/
def tryM (c : CaseM) (best : Int × Int × Int) (p q : Nat) : Int × Int × Int :=
  if 0 < (boundM c ((p : Int).tdiv (Nat.gcd p q : Nat)) ((q : Int).tdiv (Nat.gcd p q : Nat))).2.2 * best.2.1 - best.2.2 * (boundM c ((p : Int).tdiv (Nat.gcd p q : Nat)) ((q : Int).tdiv (Nat.gcd p q : Nat))).2.1 ∨
    ((boundM c ((p : Int).tdiv (Nat.gcd p q : Nat)) ((q : Int).tdiv (Nat.gcd p q : Nat))).2.2 * best.2.1 - best.2.2 * (boundM c ((p : Int).tdiv (Nat.gcd p q : Nat)) ((q : Int).tdiv (Nat.gcd p q : Nat))).2.1 = 0 ∧
      (boundM c ((p : Int).tdiv (Nat.gcd p q : Nat)) ((q : Int).tdiv (Nat.gcd p q : Nat))).1 * best.2.1 < best.1 * (boundM c ((p : Int).tdiv (Nat.gcd p q : Nat)) ((q : Int).tdiv (Nat.gcd p q : Nat))).2.1) then
    boundM c ((p : Int).tdiv (Nat.gcd p q : Nat)) ((q : Int).tdiv (Nat.gcd p q : Nat))
  else best
theorem try_okB {c : CaseM} (hc : OkC c) {best : Int × Int × Int} (hb : okB best) {p q : Nat} (hp : 0 < p ∧ p ≤ 65536) (hq : 0 < q ∧ q ≤ 64) : okB (tryM c best p q) := by
  unfold tryM
  have h := pq_div hp hq
  split
  · exact bound_okB hc h.1 h.2
  · exact hb

section
variable (c : CaseM)
def dP (i a b : Nat) : Int := c.weights.getD i default * (((c.items.getD i default).getD a default).2 - ((c.items.getD i default).getD b default).2)
def dQ (i a b : Nat) : Int := ((c.items.getD i default).getD b default).1 - ((c.items.getD i default).getD a default).1
def dC (i a : Nat) (x : Int × Int × Int) : Nat → Int × Int × Int
  | 0 => x
  | b + 1 => if 0 < dP c i a b ∧ ((c.items.getD i default).getD a default).1 < ((c.items.getD i default).getD b default).1 then tryM c (dC i a x b) (dP c i a b).toNat (dQ c i a b).toNat else dC i a x b
theorem dC_zero (i a : Nat) (x : Int × Int × Int) : dC c i a x 0 = x := rfl
def dB (i : Nat) (x : Int × Int × Int) : Nat → Int × Int × Int
  | 0 => x
  | a + 1 => dC c i a (dB i x a) (c.items.getD i default).length
def dA : Nat → Int × Int × Int
  | 0 => boundM c 0 1
  | i + 1 => dB c i (dA i) (c.items.getD i default).length
/-- The certificate of the price with the greatest bound, or the error. -/
def dualM : (Int × Int × Int) × Int :=
  if validM c ≠ 0 then ((0, 0, 0), validM c)
  else if c.room < linesM c (shortM c c.items.length) (shortM c c.items.length).length then ((0, 0, 0), 21)
  else (dA c c.items.length, 0)
variable {c}
theorem dP_range (hc : OkC c) {i a b : Nat} (hi : i < c.items.length) (ha : a < (c.items.getD i default).length) (hb : b < (c.items.getD i default).length) : (-65536 ≤ dP c i a b ∧ dP c i a b ≤ 65536) ∧ -64 ≤ dQ c i a b ∧ dQ c i a b ≤ 64 := by
  have h1 := getD_all (hc.o i hi) ha
  have h2 := getD_all (hc.o i hi) hb
  have hw := hc.w i hi
  unfold okO at h1 h2
  simp only [itemM, weightM] at h1 h2 hw
  have h3 := mulB (a := ((c.items.getD i default).getD a default).2 - ((c.items.getD i default).getD b default).2) (b := c.weights.getD i default) (A := 64) (B := 1024) (by omega) hw
  unfold dP dQ
  have h4 := Int.mul_comm (c.weights.getD i default) (((c.items.getD i default).getD a default).2 - ((c.items.getD i default).getD b default).2)
  omega
theorem dC_okB (hc : OkC c) {i a : Nat} (hi : i < c.items.length) (ha : a < (c.items.getD i default).length) {x : Int × Int × Int} (hx : okB x) : ∀ b ≤ (c.items.getD i default).length, okB (dC c i a x b)
  | 0, _ => hx
  | b + 1, hb => by
    have h := dC_okB hc hi ha hx b (by omega)
    have hr := dP_range hc hi ha (show b < (c.items.getD i default).length by omega)
    simp only [dC]
    split
    · rename_i hh
      have hd : dQ c i a b = ((c.items.getD i default).getD b default).1 - ((c.items.getD i default).getD a default).1 := rfl
      exact try_okB hc h (by omega) (by omega)
    · exact h
theorem dB_okB (hc : OkC c) {i : Nat} (hi : i < c.items.length) {x : Int × Int × Int} (hx : okB x) : ∀ a ≤ (c.items.getD i default).length, okB (dB c i x a)
  | 0, _ => hx
  | a + 1, ha => by
    simp only [dB]
    exact dC_okB hc hi (by omega) (dB_okB hc hi hx a (by omega)) _ (Nat.le_refl _)
theorem dA_okB (hc : OkC c) : ∀ i ≤ c.items.length, okB (dA c i)
  | 0, _ => bound_okB hc (by omega) (by omega)
  | i + 1, hi => by
    simp only [dA]
    exact dB_okB hc (by omega) (dA_okB hc i (by omega)) _ (Nat.le_refl _)
end

end Go.Proofs.YthcfjdkflmkhbaaDoor

namespace Go.Proofs.YthcfjdkflmkhbaaDoor
open Go.Av


theorem value_ok (G) (c : CaseM) (p q : Int) (i : Nat) (o : Int × Int) (hc : OkC c) (hpq : okPQ p q) (hi : i < c.items.length) (ho : okO o) : Gives Tryd.prog G 54 [oD o, .ref (iD q), .ref (caseD c), .ref (iD i), .ref (iD p)] [iD (valM c p q i o)] := by
  have hw := hc.w i hi
  have hwl := hc.wl
  have hv := val_range hpq hw ho
  simp only [valM, weightM] at hv hw
  refine gives_intro [] [] [] Tryd.func54 rfl (by rfl) (by simp [Tryd.ntmps54]) fun F hP hG hN hR => ?_
  rw [Tryd.ntmps54] at hN
  have hA := And.intro hN (And.intro hP (And.intro hG (And.intro hR.1 (And.intro hR.2.1 hR.2.2.1))))
  apply aw_regs [1, 2, 3, 4, 5] [5]
  · simp (disch := omega) only [avR2, avA, datsOf, fillA, seval, ↓List.forall_mem_cons, Op.operands, hA, tiA]
    first | exact ⟨rfl, rfl⟩ | ((repeat' first | refine And.intro ?_ ?_ | intro _) <;> first | with_reducible rfl | assumption | omega | rfl | (rename_i hq; rw [hq]; rfl) | (simp_all; done))
  apply aw_rgds [6] [] [0, 1, 2, 3, 4, 5, 6, 7, 8, 9, 10, 11, 12, 13, 14, 15] []
  · rw [hP]; kernel_rfl
  · exact hR
  · kernel_rfl
  · (repeat (apply PickL.cons; exact rfl)); exact PickL.nil _
  · simp (maxSteps := 2000000) (disch := omega) only [avR2, avA, datsOf, fillA, seval, ↓List.forall_mem_cons, Op.operands, hA, tiA]
    first | exact ⟨rfl, rfl⟩ | ((repeat' first | refine And.intro ?_ ?_ | intro _) <;> first | with_reducible rfl | assumption | omega | rfl | (rename_i hq; rw [hq]; rfl) | (simp_all; done))
  apply aw_ret
  simp only [QRet, QRetM, QRetX, retsX_nil, retsX_cons, objsAre, Tryd.results54, resA, mapO_nil, mapO_cons, vD_dat, vD_nils, vD_rp, vD_osl, vD_ptr, vD_agg, vD_fn, vL_dat, vL_app, viewL, avA, datsOf, fillA, seval, ↓List.forall_mem_cons, Op.operands, hP, hG, tiA]
  rfl
  

set_option maxHeartbeats 1000000 in
theorem bound_ok (G) (c : CaseM) (p q : Int) (hc : OkC c) (hpq : okPQ p q) : Gives Tryd.prog G 46 [caseD c, iD p, iD q] [ceD (boundM c p q)] := by
  have hn := hc.n64
  have hrr := room_range hc hpq
  have hpq' := hpq
  unfold okPQ at hpq'
  refine gives_intro [] [] [] Tryd.func46 rfl (by rfl) (by simp [Tryd.ntmps46]) fun F hP hG hN hR => ?_
  rw [Tryd.ntmps46] at hN
  have hA := And.intro hN (And.intro hP (And.intro hG (And.intro hR.1 (And.intro hR.2.1 hR.2.2.1))))
  apply aw_regs [3, 4, 5, 6] [3, 4, 5, 6]
  · simp (disch := omega) only [avR2, avA, datsOf, fillA, seval, ↓List.forall_mem_cons, Op.operands, hA, tiA]
    first | exact ⟨rfl, rfl⟩ | ((repeat' first | refine And.intro ?_ ?_ | intro _) <;> first | with_reducible rfl | assumption | omega | rfl | (rename_i hq; rw [hq]; rfl) | (simp_all; done))
  apply aw_regs [3, 4, 5, 6, 7] [3, 4, 5, 6, 7]
  · simp (disch := omega) only [avR2, avA, datsOf, fillA, seval, ↓List.forall_mem_cons, Op.operands, hA, tiA]
    first | exact ⟨rfl, rfl⟩ | ((repeat' first | refine And.intro ?_ ?_ | intro _) <;> first | with_reducible rfl | assumption | omega | rfl | (rename_i hq; rw [hq]; rfl) | (simp_all; done))
  apply aw_seq
  apply aw_regs [3, 4, 5, 6, 7, 23, 24, 25] [3, 4, 5, 6, 7]
  · simp (disch := omega) only [avR2, avA, datsOf, fillA, seval, ↓List.forall_mem_cons, Op.operands, hA, tiA]
    first | exact ⟨rfl, rfl⟩ | ((repeat' first | refine And.intro ?_ ?_ | intro _) <;> first | with_reducible rfl | assumption | omega | rfl | (rename_i hq; rw [hq]; rfl) | (simp_all; done))
  apply aw_block
  refine aw_loop (ι := {i : Nat // i ≤ c.items.length}) (fun ⟨i, hi⟩ => .of [(3, .ptr 3 3 0 0), (4, .ptr 4 1 0 0), (5, .ptr 5 1 0 0), (6, .ptr 6 3 0 0), (7, .ptr 7 3 0 0), (23, .dat (.sl (c.items.map osD))), (24, .dat (iD c.items.length)), (25, .dat (iD i))] [(3, ⟨3, [.dat (caseD c)]⟩), (4, ⟨1, [.dat (iD p)]⟩), (5, ⟨1, [.dat (iD q)]⟩), (6, ⟨3, [.dat (ceD (0, 0, 0))]⟩), (7, ⟨3, [.dat (ceD (p, q, bndM c p q i))]⟩)]) (fun ⟨i, hi⟩ => c.items.length - i) (⟨0, by omega⟩) (Le.of ?_ ?_) fun ix => ?_
  · try simp (disch := omega) only [LeE, LeO, avA, datsOf, fillA, seval, ↓List.forall_mem_cons, Op.operands, bndM]
    all_goals first | done | (repeat' apply And.intro) <;> first | rfl | omega | assumption | (simp only [AV.dat.injEq, Dat.int.injEq, true_and]; omega) | (congr <;> omega)
  · try simp (disch := omega) only [LeE, LeO, avA, datsOf, fillA, seval, ↓List.forall_mem_cons, Op.operands, bndM]
    all_goals first | done | (repeat' apply And.intro) <;> first | rfl | omega | assumption | (simp only [AV.dat.injEq, Dat.int.injEq, true_and]; omega) | (congr <;> omega)
  obtain ⟨i, hi⟩ := ix
  dsimp only
  apply aw_regs [3, 4, 5, 6, 7, 23, 24, 25, 26] [3, 4, 5, 6, 7]
  · simp (disch := omega) only [avR2, avA, datsOf, fillA, seval, ↓List.forall_mem_cons, Op.operands, hA, tiA]
    first | exact ⟨rfl, rfl⟩ | ((repeat' first | refine And.intro ?_ ?_ | intro _) <;> first | with_reducible rfl | assumption | omega | rfl | (rename_i hq; rw [hq]; rfl) | (simp_all; done))
  apply aw_seq
  refine aw_if _ rfl (fun hb => ?_) (fun hb => ?_) <;> (try simp only [pickB_true, pickB_false, Bool.false_or, Bool.false_and, Bool.true_and, decide_eq_true_eq, decide_eq_false_iff_not, Bool.or_eq_true, Bool.and_eq_true, Bool.or_eq_false_iff, Bool.and_eq_false_imp, Bool.not_eq_true, Bool.not_eq_false, Bool.not_eq_eq_eq_not, Bool.not_true, Bool.not_false, Int.not_lt, Int.not_le, beq_iff_eq, beq_eq_false_iff_ne, bne_iff_ne, bne_eq_false_iff_eq, ne_eq, Bool.true_eq_false, Bool.false_eq_true, if_false_left, if_true_left, Bool.not_eq_eq_eq_not, Bool.decide_eq_true, Classical.not_not] at hb)
  · skip
    have hil : i < c.items.length := by omega
    have hi8 := hc.n8 i hil
    have hi1 := hc.n1 i hil
    have hbr := bnd_range hc hpq i hi
    simp only [itemM] at hi8 hi1
    have ho0 := getD_all (hc.o i hil) (i := 0) (by simp only [itemM]; omega)
    simp only [itemM] at ho0
    apply aw_skip
    apply q_seq
    apply aw_seq
    apply aw_block
    apply aw_regs [3, 4, 5, 6, 7, 8, 9, 23, 24, 25] [3, 4, 5, 6, 7, 8]
    · simp (disch := omega) only [avR2, avA, datsOf, fillA, seval, ↓List.forall_mem_cons, Op.operands, hA, tiA]
      first | exact ⟨rfl, rfl⟩ | ((repeat' first | refine And.intro ?_ ?_ | intro _) <;> first | with_reducible rfl | assumption | omega | rfl | (rename_i hq; rw [hq]; rfl) | (simp_all; done))
    apply aw_regs [3, 4, 5, 6, 7, 9, 10, 23, 24, 25] [3, 4, 5, 6, 7, 8]
    · simp (disch := omega) only [avR2, avA, datsOf, fillA, seval, ↓List.forall_mem_cons, Op.operands, hA, tiA]
      first | exact ⟨rfl, rfl⟩ | ((repeat' first | refine And.intro ?_ ?_ | intro _) <;> first | with_reducible rfl | assumption | omega | rfl | (rename_i hq; rw [hq]; rfl) | (simp_all; done))
    apply aw_regs [3, 4, 5, 6, 7, 9, 10, 11, 23, 24, 25] [3, 4, 5, 6, 7, 8]
    · simp (disch := omega) only [avR2, avA, datsOf, fillA, seval, ↓List.forall_mem_cons, Op.operands, hA, tiA]
      (repeat' refine And.intro ?_ ?_) <;> try first | omega | assumption | with_reducible rfl | exact rfl | (intro hside; (repeat' refine And.intro ?_ ?_) <;> first | exact hside | omega | (rw [hside]; rfl) | (simp_all; done))
      refine CallC.use (gvF hP hG (value_ok G c p q i ((c.items.getD i default).getD 0 default) hc hpq hil ho0)) rfl ?_
      try simp (maxSteps := 2000000) (disch := omega) only [avR2, avA, datsOf, fillA, seval, ↓List.forall_mem_cons, Op.operands, hA, tiA]
      first | exact ⟨rfl, rfl⟩ | ((repeat' first | refine And.intro ?_ ?_ | intro _) <;> first | with_reducible rfl | assumption | omega | rfl | (rename_i hq; rw [hq]; rfl) | (simp_all; done))
    apply aw_seq
    apply aw_regs [3, 4, 5, 6, 7, 10, 11, 23, 24, 25, 36, 37, 38] [3, 4, 5, 6, 7, 8]
    · simp (disch := omega) only [avR2, avA, datsOf, fillA, seval, ↓List.forall_mem_cons, Op.operands, hA, tiA]
      first | exact ⟨rfl, rfl⟩ | ((repeat' first | refine And.intro ?_ ?_ | intro _) <;> first | with_reducible rfl | assumption | omega | rfl | (rename_i hq; rw [hq]; rfl) | (simp_all; done))
    apply aw_block
    refine aw_loop (ι := {k : Nat // k ≤ (c.items.getD i default).length}) (fun ⟨k, hk⟩ => .of [(3, .ptr 3 3 0 0), (4, .ptr 4 1 0 0), (5, .ptr 5 1 0 0), (6, .ptr 6 3 0 0), (7, .ptr 7 3 0 0), (10, .fn 54 [.ptr 5 1 0 0, .ptr 3 3 0 0, .ptr 8 1 0 0, .ptr 4 1 0 0]), (11, .dat (iD (minV c p q i k))), (23, .dat (.sl (c.items.map osD))), (24, .dat (iD c.items.length)), (25, .dat (iD i)), (36, .dat (osD (c.items.getD i default))), (37, .dat (iD (c.items.getD i default).length)), (38, .dat (iD k))] [(3, ⟨3, [.dat (caseD c)]⟩), (4, ⟨1, [.dat (iD p)]⟩), (5, ⟨1, [.dat (iD q)]⟩), (6, ⟨3, [.dat (ceD (0, 0, 0))]⟩), (7, ⟨3, [.dat (ceD (p, q, bndM c p q i))]⟩), (8, ⟨1, [.dat (iD i)]⟩)]) (fun ⟨k, hk⟩ => (c.items.getD i default).length - k) (⟨0, by omega⟩) (Le.of ?_ ?_) fun ix => ?_
    · try simp (disch := omega) only [LeE, LeO, avA, datsOf, fillA, seval, ↓List.forall_mem_cons, Op.operands, minV]
      all_goals first | done | (repeat' apply And.intro) <;> first | rfl | omega | assumption | (simp only [AV.dat.injEq, Dat.int.injEq, true_and]; omega) | (congr <;> omega)
    · try simp (disch := omega) only [LeE, LeO, avA, datsOf, fillA, seval, ↓List.forall_mem_cons, Op.operands, minV]
      all_goals first | done | (repeat' apply And.intro) <;> first | rfl | omega | assumption | (simp only [AV.dat.injEq, Dat.int.injEq, true_and]; omega) | (congr <;> omega)
    obtain ⟨k, hk⟩ := ix
    dsimp only
    apply aw_regs [3, 4, 5, 6, 7, 10, 11, 23, 24, 25, 36, 37, 38, 39] [3, 4, 5, 6, 7, 8]
    · simp (disch := omega) only [avR2, avA, datsOf, fillA, seval, ↓List.forall_mem_cons, Op.operands, hA, tiA]
      first | exact ⟨rfl, rfl⟩ | ((repeat' first | refine And.intro ?_ ?_ | intro _) <;> first | with_reducible rfl | assumption | omega | rfl | (rename_i hq; rw [hq]; rfl) | (simp_all; done))
    apply aw_seq
    refine aw_if _ rfl (fun hb => ?_) (fun hb => ?_) <;> (try simp only [pickB_true, pickB_false, Bool.false_or, Bool.false_and, Bool.true_and, decide_eq_true_eq, decide_eq_false_iff_not, Bool.or_eq_true, Bool.and_eq_true, Bool.or_eq_false_iff, Bool.and_eq_false_imp, Bool.not_eq_true, Bool.not_eq_false, Bool.not_eq_eq_eq_not, Bool.not_true, Bool.not_false, Int.not_lt, Int.not_le, beq_iff_eq, beq_eq_false_iff_ne, bne_iff_ne, bne_eq_false_iff_eq, ne_eq, Bool.true_eq_false, Bool.false_eq_true, if_false_left, if_true_left, Bool.not_eq_eq_eq_not, Bool.decide_eq_true, Classical.not_not] at hb)
    · skip
      have hkl : k < (c.items.getD i default).length := by omega
      have hok := getD_all (hc.o i hil) (i := k) (by simp only [itemM]; omega)
      simp only [itemM] at hok
      apply aw_skip
      apply q_seq
      apply aw_seq
      apply aw_block
      apply aw_regs [3, 4, 5, 6, 7, 10, 11, 13, 23, 24, 25, 36, 37, 38] [3, 4, 5, 6, 7, 8, 13]
      · simp (disch := omega) only [avR2, avA, datsOf, fillA, seval, ↓List.forall_mem_cons, Op.operands, hA, tiA]
        first | exact ⟨rfl, rfl⟩ | ((repeat' first | refine And.intro ?_ ?_ | intro _) <;> first | with_reducible rfl | assumption | omega | rfl | (rename_i hq; rw [hq]; rfl) | (simp_all; done))
      apply aw_reg [3, 4, 5, 6, 7, 10, 11, 23, 24, 25, 36, 37, 38] [3, 4, 5, 6, 7, 8]
      · simp (disch := omega) only [avR2, avA, datsOf, fillA, seval, ↓List.forall_mem_cons, Op.operands, hA, tiA]
        (repeat' refine And.intro ?_ ?_) <;> try first | omega | assumption | with_reducible rfl | exact rfl | (intro hside; (repeat' refine And.intro ?_ ?_) <;> first | exact hside | omega | (rw [hside]; rfl) | (simp_all; done))
        refine CallC.use (gvF hP hG (value_ok G c p q i ((c.items.getD i default).getD k default) hc hpq hil hok)) rfl ?_
        try simp (maxSteps := 2000000) (disch := omega) only [avR2, avA, datsOf, fillA, seval, ↓List.forall_mem_cons, Op.operands, hA, tiA]
        first | exact ⟨rfl, rfl⟩ | ((repeat' first | refine And.intro ?_ ?_ | intro _) <;> first | with_reducible rfl | assumption | omega | rfl | (rename_i hq; rw [hq]; rfl) | (simp_all; done))
      apply q_block
      apply q_seq
      apply aw_reg [3, 4, 5, 6, 7, 10, 11, 23, 24, 25, 36, 37, 38] [3, 4, 5, 6, 7, 8]
      · simp (disch := omega) only [avR2, avA, datsOf, fillA, seval, ↓List.forall_mem_cons, Op.operands, hA, tiA]
        first | exact ⟨rfl, rfl⟩ | ((repeat' first | refine And.intro ?_ ?_ | intro _) <;> first | with_reducible rfl | assumption | omega | rfl | (rename_i hq; rw [hq]; rfl) | (simp_all; done))
      refine q_loop (⟨k + 1, by omega⟩) (Le.of ?_ ?_) (by dsimp only; omega)
      · try simp (disch := omega) only [LeE, LeO, avA, datsOf, fillA, seval, ↓List.forall_mem_cons, Op.operands, minV]
        all_goals first | done | (repeat' apply And.intro) <;> first | rfl | omega | assumption | (simp only [AV.dat.injEq, Dat.int.injEq, true_and]; omega) | (congr <;> omega)
      · try simp (disch := omega) only [LeE, LeO, avA, datsOf, fillA, seval, ↓List.forall_mem_cons, Op.operands, minV]
        all_goals first | done | (repeat' apply And.intro) <;> first | rfl | omega | assumption | (simp only [AV.dat.injEq, Dat.int.injEq, true_and]; omega) | (congr <;> omega)
    · skip
      have hkk : k = (c.items.getD i default).length := by omega
      subst hkk
      have hmr := minV_range hc hpq hil (c.items.getD i default).length (Nat.le_refl _)
      apply aw_exit
      apply q_exit_seq
      apply q_exit_loop
      apply q_exit
      apply q_seq
      apply aw_reg [3, 4, 5, 6, 7, 23, 24, 25] [3, 4, 5, 6, 7]
      · simp (disch := omega) only [avR2, avA, datsOf, fillA, seval, ↓List.forall_mem_cons, Op.operands, hA, tiA]
        first | exact ⟨rfl, rfl⟩ | ((repeat' first | refine And.intro ?_ ?_ | intro _) <;> first | with_reducible rfl | assumption | omega | rfl | (rename_i hq; rw [hq]; rfl) | (simp_all; done))
      apply q_block
      apply q_seq
      apply aw_reg [3, 4, 5, 6, 7, 23, 24, 25] [3, 4, 5, 6, 7]
      · simp (disch := omega) only [avR2, avA, datsOf, fillA, seval, ↓List.forall_mem_cons, Op.operands, hA, tiA]
        first | exact ⟨rfl, rfl⟩ | ((repeat' first | refine And.intro ?_ ?_ | intro _) <;> first | with_reducible rfl | assumption | omega | rfl | (rename_i hq; rw [hq]; rfl) | (simp_all; done))
      refine q_loop (⟨i + 1, by omega⟩) (Le.of ?_ ?_) (by dsimp only; omega)
      · try simp (disch := omega) only [LeE, LeO, avA, datsOf, fillA, seval, ↓List.forall_mem_cons, Op.operands, bndM]
        all_goals first | done | (repeat' apply And.intro) <;> first | rfl | omega | assumption | (simp only [AV.dat.injEq, Dat.int.injEq, true_and]; omega) | (congr <;> omega)
      · try simp (disch := omega) only [LeE, LeO, avA, datsOf, fillA, seval, ↓List.forall_mem_cons, Op.operands, bndM]
        all_goals first | done | (repeat' apply And.intro) <;> first | rfl | omega | assumption | (simp only [AV.dat.injEq, Dat.int.injEq, true_and]; omega) | (congr <;> omega)
  · skip
    have hii : i = c.items.length := by omega
    subst hii
    apply aw_exit
    apply q_exit_seq
    apply q_exit_loop
    apply q_exit
    apply q_seq
    apply aw_regs [6] [6]
    · simp (disch := omega) only [avR2, avA, datsOf, fillA, seval, ↓List.forall_mem_cons, Op.operands, hA, tiA]
      first | exact ⟨rfl, rfl⟩ | ((repeat' first | refine And.intro ?_ ?_ | intro _) <;> first | with_reducible rfl | assumption | omega | rfl | (rename_i hq; rw [hq]; rfl) | (simp_all; done))
    apply aw_ret
    simp only [QRet, QRetM, QRetX, retsX_nil, retsX_cons, objsAre, Tryd.results46, resA, mapO_nil, mapO_cons, vD_dat, vD_nils, vD_rp, vD_osl, vD_ptr, vD_agg, vD_fn, vL_dat, vL_app, viewL, avA, datsOf, fillA, seval, ↓List.forall_mem_cons, Op.operands, hP, hG, tiA]
    rfl
    

theorem short_ok (G) (c : CaseM) (hc : OkC c) : Gives Tryd.prog G 45 [caseD c] [isD (shortM c c.items.length)] := by
  have hn := hc.n64
  have hst : (0 : Nat) = 0 := rfl
  refine gives_intro [] [] [] Tryd.func45 rfl (by rfl) (by simp [Tryd.ntmps45]) fun F hP hG hN hR => ?_
  rw [Tryd.ntmps45] at hN
  have hA := And.intro hN (And.intro hP (And.intro hG (And.intro hR.1 (And.intro hR.2.1 hR.2.2.1))))
  apply aw_regs [1] [1]
  · simp (disch := omega) only [avR2, avA, datsOf, fillA, seval, ↓List.forall_mem_cons, Op.operands, hA, tiA]
    first | exact ⟨rfl, rfl⟩ | ((repeat' first | refine And.intro ?_ ?_ | intro _) <;> first | with_reducible rfl | assumption | omega | rfl | (rename_i hq; rw [hq]; rfl) | (simp_all; done))
  apply aw_regs [1, 3] [1, 55, 56]
  · simp (disch := omega) only [avR2, avA, datsOf, fillA, seval, ↓List.forall_mem_cons, Op.operands, hA, tiA]
    first | exact ⟨rfl, rfl⟩ | ((repeat' first | refine And.intro ?_ ?_ | intro _) <;> first | with_reducible rfl | assumption | omega | rfl | (rename_i hq; rw [hq]; rfl) | (simp_all; done))
  apply aw_seq
  apply aw_regs [3, 10, 11, 12] [55, 56]
  · simp (disch := omega) only [avR2, avA, datsOf, fillA, seval, ↓List.forall_mem_cons, Op.operands, hA, tiA]
    first | exact ⟨rfl, rfl⟩ | ((repeat' first | refine And.intro ?_ ?_ | intro _) <;> first | with_reducible rfl | assumption | omega | rfl | (rename_i hq; rw [hq]; rfl) | (simp_all; done))
  apply aw_block
  refine aw_new0 56 1 (by omega) ?_
  refine aw_nilE 3 56 1 rfl rfl ?_
  refine aw_loop (ι := {i : Nat // i ≤ c.items.length}) (fun ⟨i, hi⟩ => .of [(3, .osl 56 1 0 i), (10, .dat (.sl (c.items.map osD))), (11, .dat (iD c.items.length)), (12, .dat (iD i))] [(56, ⟨1, ((shortM c i).map iD).map .dat⟩)]) (fun ⟨i, hi⟩ => c.items.length - i) (⟨0, by omega⟩) (Le.of ?_ ?_) fun ix => ?_
  · try simp (disch := omega) only [LeE, LeO, avA, datsOf, fillA, seval, ↓List.forall_mem_cons, Op.operands, shortM_zero, shortM_succ, shortM_len, shortI]
    all_goals first | done | (repeat' apply And.intro) <;> first | rfl | omega | assumption | (simp only [AV.dat.injEq, Dat.int.injEq, true_and]; omega) | (congr <;> omega)
  · try simp (disch := omega) only [LeE, LeO, avA, datsOf, fillA, seval, ↓List.forall_mem_cons, Op.operands, shortM_zero, shortM_succ, shortM_len, shortI]
    all_goals first | done | (repeat' apply And.intro) <;> first | rfl | omega | assumption | (simp only [AV.dat.injEq, Dat.int.injEq, true_and]; omega) | (congr <;> omega)
  obtain ⟨i, hi⟩ := ix
  dsimp only
  apply aw_regs [3, 10, 11, 12, 13] [55, 56]
  · simp (disch := omega) only [avR2, avA, datsOf, fillA, seval, ↓List.forall_mem_cons, Op.operands, hA, tiA]
    first | exact ⟨rfl, rfl⟩ | ((repeat' first | refine And.intro ?_ ?_ | intro _) <;> first | with_reducible rfl | assumption | omega | rfl | (rename_i hq; rw [hq]; rfl) | (simp_all; done))
  apply aw_seq
  refine aw_if _ rfl (fun hb => ?_) (fun hb => ?_) <;> (try simp only [pickB_true, pickB_false, Bool.false_or, Bool.false_and, Bool.true_and, decide_eq_true_eq, decide_eq_false_iff_not, Bool.or_eq_true, Bool.and_eq_true, Bool.or_eq_false_iff, Bool.and_eq_false_imp, Bool.not_eq_true, Bool.not_eq_false, Bool.not_eq_eq_eq_not, Bool.not_true, Bool.not_false, Int.not_lt, Int.not_le, beq_iff_eq, beq_eq_false_iff_ne, bne_iff_ne, bne_eq_false_iff_eq, ne_eq, Bool.true_eq_false, Bool.false_eq_true, if_false_left, if_true_left, Bool.not_eq_eq_eq_not, Bool.decide_eq_true, Classical.not_not] at hb)
  · skip
    have hil : i < c.items.length := by omega
    have hi8 := hc.n8 i hil
    have hi1 := hc.n1 i hil
    simp only [itemM] at hi8 hi1
    have hsl := shortM_len c i
    apply aw_skip
    apply q_seq
    apply aw_seq
    apply aw_block
    apply aw_regs [3, 5, 10, 11, 12] [55, 56]
    · simp (disch := omega) only [avR2, avA, datsOf, fillA, seval, ↓List.forall_mem_cons, Op.operands, hA, tiA]
      first | exact ⟨rfl, rfl⟩ | ((repeat' first | refine And.intro ?_ ?_ | intro _) <;> first | with_reducible rfl | assumption | omega | rfl | (rename_i hq; rw [hq]; rfl) | (simp_all; done))
    apply aw_regs [3, 5, 6, 10, 11, 12] [55, 56]
    · simp (disch := omega) only [avR2, avA, datsOf, fillA, seval, ↓List.forall_mem_cons, Op.operands, hA, tiA]
      first | exact ⟨rfl, rfl⟩ | ((repeat' first | refine And.intro ?_ ?_ | intro _) <;> first | with_reducible rfl | assumption | omega | rfl | (rename_i hq; rw [hq]; rfl) | (simp_all; done))
    apply aw_seq
    apply aw_regs [3, 5, 6, 10, 11, 12, 16, 17, 18] [55, 56]
    · simp (disch := omega) only [avR2, avA, datsOf, fillA, seval, ↓List.forall_mem_cons, Op.operands, hA, tiA]
      first | exact ⟨rfl, rfl⟩ | ((repeat' first | refine And.intro ?_ ?_ | intro _) <;> first | with_reducible rfl | assumption | omega | rfl | (rename_i hq; rw [hq]; rfl) | (simp_all; done))
    apply aw_block
    refine aw_loop (ι := {k : Nat // k ≤ (c.items.getD i default).length}) (fun ⟨k, hk⟩ => .of [(3, .osl 56 1 0 i), (5, .dat (osD (c.items.getD i default))), (6, .dat (iD (shAt (c.items.getD i default) k : Nat))), (10, .dat (.sl (c.items.map osD))), (11, .dat (iD c.items.length)), (12, .dat (iD i)), (16, .dat (osD (c.items.getD i default))), (17, .dat (iD (c.items.getD i default).length)), (18, .dat (iD k))] [(56, ⟨1, ((shortM c i).map iD).map .dat⟩)]) (fun ⟨k, hk⟩ => (c.items.getD i default).length - k) (⟨0, by omega⟩) (Le.of ?_ ?_) fun ix => ?_
    · try simp (disch := omega) only [LeE, LeO, avA, datsOf, fillA, seval, ↓List.forall_mem_cons, Op.operands, hst, shAt_zero]
      all_goals first | done | (repeat' apply And.intro) <;> first | rfl | omega | assumption | (simp only [AV.dat.injEq, Dat.int.injEq, true_and]; omega) | (congr <;> omega)
    · try simp (disch := omega) only [LeE, LeO, avA, datsOf, fillA, seval, ↓List.forall_mem_cons, Op.operands, hst, shAt_zero]
      all_goals first | done | (repeat' apply And.intro) <;> first | rfl | omega | assumption | (simp only [AV.dat.injEq, Dat.int.injEq, true_and]; omega) | (congr <;> omega)
    obtain ⟨k, hk⟩ := ix
    dsimp only
    apply aw_regs [3, 5, 6, 10, 11, 12, 16, 17, 18, 19] [55, 56]
    · simp (disch := omega) only [avR2, avA, datsOf, fillA, seval, ↓List.forall_mem_cons, Op.operands, hA, tiA]
      first | exact ⟨rfl, rfl⟩ | ((repeat' first | refine And.intro ?_ ?_ | intro _) <;> first | with_reducible rfl | assumption | omega | rfl | (rename_i hq; rw [hq]; rfl) | (simp_all; done))
    apply aw_seq
    refine aw_if _ rfl (fun hb => ?_) (fun hb => ?_) <;> (try simp only [pickB_true, pickB_false, Bool.false_or, Bool.false_and, Bool.true_and, decide_eq_true_eq, decide_eq_false_iff_not, Bool.or_eq_true, Bool.and_eq_true, Bool.or_eq_false_iff, Bool.and_eq_false_imp, Bool.not_eq_true, Bool.not_eq_false, Bool.not_eq_eq_eq_not, Bool.not_true, Bool.not_false, Int.not_lt, Int.not_le, beq_iff_eq, beq_eq_false_iff_ne, bne_iff_ne, bne_eq_false_iff_eq, ne_eq, Bool.true_eq_false, Bool.false_eq_true, if_false_left, if_true_left, Bool.not_eq_eq_eq_not, Bool.decide_eq_true, Classical.not_not] at hb)
    · skip
      have hkl : k < (c.items.getD i default).length := by omega
      have hsa := shAt_le (c.items.getD i default) k
      apply aw_skip
      apply q_seq
      apply aw_seq
      apply aw_block
      apply aw_regs [3, 5, 6, 7, 8, 10, 11, 12, 16, 17, 18] [8, 55, 56]
      · simp (disch := omega) only [avR2, avA, datsOf, fillA, seval, ↓List.forall_mem_cons, Op.operands, hA, tiA]
        first | exact ⟨rfl, rfl⟩ | ((repeat' first | refine And.intro ?_ ?_ | intro _) <;> first | with_reducible rfl | assumption | omega | rfl | (rename_i hq; rw [hq]; rfl) | (simp_all; done))
      apply aw_rgds [3, 5, 6, 7, 10, 11, 12, 16, 17, 18, 50] [55, 56] [0, 1, 2, 3, 4, 5, 6, 7, 8, 9, 10, 11, 12, 13, 14, 15, 16, 17, 18, 19, 20, 21, 22, 23, 24, 25, 26, 27] []
      · rw [hP]; kernel_rfl
      · exact hR
      · kernel_rfl
      · (repeat (apply PickL.cons; exact rfl)); exact PickL.nil _
      · simp (maxSteps := 2000000) (disch := omega) only [avR2, avA, datsOf, fillA, seval, ↓List.forall_mem_cons, Op.operands, hA, tiA]
        first | exact ⟨rfl, rfl⟩ | ((repeat' first | refine And.intro ?_ ?_ | intro _) <;> first | with_reducible rfl | assumption | omega | rfl | (rename_i hq; rw [hq]; rfl) | (simp_all; done))
      refine aw_if _ rfl (fun hb => ?_) (fun hb => ?_) <;> (try simp only [pickB_true, pickB_false, Bool.false_or, Bool.false_and, Bool.true_and, decide_eq_true_eq, decide_eq_false_iff_not, Bool.or_eq_true, Bool.and_eq_true, Bool.or_eq_false_iff, Bool.and_eq_false_imp, Bool.not_eq_true, Bool.not_eq_false, Bool.not_eq_eq_eq_not, Bool.not_true, Bool.not_false, Int.not_lt, Int.not_le, beq_iff_eq, beq_eq_false_iff_ne, bne_iff_ne, bne_eq_false_iff_eq, ne_eq, Bool.true_eq_false, Bool.false_eq_true, if_false_left, if_true_left, Bool.not_eq_eq_eq_not, Bool.decide_eq_true, Classical.not_not] at hb)
      · skip
        have hst : shAt (c.items.getD i default) (k + 1) = k := by
          simp only [shAt]
          rw [if_pos (by omega)]
        apply aw_reg [3, 5, 6, 10, 11, 12, 16, 17, 18] [55, 56]
        · simp (disch := omega) only [avR2, avA, datsOf, fillA, seval, ↓List.forall_mem_cons, Op.operands, hA, tiA]
          first | exact ⟨rfl, rfl⟩ | ((repeat' first | refine And.intro ?_ ?_ | intro _) <;> first | with_reducible rfl | assumption | omega | rfl | (rename_i hq; rw [hq]; rfl) | (simp_all; done))
        apply q_block
        apply q_seq
        apply aw_reg [3, 5, 6, 10, 11, 12, 16, 17, 18] [55, 56]
        · simp (disch := omega) only [avR2, avA, datsOf, fillA, seval, ↓List.forall_mem_cons, Op.operands, hA, tiA]
          first | exact ⟨rfl, rfl⟩ | ((repeat' first | refine And.intro ?_ ?_ | intro _) <;> first | with_reducible rfl | assumption | omega | rfl | (rename_i hq; rw [hq]; rfl) | (simp_all; done))
        refine q_loop (⟨k + 1, by omega⟩) (Le.of ?_ ?_) (by dsimp only; omega)
        · try simp (disch := omega) only [LeE, LeO, avA, datsOf, fillA, seval, ↓List.forall_mem_cons, Op.operands, hst, shAt_zero]
          all_goals first | done | (repeat' apply And.intro) <;> first | rfl | omega | assumption | (simp only [AV.dat.injEq, Dat.int.injEq, true_and]; omega) | (congr <;> omega)
        · try simp (disch := omega) only [LeE, LeO, avA, datsOf, fillA, seval, ↓List.forall_mem_cons, Op.operands, hst, shAt_zero]
          all_goals first | done | (repeat' apply And.intro) <;> first | rfl | omega | assumption | (simp only [AV.dat.injEq, Dat.int.injEq, true_and]; omega) | (congr <;> omega)
      · skip
        have hst : shAt (c.items.getD i default) (k + 1) = shAt (c.items.getD i default) k := by
          simp only [shAt]
          rw [if_neg (by omega)]
        apply aw_skip
        apply q_block
        apply q_seq
        apply aw_reg [3, 5, 6, 10, 11, 12, 16, 17, 18] [55, 56]
        · simp (disch := omega) only [avR2, avA, datsOf, fillA, seval, ↓List.forall_mem_cons, Op.operands, hA, tiA]
          first | exact ⟨rfl, rfl⟩ | ((repeat' first | refine And.intro ?_ ?_ | intro _) <;> first | with_reducible rfl | assumption | omega | rfl | (rename_i hq; rw [hq]; rfl) | (simp_all; done))
        refine q_loop (⟨k + 1, by omega⟩) (Le.of ?_ ?_) (by dsimp only; omega)
        · try simp (disch := omega) only [LeE, LeO, avA, datsOf, fillA, seval, ↓List.forall_mem_cons, Op.operands, hst, shAt_zero]
          all_goals first | done | (repeat' apply And.intro) <;> first | rfl | omega | assumption | (simp only [AV.dat.injEq, Dat.int.injEq, true_and]; omega) | (congr <;> omega)
        · try simp (disch := omega) only [LeE, LeO, avA, datsOf, fillA, seval, ↓List.forall_mem_cons, Op.operands, hst, shAt_zero]
          all_goals first | done | (repeat' apply And.intro) <;> first | rfl | omega | assumption | (simp only [AV.dat.injEq, Dat.int.injEq, true_and]; omega) | (congr <;> omega)
    · skip
      have hkk : k = (c.items.getD i default).length := by omega
      subst hkk
      apply aw_exit
      apply q_exit_seq
      apply q_exit_loop
      apply q_exit
      apply q_seq
      apply aw_reg [3, 10, 11, 12] [55, 56]
      · simp (disch := omega) only [avR2, avA, datsOf, fillA, seval, ↓List.forall_mem_cons, Op.operands, hA, tiA, shortM_len]
        first | exact ⟨rfl, rfl⟩ | ((repeat' first | refine And.intro ?_ ?_ | intro _) <;> first | with_reducible rfl | assumption | omega | rfl | (rename_i hq; rw [hq]; rfl) | (simp_all; done))
      apply q_block
      apply q_seq
      apply aw_reg [3, 10, 11, 12] [55, 56]
      · simp (disch := omega) only [avR2, avA, datsOf, fillA, seval, ↓List.forall_mem_cons, Op.operands, hA, tiA]
        first | exact ⟨rfl, rfl⟩ | ((repeat' first | refine And.intro ?_ ?_ | intro _) <;> first | with_reducible rfl | assumption | omega | rfl | (rename_i hq; rw [hq]; rfl) | (simp_all; done))
      refine q_loop (⟨i + 1, by omega⟩) (Le.of ?_ ?_) (by dsimp only; omega)
      · try simp (disch := omega) only [LeE, LeO, avA, datsOf, fillA, seval, ↓List.forall_mem_cons, Op.operands, shortM_zero, shortM_succ, shortM_len, shortI]
        all_goals first | done | (repeat' apply And.intro) <;> first | rfl | omega | assumption | (simp only [AV.dat.injEq, Dat.int.injEq, true_and]; omega) | (congr <;> omega)
      · try simp (disch := omega) only [LeE, LeO, avA, datsOf, fillA, seval, ↓List.forall_mem_cons, Op.operands, shortM_zero, shortM_succ, shortM_len, shortI]
        all_goals first | done | (repeat' apply And.intro) <;> first | rfl | omega | assumption | (simp only [AV.dat.injEq, Dat.int.injEq, true_and]; omega) | (congr <;> omega)
  · skip
    have hii : i = c.items.length := by omega
    subst hii
    apply aw_exit
    apply q_exit_seq
    apply q_exit_loop
    apply q_exit
    apply q_seq
    apply aw_regs [2] [55, 56]
    · simp (disch := omega) only [avR2, avA, datsOf, fillA, seval, ↓List.forall_mem_cons, Op.operands, hA, tiA]
      first | exact ⟨rfl, rfl⟩ | ((repeat' first | refine And.intro ?_ ?_ | intro _) <;> first | with_reducible rfl | assumption | omega | rfl | (rename_i hq; rw [hq]; rfl) | (simp_all; done))
    apply aw_ret
    simp only [QRet, QRetM, QRetX, retsX_nil, retsX_cons, objsAre, Tryd.results45, resA, mapO_nil, mapO_cons, vD_dat, vD_nils, vD_rp, vD_osl, vD_ptr, vD_agg, vD_fn, vL_dat, vL_app, viewL, avA, datsOf, fillA, seval, ↓List.forall_mem_cons, Op.operands, hP, hG, tiA]
    simp [shortM_len, List.take_of_length_le]
    

theorem boundF_ok (G) (c : CaseM) (p q : Int) (hs : SzC c) : Gives Tryd.prog G 25 [caseD c, iD p, iD q] [ceD (boundE c p q).1, iD (boundE c p q).2] := by
  refine gives_intro [] [] [] Tryd.func25 rfl (by rfl) (by simp [Tryd.ntmps25]) fun F hP hG hN hR => ?_
  rw [Tryd.ntmps25] at hN
  have hA := And.intro hN (And.intro hP (And.intro hG (And.intro hR.1 (And.intro hR.2.1 hR.2.2.1))))
  apply aw_regs [1, 2, 3, 6] [3, 6]
  · simp (disch := omega) only [avR2, avA, datsOf, fillA, seval, ↓List.forall_mem_cons, Op.operands, hA, tiA]
    first | exact ⟨rfl, rfl⟩ | ((repeat' first | refine And.intro ?_ ?_ | intro _) <;> first | with_reducible rfl | assumption | omega | rfl | (rename_i hq; rw [hq]; rfl) | (simp_all; done))
  apply aw_seq
  apply aw_regs [1, 2, 3, 6, 8] [3, 6]
  · simp (disch := omega) only [avR2, avA, datsOf, fillA, seval, ↓List.forall_mem_cons, Op.operands, hA, tiA]
    (repeat' refine And.intro ?_ ?_) <;> try first | omega | assumption | with_reducible rfl | exact rfl | (intro hside; (repeat' refine And.intro ?_ ?_) <;> first | exact hside | omega | (rw [hside]; rfl) | (simp_all; done))
    refine CallC.use (gvF hP hG (valid_ok G c hs)) rfl ?_
    try simp (maxSteps := 2000000) (disch := omega) only [avR2, avA, datsOf, fillA, seval, ↓List.forall_mem_cons, Op.operands, hA, tiA]
    first | exact ⟨rfl, rfl⟩ | ((repeat' first | refine And.intro ?_ ?_ | intro _) <;> first | with_reducible rfl | assumption | omega | rfl | (rename_i hq; rw [hq]; rfl) | (simp_all; done))
  apply aw_regs [1, 2, 3, 6, 8, 12] [3, 6]
  · simp (disch := omega) only [avR2, avA, datsOf, fillA, seval, ↓List.forall_mem_cons, Op.operands, hA, tiA]
    first | exact ⟨rfl, rfl⟩ | ((repeat' first | refine And.intro ?_ ?_ | intro _) <;> first | with_reducible rfl | assumption | omega | rfl | (rename_i hq; rw [hq]; rfl) | (simp_all; done))
  refine aw_if _ rfl (fun hb => ?_) (fun hb => ?_) <;> (try simp only [pickB_true, pickB_false, Bool.false_or, Bool.false_and, Bool.true_and, decide_eq_true_eq, decide_eq_false_iff_not, Bool.or_eq_true, Bool.and_eq_true, Bool.or_eq_false_iff, Bool.and_eq_false_imp, Bool.not_eq_true, Bool.not_eq_false, Bool.not_eq_eq_eq_not, Bool.not_true, Bool.not_false, Int.not_lt, Int.not_le, beq_iff_eq, beq_eq_false_iff_ne, bne_iff_ne, bne_eq_false_iff_eq, ne_eq, Bool.true_eq_false, Bool.false_eq_true, if_false_left, if_true_left, Bool.not_eq_eq_eq_not, Bool.decide_eq_true, Classical.not_not] at hb)
  · skip
    have hv : boundE c p q = ((0, 0, 0), validM c) := by
      unfold boundE
      rw [if_pos hb]
    apply aw_regs [6, 7] [6]
    · simp (disch := omega) only [avR2, avA, datsOf, fillA, seval, ↓List.forall_mem_cons, Op.operands, hA, tiA]
      first | exact ⟨rfl, rfl⟩ | ((repeat' first | refine And.intro ?_ ?_ | intro _) <;> first | with_reducible rfl | assumption | omega | rfl | (rename_i hq; rw [hq]; rfl) | (simp_all; done))
    apply aw_ret
    apply q_ret_seq
    simp only [QRet, QRetM, QRetX, retsX_nil, retsX_cons, objsAre, Tryd.results25, resA, mapO_nil, mapO_cons, vD_dat, vD_nils, vD_rp, vD_osl, vD_ptr, vD_agg, vD_fn, vL_dat, vL_app, viewL, avA, datsOf, fillA, seval, ↓List.forall_mem_cons, Op.operands, hP, hG, tiA]
    rw [hv]
    
  · skip
    have h0 : ¬ validM c ≠ 0 := by omega
    have hc : OkC c := validM_ok.1 (by omega)
    apply aw_skip
    apply q_seq
    apply aw_seq
    apply aw_regs [1, 2, 3, 6, 28] [3, 6]
    · simp (maxSteps := 2000000) (disch := omega) only [avR2, avA, datsOf, fillA, seval, ↓List.forall_mem_cons, Op.operands, hA, tiA]
      first | exact ⟨rfl, rfl⟩ | ((repeat' first | refine And.intro ?_ ?_ | intro _) <;> first | with_reducible rfl | assumption | omega | rfl | (rename_i hq; rw [hq]; rfl) | (simp_all; done))
    refine aw_if _ rfl (fun hb => ?_) (fun hb => ?_) <;> (try simp only [pickB_true, pickB_false, Bool.false_or, Bool.false_and, Bool.true_and, decide_eq_true_eq, decide_eq_false_iff_not, Bool.or_eq_true, Bool.and_eq_true, Bool.or_eq_false_iff, Bool.and_eq_false_imp, Bool.not_eq_true, Bool.not_eq_false, Bool.not_eq_eq_eq_not, Bool.not_true, Bool.not_false, Int.not_lt, Int.not_le, beq_iff_eq, beq_eq_false_iff_ne, bne_iff_ne, bne_eq_false_iff_eq, ne_eq, Bool.true_eq_false, Bool.false_eq_true, if_false_left, if_true_left, Bool.not_eq_eq_eq_not, Bool.decide_eq_true, Classical.not_not] at hb)
    · skip
      have hv : boundE c p q = ((0, 0, 0), 5) := by
        unfold boundE
        rw [if_neg h0, if_pos (by omega)]
      apply aw_regs [6, 7] [6]
      · simp (disch := omega) only [avR2, avA, datsOf, fillA, seval, ↓List.forall_mem_cons, Op.operands, hA, tiA]
        first | exact ⟨rfl, rfl⟩ | ((repeat' first | refine And.intro ?_ ?_ | intro _) <;> first | with_reducible rfl | assumption | omega | rfl | (rename_i hq; rw [hq]; rfl) | (simp_all; done))
      apply aw_ret
      apply q_ret_seq
      simp only [QRet, QRetM, QRetX, retsX_nil, retsX_cons, objsAre, Tryd.results25, resA, mapO_nil, mapO_cons, vD_dat, vD_nils, vD_rp, vD_osl, vD_ptr, vD_agg, vD_fn, vL_dat, vL_app, viewL, avA, datsOf, fillA, seval, ↓List.forall_mem_cons, Op.operands, hP, hG, tiA]
      rw [hv]
      
    · skip
      have hpq : okPQ p q := by unfold okPQ; omega
      have hv : boundE c p q = (boundM c p q, 0) := by
        unfold boundE
        rw [if_neg h0, if_neg (by omega)]
      apply aw_skip
      apply q_seq
      apply aw_regs [6, 7] [6]
      · simp (disch := omega) only [avR2, avA, datsOf, fillA, seval, ↓List.forall_mem_cons, Op.operands, hA, tiA]
        (repeat' refine And.intro ?_ ?_) <;> try first | omega | assumption | with_reducible rfl | exact rfl | (intro hside; (repeat' refine And.intro ?_ ?_) <;> first | exact hside | omega | (rw [hside]; rfl) | (simp_all; done))
        refine CallC.use (gvF hP hG (bound_ok G c p q hc hpq)) rfl ?_
        try simp (maxSteps := 2000000) (disch := omega) only [avR2, avA, datsOf, fillA, seval, ↓List.forall_mem_cons, Op.operands, hA, tiA]
        first | exact ⟨rfl, rfl⟩ | ((repeat' first | refine And.intro ?_ ?_ | intro _) <;> first | with_reducible rfl | assumption | omega | rfl | (rename_i hq; rw [hq]; rfl) | (simp_all; done))
      apply aw_ret
      simp only [QRet, QRetM, QRetX, retsX_nil, retsX_cons, objsAre, Tryd.results25, resA, mapO_nil, mapO_cons, vD_dat, vD_nils, vD_rp, vD_osl, vD_ptr, vD_agg, vD_fn, vL_dat, vL_app, viewL, avA, datsOf, fillA, seval, ↓List.forall_mem_cons, Op.operands, hP, hG, tiA]
      rw [hv]
      

theorem checkF_ok (G) (c : CaseM) (pick : List Int) (x : Int × Int × Int) (hs : SzC c) (hpk : pick.length ≤ 1000) (hx : I64 x.2.2) : Gives Tryd.prog G 27 [caseD c, isD pick, ceD x] [iD (checkM c pick x).1, iD (checkM c pick x).2.1, iD (checkM c pick x).2.2] := by
  unfold I64 at hx
  refine gives_intro [] [] [] Tryd.func27 rfl (by rfl) (by simp [Tryd.ntmps27]) fun F hP hG hN hR => ?_
  rw [Tryd.ntmps27] at hN
  have hA := And.intro hN (And.intro hP (And.intro hG (And.intro hR.1 (And.intro hR.2.1 hR.2.2.1))))
  apply aw_regs [1, 3, 5] [3, 5]
  · simp (disch := omega) only [avR2, avA, datsOf, fillA, seval, ↓List.forall_mem_cons, Op.operands, hA, tiA]
    first | exact ⟨rfl, rfl⟩ | ((repeat' first | refine And.intro ?_ ?_ | intro _) <;> first | with_reducible rfl | assumption | omega | rfl | (rename_i hq; rw [hq]; rfl) | (simp_all; done))
  apply aw_regs [3, 5, 10, 11] [3, 5]
  · simp (disch := omega) only [avR2, avA, datsOf, fillA, seval, ↓List.forall_mem_cons, Op.operands, hA, tiA]
    (repeat' refine And.intro ?_ ?_) <;> try first | omega | assumption | with_reducible rfl | exact rfl | (intro hside; (repeat' refine And.intro ?_ ?_) <;> first | exact hside | omega | (rw [hside]; rfl) | (simp_all; done))
    refine CallC.use (gvF hP hG (costF_ok G c pick hs hpk)) rfl ?_
    try simp (maxSteps := 2000000) (disch := omega) only [avR2, avA, datsOf, fillA, seval, ↓List.forall_mem_cons, Op.operands, hA, tiA]
    first | exact ⟨rfl, rfl⟩ | ((repeat' first | refine And.intro ?_ ?_ | intro _) <;> first | with_reducible rfl | assumption | omega | rfl | (rename_i hq; rw [hq]; rfl) | (simp_all; done))
  apply aw_seq
  apply aw_regs [3, 5, 10, 11, 23] [3, 5]
  · simp (disch := omega) only [avR2, avA, datsOf, fillA, seval, ↓List.forall_mem_cons, Op.operands, hA, tiA]
    first | exact ⟨rfl, rfl⟩ | ((repeat' first | refine And.intro ?_ ?_ | intro _) <;> first | with_reducible rfl | assumption | omega | rfl | (rename_i hq; rw [hq]; rfl) | (simp_all; done))
  refine aw_if _ rfl (fun hb => ?_) (fun hb => ?_) <;> (try simp only [pickB_true, pickB_false, Bool.false_or, Bool.false_and, Bool.true_and, decide_eq_true_eq, decide_eq_false_iff_not, Bool.or_eq_true, Bool.and_eq_true, Bool.or_eq_false_iff, Bool.and_eq_false_imp, Bool.not_eq_true, Bool.not_eq_false, Bool.not_eq_eq_eq_not, Bool.not_true, Bool.not_false, Int.not_lt, Int.not_le, beq_iff_eq, beq_eq_false_iff_ne, bne_iff_ne, bne_eq_false_iff_eq, ne_eq, Bool.true_eq_false, Bool.false_eq_true, if_false_left, if_true_left, Bool.not_eq_eq_eq_not, Bool.decide_eq_true, Classical.not_not] at hb)
  · skip
    have hv : checkM c pick x = (0, 0, (costM c pick).2.2) := by
      unfold checkM
      rw [if_pos hb]
    apply aw_regs [6, 7, 8] []
    · simp (disch := omega) only [avR2, avA, datsOf, fillA, seval, ↓List.forall_mem_cons, Op.operands, hA, tiA]
      first | exact ⟨rfl, rfl⟩ | ((repeat' first | refine And.intro ?_ ?_ | intro _) <;> first | with_reducible rfl | assumption | omega | rfl | (rename_i hq; rw [hq]; rfl) | (simp_all; done))
    apply aw_ret
    apply q_ret_seq
    simp only [QRet, QRetM, QRetX, retsX_nil, retsX_cons, objsAre, Tryd.results27, resA, mapO_nil, mapO_cons, vD_dat, vD_nils, vD_rp, vD_osl, vD_ptr, vD_agg, vD_fn, vL_dat, vL_app, viewL, avA, datsOf, fillA, seval, ↓List.forall_mem_cons, Op.operands, hP, hG, tiA]
    rw [hv]
    
  · skip
    have h0 : ¬ (costM c pick).2.2 ≠ 0 := by omega
    apply aw_skip
    apply q_seq
    apply aw_seq
    apply aw_regs [5, 10, 12, 13] [5, 12]
    · simp (disch := omega) only [avR2, avA, datsOf, fillA, seval, ↓List.forall_mem_cons, Op.operands, hA, tiA]
      (repeat' refine And.intro ?_ ?_) <;> try first | omega | assumption | with_reducible rfl | exact rfl | (intro hside; (repeat' refine And.intro ?_ ?_) <;> first | exact hside | omega | (rw [hside]; rfl) | (simp_all; done))
      refine CallC.use (gvF hP hG (boundF_ok G c x.1 x.2.1 hs)) rfl ?_
      try simp (maxSteps := 2000000) (disch := omega) only [avR2, avA, datsOf, fillA, seval, ↓List.forall_mem_cons, Op.operands, hA, tiA]
      first | exact ⟨rfl, rfl⟩ | ((repeat' first | refine And.intro ?_ ?_ | intro _) <;> first | with_reducible rfl | assumption | omega | rfl | (rename_i hq; rw [hq]; rfl) | (simp_all; done))
    apply aw_regs [5, 10, 40] [5]
    · simp (disch := omega) only [avR2, avA, datsOf, fillA, seval, ↓List.forall_mem_cons, Op.operands, hA, tiA, eq50]
      first | exact ⟨rfl, rfl⟩ | ((repeat' first | refine And.intro ?_ ?_ | intro _) <;> first | with_reducible rfl | assumption | omega | rfl | (rename_i hq; rw [hq]; rfl) | (simp_all; done))
    refine aw_if _ rfl (fun hb => ?_) (fun hb => ?_) <;> (try simp only [pickB_true, pickB_false, Bool.false_or, Bool.false_and, Bool.true_and, decide_eq_true_eq, decide_eq_false_iff_not, Bool.or_eq_true, Bool.and_eq_true, Bool.or_eq_false_iff, Bool.and_eq_false_imp, Bool.not_eq_true, Bool.not_eq_false, Bool.not_eq_eq_eq_not, Bool.not_true, Bool.not_false, Int.not_lt, Int.not_le, beq_iff_eq, beq_eq_false_iff_ne, bne_iff_ne, bne_eq_false_iff_eq, ne_eq, Bool.true_eq_false, Bool.false_eq_true, if_false_left, if_true_left, Bool.not_eq_eq_eq_not, Bool.decide_eq_true, Classical.not_not] at hb)
    · skip
      have hv : checkM c pick x = (0, 0, 17) := by
        unfold checkM
        rw [if_neg h0, if_pos]
        rcases hb with hb | hb
        · exact .inl hb
        · right
          intro e
          rw [e] at hb
          simp at hb
      apply aw_regs [6, 7, 8] []
      · simp (disch := omega) only [avR2, avA, datsOf, fillA, seval, ↓List.forall_mem_cons, Op.operands, hA, tiA]
        first | exact ⟨rfl, rfl⟩ | ((repeat' first | refine And.intro ?_ ?_ | intro _) <;> first | with_reducible rfl | assumption | omega | rfl | (rename_i hq; rw [hq]; rfl) | (simp_all; done))
      apply aw_ret
      apply q_ret_seq
      simp only [QRet, QRetM, QRetX, retsX_nil, retsX_cons, objsAre, Tryd.results27, resA, mapO_nil, mapO_cons, vD_dat, vD_nils, vD_rp, vD_osl, vD_ptr, vD_agg, vD_fn, vL_dat, vL_app, viewL, avA, datsOf, fillA, seval, ↓List.forall_mem_cons, Op.operands, hP, hG, tiA]
      rw [hv]
      
    · skip
      have hB2 : (boundE c x.1 x.2.1).2 = 0 := by
        by_cases h : (boundE c x.1 x.2.1).2 = 0
        · exact h
        · simp [h] at hb
      have hB1 : (boundE c x.1 x.2.1).1 = x := by
        have h := hb.2
        try simp only [Bool.and_eq_true, beq_iff_eq] at h
        first | exact Prod.ext h.1.1 (Prod.ext h.1.2 h.2) | exact Prod.ext h.1 (Prod.ext h.2.1 h.2.2)
      obtain ⟨hc, hpq, hq1, hBM⟩ := boundE_ok hB2
      have hbr := bnd_range hc hpq c.items.length (Nat.le_refl _)
      have hc64 := hc.n64
      have hx2 : x.2.2 = bndM c x.1 x.2.1 c.items.length := by
        have : x = boundM c x.1 x.2.1 := by rw [← hBM, hB1]
        have h := congrArg (fun y : Int × Int × Int => y.2.2) this
        exact h
      have htd := tdiv_small (a := x.2.2) (b := x.2.1) (by omega)
      have htm := tmod_range (a := x.2.2) (b := x.2.1) (by unfold I64; omega)
      unfold I64 at htm
      have hne : ¬ ((boundE c x.1 x.2.1).2 ≠ 0 ∨ (boundE c x.1 x.2.1).1 ≠ x) := by
        rintro (h | h)
        · exact h hB2
        · exact h hB1
      apply aw_skip
      apply q_seq
      apply aw_regs [5, 10, 14] [5]
      · simp (disch := omega) only [avR2, avA, datsOf, fillA, seval, ↓List.forall_mem_cons, Op.operands, hA, tiA]
        first | exact ⟨rfl, rfl⟩ | ((repeat' first | refine And.intro ?_ ?_ | intro _) <;> first | with_reducible rfl | assumption | omega | rfl | (rename_i hq; rw [hq]; rfl) | (simp_all; done))
      apply aw_seq
      apply aw_regs [10, 14, 56] []
      · simp (disch := omega) only [avR2, avA, datsOf, fillA, seval, ↓List.forall_mem_cons, Op.operands, hA, tiA]
        first | exact ⟨rfl, rfl⟩ | ((repeat' first | refine And.intro ?_ ?_ | intro _) <;> first | with_reducible rfl | assumption | omega | rfl | (rename_i hq; rw [hq]; rfl) | (simp_all; done))
      refine aw_if _ rfl (fun hb => ?_) (fun hb => ?_) <;> (try simp only [pickB_true, pickB_false, Bool.false_or, Bool.false_and, Bool.true_and, decide_eq_true_eq, decide_eq_false_iff_not, Bool.or_eq_true, Bool.and_eq_true, Bool.or_eq_false_iff, Bool.and_eq_false_imp, Bool.not_eq_true, Bool.not_eq_false, Bool.not_eq_eq_eq_not, Bool.not_true, Bool.not_false, Int.not_lt, Int.not_le, beq_iff_eq, beq_eq_false_iff_ne, bne_iff_ne, bne_eq_false_iff_eq, ne_eq, Bool.true_eq_false, Bool.false_eq_true, if_false_left, if_true_left, Bool.not_eq_eq_eq_not, Bool.decide_eq_true, Classical.not_not] at hb)
      · skip
        have hv : checkM c pick x = ((costM c pick).2.1, x.2.2.tdiv x.2.1 + 1, 0) := by
          unfold checkM
          rw [if_neg h0, if_neg hne, if_pos hb]
        apply aw_reg [10, 14] []
        · simp (disch := omega) only [avR2, avA, datsOf, fillA, seval, ↓List.forall_mem_cons, Op.operands, hA, tiA]
          first | exact ⟨rfl, rfl⟩ | ((repeat' first | refine And.intro ?_ ?_ | intro _) <;> first | with_reducible rfl | assumption | omega | rfl | (rename_i hq; rw [hq]; rfl) | (simp_all; done))
        apply q_seq
        apply aw_regs [6, 7, 8] []
        · simp (disch := omega) only [avR2, avA, datsOf, fillA, seval, ↓List.forall_mem_cons, Op.operands, hA, tiA]
          first | exact ⟨rfl, rfl⟩ | ((repeat' first | refine And.intro ?_ ?_ | intro _) <;> first | with_reducible rfl | assumption | omega | rfl | (rename_i hq; rw [hq]; rfl) | (simp_all; done))
        apply aw_ret
        simp only [QRet, QRetM, QRetX, retsX_nil, retsX_cons, objsAre, Tryd.results27, resA, mapO_nil, mapO_cons, vD_dat, vD_nils, vD_rp, vD_osl, vD_ptr, vD_agg, vD_fn, vL_dat, vL_app, viewL, avA, datsOf, fillA, seval, ↓List.forall_mem_cons, Op.operands, hP, hG, tiA]
        rw [hv]
        
      · skip
        have hv : checkM c pick x = ((costM c pick).2.1, x.2.2.tdiv x.2.1, 0) := by
          unfold checkM
          rw [if_neg h0, if_neg hne, if_neg (by omega)]
        apply aw_skip
        apply q_seq
        apply aw_regs [6, 7, 8] []
        · simp (disch := omega) only [avR2, avA, datsOf, fillA, seval, ↓List.forall_mem_cons, Op.operands, hA, tiA]
          first | exact ⟨rfl, rfl⟩ | ((repeat' first | refine And.intro ?_ ?_ | intro _) <;> first | with_reducible rfl | assumption | omega | rfl | (rename_i hq; rw [hq]; rfl) | (simp_all; done))
        apply aw_ret
        simp only [QRet, QRetM, QRetX, retsX_nil, retsX_cons, objsAre, Tryd.results27, resA, mapO_nil, mapO_cons, vD_dat, vD_nils, vD_rp, vD_osl, vD_ptr, vD_agg, vD_fn, vL_dat, vL_app, viewL, avA, datsOf, fillA, seval, ↓List.forall_mem_cons, Op.operands, hP, hG, tiA]
        rw [hv]
        

end Go.Proofs.YthcfjdkflmkhbaaDoor

namespace Go.Proofs.YthcfjdkflmkhbaaDoor
open Go.Av


set_option maxHeartbeats 1000000 in
theorem try_ok (G) (c : CaseM) (best : Int × Int × Int) (p q : Nat) (hc : OkC c) (hbe : okB best) (hp : 0 < p ∧ p ≤ 65536) (hq : 0 < q ∧ q ≤ 64) : GivesM Tryd.prog G 47 [.dat (iD p), .dat (iD q), .ptr 1000 3 0 0, .ptr 1001 3 0 0] [(1000, ⟨3, [.dat (caseD c)]⟩), (1001, ⟨3, [.dat (ceD best)]⟩)] [] [(1000, ⟨3, [.dat (caseD c)]⟩), (1001, ⟨3, [.dat (ceD (tryM c best p q))]⟩)] := by
  have hmm : ∀ a b : Nat, (a : Int).tmod (b : Int) = ((a % b : Nat) : Int) := fun _ _ => rfl
  have hpd := pq_div hp hq
  have hbx := bound_okB hc hpd.1 hpd.2
  have hpq : okPQ ((p : Int).tdiv (Nat.gcd p q : Nat)) ((q : Int).tdiv (Nat.gcd p q : Nat)) := by unfold okPQ; omega
  have hbe' := hbe
  have hbx' := hbx
  unfold okB at hbe' hbx'
  have m1 := mulB (a := (boundM c ((p : Int).tdiv (Nat.gcd p q : Nat)) ((q : Int).tdiv (Nat.gcd p q : Nat))).2.2) (b := best.2.1) (A := 5000000000000) (B := 64) (by omega) (by omega)
  have m2 := mulB (a := best.2.2) (b := (boundM c ((p : Int).tdiv (Nat.gcd p q : Nat)) ((q : Int).tdiv (Nat.gcd p q : Nat))).2.1) (A := 5000000000000) (B := 64) (by omega) (by omega)
  have m3 := mulB (a := (boundM c ((p : Int).tdiv (Nat.gcd p q : Nat)) ((q : Int).tdiv (Nat.gcd p q : Nat))).1) (b := best.2.1) (A := 65536) (B := 64) (by omega) (by omega)
  have m4 := mulB (a := best.1) (b := (boundM c ((p : Int).tdiv (Nat.gcd p q : Nat)) ((q : Int).tdiv (Nat.gcd p q : Nat))).2.1) (A := 65536) (B := 64) (by omega) (by omega)
  refine gives_introM [] [] [] Tryd.func47 rfl (by rfl) (by simp [Tryd.ntmps47]) (by intro p hp; simp only [Tryd.ntmps47]; simp at hp; rcases hp with rfl | rfl <;> simp) rfl (by intro p hp; simp at hp; rcases hp with rfl | rfl <;> rfl) fun F hP hG hN hR3 => ?_
  rw [Tryd.ntmps47] at hN
  have hR : F.rows = [] ∧ F.lits = [] ∧ F.apps = [] ∧ True := ⟨hR3.1, hR3.2.1, hR3.2.2, trivial⟩
  have hA := And.intro hN (And.intro hP (And.intro hG (And.intro hR.1 (And.intro hR.2.1 hR.2.2.1))))
  apply aw_seq
  apply aw_regs [0, 1, 2, 3, 6, 7] [1000, 1001]
  · simp (disch := omega) only [avR2, avA, datsOf, fillA, seval, ↓List.forall_mem_cons, Op.operands, hA, tiA]
    first | exact ⟨rfl, rfl⟩ | ((repeat' first | refine And.intro ?_ ?_ | intro _) <;> first | with_reducible rfl | assumption | omega | rfl | (rename_i hq; rw [hq]; rfl) | (simp_all; done))
  apply aw_block
  refine aw_loop (ι := {ab : Nat × Nat // 0 < ab.1 ∧ Nat.gcd ab.1 ab.2 = Nat.gcd p q ∧ ab.1 ≤ 65536 ∧ ab.2 ≤ 65536}) (fun ⟨ab, hab⟩ => .of [(0, .dat (iD p)), (1, .dat (iD q)), (2, .ptr 1000 3 0 0), (3, .ptr 1001 3 0 0), (6, .dat (iD ab.1)), (7, .dat (iD ab.2))] [(1000, ⟨3, [.dat (caseD c)]⟩), (1001, ⟨3, [.dat (ceD best)]⟩)]) (fun ⟨ab, hab⟩ => ab.2) (⟨(p, q), hp.1, rfl, hp.2, by omega⟩) (Le.of ?_ ?_) fun ix => ?_
  · try simp (disch := omega) only [LeE, LeO, avA, datsOf, fillA, seval, ↓List.forall_mem_cons, Op.operands, hmm]
    all_goals first | done | (repeat' apply And.intro) <;> first | rfl | omega | assumption | (simp only [AV.dat.injEq, Dat.int.injEq, true_and]; omega) | (congr <;> omega)
  · try simp (disch := omega) only [LeE, LeO, avA, datsOf, fillA, seval, ↓List.forall_mem_cons, Op.operands, hmm]
    all_goals first | done | (repeat' apply And.intro) <;> first | rfl | omega | assumption | (simp only [AV.dat.injEq, Dat.int.injEq, true_and]; omega) | (congr <;> omega)
  obtain ⟨ab, hab⟩ := ix
  dsimp only
  apply aw_seq
  apply aw_block
  apply aw_regs [0, 1, 2, 3, 6, 7, 17] [1000, 1001]
  · simp (disch := omega) only [avR2, avA, datsOf, fillA, seval, ↓List.forall_mem_cons, Op.operands, hA, tiA]
    first | exact ⟨rfl, rfl⟩ | ((repeat' first | refine And.intro ?_ ?_ | intro _) <;> first | with_reducible rfl | assumption | omega | rfl | (rename_i hq; rw [hq]; rfl) | (simp_all; done))
  refine aw_if _ rfl (fun hb => ?_) (fun hb => ?_) <;> (try simp only [pickB_true, pickB_false, Bool.false_or, Bool.false_and, Bool.true_and, decide_eq_true_eq, decide_eq_false_iff_not, Bool.or_eq_true, Bool.and_eq_true, Bool.or_eq_false_iff, Bool.and_eq_false_imp, Bool.not_eq_true, Bool.not_eq_false, Bool.not_eq_eq_eq_not, Bool.not_true, Bool.not_false, Int.not_lt, Int.not_le, beq_iff_eq, beq_eq_false_iff_ne, bne_iff_ne, bne_eq_false_iff_eq, ne_eq, Bool.true_eq_false, Bool.false_eq_true, if_false_left, if_true_left, Bool.not_eq_eq_eq_not, Bool.decide_eq_true, Classical.not_not] at hb)
  · skip
    have hgg : ab.1 = Nat.gcd p q := by
      have h := hab.2.1
      rw [show ab.2 = 0 by omega, Nat.gcd_zero_right] at h
      exact h
    rw [hgg]
    apply aw_rgds [0, 1, 2, 3] [1000, 1001] [0, 1, 2, 3, 4, 5, 6, 7] []
    · rw [hP]; kernel_rfl
    · exact hR
    · kernel_rfl
    · (repeat (apply PickL.cons; exact rfl)); exact PickL.nil _
    · simp (disch := omega) only [avR2, avA, datsOf, fillA, seval, ↓List.forall_mem_cons, Op.operands, hA, tiA]
      first | exact ⟨rfl, rfl⟩ | ((repeat' first | refine And.intro ?_ ?_ | intro _) <;> first | with_reducible rfl | assumption | omega | rfl | (rename_i hq; rw [hq]; rfl) | (simp_all; done))
    apply aw_exit
    apply q_exit_other (by decide)
    apply q_exit_seq
    apply q_exit_loop
    apply q_exit
    apply q_seq
    apply aw_regs [3, 8] [8, 1000, 1001]
    · simp (disch := omega) only [avR2, avA, datsOf, fillA, seval, ↓List.forall_mem_cons, Op.operands, hA, tiA]
      (repeat' refine And.intro ?_ ?_) <;> try first | omega | assumption | with_reducible rfl | exact rfl | (intro hside; (repeat' refine And.intro ?_ ?_) <;> first | exact hside | omega | (rw [hside]; rfl) | (simp_all; done))
      refine CallC.use (gvF hP hG (bound_ok G c ((p : Int).tdiv (Nat.gcd p q : Nat)) ((q : Int).tdiv (Nat.gcd p q : Nat)) hc hpq)) rfl ?_
      try simp (maxSteps := 2000000) (disch := omega) only [avR2, avA, datsOf, fillA, seval, ↓List.forall_mem_cons, Op.operands, hA, tiA]
      first | exact ⟨rfl, rfl⟩ | ((repeat' first | refine And.intro ?_ ?_ | intro _) <;> first | with_reducible rfl | assumption | omega | rfl | (rename_i hq; rw [hq]; rfl) | (simp_all; done))
    apply aw_regs [3, 8, 9] [8, 1000, 1001]
    · simp (disch := omega) only [avR2, avA, datsOf, fillA, seval, ↓List.forall_mem_cons, Op.operands, hA, tiA]
      first | exact ⟨rfl, rfl⟩ | ((repeat' first | refine And.intro ?_ ?_ | intro _) <;> first | with_reducible rfl | assumption | omega | rfl | (rename_i hq; rw [hq]; rfl) | (simp_all; done))
    apply aw_regs [3, 8, 57] [8, 1000, 1001]
    · simp (maxSteps := 2000000) (disch := omega) only [avR2, avA, datsOf, fillA, seval, ↓List.forall_mem_cons, Op.operands, hA, tiA]
      first | exact ⟨rfl, rfl⟩ | ((repeat' first | refine And.intro ?_ ?_ | intro _) <;> first | with_reducible rfl | assumption | omega | rfl | (rename_i hq; rw [hq]; rfl) | (simp_all; done))
    refine aw_if _ rfl (fun hb => ?_) (fun hb => ?_) <;> (try simp only [pickB_true, pickB_false, Bool.false_or, Bool.false_and, Bool.true_and, decide_eq_true_eq, decide_eq_false_iff_not, Bool.or_eq_true, Bool.and_eq_true, Bool.or_eq_false_iff, Bool.and_eq_false_imp, Bool.not_eq_true, Bool.not_eq_false, Bool.not_eq_eq_eq_not, Bool.not_true, Bool.not_false, Int.not_lt, Int.not_le, beq_iff_eq, beq_eq_false_iff_ne, bne_iff_ne, bne_eq_false_iff_eq, ne_eq, Bool.true_eq_false, Bool.false_eq_true, if_false_left, if_true_left, Bool.not_eq_eq_eq_not, Bool.decide_eq_true, Classical.not_not] at hb)
    · skip
      have hv : tryM c best p q = (boundM c ((p : Int).tdiv (Nat.gcd p q : Nat)) ((q : Int).tdiv (Nat.gcd p q : Nat))) := by
        unfold tryM
        rw [if_pos hb]
      apply aw_reg [] [1000, 1001]
      · simp (disch := omega) only [avR2, avA, datsOf, fillA, seval, ↓List.forall_mem_cons, Op.operands, hA, tiA]
        first | exact ⟨rfl, rfl⟩ | ((repeat' first | refine And.intro ?_ ?_ | intro _) <;> first | with_reducible rfl | assumption | omega | rfl | (rename_i hq; rw [hq]; rfl) | (simp_all; done))
      simp only [QRet, QRetM, QRetX, retsX_nil, retsX_cons, objsAre, Tryd.results47, resA, mapO_nil, mapO_cons, vD_dat, vD_nils, vD_rp, vD_osl, vD_ptr, vD_agg, vD_fn, vL_dat, vL_app, viewL, avA, datsOf, fillA, seval, ↓List.forall_mem_cons, Op.operands, hP, hG, tiA]
      rw [hv]
    · skip
      have hv : tryM c best p q = best := by
        unfold tryM
        rw [if_neg (by omega)]
      apply aw_skip
      simp only [QRet, QRetM, QRetX, retsX_nil, retsX_cons, objsAre, Tryd.results47, resA, mapO_nil, mapO_cons, vD_dat, vD_nils, vD_rp, vD_osl, vD_ptr, vD_agg, vD_fn, vL_dat, vL_app, viewL, avA, datsOf, fillA, seval, ↓List.forall_mem_cons, Op.operands, hP, hG, tiA]
      rw [hv]
  · skip
    have hb0 : 0 < ab.2 := by omega
    have hgr : Nat.gcd ab.2 (ab.1 % ab.2) = Nat.gcd p q := by rw [← hab.2.1, Nat.gcd_comm ab.2, ← Nat.gcd_rec, Nat.gcd_comm]
    have hlt : ab.1 % ab.2 < ab.2 := Nat.mod_lt _ hb0
    have hle := hab.2.2.2
    apply aw_skip
    apply q_block
    apply q_seq
    apply aw_rgd [0, 1, 2, 3, 6, 7] [1000, 1001] [0, 1, 2, 3, 4, 5] []
    · rw [hP]; kernel_rfl
    · exact hR
    · kernel_rfl
    · (repeat (apply PickL.cons; exact rfl)); exact PickL.nil _
    · simp (disch := omega) only [avR2, avA, datsOf, fillA, seval, ↓List.forall_mem_cons, Op.operands, hA, tiA]
      first | exact ⟨rfl, rfl⟩ | ((repeat' first | refine And.intro ?_ ?_ | intro _) <;> first | with_reducible rfl | assumption | omega | rfl | (rename_i hq; rw [hq]; rfl) | (simp_all; done))
    refine q_loop (⟨(ab.2, ab.1 % ab.2), hb0, hgr, hab.2.2.2, by omega⟩) (Le.of ?_ ?_) (by dsimp only; omega)
    · try simp (disch := omega) only [LeE, LeO, avA, datsOf, fillA, seval, ↓List.forall_mem_cons, Op.operands, hmm]
      all_goals first | done | (repeat' apply And.intro) <;> first | rfl | omega | assumption | (simp only [AV.dat.injEq, Dat.int.injEq, true_and]; omega) | (congr <;> omega)
    · try simp (disch := omega) only [LeE, LeO, avA, datsOf, fillA, seval, ↓List.forall_mem_cons, Op.operands, hmm]
      all_goals first | done | (repeat' apply And.intro) <;> first | rfl | omega | assumption | (simp only [AV.dat.injEq, Dat.int.injEq, true_and]; omega) | (congr <;> omega)

theorem tryI_ok (G) (c : CaseM) (best : Int × Int × Int) (p q : Int) (hc : OkC c) (hbe : okB best) (hp : 0 < p ∧ p ≤ 65536) (hq : 0 < q ∧ q ≤ 64) : GivesM Tryd.prog G 47 [.dat (iD p), .dat (iD q), .ptr 1000 3 0 0, .ptr 1001 3 0 0] [(1000, ⟨3, [.dat (caseD c)]⟩), (1001, ⟨3, [.dat (ceD best)]⟩)] [] [(1000, ⟨3, [.dat (caseD c)]⟩), (1001, ⟨3, [.dat (ceD (tryM c best p.toNat q.toNat))]⟩)] := by
  have h := try_ok G c best p.toNat q.toNat hc hbe (by omega) (by omega)
  rwa [Int.toNat_of_nonneg (by omega), Int.toNat_of_nonneg (by omega)] at h


set_option maxHeartbeats 2000000 in
theorem dual_ok (G) (c : CaseM) (hs : SzC c) : Gives Tryd.prog G 22 [caseD c] [ceD (dualM c).1, iD (dualM c).2] := by
  have hst : (0 : Nat) = 0 := rfl
  refine gives_intro [] [84] [] Tryd.func22 rfl (by rfl) (by simp [Tryd.ntmps22]) fun F hP hG hN hR => ?_
  rw [Tryd.ntmps22] at hN
  have hA := And.intro hN (And.intro hP (And.intro hG (And.intro hR.1 (And.intro hR.2.1 hR.2.2.1))))
  apply aw_regs [1, 2] [1, 2]
  · simp (disch := omega) only [avR2, avA, datsOf, fillA, seval, ↓List.forall_mem_cons, Op.operands, hA, tiA]
    first | exact ⟨rfl, rfl⟩ | ((repeat' first | refine And.intro ?_ ?_ | intro _) <;> first | with_reducible rfl | assumption | omega | rfl | (rename_i hq; rw [hq]; rfl) | (simp_all; done))
  apply aw_seq
  apply aw_regs [1, 2, 4] [1, 2]
  · simp (disch := omega) only [avR2, avA, datsOf, fillA, seval, ↓List.forall_mem_cons, Op.operands, hA, tiA]
    (repeat' refine And.intro ?_ ?_) <;> try first | omega | assumption | with_reducible rfl | exact rfl | (intro hside; (repeat' refine And.intro ?_ ?_) <;> first | exact hside | omega | (rw [hside]; rfl) | (simp_all; done))
    refine CallC.use (gvF hP hG (valid_ok G c hs)) rfl ?_
    try simp (maxSteps := 2000000) (disch := omega) only [avR2, avA, datsOf, fillA, seval, ↓List.forall_mem_cons, Op.operands, hA, tiA]
    first | exact ⟨rfl, rfl⟩ | ((repeat' first | refine And.intro ?_ ?_ | intro _) <;> first | with_reducible rfl | assumption | omega | rfl | (rename_i hq; rw [hq]; rfl) | (simp_all; done))
  apply aw_regs [1, 2, 4, 19] [1, 2]
  · simp (disch := omega) only [avR2, avA, datsOf, fillA, seval, ↓List.forall_mem_cons, Op.operands, hA, tiA]
    first | exact ⟨rfl, rfl⟩ | ((repeat' first | refine And.intro ?_ ?_ | intro _) <;> first | with_reducible rfl | assumption | omega | rfl | (rename_i hq; rw [hq]; rfl) | (simp_all; done))
  refine aw_if _ rfl (fun hb => ?_) (fun hb => ?_) <;> (try simp only [pickB_true, pickB_false, Bool.false_or, Bool.false_and, Bool.true_and, decide_eq_true_eq, decide_eq_false_iff_not, Bool.or_eq_true, Bool.and_eq_true, Bool.or_eq_false_iff, Bool.and_eq_false_imp, Bool.not_eq_true, Bool.not_eq_false, Bool.not_eq_eq_eq_not, Bool.not_true, Bool.not_false, Int.not_lt, Int.not_le, beq_iff_eq, beq_eq_false_iff_ne, bne_iff_ne, bne_eq_false_iff_eq, ne_eq, Bool.true_eq_false, Bool.false_eq_true, if_false_left, if_true_left, Bool.not_eq_eq_eq_not, Bool.decide_eq_true, Classical.not_not] at hb)
  · skip
    have hv : dualM c = ((0, 0, 0), validM c) := by
      unfold dualM
      rw [if_pos hb]
    apply aw_regs [2, 3] [2]
    · simp (disch := omega) only [avR2, avA, datsOf, fillA, seval, ↓List.forall_mem_cons, Op.operands, hA, tiA]
      first | exact ⟨rfl, rfl⟩ | ((repeat' first | refine And.intro ?_ ?_ | intro _) <;> first | with_reducible rfl | assumption | omega | rfl | (rename_i hq; rw [hq]; rfl) | (simp_all; done))
    apply aw_ret
    apply q_ret_seq
    simp only [QRet, QRetM, QRetX, retsX_nil, retsX_cons, objsAre, Tryd.results22, resA, mapO_nil, mapO_cons, vD_dat, vD_nils, vD_rp, vD_osl, vD_ptr, vD_agg, vD_fn, vL_dat, vL_app, viewL, avA, datsOf, fillA, seval, ↓List.forall_mem_cons, Op.operands, hP, hG, tiA]
    rw [hv]
  · skip
    have h0 : ¬ validM c ≠ 0 := by omega
    have hc : OkC c := validM_ok.1 (by omega)
    have hn := hc.n64
    have hcr := hc.room
    have hcw := hc.wl
    have hp := shortM_ok hc
    have hsr := sums_range hc hp _ (Nat.le_refl _)
    apply aw_skip
    apply q_seq
    apply aw_seq
    apply aw_rgds [1, 2, 6] [1, 2] [0, 1, 2, 3, 4, 5, 6, 7, 8] []
    · rw [hP]; kernel_rfl
    · exact hR
    · kernel_rfl
    · (repeat (apply PickL.cons; exact rfl)); exact PickL.nil _
    · simp (disch := omega) only [avR2, avA, datsOf, fillA, seval, ↓List.forall_mem_cons, Op.operands, hA, tiA]
      (repeat' refine And.intro ?_ ?_) <;> try first | omega | assumption | with_reducible rfl | exact rfl | (intro hside; (repeat' refine And.intro ?_ ?_) <;> first | exact hside | omega | (rw [hside]; rfl) | (simp_all; done))
      refine CallC.use (gvF hP hG (short_ok G c hc)) rfl ?_
      try simp (maxSteps := 2000000) (disch := omega) only [avR2, avA, datsOf, fillA, seval, ↓List.forall_mem_cons, Op.operands, hA, tiA]
      (repeat' refine And.intro ?_ ?_) <;> try first | omega | assumption | with_reducible rfl | exact rfl | (intro hside; (repeat' refine And.intro ?_ ?_) <;> first | exact hside | omega | (rw [hside]; rfl) | (simp_all; done))
      refine CallC.use (gvF hP hG (cost_ok G c (shortM c c.items.length) hc hp)) rfl ?_
      try simp (maxSteps := 2000000) (disch := omega) only [avR2, avA, datsOf, fillA, seval, ↓List.forall_mem_cons, Op.operands, hA, tiA]
      first | exact ⟨rfl, rfl⟩ | ((repeat' first | refine And.intro ?_ ?_ | intro _) <;> first | with_reducible rfl | assumption | omega | rfl | (rename_i hq; rw [hq]; rfl) | (simp_all; done))
    apply aw_regs [1, 2, 32] [1, 2]
    · simp (disch := omega) only [avR2, avA, datsOf, fillA, seval, ↓List.forall_mem_cons, Op.operands, hA, tiA]
      first | exact ⟨rfl, rfl⟩ | ((repeat' first | refine And.intro ?_ ?_ | intro _) <;> first | with_reducible rfl | assumption | omega | rfl | (rename_i hq; rw [hq]; rfl) | (simp_all; done))
    refine aw_if _ rfl (fun hb => ?_) (fun hb => ?_) <;> (try simp only [pickB_true, pickB_false, Bool.false_or, Bool.false_and, Bool.true_and, decide_eq_true_eq, decide_eq_false_iff_not, Bool.or_eq_true, Bool.and_eq_true, Bool.or_eq_false_iff, Bool.and_eq_false_imp, Bool.not_eq_true, Bool.not_eq_false, Bool.not_eq_eq_eq_not, Bool.not_true, Bool.not_false, Int.not_lt, Int.not_le, beq_iff_eq, beq_eq_false_iff_ne, bne_iff_ne, bne_eq_false_iff_eq, ne_eq, Bool.true_eq_false, Bool.false_eq_true, if_false_left, if_true_left, Bool.not_eq_eq_eq_not, Bool.decide_eq_true, Classical.not_not] at hb)
    · skip
      have hv : dualM c = ((0, 0, 0), 21) := by
        unfold dualM
        rw [if_neg h0, if_pos hb]
      apply aw_regs [2, 3] [2]
      · simp (disch := omega) only [avR2, avA, datsOf, fillA, seval, ↓List.forall_mem_cons, Op.operands, hA, tiA]
        first | exact ⟨rfl, rfl⟩ | ((repeat' first | refine And.intro ?_ ?_ | intro _) <;> first | with_reducible rfl | assumption | omega | rfl | (rename_i hq; rw [hq]; rfl) | (simp_all; done))
      apply aw_ret
      apply q_ret_seq
      simp only [QRet, QRetM, QRetX, retsX_nil, retsX_cons, objsAre, Tryd.results22, resA, mapO_nil, mapO_cons, vD_dat, vD_nils, vD_rp, vD_osl, vD_ptr, vD_agg, vD_fn, vL_dat, vL_app, viewL, avA, datsOf, fillA, seval, ↓List.forall_mem_cons, Op.operands, hP, hG, tiA]
      rw [hv]
    · skip
      have hv : dualM c = (dA c c.items.length, 0) := by
        unfold dualM
        rw [if_neg h0, if_neg (by omega)]
      apply aw_skip
      apply q_seq
      apply aw_regs [1, 2, 7] [1, 2, 7]
      · simp (disch := omega) only [avR2, avA, datsOf, fillA, seval, ↓List.forall_mem_cons, Op.operands, hA, tiA]
        (repeat' refine And.intro ?_ ?_) <;> try first | omega | assumption | with_reducible rfl | exact rfl | (intro hside; (repeat' refine And.intro ?_ ?_) <;> first | exact hside | omega | (rw [hside]; rfl) | (simp_all; done))
        refine CallC.use (gvF hP hG (bound_ok G c 0 1 hc (by unfold okPQ; omega))) rfl ?_
        try simp (maxSteps := 2000000) (disch := omega) only [avR2, avA, datsOf, fillA, seval, ↓List.forall_mem_cons, Op.operands, hA, tiA]
        first | exact ⟨rfl, rfl⟩ | ((repeat' first | refine And.intro ?_ ?_ | intro _) <;> first | with_reducible rfl | assumption | omega | rfl | (rename_i hq; rw [hq]; rfl) | (simp_all; done))
      apply aw_regs [1, 2, 7, 8] [1, 2, 7]
      · simp (disch := omega) only [avR2, avA, datsOf, fillA, seval, ↓List.forall_mem_cons, Op.operands, hA, tiA]
        first | exact ⟨rfl, rfl⟩ | ((repeat' first | refine And.intro ?_ ?_ | intro _) <;> first | with_reducible rfl | assumption | omega | rfl | (rename_i hq; rw [hq]; rfl) | (simp_all; done))
      apply aw_seq
      apply aw_regs [1, 2, 7, 8, 38, 39, 40] [1, 2, 7]
      · simp (disch := omega) only [avR2, avA, datsOf, fillA, seval, ↓List.forall_mem_cons, Op.operands, hA, tiA]
        first | exact ⟨rfl, rfl⟩ | ((repeat' first | refine And.intro ?_ ?_ | intro _) <;> first | with_reducible rfl | assumption | omega | rfl | (rename_i hq; rw [hq]; rfl) | (simp_all; done))
      apply aw_block
      refine aw_loop (ι := {i : Nat // i ≤ c.items.length}) (fun ⟨i, hi⟩ => .of [(1, .ptr 1 3 0 0), (2, .ptr 2 3 0 0), (7, .ptr 7 3 0 0), (8, .fn 47 [.ptr 1 3 0 0, .ptr 7 3 0 0]), (38, .dat (.sl (c.items.map osD))), (39, .dat (iD c.items.length)), (40, .dat (iD i))] [(1, ⟨3, [.dat (caseD c)]⟩), (2, ⟨3, [.dat (ceD (0, 0, 0))]⟩), (7, ⟨3, [.dat (ceD (dA c i))]⟩)]) (fun ⟨i, hi⟩ => c.items.length - i) (⟨0, by omega⟩) (Le.of ?_ ?_) fun ix => ?_
      · try simp (disch := omega) only [LeE, LeO, avA, datsOf, fillA, seval, ↓List.forall_mem_cons, Op.operands, dA]
        all_goals first | done | (repeat' apply And.intro) <;> first | rfl | omega | assumption | (simp only [AV.dat.injEq, Dat.int.injEq, true_and]; omega) | (congr <;> omega)
      · try simp (disch := omega) only [LeE, LeO, avA, datsOf, fillA, seval, ↓List.forall_mem_cons, Op.operands, dA]
        all_goals first | done | (repeat' apply And.intro) <;> first | rfl | omega | assumption | (simp only [AV.dat.injEq, Dat.int.injEq, true_and]; omega) | (congr <;> omega)
      obtain ⟨i, hi⟩ := ix
      dsimp only
      apply aw_regs [1, 2, 7, 8, 38, 39, 40, 41] [1, 2, 7]
      · simp (disch := omega) only [avR2, avA, datsOf, fillA, seval, ↓List.forall_mem_cons, Op.operands, hA, tiA]
        first | exact ⟨rfl, rfl⟩ | ((repeat' first | refine And.intro ?_ ?_ | intro _) <;> first | with_reducible rfl | assumption | omega | rfl | (rename_i hq; rw [hq]; rfl) | (simp_all; done))
      apply aw_seq
      refine aw_if _ rfl (fun hb => ?_) (fun hb => ?_) <;> (try simp only [pickB_true, pickB_false, Bool.false_or, Bool.false_and, Bool.true_and, decide_eq_true_eq, decide_eq_false_iff_not, Bool.or_eq_true, Bool.and_eq_true, Bool.or_eq_false_iff, Bool.and_eq_false_imp, Bool.not_eq_true, Bool.not_eq_false, Bool.not_eq_eq_eq_not, Bool.not_true, Bool.not_false, Int.not_lt, Int.not_le, beq_iff_eq, beq_eq_false_iff_ne, bne_iff_ne, bne_eq_false_iff_eq, ne_eq, Bool.true_eq_false, Bool.false_eq_true, if_false_left, if_true_left, Bool.not_eq_eq_eq_not, Bool.decide_eq_true, Classical.not_not] at hb)
      · skip
        have hil : i < c.items.length := by omega
        have hi8 := hc.n8 i hil
        have hwi := hc.w i hil
        simp only [itemM, weightM] at hi8 hwi
        have hdA := dA_okB hc i hi
        apply aw_skip
        apply q_seq
        apply aw_seq
        apply aw_block
        apply aw_regs [1, 2, 7, 8, 9, 10, 38, 39, 40] [1, 2, 7]
        · simp (disch := omega) only [avR2, avA, datsOf, fillA, seval, ↓List.forall_mem_cons, Op.operands, hA, tiA]
          first | exact ⟨rfl, rfl⟩ | ((repeat' first | refine And.intro ?_ ?_ | intro _) <;> first | with_reducible rfl | assumption | omega | rfl | (rename_i hq; rw [hq]; rfl) | (simp_all; done))
        apply aw_regs [1, 2, 7, 8, 9, 10, 38, 39, 40, 45, 46, 47] [1, 2, 7]
        · simp (disch := omega) only [avR2, avA, datsOf, fillA, seval, ↓List.forall_mem_cons, Op.operands, hA, tiA]
          first | exact ⟨rfl, rfl⟩ | ((repeat' first | refine And.intro ?_ ?_ | intro _) <;> first | with_reducible rfl | assumption | omega | rfl | (rename_i hq; rw [hq]; rfl) | (simp_all; done))
        apply aw_block
        refine aw_loop (ι := {a : Nat // a ≤ (c.items.getD i default).length}) (fun ⟨a, ha⟩ => .of [(1, .ptr 1 3 0 0), (2, .ptr 2 3 0 0), (7, .ptr 7 3 0 0), (8, .fn 47 [.ptr 1 3 0 0, .ptr 7 3 0 0]), (38, .dat (.sl (c.items.map osD))), (39, .dat (iD c.items.length)), (40, .dat (iD i)), (9, .dat (iD i)), (10, .dat (osD (c.items.getD i default))), (45, .dat (osD (c.items.getD i default))), (46, .dat (iD (c.items.getD i default).length)), (47, .dat (iD a))] [(1, ⟨3, [.dat (caseD c)]⟩), (2, ⟨3, [.dat (ceD (0, 0, 0))]⟩), (7, ⟨3, [.dat (ceD (dB c i (dA c i) a))]⟩)]) (fun ⟨a, ha⟩ => (c.items.getD i default).length - a) (⟨0, by omega⟩) (Le.of ?_ ?_) fun ix => ?_
        · try simp (disch := omega) only [LeE, LeO, avA, datsOf, fillA, seval, ↓List.forall_mem_cons, Op.operands, dB]
          all_goals first | done | (repeat' apply And.intro) <;> first | rfl | omega | assumption | (simp only [AV.dat.injEq, Dat.int.injEq, true_and]; omega) | (congr <;> omega)
        · try simp (disch := omega) only [LeE, LeO, avA, datsOf, fillA, seval, ↓List.forall_mem_cons, Op.operands, dB]
          all_goals first | done | (repeat' apply And.intro) <;> first | rfl | omega | assumption | (simp only [AV.dat.injEq, Dat.int.injEq, true_and]; omega) | (congr <;> omega)
        obtain ⟨a, ha⟩ := ix
        dsimp only
        apply aw_regs [1, 2, 7, 8, 9, 10, 38, 39, 40, 45, 46, 47, 48] [1, 2, 7]
        · simp (disch := omega) only [avR2, avA, datsOf, fillA, seval, ↓List.forall_mem_cons, Op.operands, hA, tiA]
          first | exact ⟨rfl, rfl⟩ | ((repeat' first | refine And.intro ?_ ?_ | intro _) <;> first | with_reducible rfl | assumption | omega | rfl | (rename_i hq; rw [hq]; rfl) | (simp_all; done))
        apply aw_seq
        refine aw_if _ rfl (fun hb => ?_) (fun hb => ?_) <;> (try simp only [pickB_true, pickB_false, Bool.false_or, Bool.false_and, Bool.true_and, decide_eq_true_eq, decide_eq_false_iff_not, Bool.or_eq_true, Bool.and_eq_true, Bool.or_eq_false_iff, Bool.and_eq_false_imp, Bool.not_eq_true, Bool.not_eq_false, Bool.not_eq_eq_eq_not, Bool.not_true, Bool.not_false, Int.not_lt, Int.not_le, beq_iff_eq, beq_eq_false_iff_ne, bne_iff_ne, bne_eq_false_iff_eq, ne_eq, Bool.true_eq_false, Bool.false_eq_true, if_false_left, if_true_left, Bool.not_eq_eq_eq_not, Bool.decide_eq_true, Classical.not_not] at hb)
        · skip
          have hal : a < (c.items.getD i default).length := by omega
          have hdB := dB_okB hc hil hdA a ha
          have hoa := getD_all (hc.o i hil) (i := a) (by simp only [itemM]; omega)
          simp only [itemM] at hoa
          unfold okO at hoa
          apply aw_skip
          apply q_seq
          apply aw_seq
          apply aw_block
          apply aw_regs [1, 2, 7, 8, 9, 10, 12, 38, 39, 40, 45, 46, 47] [1, 2, 7, 12]
          · simp (disch := omega) only [avR2, avA, datsOf, fillA, seval, ↓List.forall_mem_cons, Op.operands, hA, tiA]
            first | exact ⟨rfl, rfl⟩ | ((repeat' first | refine And.intro ?_ ?_ | intro _) <;> first | with_reducible rfl | assumption | omega | rfl | (rename_i hq; rw [hq]; rfl) | (simp_all; done))
          apply aw_regs [1, 2, 7, 8, 9, 10, 12, 38, 39, 40, 45, 46, 47, 51, 52, 53] [1, 2, 7, 12]
          · simp (disch := omega) only [avR2, avA, datsOf, fillA, seval, ↓List.forall_mem_cons, Op.operands, hA, tiA]
            first | exact ⟨rfl, rfl⟩ | ((repeat' first | refine And.intro ?_ ?_ | intro _) <;> first | with_reducible rfl | assumption | omega | rfl | (rename_i hq; rw [hq]; rfl) | (simp_all; done))
          apply aw_block
          refine aw_loop (ι := {b : Nat // b ≤ (c.items.getD i default).length}) (fun ⟨b, hbl⟩ => .of [(1, .ptr 1 3 0 0), (2, .ptr 2 3 0 0), (7, .ptr 7 3 0 0), (8, .fn 47 [.ptr 1 3 0 0, .ptr 7 3 0 0]), (38, .dat (.sl (c.items.map osD))), (39, .dat (iD c.items.length)), (40, .dat (iD i)), (9, .dat (iD i)), (10, .dat (osD (c.items.getD i default))), (45, .dat (osD (c.items.getD i default))), (46, .dat (iD (c.items.getD i default).length)), (47, .dat (iD a)), (12, .ptr 12 2 0 0), (51, .dat (osD (c.items.getD i default))), (52, .dat (iD (c.items.getD i default).length)), (53, .dat (iD b))] [(1, ⟨3, [.dat (caseD c)]⟩), (2, ⟨3, [.dat (ceD (0, 0, 0))]⟩), (7, ⟨3, [.dat (ceD (dC c i a (dB c i (dA c i) a) b))]⟩), (12, ⟨2, [.dat (oD ((c.items.getD i default).getD a default))]⟩)]) (fun ⟨b, hbl⟩ => (c.items.getD i default).length - b) (⟨0, by omega⟩) (Le.of ?_ ?_) fun ix => ?_
          · try simp (disch := omega) only [LeE, LeO, avA, datsOf, fillA, seval, ↓List.forall_mem_cons, Op.operands, hst, dC_zero]
            all_goals first | done | (repeat' apply And.intro) <;> first | rfl | omega | assumption | (simp only [AV.dat.injEq, Dat.int.injEq, true_and]; omega) | (congr <;> omega)
          · try simp (disch := omega) only [LeE, LeO, avA, datsOf, fillA, seval, ↓List.forall_mem_cons, Op.operands, hst, dC_zero]
            all_goals first | done | (repeat' apply And.intro) <;> first | rfl | omega | assumption | (simp only [AV.dat.injEq, Dat.int.injEq, true_and]; omega) | (congr <;> omega)
          obtain ⟨b, hbl⟩ := ix
          dsimp only
          apply aw_regs [1, 2, 7, 8, 9, 10, 12, 38, 39, 40, 45, 46, 47, 51, 52, 53, 54] [1, 2, 7, 12]
          · simp (disch := omega) only [avR2, avA, datsOf, fillA, seval, ↓List.forall_mem_cons, Op.operands, hA, tiA]
            first | exact ⟨rfl, rfl⟩ | ((repeat' first | refine And.intro ?_ ?_ | intro _) <;> first | with_reducible rfl | assumption | omega | rfl | (rename_i hq; rw [hq]; rfl) | (simp_all; done))
          apply aw_seq
          refine aw_if _ rfl (fun hb => ?_) (fun hb => ?_) <;> (try simp only [pickB_true, pickB_false, Bool.false_or, Bool.false_and, Bool.true_and, decide_eq_true_eq, decide_eq_false_iff_not, Bool.or_eq_true, Bool.and_eq_true, Bool.or_eq_false_iff, Bool.and_eq_false_imp, Bool.not_eq_true, Bool.not_eq_false, Bool.not_eq_eq_eq_not, Bool.not_true, Bool.not_false, Int.not_lt, Int.not_le, beq_iff_eq, beq_eq_false_iff_ne, bne_iff_ne, bne_eq_false_iff_eq, ne_eq, Bool.true_eq_false, Bool.false_eq_true, if_false_left, if_true_left, Bool.not_eq_eq_eq_not, Bool.decide_eq_true, Classical.not_not] at hb)
          · skip
            have hbb : b < (c.items.getD i default).length := by omega
            have hob := getD_all (hc.o i hil) (i := b) (by simp only [itemM]; omega)
            simp only [itemM] at hob
            unfold okO at hob
            have hdC := dC_okB hc hil hal hdB b hbl
            have hpr := dP_range hc hil hal hbb
            have hpd : dP c i a b = c.weights.getD i default * (((c.items.getD i default).getD a default).2 - ((c.items.getD i default).getD b default).2) := rfl
            have hqd : dQ c i a b = ((c.items.getD i default).getD b default).1 - ((c.items.getD i default).getD a default).1 := rfl
            apply aw_skip
            apply q_seq
            apply aw_seq
            apply aw_block
            apply aw_regs [1, 2, 7, 8, 9, 10, 12, 14, 38, 39, 40, 45, 46, 47, 51, 52, 53] [1, 2, 7, 12, 14]
            · simp (disch := omega) only [avR2, avA, datsOf, fillA, seval, ↓List.forall_mem_cons, Op.operands, hA, tiA]
              first | exact ⟨rfl, rfl⟩ | ((repeat' first | refine And.intro ?_ ?_ | intro _) <;> first | with_reducible rfl | assumption | omega | rfl | (rename_i hq; rw [hq]; rfl) | (simp_all; done))
            apply aw_rgds [1, 2, 7, 8, 9, 10, 12, 14, 15, 38, 39, 40, 45, 46, 47, 51, 52, 53] [1, 2, 7, 12, 14] [0, 1, 2, 3, 4, 5, 6, 7, 8, 9, 10, 11] []
            · rw [hP]; kernel_rfl
            · exact hR
            · kernel_rfl
            · (repeat (apply PickL.cons; exact rfl)); exact PickL.nil _
            · simp (disch := omega) only [avR2, avA, datsOf, fillA, seval, ↓List.forall_mem_cons, Op.operands, hA, tiA]
              first | exact ⟨rfl, rfl⟩ | ((repeat' first | refine And.intro ?_ ?_ | intro _) <;> first | with_reducible rfl | assumption | omega | rfl | (rename_i hq; rw [hq]; rfl) | (simp_all; done))
            apply aw_regs [1, 2, 7, 8, 9, 10, 12, 14, 15, 38, 39, 40, 45, 46, 47, 51, 52, 53, 76] [1, 2, 7, 12, 14]
            · simp (disch := omega) only [avR2, avA, datsOf, fillA, seval, ↓List.forall_mem_cons, Op.operands, hA, tiA]
              first | exact ⟨rfl, rfl⟩ | ((repeat' first | refine And.intro ?_ ?_ | intro _) <;> first | with_reducible rfl | assumption | omega | rfl | (rename_i hq; rw [hq]; rfl) | (simp_all; done))
            refine aw_if _ rfl (fun hb => ?_) (fun hb => ?_) <;> (try simp only [pickB_true, pickB_false, Bool.false_or, Bool.false_and, Bool.true_and, decide_eq_true_eq, decide_eq_false_iff_not, Bool.or_eq_true, Bool.and_eq_true, Bool.or_eq_false_iff, Bool.and_eq_false_imp, Bool.not_eq_true, Bool.not_eq_false, Bool.not_eq_eq_eq_not, Bool.not_true, Bool.not_false, Int.not_lt, Int.not_le, beq_iff_eq, beq_eq_false_iff_ne, bne_iff_ne, bne_eq_false_iff_eq, ne_eq, Bool.true_eq_false, Bool.false_eq_true, if_false_left, if_true_left, Bool.not_eq_eq_eq_not, Bool.decide_eq_true, Classical.not_not] at hb)
            · skip
              have hst : dC c i a (dB c i (dA c i) a) (b + 1) = tryM c (dC c i a (dB c i (dA c i) a) b) (dP c i a b).toNat (dQ c i a b).toNat := by
                simp only [dC]
                rw [if_pos (by omega)]
              apply aw_reg [1, 2, 7, 8, 9, 10, 12, 38, 39, 40, 45, 46, 47, 51, 52, 53] [1, 2, 7, 12]
              · simp (disch := omega) only [avR2, avA, datsOf, fillA, seval, ↓List.forall_mem_cons, Op.operands, hA, tiA]
                (repeat' refine And.intro ?_ ?_) <;> try first | omega | assumption | with_reducible rfl | exact rfl
                refine CallC.useM (fun i => if i = 1000 then 1 else 7) (by simp [LitD, hR.2.1]) (gvFM hP hG (tryI_ok G c (dC c i a (dB c i (dA c i) a) b) (dP c i a b) (dQ c i a b) hc hdC (by omega) (by omega))) rfl ⟨by intro p hp; simp only [List.mem_cons, List.not_mem_nil, or_false] at hp; rcases hp with rfl | rfl <;> rfl, by simp, rfl⟩ ?_
                try simp (maxSteps := 2000000) (disch := omega) only [avR2, avA, datsOf, fillA, seval, ↓List.forall_mem_cons, Op.operands, hA, tiA, objsM_nil, objsM_cons, AObj.ren]
                first | exact ⟨rfl, rfl⟩ | ((repeat' first | refine And.intro ?_ ?_ | intro _) <;> first | with_reducible rfl | assumption | omega | rfl | (rename_i hq; rw [hq]; rfl) | (simp_all; done))
              apply q_block
              apply q_seq
              apply aw_reg [1, 2, 7, 8, 9, 10, 12, 38, 39, 40, 45, 46, 47, 51, 52, 53] [1, 2, 7, 12]
              · simp (disch := omega) only [avR2, avA, datsOf, fillA, seval, ↓List.forall_mem_cons, Op.operands, hA, tiA]
                first | exact ⟨rfl, rfl⟩ | ((repeat' first | refine And.intro ?_ ?_ | intro _) <;> first | with_reducible rfl | assumption | omega | rfl | (rename_i hq; rw [hq]; rfl) | (simp_all; done))
              refine q_loop (⟨b + 1, by omega⟩) (Le.of ?_ ?_) (by dsimp only; omega)
              · try simp (disch := omega) only [LeE, LeO, avA, datsOf, fillA, seval, ↓List.forall_mem_cons, Op.operands, hst, dC_zero]
                all_goals first | done | (repeat' apply And.intro) <;> first | rfl | omega | assumption | (simp only [AV.dat.injEq, Dat.int.injEq, true_and]; omega) | (congr <;> omega)
              · try simp (disch := omega) only [LeE, LeO, avA, datsOf, fillA, seval, ↓List.forall_mem_cons, Op.operands, hst, dC_zero]
                all_goals first | done | (repeat' apply And.intro) <;> first | rfl | omega | assumption | (simp only [AV.dat.injEq, Dat.int.injEq, true_and]; omega) | (congr <;> omega)
            · skip
              have hst : dC c i a (dB c i (dA c i) a) (b + 1) = dC c i a (dB c i (dA c i) a) b := by
                simp only [dC]
                rw [if_neg (by omega)]
              apply aw_skip
              apply q_block
              apply q_seq
              apply aw_reg [1, 2, 7, 8, 9, 10, 12, 38, 39, 40, 45, 46, 47, 51, 52, 53] [1, 2, 7, 12]
              · simp (disch := omega) only [avR2, avA, datsOf, fillA, seval, ↓List.forall_mem_cons, Op.operands, hA, tiA]
                first | exact ⟨rfl, rfl⟩ | ((repeat' first | refine And.intro ?_ ?_ | intro _) <;> first | with_reducible rfl | assumption | omega | rfl | (rename_i hq; rw [hq]; rfl) | (simp_all; done))
              refine q_loop (⟨b + 1, by omega⟩) (Le.of ?_ ?_) (by dsimp only; omega)
              · try simp (disch := omega) only [LeE, LeO, avA, datsOf, fillA, seval, ↓List.forall_mem_cons, Op.operands, hst, dC_zero]
                all_goals first | done | (repeat' apply And.intro) <;> first | rfl | omega | assumption | (simp only [AV.dat.injEq, Dat.int.injEq, true_and]; omega) | (congr <;> omega)
              · try simp (disch := omega) only [LeE, LeO, avA, datsOf, fillA, seval, ↓List.forall_mem_cons, Op.operands, hst, dC_zero]
                all_goals first | done | (repeat' apply And.intro) <;> first | rfl | omega | assumption | (simp only [AV.dat.injEq, Dat.int.injEq, true_and]; omega) | (congr <;> omega)
          · skip
            have hbe : b = (c.items.getD i default).length := by omega
            subst hbe
            apply aw_exit
            apply q_exit_seq
            apply q_exit_loop
            apply q_exit
            apply q_block
            apply q_seq
            apply aw_reg [1, 2, 7, 8, 9, 10, 38, 39, 40, 45, 46, 47] [1, 2, 7]
            · simp (disch := omega) only [avR2, avA, datsOf, fillA, seval, ↓List.forall_mem_cons, Op.operands, hA, tiA]
              first | exact ⟨rfl, rfl⟩ | ((repeat' first | refine And.intro ?_ ?_ | intro _) <;> first | with_reducible rfl | assumption | omega | rfl | (rename_i hq; rw [hq]; rfl) | (simp_all; done))
            refine q_loop (⟨a + 1, by omega⟩) (Le.of ?_ ?_) (by dsimp only; omega)
            · try simp (disch := omega) only [LeE, LeO, avA, datsOf, fillA, seval, ↓List.forall_mem_cons, Op.operands, dB]
              all_goals first | done | (repeat' apply And.intro) <;> first | rfl | omega | assumption | (simp only [AV.dat.injEq, Dat.int.injEq, true_and]; omega) | (congr <;> omega)
            · try simp (disch := omega) only [LeE, LeO, avA, datsOf, fillA, seval, ↓List.forall_mem_cons, Op.operands, dB]
              all_goals first | done | (repeat' apply And.intro) <;> first | rfl | omega | assumption | (simp only [AV.dat.injEq, Dat.int.injEq, true_and]; omega) | (congr <;> omega)
        · skip
          have hae : a = (c.items.getD i default).length := by omega
          subst hae
          apply aw_exit
          apply q_exit_seq
          apply q_exit_loop
          apply q_exit
          apply q_block
          apply q_seq
          apply aw_reg [1, 2, 7, 8, 38, 39, 40] [1, 2, 7]
          · simp (disch := omega) only [avR2, avA, datsOf, fillA, seval, ↓List.forall_mem_cons, Op.operands, hA, tiA]
            first | exact ⟨rfl, rfl⟩ | ((repeat' first | refine And.intro ?_ ?_ | intro _) <;> first | with_reducible rfl | assumption | omega | rfl | (rename_i hq; rw [hq]; rfl) | (simp_all; done))
          refine q_loop (⟨i + 1, by omega⟩) (Le.of ?_ ?_) (by dsimp only; omega)
          · try simp (disch := omega) only [LeE, LeO, avA, datsOf, fillA, seval, ↓List.forall_mem_cons, Op.operands, dA]
            all_goals first | done | (repeat' apply And.intro) <;> first | rfl | omega | assumption | (simp only [AV.dat.injEq, Dat.int.injEq, true_and]; omega) | (congr <;> omega)
          · try simp (disch := omega) only [LeE, LeO, avA, datsOf, fillA, seval, ↓List.forall_mem_cons, Op.operands, dA]
            all_goals first | done | (repeat' apply And.intro) <;> first | rfl | omega | assumption | (simp only [AV.dat.injEq, Dat.int.injEq, true_and]; omega) | (congr <;> omega)
      · skip
        have hie : i = c.items.length := by omega
        subst hie
        apply aw_exit
        apply q_exit_seq
        apply q_exit_loop
        apply q_exit
        apply q_seq
        apply aw_regs [2, 3] [2]
        · simp (disch := omega) only [avR2, avA, datsOf, fillA, seval, ↓List.forall_mem_cons, Op.operands, hA, tiA]
          first | exact ⟨rfl, rfl⟩ | ((repeat' first | refine And.intro ?_ ?_ | intro _) <;> first | with_reducible rfl | assumption | omega | rfl | (rename_i hq; rw [hq]; rfl) | (simp_all; done))
        apply aw_ret
        simp only [QRet, QRetM, QRetX, retsX_nil, retsX_cons, objsAre, Tryd.results22, resA, mapO_nil, mapO_cons, vD_dat, vD_nils, vD_rp, vD_osl, vD_ptr, vD_agg, vD_fn, vL_dat, vL_app, viewL, avA, datsOf, fillA, seval, ↓List.forall_mem_cons, Op.operands, hP, hG, tiA]
        rw [hv]

end Go.Proofs.YthcfjdkflmkhbaaDoor

namespace Go.Proofs.YthcfjdkflmkhbaaDoor
open Go.Av

def exM (room : Int) : CaseM := ⟨[[(1, 4), (3, 1)], [(0, 5), (2, 2)]], [3, 1], room⟩
theorem exM_sz (room : Int) (h : 0 ≤ room ∧ room ≤ 9) : SzC (exM room) := by
  apply SzL.sz
  refine ⟨by simp [exM], by simp [exM], ?_, ?_, by unfold I64; simp only [exM]; omega, ?_⟩
  · intro l hl; simp [exM] at hl; rcases hl with rfl | rfl <;> simp
  · intro w hw; simp [exM] at hw; rcases hw with rfl | rfl <;> (unfold I64; omega)
  · intro l hl o ho; simp [exM] at hl; rcases hl with rfl | rfl <;> (simp at ho; rcases ho with rfl | rfl <;> (unfold I2 I64; simp))
theorem exB0 : bestM (exM 0) = ([], 0, 21) := by decide +kernel
theorem exB3 : bestM (exM 3) = ([1, 0], 8, 0) := by decide +kernel
theorem exB2 : bestM (exM 2) = ([0, 0], 17, 0) := by decide +kernel
theorem exB5 : bestM (exM 5) = ([1, 1], 5, 0) := by decide +kernel
theorem exD0 : dualM (exM 0) = ((0, 0, 0), 21) := by decide +kernel
theorem exD3 : dualM (exM 3) = ((3, 2, 16), 0) := by decide +kernel
theorem exD2 : dualM (exM 2) = ((9, 2, 25), 0) := by decide +kernel
theorem exD5 : dualM (exM 5) = ((0, 1, 5), 0) := by decide +kernel
theorem exC : checkM (exM 2) [0, 0] (9, 2, 25) = (17, 13, 0) := by decide +kernel

end Go.Proofs.YthcfjdkflmkhbaaDoor

namespace Go.Proofs.YthcfjdkflmkhbaaDoor
open Go.Av

theorem exP0 : Gives Tryd.prog gG 44 [iD 0] [caseD (exM 0)] := example_ok gG 0
theorem exP3 : Gives Tryd.prog gG 44 [iD 3] [caseD (exM 3)] := example_ok gG 3
theorem exP2 : Gives Tryd.prog gG 44 [iD 2] [caseD (exM 2)] := example_ok gG 2
theorem exP5 : Gives Tryd.prog gG 44 [iD 5] [caseD (exM 5)] := example_ok gG 5
theorem exQ0 : Gives Tryd.prog gG 30 [caseD (exM 0)] [isD [], iD 0, iD 21] := by have h := best_ok (exM 0) (exM_sz 0 (by omega)); rw [exB0] at h; exact h
theorem exQ3 : Gives Tryd.prog gG 30 [caseD (exM 3)] [isD [1, 0], iD 8, iD 0] := by have h := best_ok (exM 3) (exM_sz 3 (by omega)); rw [exB3] at h; exact h
theorem exQ2 : Gives Tryd.prog gG 30 [caseD (exM 2)] [isD [0, 0], iD 17, iD 0] := by have h := best_ok (exM 2) (exM_sz 2 (by omega)); rw [exB2] at h; exact h
theorem exQ5 : Gives Tryd.prog gG 30 [caseD (exM 5)] [isD [1, 1], iD 5, iD 0] := by have h := best_ok (exM 5) (exM_sz 5 (by omega)); rw [exB5] at h; exact h
theorem exR0 : Gives Tryd.prog gG 22 [caseD (exM 0)] [ceD (0, 0, 0), iD 21] := by have h := dual_ok gG (exM 0) (exM_sz 0 (by omega)); rw [exD0] at h; exact h
theorem exR3 : Gives Tryd.prog gG 22 [caseD (exM 3)] [ceD (3, 2, 16), iD 0] := by have h := dual_ok gG (exM 3) (exM_sz 3 (by omega)); rw [exD3] at h; exact h
theorem exR2 : Gives Tryd.prog gG 22 [caseD (exM 2)] [ceD (9, 2, 25), iD 0] := by have h := dual_ok gG (exM 2) (exM_sz 2 (by omega)); rw [exD2] at h; exact h
theorem exR5 : Gives Tryd.prog gG 22 [caseD (exM 5)] [ceD (0, 1, 5), iD 0] := by have h := dual_ok gG (exM 5) (exM_sz 5 (by omega)); rw [exD5] at h; exact h
theorem exS : Gives Tryd.prog gG 27 [caseD (exM 2), isD [0, 0], ceD (9, 2, 25)] [iD 17, iD 13, iD 0] := by have h := checkF_ok gG (exM 2) [0, 0] (9, 2, 25) (exM_sz 2 (by omega)) (by simp) (by unfold I64; simp); rw [exC] at h; exact h


set_option maxHeartbeats 2000000 in
theorem lives_ok : Gives Tryd.prog gG 20 [] [.bool true] := by
  refine gives_intro [] [] [] Tryd.func20 rfl (by rfl) (by simp [Tryd.ntmps20]) fun F hP hG hN hR => ?_
  rw [Tryd.ntmps20] at hN
  have hA := And.intro hN (And.intro hP (And.intro hG (And.intro hR.1 (And.intro hR.2.1 hR.2.2.1))))
  apply aw_regs [] []
  · simp (disch := omega) only [avR2, avA, datsOf, fillA, seval, ↓List.forall_mem_cons, Op.operands, hA, tiA]
    first | exact ⟨rfl, rfl⟩ | ((repeat' first | refine And.intro ?_ ?_ | intro _) <;> first | with_reducible rfl | assumption | omega | rfl | (rename_i hq; rw [hq]; rfl) | (simp_all; done))
  apply aw_regs [3] []
  · simp (disch := omega) only [avR2, avA, datsOf, fillA, seval, ↓List.forall_mem_cons, Op.operands, hA, tiA]
    (repeat' refine And.intro ?_ ?_) <;> try first | omega | assumption | with_reducible rfl | exact rfl | (intro hside; (repeat' refine And.intro ?_ ?_) <;> first | exact hside | omega | (rw [hside]; rfl) | (simp_all; done))
    refine CallC.use (gvF hP hG (exP0)) rfl ?_
    try simp (maxSteps := 2000000) (disch := omega) only [avR2, avA, datsOf, fillA, seval, ↓List.forall_mem_cons, Op.operands, hA, tiA]
    (repeat' refine And.intro ?_ ?_) <;> try first | omega | assumption | with_reducible rfl | exact rfl | (intro hside; (repeat' refine And.intro ?_ ?_) <;> first | exact hside | omega | (rw [hside]; rfl) | (simp_all; done))
    refine CallC.use (gvF hP hG (exQ0)) rfl ?_
    try simp (maxSteps := 2000000) (disch := omega) only [avR2, avA, datsOf, fillA, seval, ↓List.forall_mem_cons, Op.operands, hA, tiA]
    first | exact ⟨rfl, rfl⟩ | ((repeat' first | refine And.intro ?_ ?_ | intro _) <;> first | with_reducible rfl | assumption | omega | rfl | (rename_i hq; rw [hq]; rfl) | (simp_all; done))
  apply aw_regs [3, 5] []
  · simp (disch := omega) only [avR2, avA, datsOf, fillA, seval, ↓List.forall_mem_cons, Op.operands, hA, tiA]
    (repeat' refine And.intro ?_ ?_) <;> try first | omega | assumption | with_reducible rfl | exact rfl | (intro hside; (repeat' refine And.intro ?_ ?_) <;> first | exact hside | omega | (rw [hside]; rfl) | (simp_all; done))
    refine CallC.use (gvF hP hG (exP0)) rfl ?_
    try simp (maxSteps := 2000000) (disch := omega) only [avR2, avA, datsOf, fillA, seval, ↓List.forall_mem_cons, Op.operands, hA, tiA]
    (repeat' refine And.intro ?_ ?_) <;> try first | omega | assumption | with_reducible rfl | exact rfl | (intro hside; (repeat' refine And.intro ?_ ?_) <;> first | exact hside | omega | (rw [hside]; rfl) | (simp_all; done))
    refine CallC.use (gvF hP hG (exR0)) rfl ?_
    try simp (maxSteps := 2000000) (disch := omega) only [avR2, avA, datsOf, fillA, seval, ↓List.forall_mem_cons, Op.operands, hA, tiA]
    first | exact ⟨rfl, rfl⟩ | ((repeat' first | refine And.intro ?_ ?_ | intro _) <;> first | with_reducible rfl | assumption | omega | rfl | (rename_i hq; rw [hq]; rfl) | (simp_all; done))
  apply aw_regs [3, 5, 6, 7, 8] []
  · simp (disch := omega) only [avR2, avA, datsOf, fillA, seval, ↓List.forall_mem_cons, Op.operands, hA, tiA]
    (repeat' refine And.intro ?_ ?_) <;> try first | omega | assumption | with_reducible rfl | exact rfl | (intro hside; (repeat' refine And.intro ?_ ?_) <;> first | exact hside | omega | (rw [hside]; rfl) | (simp_all; done))
    refine CallC.use (gvF hP hG (exP3)) rfl ?_
    try simp (maxSteps := 2000000) (disch := omega) only [avR2, avA, datsOf, fillA, seval, ↓List.forall_mem_cons, Op.operands, hA, tiA]
    (repeat' refine And.intro ?_ ?_) <;> try first | omega | assumption | with_reducible rfl | exact rfl | (intro hside; (repeat' refine And.intro ?_ ?_) <;> first | exact hside | omega | (rw [hside]; rfl) | (simp_all; done))
    refine CallC.use (gvF hP hG (exQ3)) rfl ?_
    try simp (maxSteps := 2000000) (disch := omega) only [avR2, avA, datsOf, fillA, seval, ↓List.forall_mem_cons, Op.operands, hA, tiA]
    first | exact ⟨rfl, rfl⟩ | ((repeat' first | refine And.intro ?_ ?_ | intro _) <;> first | with_reducible rfl | assumption | omega | rfl | (rename_i hq; rw [hq]; rfl) | (simp_all; done))
  apply aw_regs [3, 5, 6, 7, 8, 9, 10] [9]
  · simp (disch := omega) only [avR2, avA, datsOf, fillA, seval, ↓List.forall_mem_cons, Op.operands, hA, tiA]
    (repeat' refine And.intro ?_ ?_) <;> try first | omega | assumption | with_reducible rfl | exact rfl | (intro hside; (repeat' refine And.intro ?_ ?_) <;> first | exact hside | omega | (rw [hside]; rfl) | (simp_all; done))
    refine CallC.use (gvF hP hG (exP3)) rfl ?_
    try simp (maxSteps := 2000000) (disch := omega) only [avR2, avA, datsOf, fillA, seval, ↓List.forall_mem_cons, Op.operands, hA, tiA]
    (repeat' refine And.intro ?_ ?_) <;> try first | omega | assumption | with_reducible rfl | exact rfl | (intro hside; (repeat' refine And.intro ?_ ?_) <;> first | exact hside | omega | (rw [hside]; rfl) | (simp_all; done))
    refine CallC.use (gvF hP hG (exR3)) rfl ?_
    try simp (maxSteps := 2000000) (disch := omega) only [avR2, avA, datsOf, fillA, seval, ↓List.forall_mem_cons, Op.operands, hA, tiA]
    first | exact ⟨rfl, rfl⟩ | ((repeat' first | refine And.intro ?_ ?_ | intro _) <;> first | with_reducible rfl | assumption | omega | rfl | (rename_i hq; rw [hq]; rfl) | (simp_all; done))
  apply aw_regs [3, 5, 6, 7, 8, 9, 10, 11, 12, 13] [9]
  · simp (disch := omega) only [avR2, avA, datsOf, fillA, seval, ↓List.forall_mem_cons, Op.operands, hA, tiA]
    (repeat' refine And.intro ?_ ?_) <;> try first | omega | assumption | with_reducible rfl | exact rfl | (intro hside; (repeat' refine And.intro ?_ ?_) <;> first | exact hside | omega | (rw [hside]; rfl) | (simp_all; done))
    refine CallC.use (gvF hP hG (exP2)) rfl ?_
    try simp (maxSteps := 2000000) (disch := omega) only [avR2, avA, datsOf, fillA, seval, ↓List.forall_mem_cons, Op.operands, hA, tiA]
    (repeat' refine And.intro ?_ ?_) <;> try first | omega | assumption | with_reducible rfl | exact rfl | (intro hside; (repeat' refine And.intro ?_ ?_) <;> first | exact hside | omega | (rw [hside]; rfl) | (simp_all; done))
    refine CallC.use (gvF hP hG (exQ2)) rfl ?_
    try simp (maxSteps := 2000000) (disch := omega) only [avR2, avA, datsOf, fillA, seval, ↓List.forall_mem_cons, Op.operands, hA, tiA]
    first | exact ⟨rfl, rfl⟩ | ((repeat' first | refine And.intro ?_ ?_ | intro _) <;> first | with_reducible rfl | assumption | omega | rfl | (rename_i hq; rw [hq]; rfl) | (simp_all; done))
  apply aw_regs [3, 5, 6, 7, 8, 9, 10, 11, 12, 13, 14, 15] [9, 14]
  · simp (disch := omega) only [avR2, avA, datsOf, fillA, seval, ↓List.forall_mem_cons, Op.operands, hA, tiA]
    (repeat' refine And.intro ?_ ?_) <;> try first | omega | assumption | with_reducible rfl | exact rfl | (intro hside; (repeat' refine And.intro ?_ ?_) <;> first | exact hside | omega | (rw [hside]; rfl) | (simp_all; done))
    refine CallC.use (gvF hP hG (exP2)) rfl ?_
    try simp (maxSteps := 2000000) (disch := omega) only [avR2, avA, datsOf, fillA, seval, ↓List.forall_mem_cons, Op.operands, hA, tiA]
    (repeat' refine And.intro ?_ ?_) <;> try first | omega | assumption | with_reducible rfl | exact rfl | (intro hside; (repeat' refine And.intro ?_ ?_) <;> first | exact hside | omega | (rw [hside]; rfl) | (simp_all; done))
    refine CallC.use (gvF hP hG (exR2)) rfl ?_
    try simp (maxSteps := 2000000) (disch := omega) only [avR2, avA, datsOf, fillA, seval, ↓List.forall_mem_cons, Op.operands, hA, tiA]
    first | exact ⟨rfl, rfl⟩ | ((repeat' first | refine And.intro ?_ ?_ | intro _) <;> first | with_reducible rfl | assumption | omega | rfl | (rename_i hq; rw [hq]; rfl) | (simp_all; done))
  apply aw_regs [3, 5, 6, 7, 8, 9, 10, 11, 12, 13, 14, 15, 16, 17, 18] [9, 14]
  · simp (disch := omega) only [avR2, avA, datsOf, fillA, seval, ↓List.forall_mem_cons, Op.operands, hA, tiA]
    (repeat' refine And.intro ?_ ?_) <;> try first | omega | assumption | with_reducible rfl | exact rfl | (intro hside; (repeat' refine And.intro ?_ ?_) <;> first | exact hside | omega | (rw [hside]; rfl) | (simp_all; done))
    refine CallC.use (gvF hP hG (exP5)) rfl ?_
    try simp (maxSteps := 2000000) (disch := omega) only [avR2, avA, datsOf, fillA, seval, ↓List.forall_mem_cons, Op.operands, hA, tiA]
    (repeat' refine And.intro ?_ ?_) <;> try first | omega | assumption | with_reducible rfl | exact rfl | (intro hside; (repeat' refine And.intro ?_ ?_) <;> first | exact hside | omega | (rw [hside]; rfl) | (simp_all; done))
    refine CallC.use (gvF hP hG (exQ5)) rfl ?_
    try simp (maxSteps := 2000000) (disch := omega) only [avR2, avA, datsOf, fillA, seval, ↓List.forall_mem_cons, Op.operands, hA, tiA]
    first | exact ⟨rfl, rfl⟩ | ((repeat' first | refine And.intro ?_ ?_ | intro _) <;> first | with_reducible rfl | assumption | omega | rfl | (rename_i hq; rw [hq]; rfl) | (simp_all; done))
  apply aw_regs [3, 5, 6, 7, 8, 9, 10, 11, 12, 13, 14, 15, 16, 17, 18, 19, 20] [9, 14, 19]
  · simp (disch := omega) only [avR2, avA, datsOf, fillA, seval, ↓List.forall_mem_cons, Op.operands, hA, tiA]
    (repeat' refine And.intro ?_ ?_) <;> try first | omega | assumption | with_reducible rfl | exact rfl | (intro hside; (repeat' refine And.intro ?_ ?_) <;> first | exact hside | omega | (rw [hside]; rfl) | (simp_all; done))
    refine CallC.use (gvF hP hG (exP5)) rfl ?_
    try simp (maxSteps := 2000000) (disch := omega) only [avR2, avA, datsOf, fillA, seval, ↓List.forall_mem_cons, Op.operands, hA, tiA]
    (repeat' refine And.intro ?_ ?_) <;> try first | omega | assumption | with_reducible rfl | exact rfl | (intro hside; (repeat' refine And.intro ?_ ?_) <;> first | exact hside | omega | (rw [hside]; rfl) | (simp_all; done))
    refine CallC.use (gvF hP hG (exR5)) rfl ?_
    try simp (maxSteps := 2000000) (disch := omega) only [avR2, avA, datsOf, fillA, seval, ↓List.forall_mem_cons, Op.operands, hA, tiA]
    first | exact ⟨rfl, rfl⟩ | ((repeat' first | refine And.intro ?_ ?_ | intro _) <;> first | with_reducible rfl | assumption | omega | rfl | (rename_i hq; rw [hq]; rfl) | (simp_all; done))
  apply aw_rgds [3, 5, 6, 7, 8, 9, 10, 11, 12, 13, 14, 15, 16, 17, 18, 19, 20, 21, 22, 23] [9, 14, 19] [0, 1, 2, 3, 4, 5, 6, 7, 8, 9, 10] []
  · rw [hP]; kernel_rfl
  · exact hR
  · kernel_rfl
  · (repeat (apply PickL.cons; exact rfl)); exact PickL.nil _
  · simp (disch := omega) only [avR2, avA, datsOf, fillA, seval, ↓List.forall_mem_cons, Op.operands, hA, tiA]
    (repeat' refine And.intro ?_ ?_) <;> try first | omega | assumption | with_reducible rfl | exact rfl | (intro hside; (repeat' refine And.intro ?_ ?_) <;> first | exact hside | omega | (rw [hside]; rfl) | (simp_all; done))
    refine CallC.use (gvF hP hG (exP2)) rfl ?_
    try simp (maxSteps := 2000000) (disch := omega) only [avR2, avA, datsOf, fillA, seval, ↓List.forall_mem_cons, Op.operands, hA, tiA]
    (repeat' refine And.intro ?_ ?_) <;> try first | omega | assumption | with_reducible rfl | exact rfl | (intro hside; (repeat' refine And.intro ?_ ?_) <;> first | exact hside | omega | (rw [hside]; rfl) | (simp_all; done))
    refine CallC.use (gvF hP hG (exS)) rfl ?_
    try simp (maxSteps := 2000000) (disch := omega) only [avR2, avA, datsOf, fillA, seval, ↓List.forall_mem_cons, Op.operands, hA, tiA]
    first | exact ⟨rfl, rfl⟩ | ((repeat' first | refine And.intro ?_ ?_ | intro _) <;> first | with_reducible rfl | assumption | omega | rfl | (rename_i hq; rw [hq]; rfl) | (simp_all; done))
  apply aw_seq
  apply aw_regs [6, 7, 9, 11, 12, 14, 16, 17, 19, 21, 22, 110] [9, 14, 19]
  · simp (maxSteps := 2000000) (disch := omega) only [avR2, avA, datsOf, fillA, seval, ↓List.forall_mem_cons, Op.operands, hA, tiA]
    first | exact ⟨rfl, rfl⟩ | ((repeat' first | refine And.intro ?_ ?_ | intro _) <;> first | with_reducible rfl | assumption | omega | rfl | (rename_i hq; rw [hq]; rfl) | (simp_all; done))
  refine aw_iff rfl ?_
  apply aw_skip
  apply q_seq
  refine aw_lists ?_
  apply al_seg
  · (iterate 9 apply Seg.cons); exact Seg.nil _
  · simp (maxSteps := 2000000) (disch := omega) only [avR2, avA, datsOf, fillA, seval, ↓List.forall_mem_cons, Op.operands, hA, tiA, KeptS]
    (repeat' refine And.intro ?_ ?_) <;> try first | omega | assumption | with_reducible rfl | exact rfl | (intro hside; (repeat' refine And.intro ?_ ?_) <;> first | exact hside | omega | (rw [hside]; rfl) | (simp_all; done))
    refine CallC.use (gvF hP hG (same_ok gG [1, 0] [1, 0] (by decide))) rfl ?_
    try simp (maxSteps := 2000000) (disch := omega) only [avR2, avA, datsOf, fillA, seval, ↓List.forall_mem_cons, Op.operands, hA, tiA, KeptS]
    first | exact ⟨rfl, rfl⟩ | ((repeat' first | refine And.intro ?_ ?_ | intro _) <;> first | with_reducible rfl | assumption | omega | rfl | (rename_i hq; rw [hq]; rfl) | (simp_all; done))
  apply al_true
  · exact rfl
  · simp (maxSteps := 2000000) (disch := omega) only [avR2, avA, datsOf, fillA, seval, ↓List.forall_mem_cons, Op.operands, hA, tiA, KeptS]
    first | exact ⟨rfl, rfl⟩ | ((repeat' first | refine And.intro ?_ ?_ | intro _) <;> first | with_reducible rfl | assumption | omega | rfl | (rename_i hq; rw [hq]; rfl) | (simp_all; done))
  apply al_seg
  · (iterate 8 apply Seg.cons); exact Seg.nil _
  · simp (maxSteps := 2000000) (disch := omega) only [avR2, avA, datsOf, fillA, seval, ↓List.forall_mem_cons, Op.operands, hA, tiA, KeptS]
    (repeat' refine And.intro ?_ ?_) <;> try first | omega | assumption | with_reducible rfl | exact rfl | (intro hside; (repeat' refine And.intro ?_ ?_) <;> first | exact hside | omega | (rw [hside]; rfl) | (simp_all; done))
    refine CallGC.use rfl (fun hg => ⟨by simp_all [gdAll], gvF hP hG (same_ok gG [0, 0] [0, 0] (by decide))⟩) ?_
    try simp (maxSteps := 2000000) (disch := omega) only [avR2, avA, datsOf, fillA, seval, ↓List.forall_mem_cons, Op.operands, hA, tiA, KeptS]
    first | exact ⟨rfl, rfl⟩ | ((repeat' first | refine And.intro ?_ ?_ | intro _) <;> first | with_reducible rfl | assumption | omega | rfl | (rename_i hq; rw [hq]; rfl) | (simp_all; done))
  apply al_true
  · exact rfl
  · simp (maxSteps := 2000000) (disch := omega) only [avR2, avA, datsOf, fillA, seval, ↓List.forall_mem_cons, Op.operands, hA, tiA, KeptS]
    first | exact ⟨rfl, rfl⟩ | ((repeat' first | refine And.intro ?_ ?_ | intro _) <;> first | with_reducible rfl | assumption | omega | rfl | (rename_i hq; rw [hq]; rfl) | (simp_all; done))
  apply al_last [9, 14, 19, 21, 22, 24] [9, 14, 19]
  · simp (maxSteps := 2000000) (disch := omega) only [avR2, avA, datsOf, fillA, seval, ↓List.forall_mem_cons, Op.operands, hA, tiA]
    (repeat' refine And.intro ?_ ?_) <;> try first | omega | assumption | with_reducible rfl | exact rfl | (intro hside; (repeat' refine And.intro ?_ ?_) <;> first | exact hside | omega | (rw [hside]; rfl) | (simp_all; done))
    refine CallGC.use rfl (fun hg => ⟨by simp_all [gdAll], gvF hP hG (same_ok gG [1, 1] [1, 1] (by decide))⟩) ?_
    try simp (maxSteps := 2000000) (disch := omega) only [avR2, avA, datsOf, fillA, seval, ↓List.forall_mem_cons, Op.operands, hA, tiA]
    first | exact ⟨rfl, rfl⟩ | ((repeat' first | refine And.intro ?_ ?_ | intro _) <;> first | with_reducible rfl | assumption | omega | rfl | (rename_i hq; rw [hq]; rfl) | (simp_all; done))
  apply q_seq
  apply aw_regs [0] []
  · simp (maxSteps := 2000000) (disch := omega) only [avR2, avA, datsOf, fillA, seval, ↓List.forall_mem_cons, Op.operands, hA, tiA, eq50]
    first | exact ⟨rfl, rfl⟩ | ((repeat' first | refine And.intro ?_ ?_ | intro _) <;> first | with_reducible rfl | assumption | omega | rfl | (rename_i hq; rw [hq]; rfl) | (simp_all; done))
  apply aw_ret
  simp only [QRet, QRetM, QRetX, retsX_nil, retsX_cons, objsAre, Tryd.results20, resA, mapO_nil, mapO_cons, vD_dat, vD_nils, vD_rp, vD_osl, vD_ptr, vD_agg, vD_fn, vL_dat, vL_app, viewL, avA, datsOf, fillA, seval, ↓List.forall_mem_cons, Op.operands, hP, hG, tiA]
  simp
  

end Go.Proofs.YthcfjdkflmkhbaaDoor

namespace Go.Proofs.YthcfjdkflmkhbaaDoor
open Go.Av

/-- The rows of a case, of which the one with the number k is an object. -/
def yRow (c : CaseM) (k i : Nat) : List AV := (List.range i).map fun j => if j = k then AV.osl 40 2 0 (c.items.getD k default).length else .dat (osD (c.items.getD j default))
def kRow (c : CaseM) (k i : Nat) : List (Int × Int) := if k < i then c.items.getD k default else []
theorem yRow_len (c : CaseM) (k i : Nat) : (yRow c k i).length = i := by simp [yRow]
theorem yRow_zero (c : CaseM) (k : Nat) : yRow c k 0 = [] := rfl
theorem kRow_zero (c : CaseM) (k : Nat) : kRow c k 0 = [] := by simp [kRow]
theorem yRow_kill (c : CaseM) (k i : Nat) {d : Nat} (h : 40 ≠ d) : (yRow c k i).map (AV.kill d) = yRow c k i := by
  simp only [yRow, List.map_map]
  apply List.map_congr_left
  intro j _
  simp only [Function.comp]
  split <;> simp [AV.kill, h]
theorem yRow_frz (c : CaseM) (k i : Nat) {d es : Nat} {ds : List Dat} (h : 40 ≠ d) : (yRow c k i).map (AV.frz d es ds) = yRow c k i := by
  simp only [yRow, List.map_map]
  apply List.map_congr_left
  intro j _
  simp only [Function.comp]
  split <;> simp [AV.frz, h]
theorem yRow_ren (c : CaseM) {k i : Nat} (m : Nat → Nat) (h : i ≤ k) : (yRow c k i).map (AV.ren m) = yRow c k i := by
  simp only [yRow, List.map_map]
  apply List.map_congr_left
  intro j hj
  have : j < i := by simpa using hj
  simp only [Function.comp]
  rw [if_neg (by omega)]
  rfl
theorem yRow_here (c : CaseM) (k : Nat) : yRow c k (k + 1) = yRow c k k ++ [.osl 40 2 0 (c.items.getD k default).length] := by simp [yRow, List.range_succ]
theorem yRow_else (c : CaseM) {k i : Nat} (h : i ≠ k) : yRow c k (i + 1) = yRow c k i ++ [.dat (osD (c.items.getD i default))] := by simp [yRow, List.range_succ, h]
theorem kRow_here (c : CaseM) (k : Nat) : kRow c k (k + 1) = c.items.getD k default := by simp [kRow]
theorem kRow_else (c : CaseM) {k i : Nat} (h : i ≠ k) : kRow c k (i + 1) = kRow c k i := by
  unfold kRow
  by_cases h1 : k < i
  · rw [if_pos h1, if_pos (by omega)]
  · rw [if_neg h1, if_neg (by omega)]
theorem kRow_low (c : CaseM) (k : Nat) : kRow c k k = [] := by simp [kRow]
theorem yRow_only (c : CaseM) (k i : Nat) (p : Nat → Bool) (h : p 40 = true) : onlyL p (yRow c k i) = true := by
  unfold yRow
  induction List.range i with
  | nil => rfl
  | cons j l ih =>
    simp only [List.map_cons, onlyL, ih, Bool.and_true]
    split
    · exact h
    · rfl


theorem own_okX (G) (c : CaseM) (hs : SzC c) : GivesX Tryd.prog G 14 [.dat (caseD c)] [] [.agg [.osl 57 1 0 c.items.length, .osl 10 1 0 c.weights.length, .dat (iD c.room)]] [(57, ⟨1, (c.items.map osD).map .dat⟩), (10, ⟨1, (c.weights.map iD).map .dat⟩)] := by
  have hni := hs.ni
  have hnw := hs.nw
  refine gives_introX' [] [] [10] Tryd.func14 rfl (by rfl) (by simp [Tryd.ntmps14]) (by kernel_rfl) (by simp [onlyL_nil, onlyL_cons, AV.only, inIds]) (by simp only [onlyOs, onlyL_nil, onlyL_cons, onlyL_append, onlyL_dats, onlyL_row, AV.only, Bool.and_true] <;> simp [inIds]) fun F hP hG hN hR => ?_
  rw [Tryd.ntmps14] at hN
  have hA := And.intro hN (And.intro hP (And.intro hG (And.intro hR.1 (And.intro hR.2.1 hR.2.2.1))))
  apply aw_regs [1, 2] [1, 2, 7, 10, 51, 52, 56, 57]
  · simp (disch := omega) only [avR2, avA, datsOf, fillA, seval, ↓List.forall_mem_cons, Op.operands, hA, tiA]
    first | exact ⟨rfl, rfl⟩ | ((repeat' first | refine And.intro ?_ ?_ | intro _) <;> first | with_reducible rfl | assumption | omega | rfl | (rename_i hq; rw [hq]; rfl) | (simp_all; done))
  apply aw_rgds [1, 2, 3] [1, 2, 3, 7, 10, 51, 52, 56, 57] [0, 1, 2, 3, 4, 5, 6, 7, 8] [10, 3]
  · rw [hP]; kernel_rfl
  · exact hR
  · kernel_rfl
  · (repeat (apply PickL.cons; exact rfl)); exact PickL.nil _
  · simp (disch := omega) only [avR2, avA, datsOf, fillA, seval, ↓List.forall_mem_cons, Op.operands, hA, tiA]
    first | exact ⟨rfl, rfl⟩ | ((repeat' first | refine And.intro ?_ ?_ | intro _) <;> first | with_reducible rfl | assumption | omega | rfl | (rename_i hq; rw [hq]; rfl) | (simp_all; done))
  apply aw_seq
  apply aw_regs [1, 2, 3, 4] [1, 2, 3, 7, 10, 51, 52, 56, 57]
  · simp (disch := omega) only [avR2, avA, datsOf, fillA, seval, ↓List.forall_mem_cons, Op.operands, hA, tiA]
    first | exact ⟨rfl, rfl⟩ | ((repeat' first | refine And.intro ?_ ?_ | intro _) <;> first | with_reducible rfl | assumption | omega | rfl | (rename_i hq; rw [hq]; rfl) | (simp_all; done))
  apply aw_block
  refine aw_new0 57 1 (by omega) ?_
  refine aw_nilO 3 57 1 0 rfl rfl rfl rfl ?_
  refine aw_loop (ι := {i : Nat // i ≤ c.items.length}) (fun ⟨i, hi⟩ => .of [(1, .ptr 1 3 0 0), (2, .ptr 2 3 0 0), (3, .ptr 3 3 0 0), (4, .dat (iD i))] [(1, ⟨3, [.dat (caseD c)]⟩), (2, ⟨3, [.agg [.nils, .nils, .dat (iD 0)]]⟩), (3, ⟨3, [.agg [.osl 57 1 0 i, .osl 10 1 0 c.weights.length, .dat (iD c.room)]]⟩), (10, ⟨1, (c.weights.map iD).map .dat⟩), (57, ⟨1, ((preM c.items i).map osD).map .dat⟩)]) (fun ⟨i, hi⟩ => c.items.length - i) (⟨0, by omega⟩) (Le.of ?_ ?_) fun ix => ?_
  · try simp (disch := omega) only [LeE, LeO, avA, datsOf, fillA, seval, ↓List.forall_mem_cons, Op.operands, preM_zero, preM_succ, preM_all, preM_len]
    all_goals first | done | (repeat' apply And.intro) <;> first | rfl | omega | assumption | (simp only [AV.dat.injEq, Dat.int.injEq, true_and]; omega) | (congr <;> omega)
  · try simp (disch := omega) only [LeE, LeO, avA, datsOf, fillA, seval, ↓List.forall_mem_cons, Op.operands, preM_zero, preM_succ, preM_all, preM_len]
    all_goals first | done | (repeat' apply And.intro) <;> first | rfl | omega | assumption | (simp only [AV.dat.injEq, Dat.int.injEq, true_and]; omega) | (congr <;> omega)
  obtain ⟨i, hi⟩ := ix
  dsimp only
  apply aw_seq
  apply aw_regs [1, 2, 3, 4, 18] [1, 2, 3, 7, 10, 51, 52, 56, 57]
  · simp (disch := omega) only [avR2, avA, datsOf, fillA, seval, ↓List.forall_mem_cons, Op.operands, hA, tiA]
    first | exact ⟨rfl, rfl⟩ | ((repeat' first | refine And.intro ?_ ?_ | intro _) <;> first | with_reducible rfl | assumption | omega | rfl | (rename_i hq; rw [hq]; rfl) | (simp_all; done))
  refine aw_if _ rfl (fun hb => ?_) (fun hb => ?_) <;> (try simp only [pickB_true, pickB_false, Bool.false_or, Bool.false_and, Bool.true_and, decide_eq_true_eq, decide_eq_false_iff_not, Bool.or_eq_true, Bool.and_eq_true, Bool.or_eq_false_iff, Bool.and_eq_false_imp, Bool.not_eq_true, Bool.not_eq_false, Bool.not_eq_eq_eq_not, Bool.not_true, Bool.not_false, Int.not_lt, Int.not_le, beq_iff_eq, beq_eq_false_iff_ne, bne_iff_ne, bne_eq_false_iff_eq, ne_eq, Bool.true_eq_false, Bool.false_eq_true, if_false_left, if_true_left, Bool.not_eq_eq_eq_not, Bool.decide_eq_true, Classical.not_not] at hb)
  · skip
    have hli := hs.nl i (by omega)
    simp only [itemM] at hli
    have hpl := preM_len c.items i (by omega)
    apply aw_skip
    apply q_seq
    apply aw_seq
    apply aw_block
    apply aw_regs [1, 2, 3, 4, 5] [1, 2, 3, 7, 10, 51, 52, 56, 57]
    · simp (disch := omega) only [avR2, avA, datsOf, fillA, seval, ↓List.forall_mem_cons, Op.operands, hA, tiA]
      first | exact ⟨rfl, rfl⟩ | ((repeat' first | refine And.intro ?_ ?_ | intro _) <;> first | with_reducible rfl | assumption | omega | rfl | (rename_i hq; rw [hq]; rfl) | (simp_all; done))
    apply aw_seq
    apply aw_regs [1, 2, 3, 4, 5, 6] [1, 2, 3, 7, 10, 51, 52, 56, 57]
    · simp (disch := omega) only [avR2, avA, datsOf, fillA, seval, ↓List.forall_mem_cons, Op.operands, hA, tiA]
      first | exact ⟨rfl, rfl⟩ | ((repeat' first | refine And.intro ?_ ?_ | intro _) <;> first | with_reducible rfl | assumption | omega | rfl | (rename_i hq; rw [hq]; rfl) | (simp_all; done))
    apply aw_block
    refine aw_new0 52 2 (by omega) ?_
    refine aw_nilE 5 52 2 rfl rfl ?_
    refine aw_loop (ι := {k : Nat // k ≤ (c.items.getD i default).length}) (fun ⟨k, hk⟩ => .of [(1, .ptr 1 3 0 0), (2, .ptr 2 3 0 0), (3, .ptr 3 3 0 0), (4, .dat (iD i)), (5, .osl 52 2 0 k), (6, .dat (iD k))] [(1, ⟨3, [.dat (caseD c)]⟩), (2, ⟨3, [.agg [.nils, .nils, .dat (iD 0)]]⟩), (3, ⟨3, [.agg [.osl 57 1 0 i, .osl 10 1 0 c.weights.length, .dat (iD c.room)]]⟩), (10, ⟨1, (c.weights.map iD).map .dat⟩), (57, ⟨1, ((preM c.items i).map osD).map .dat⟩), (52, ⟨2, ((preM (c.items.getD i default) k).map oD).map .dat⟩)]) (fun ⟨k, hk⟩ => (c.items.getD i default).length - k) (⟨0, by omega⟩) (Le.of ?_ ?_) fun ix => ?_
    · try simp (disch := omega) only [LeE, LeO, avA, datsOf, fillA, seval, ↓List.forall_mem_cons, Op.operands, preM_zero, preM_succ]
      all_goals first | done | (repeat' apply And.intro) <;> first | rfl | omega | assumption | (simp only [AV.dat.injEq, Dat.int.injEq, true_and]; omega) | (congr <;> omega)
    · try simp (disch := omega) only [LeE, LeO, avA, datsOf, fillA, seval, ↓List.forall_mem_cons, Op.operands, preM_zero, preM_succ]
      all_goals first | done | (repeat' apply And.intro) <;> first | rfl | omega | assumption | (simp only [AV.dat.injEq, Dat.int.injEq, true_and]; omega) | (congr <;> omega)
    obtain ⟨k, hk⟩ := ix
    dsimp only
    apply aw_seq
    apply aw_regs [1, 2, 3, 4, 5, 6, 28] [1, 2, 3, 7, 10, 51, 52, 56, 57]
    · simp (disch := omega) only [avR2, avA, datsOf, fillA, seval, ↓List.forall_mem_cons, Op.operands, hA, tiA]
      first | exact ⟨rfl, rfl⟩ | ((repeat' first | refine And.intro ?_ ?_ | intro _) <;> first | with_reducible rfl | assumption | omega | rfl | (rename_i hq; rw [hq]; rfl) | (simp_all; done))
    refine aw_if _ rfl (fun hb => ?_) (fun hb => ?_) <;> (try simp only [pickB_true, pickB_false, Bool.false_or, Bool.false_and, Bool.true_and, decide_eq_true_eq, decide_eq_false_iff_not, Bool.or_eq_true, Bool.and_eq_true, Bool.or_eq_false_iff, Bool.and_eq_false_imp, Bool.not_eq_true, Bool.not_eq_false, Bool.not_eq_eq_eq_not, Bool.not_true, Bool.not_false, Int.not_lt, Int.not_le, beq_iff_eq, beq_eq_false_iff_ne, bne_iff_ne, bne_eq_false_iff_eq, ne_eq, Bool.true_eq_false, Bool.false_eq_true, if_false_left, if_true_left, Bool.not_eq_eq_eq_not, Bool.decide_eq_true, Classical.not_not] at hb)
    · skip
      have hpk := preM_len (c.items.getD i default) k (by omega)
      apply aw_skip
      apply q_seq
      apply aw_seq
      apply aw_block
      apply aw_rgd [1, 2, 3, 4, 5, 6] [1, 2, 3, 7, 10, 51, 52, 56, 57] [0, 1, 2, 3, 4, 5, 6, 7, 8, 9, 10, 11, 12, 13, 14, 15, 16, 17, 18, 19, 20, 21, 22] []
      · rw [hP]; kernel_rfl
      · exact hR
      · kernel_rfl
      · (repeat (apply PickL.cons; exact rfl)); exact PickL.nil _
      · simp (maxSteps := 2000000) (disch := omega) only [avR2, avA, datsOf, fillA, seval, ↓List.forall_mem_cons, Op.operands, hA, tiA, preM_len]
        first | exact ⟨rfl, rfl⟩ | ((repeat' first | refine And.intro ?_ ?_ | intro _) <;> first | with_reducible rfl | assumption | omega | rfl | (rename_i hq; rw [hq]; rfl) | (simp_all; done))
      apply q_block
      apply q_seq
      apply aw_reg [1, 2, 3, 4, 5, 6] [1, 2, 3, 7, 10, 51, 52, 56, 57]
      · simp (disch := omega) only [avR2, avA, datsOf, fillA, seval, ↓List.forall_mem_cons, Op.operands, hA, tiA]
        first | exact ⟨rfl, rfl⟩ | ((repeat' first | refine And.intro ?_ ?_ | intro _) <;> first | with_reducible rfl | assumption | omega | rfl | (rename_i hq; rw [hq]; rfl) | (simp_all; done))
      refine q_loop (⟨k + 1, by omega⟩) (Le.of ?_ ?_) (by dsimp only; omega)
      · try simp (disch := omega) only [LeE, LeO, avA, datsOf, fillA, seval, ↓List.forall_mem_cons, Op.operands, preM_zero, preM_succ]
        all_goals first | done | (repeat' apply And.intro) <;> first | rfl | omega | assumption | (simp only [AV.dat.injEq, Dat.int.injEq, true_and]; omega) | (congr <;> omega)
      · try simp (disch := omega) only [LeE, LeO, avA, datsOf, fillA, seval, ↓List.forall_mem_cons, Op.operands, preM_zero, preM_succ]
        all_goals first | done | (repeat' apply And.intro) <;> first | rfl | omega | assumption | (simp only [AV.dat.injEq, Dat.int.injEq, true_and]; omega) | (congr <;> omega)
    · skip
      have hkk : k = (c.items.getD i default).length := by omega
      subst hkk
      refine aw_frzX 52 hR.2.2.2 rfl (datE_map _) rfl ?_
      apply aw_exit
      apply q_exit_seq
      apply q_exit_loop
      apply q_exit
      apply q_seq
      apply aw_reg [1, 2, 3, 4] [1, 2, 3, 7, 10, 51, 52, 56, 57]
      · simp (disch := omega) only [avR2, avA, datsOf, fillA, seval, ↓List.forall_mem_cons, Op.operands, hA, tiA, preM_len, preM_all]
        first | exact ⟨rfl, rfl⟩ | ((repeat' first | refine And.intro ?_ ?_ | intro _) <;> first | with_reducible rfl | assumption | omega | rfl | (rename_i hq; rw [hq]; rfl) | (simp_all; done))
      apply q_block
      apply q_seq
      apply aw_reg [1, 2, 3, 4] [1, 2, 3, 7, 10, 51, 52, 56, 57]
      · simp (disch := omega) only [avR2, avA, datsOf, fillA, seval, ↓List.forall_mem_cons, Op.operands, hA, tiA]
        first | exact ⟨rfl, rfl⟩ | ((repeat' first | refine And.intro ?_ ?_ | intro _) <;> first | with_reducible rfl | assumption | omega | rfl | (rename_i hq; rw [hq]; rfl) | (simp_all; done))
      refine q_loop (⟨i + 1, by omega⟩) (Le.of ?_ ?_) (by dsimp only; omega)
      · try simp (disch := omega) only [LeE, LeO, avA, datsOf, fillA, seval, ↓List.forall_mem_cons, Op.operands, preM_zero, preM_succ, preM_all, preM_len]
        all_goals first | done | (repeat' apply And.intro) <;> first | rfl | omega | assumption | (simp only [AV.dat.injEq, Dat.int.injEq, true_and]; omega) | (congr <;> omega)
      · try simp (disch := omega) only [LeE, LeO, avA, datsOf, fillA, seval, ↓List.forall_mem_cons, Op.operands, preM_zero, preM_succ, preM_all, preM_len]
        all_goals first | done | (repeat' apply And.intro) <;> first | rfl | omega | assumption | (simp only [AV.dat.injEq, Dat.int.injEq, true_and]; omega) | (congr <;> omega)
  · skip
    have hii : i = c.items.length := by omega
    subst hii
    apply aw_exit
    apply q_exit_seq
    apply q_exit_loop
    apply q_exit
    apply q_seq
    apply aw_regs [2] [2, 7, 10, 51, 52, 56, 57]
    · simp (disch := omega) only [avR2, avA, datsOf, fillA, seval, ↓List.forall_mem_cons, Op.operands, hA, tiA]
      first | exact ⟨rfl, rfl⟩ | ((repeat' first | refine And.intro ?_ ?_ | intro _) <;> first | with_reducible rfl | assumption | omega | rfl | (rename_i hq; rw [hq]; rfl) | (simp_all; done))
    apply aw_ret
    simp only [QRet, QRetM, QRetX, retsX_nil, retsX_cons, objsAre, Tryd.results14, resA, mapO_nil, mapO_cons, vD_dat, vD_nils, vD_rp, vD_osl, vD_ptr, vD_agg, vD_fn, vL_dat, vL_app, viewL, avA, datsOf, fillA, seval, ↓List.forall_mem_cons, Op.operands, hP, hG, tiA]
    simp [preM_all]
    

theorem own_okK (G) (c : CaseM) (kk : Nat) (hs : SzC c) : GivesX Tryd.prog G 14 [.dat (caseD c)] [] [.agg [.osl 57 1 0 c.items.length, .osl 10 1 0 c.weights.length, .dat (iD c.room)]] [(57, ⟨1, yRow c kk c.items.length⟩), (10, ⟨1, (c.weights.map iD).map .dat⟩), (40, ⟨2, ((kRow c kk c.items.length).map oD).map .dat⟩)] := by
  have hni := hs.ni
  have hnw := hs.nw
  have hst : (0 : Nat) = 0 := rfl
  have hst2 : (0 : Nat) = 0 := rfl
  skip
  refine gives_introX' [56] [] [10] Tryd.func14 rfl (by rfl) (by simp [Tryd.ntmps14]) (by kernel_rfl) (by simp [onlyL_nil, onlyL_cons, AV.only, inIds]) (by simp only [onlyOs, onlyL_nil, onlyL_cons, onlyL_append, onlyL_dats, onlyL_row, AV.only, Bool.and_true] <;> simp [inIds, yRow_only]) fun F hP hG hN hR => ?_
  rw [Tryd.ntmps14] at hN
  have hA := And.intro hN (And.intro hP (And.intro hG (And.intro hR.1 (And.intro hR.2.1 hR.2.2.1))))
  apply aw_regs [1, 2] [1, 2, 7, 10, 51, 52, 56, 57, 40]
  · simp (disch := omega) only [avR2, avA, datsOf, fillA, seval, ↓List.forall_mem_cons, Op.operands, hA, tiA]
    first | exact ⟨rfl, rfl⟩ | ((repeat' first | refine And.intro ?_ ?_ | intro _) <;> first | with_reducible rfl | assumption | omega | rfl | (rename_i hq; rw [hq]; rfl) | (simp_all; done))
  apply aw_rgds [1, 2, 3] [1, 2, 3, 7, 10, 51, 52, 56, 57, 40] [0, 1, 2, 3, 4, 5, 6, 7, 8] [10, 3]
  · rw [hP]; kernel_rfl
  · exact hR
  · kernel_rfl
  · (repeat (apply PickL.cons; exact rfl)); exact PickL.nil _
  · simp (disch := omega) only [avR2, avA, datsOf, fillA, seval, ↓List.forall_mem_cons, Op.operands, hA, tiA]
    first | exact ⟨rfl, rfl⟩ | ((repeat' first | refine And.intro ?_ ?_ | intro _) <;> first | with_reducible rfl | assumption | omega | rfl | (rename_i hq; rw [hq]; rfl) | (simp_all; done))
  apply aw_seq
  apply aw_regs [1, 2, 3, 4] [1, 2, 3, 7, 10, 51, 52, 56, 57, 40]
  · simp (disch := omega) only [avR2, avA, datsOf, fillA, seval, ↓List.forall_mem_cons, Op.operands, hA, tiA]
    first | exact ⟨rfl, rfl⟩ | ((repeat' first | refine And.intro ?_ ?_ | intro _) <;> first | with_reducible rfl | assumption | omega | rfl | (rename_i hq; rw [hq]; rfl) | (simp_all; done))
  apply aw_block
  refine aw_new0 57 1 (by omega) ?_
  refine aw_nilO 3 57 1 0 rfl rfl rfl rfl ?_
  refine aw_new0 40 2 (by omega) ?_
  refine aw_loop (ι := {i : Nat // i ≤ c.items.length}) (fun ⟨i, hi⟩ => .of [(1, .ptr 1 3 0 0), (2, .ptr 2 3 0 0), (3, .ptr 3 3 0 0), (4, .dat (iD i))] [(1, ⟨3, [.dat (caseD c)]⟩), (2, ⟨3, [.agg [.nils, .nils, .dat (iD 0)]]⟩), (3, ⟨3, [.agg [.osl 57 1 0 i, .osl 10 1 0 c.weights.length, .dat (iD c.room)]]⟩), (10, ⟨1, (c.weights.map iD).map .dat⟩), (57, ⟨1, yRow c kk i⟩), (40, ⟨2, ((kRow c kk i).map oD).map .dat⟩)]) (fun ⟨i, hi⟩ => c.items.length - i) (⟨0, by omega⟩) (Le.of ?_ ?_) fun ix => ?_
  · try simp (disch := omega) only [LeE, LeO, avA, datsOf, fillA, seval, ↓List.forall_mem_cons, Op.operands, hst, hst2, yRow_zero, kRow_zero, List.map_nil]
    all_goals first | done | (repeat' apply And.intro) <;> first | rfl | omega | assumption | (simp only [AV.dat.injEq, Dat.int.injEq, true_and]; omega) | (congr <;> omega)
  · try simp (disch := omega) only [LeE, LeO, avA, datsOf, fillA, seval, ↓List.forall_mem_cons, Op.operands, hst, hst2, yRow_zero, kRow_zero, List.map_nil]
    all_goals first | done | (repeat' apply And.intro) <;> first | rfl | omega | assumption | (simp only [AV.dat.injEq, Dat.int.injEq, true_and]; omega) | (congr <;> omega)
  obtain ⟨i, hi⟩ := ix
  dsimp only
  apply aw_seq
  apply aw_regs [1, 2, 3, 4, 18] [1, 2, 3, 7, 10, 51, 52, 56, 57, 40]
  · simp (disch := omega) only [avR2, avA, datsOf, fillA, seval, ↓List.forall_mem_cons, Op.operands, hA, tiA]
    first | exact ⟨rfl, rfl⟩ | ((repeat' first | refine And.intro ?_ ?_ | intro _) <;> first | with_reducible rfl | assumption | omega | rfl | (rename_i hq; rw [hq]; rfl) | (simp_all; done))
  refine aw_if _ rfl (fun hb => ?_) (fun hb => ?_) <;> (try simp only [pickB_true, pickB_false, Bool.false_or, Bool.false_and, Bool.true_and, decide_eq_true_eq, decide_eq_false_iff_not, Bool.or_eq_true, Bool.and_eq_true, Bool.or_eq_false_iff, Bool.and_eq_false_imp, Bool.not_eq_true, Bool.not_eq_false, Bool.not_eq_eq_eq_not, Bool.not_true, Bool.not_false, Int.not_lt, Int.not_le, beq_iff_eq, beq_eq_false_iff_ne, bne_iff_ne, bne_eq_false_iff_eq, ne_eq, Bool.true_eq_false, Bool.false_eq_true, if_false_left, if_true_left, Bool.not_eq_eq_eq_not, Bool.decide_eq_true, Classical.not_not] at hb)
  · skip
    have hli := hs.nl i (by omega)
    simp only [itemM] at hli
    have hyl := yRow_len c kk i
    apply aw_skip
    apply q_seq
    apply aw_seq
    apply aw_block
    apply aw_regs [1, 2, 3, 4, 5] [1, 2, 3, 7, 10, 51, 52, 56, 57, 40]
    · simp (disch := omega) only [avR2, avA, datsOf, fillA, seval, ↓List.forall_mem_cons, Op.operands, hA, tiA]
      first | exact ⟨rfl, rfl⟩ | ((repeat' first | refine And.intro ?_ ?_ | intro _) <;> first | with_reducible rfl | assumption | omega | rfl | (rename_i hq; rw [hq]; rfl) | (simp_all; done))
    apply aw_seq
    apply aw_regs [1, 2, 3, 4, 5, 6] [1, 2, 3, 7, 10, 51, 52, 56, 57, 40]
    · simp (disch := omega) only [avR2, avA, datsOf, fillA, seval, ↓List.forall_mem_cons, Op.operands, hA, tiA]
      first | exact ⟨rfl, rfl⟩ | ((repeat' first | refine And.intro ?_ ?_ | intro _) <;> first | with_reducible rfl | assumption | omega | rfl | (rename_i hq; rw [hq]; rfl) | (simp_all; done))
    apply aw_block
    refine aw_new0 52 2 (by omega) ?_
    refine aw_nilE 5 52 2 rfl rfl ?_
    refine aw_loop (ι := {k : Nat // k ≤ (c.items.getD i default).length}) (fun ⟨k, hk⟩ => .of [(1, .ptr 1 3 0 0), (2, .ptr 2 3 0 0), (3, .ptr 3 3 0 0), (4, .dat (iD i)), (5, .osl 52 2 0 k), (6, .dat (iD k))] [(1, ⟨3, [.dat (caseD c)]⟩), (2, ⟨3, [.agg [.nils, .nils, .dat (iD 0)]]⟩), (3, ⟨3, [.agg [.osl 57 1 0 i, .osl 10 1 0 c.weights.length, .dat (iD c.room)]]⟩), (10, ⟨1, (c.weights.map iD).map .dat⟩), (57, ⟨1, yRow c kk i⟩), (40, ⟨2, ((kRow c kk i).map oD).map .dat⟩), (52, ⟨2, ((preM (c.items.getD i default) k).map oD).map .dat⟩)]) (fun ⟨k, hk⟩ => (c.items.getD i default).length - k) (⟨0, by omega⟩) (Le.of ?_ ?_) fun ix => ?_
    · try simp (disch := omega) only [LeE, LeO, avA, datsOf, fillA, seval, ↓List.forall_mem_cons, Op.operands, preM_zero, preM_succ, yRow_kill]
      all_goals first | done | (repeat' apply And.intro) <;> first | rfl | omega | assumption | (simp only [AV.dat.injEq, Dat.int.injEq, true_and]; omega) | (congr <;> omega)
    · try simp (disch := omega) only [LeE, LeO, avA, datsOf, fillA, seval, ↓List.forall_mem_cons, Op.operands, preM_zero, preM_succ, yRow_kill]
      all_goals first | done | (repeat' apply And.intro) <;> first | rfl | omega | assumption | (simp only [AV.dat.injEq, Dat.int.injEq, true_and]; omega) | (congr <;> omega)
    obtain ⟨k, hk⟩ := ix
    dsimp only
    apply aw_seq
    apply aw_regs [1, 2, 3, 4, 5, 6, 28] [1, 2, 3, 7, 10, 51, 52, 56, 57, 40]
    · simp (disch := omega) only [avR2, avA, datsOf, fillA, seval, ↓List.forall_mem_cons, Op.operands, hA, tiA]
      first | exact ⟨rfl, rfl⟩ | ((repeat' first | refine And.intro ?_ ?_ | intro _) <;> first | with_reducible rfl | assumption | omega | rfl | (rename_i hq; rw [hq]; rfl) | (simp_all; done))
    refine aw_if _ rfl (fun hb => ?_) (fun hb => ?_) <;> (try simp only [pickB_true, pickB_false, Bool.false_or, Bool.false_and, Bool.true_and, decide_eq_true_eq, decide_eq_false_iff_not, Bool.or_eq_true, Bool.and_eq_true, Bool.or_eq_false_iff, Bool.and_eq_false_imp, Bool.not_eq_true, Bool.not_eq_false, Bool.not_eq_eq_eq_not, Bool.not_true, Bool.not_false, Int.not_lt, Int.not_le, beq_iff_eq, beq_eq_false_iff_ne, bne_iff_ne, bne_eq_false_iff_eq, ne_eq, Bool.true_eq_false, Bool.false_eq_true, if_false_left, if_true_left, Bool.not_eq_eq_eq_not, Bool.decide_eq_true, Classical.not_not] at hb)
    · skip
      have hpk := preM_len (c.items.getD i default) k (by omega)
      apply aw_skip
      apply q_seq
      apply aw_seq
      apply aw_block
      apply aw_rgd [1, 2, 3, 4, 5, 6] [1, 2, 3, 7, 10, 51, 52, 56, 57, 40] [0, 1, 2, 3, 4, 5, 6, 7, 8, 9, 10, 11, 12, 13, 14, 15, 16, 17, 18, 19, 20, 21, 22] []
      · rw [hP]; kernel_rfl
      · exact hR
      · kernel_rfl
      · (repeat (apply PickL.cons; exact rfl)); exact PickL.nil _
      · simp (maxSteps := 2000000) (disch := omega) only [avR2, avA, datsOf, fillA, seval, ↓List.forall_mem_cons, Op.operands, hA, tiA, preM_len, yRow_kill]
        first | exact ⟨rfl, rfl⟩ | ((repeat' first | refine And.intro ?_ ?_ | intro _) <;> first | with_reducible rfl | assumption | omega | rfl | (rename_i hq; rw [hq]; rfl) | (simp_all; done))
      apply q_block
      apply q_seq
      apply aw_reg [1, 2, 3, 4, 5, 6] [1, 2, 3, 7, 10, 51, 52, 56, 57, 40]
      · simp (disch := omega) only [avR2, avA, datsOf, fillA, seval, ↓List.forall_mem_cons, Op.operands, hA, tiA]
        first | exact ⟨rfl, rfl⟩ | ((repeat' first | refine And.intro ?_ ?_ | intro _) <;> first | with_reducible rfl | assumption | omega | rfl | (rename_i hq; rw [hq]; rfl) | (simp_all; done))
      refine q_loop (⟨k + 1, by omega⟩) (Le.of ?_ ?_) (by dsimp only; omega)
      · try simp (disch := omega) only [LeE, LeO, avA, datsOf, fillA, seval, ↓List.forall_mem_cons, Op.operands, preM_zero, preM_succ, yRow_kill]
        all_goals first | done | (repeat' apply And.intro) <;> first | rfl | omega | assumption | (simp only [AV.dat.injEq, Dat.int.injEq, true_and]; omega) | (congr <;> omega)
      · try simp (disch := omega) only [LeE, LeO, avA, datsOf, fillA, seval, ↓List.forall_mem_cons, Op.operands, preM_zero, preM_succ, yRow_kill]
        all_goals first | done | (repeat' apply And.intro) <;> first | rfl | omega | assumption | (simp only [AV.dat.injEq, Dat.int.injEq, true_and]; omega) | (congr <;> omega)
    · skip
      have hkk : k = (c.items.getD i default).length := by omega
      subst hkk
      apply aw_exit
      apply q_exit_seq
      apply q_exit_loop
      apply q_exit
      apply q_seq
      by_cases hik : i = kk
      · skip
        subst hik
        have hst := yRow_here c i
        have hst2 := kRow_here c i
        refine aw_swap 52 40 (by omega) (by omega) ?_
        apply aw_reg [1, 2, 3, 4] [1, 2, 3, 7, 10, 51, 52, 56, 57, 40]
        · simp (disch := omega) only [avR2, avA, datsOf, fillA, seval, ↓List.forall_mem_cons, Op.operands, hA, tiA, yRow_len, preM_all, yRow_kill, yRow_frz, yRow_ren c _ (Nat.le_refl _), kRow_low, List.map_append, List.map_nil]
          first | exact ⟨rfl, rfl⟩ | ((repeat' first | refine And.intro ?_ ?_ | intro _) <;> first | with_reducible rfl | assumption | omega | rfl | (rename_i hq; rw [hq]; rfl) | (simp_all; done))
        apply q_block
        apply q_seq
        apply aw_reg [1, 2, 3, 4] [1, 2, 3, 7, 10, 51, 52, 56, 57, 40]
        · simp (disch := omega) only [avR2, avA, datsOf, fillA, seval, ↓List.forall_mem_cons, Op.operands, hA, tiA]
          first | exact ⟨rfl, rfl⟩ | ((repeat' first | refine And.intro ?_ ?_ | intro _) <;> first | with_reducible rfl | assumption | omega | rfl | (rename_i hq; rw [hq]; rfl) | (simp_all; done))
        refine q_loop (⟨i + 1, by omega⟩) (Le.of ?_ ?_) (by dsimp only; omega)
        · try simp (disch := omega) only [LeE, LeO, avA, datsOf, fillA, seval, ↓List.forall_mem_cons, Op.operands, hst, hst2, yRow_zero, kRow_zero, List.map_nil]
          all_goals first | done | (repeat' apply And.intro) <;> first | rfl | omega | assumption | (simp only [AV.dat.injEq, Dat.int.injEq, true_and]; omega) | (congr <;> omega)
        · try simp (disch := omega) only [LeE, LeO, avA, datsOf, fillA, seval, ↓List.forall_mem_cons, Op.operands, hst, hst2, yRow_zero, kRow_zero, List.map_nil]
          all_goals first | done | (repeat' apply And.intro) <;> first | rfl | omega | assumption | (simp only [AV.dat.injEq, Dat.int.injEq, true_and]; omega) | (congr <;> omega)
      · skip
        have hst := yRow_else c hik
        have hst2 := kRow_else c hik
        refine aw_frzX 52 hR.2.2.2 rfl (datE_map _) rfl ?_
        apply aw_reg [1, 2, 3, 4] [1, 2, 3, 7, 10, 51, 52, 56, 57, 40]
        · simp (disch := omega) only [avR2, avA, datsOf, fillA, seval, ↓List.forall_mem_cons, Op.operands, hA, tiA, yRow_len, preM_all, yRow_kill, yRow_frz, yRow_ren c _ (Nat.le_refl _), kRow_low, List.map_append, List.map_nil]
          first | exact ⟨rfl, rfl⟩ | ((repeat' first | refine And.intro ?_ ?_ | intro _) <;> first | with_reducible rfl | assumption | omega | rfl | (rename_i hq; rw [hq]; rfl) | (simp_all; done))
        apply q_block
        apply q_seq
        apply aw_reg [1, 2, 3, 4] [1, 2, 3, 7, 10, 51, 52, 56, 57, 40]
        · simp (disch := omega) only [avR2, avA, datsOf, fillA, seval, ↓List.forall_mem_cons, Op.operands, hA, tiA]
          first | exact ⟨rfl, rfl⟩ | ((repeat' first | refine And.intro ?_ ?_ | intro _) <;> first | with_reducible rfl | assumption | omega | rfl | (rename_i hq; rw [hq]; rfl) | (simp_all; done))
        refine q_loop (⟨i + 1, by omega⟩) (Le.of ?_ ?_) (by dsimp only; omega)
        · try simp (disch := omega) only [LeE, LeO, avA, datsOf, fillA, seval, ↓List.forall_mem_cons, Op.operands, hst, hst2, yRow_zero, kRow_zero, List.map_nil]
          all_goals first | done | (repeat' apply And.intro) <;> first | rfl | omega | assumption | (simp only [AV.dat.injEq, Dat.int.injEq, true_and]; omega) | (congr <;> omega)
        · try simp (disch := omega) only [LeE, LeO, avA, datsOf, fillA, seval, ↓List.forall_mem_cons, Op.operands, hst, hst2, yRow_zero, kRow_zero, List.map_nil]
          all_goals first | done | (repeat' apply And.intro) <;> first | rfl | omega | assumption | (simp only [AV.dat.injEq, Dat.int.injEq, true_and]; omega) | (congr <;> omega)
  · skip
    have hii : i = c.items.length := by omega
    subst hii
    
    apply aw_exit
    apply q_exit_seq
    apply q_exit_loop
    apply q_exit
    apply q_seq
    apply aw_regs [2] [2, 7, 10, 51, 52, 56, 57, 40]
    · simp (disch := omega) only [avR2, avA, datsOf, fillA, seval, ↓List.forall_mem_cons, Op.operands, hA, tiA]
      first | exact ⟨rfl, rfl⟩ | ((repeat' first | refine And.intro ?_ ?_ | intro _) <;> first | with_reducible rfl | assumption | omega | rfl | (rename_i hq; rw [hq]; rfl) | (simp_all; done))
    apply aw_ret
    simp only [QRet, QRetM, QRetX, retsX_nil, retsX_cons, objsAre, Tryd.results14, resA, mapO_nil, mapO_cons, vD_dat, vD_nils, vD_rp, vD_osl, vD_ptr, vD_agg, vD_fn, vL_dat, vL_app, viewL, avA, datsOf, fillA, seval, ↓List.forall_mem_cons, Op.operands, hP, hG, tiA]

end Go.Proofs.YthcfjdkflmkhbaaDoor

namespace Go.Proofs.YthcfjdkflmkhbaaDoor
open Go.Av

section
variable (c : CaseM) (p q : Int)
/-- The least value so far, or -1. -/
def lsN (i k : Nat) : Int := if k = 0 then -1 else minV c p q i k
variable {c p q}
theorem lsN_zero (i : Nat) : lsN c p q i 0 = -1 := rfl
theorem lsN_succ (hc : OkC c) (hpq : okPQ p q) {i : Nat} (hi : i < c.items.length) {k : Nat} (hk : k < (c.items.getD i default).length) :
    lsN c p q i (k + 1) = if lsN c p q i k < 0 ∨ valM c p q i ((c.items.getD i default).getD k default) < lsN c p q i k then valM c p q i ((c.items.getD i default).getD k default) else lsN c p q i k := by
  unfold lsN
  rw [if_neg (by omega)]
  by_cases h : k = 0
  · subst h
    simp [minV]
  · rw [if_neg h]
    have := minV_range hc hpq hi k (by omega)
    simp only [minV]
    by_cases h2 : valM c p q i ((c.items.getD i default).getD k default) < minV c p q i k
    · rw [if_pos h2, if_pos (.inr h2)]
    · rw [if_neg h2, if_neg (by omega)]
theorem val_eq (i : Nat) (o : Int × Int) : o.2 * c.weights.getD i default * q + o.1 * p = valM c p q i o := by
  unfold valM
  rw [Int.mul_comm (o.2 * c.weights.getD i default) q, Int.mul_comm o.2, ← Int.mul_assoc, Int.mul_comm o.1 p]
theorem room_eq : (0 - c.room) * p = bndM c p q 0 := by
  simp only [bndM, Int.zero_sub, Int.neg_mul]
  rw [Int.mul_comm]
end

theorem shAt_one (l : List (Int × Int)) : shAt l 1 = 0 := by
  simp [shAt]
theorem fits_iff {c : CaseM} : (decide (linesM c (shortM c c.items.length) (shortM c c.items.length).length ≤ c.room)) = !decide (c.room < linesM c (shortM c c.items.length) (shortM c c.items.length).length) := by
  by_cases h : c.room < linesM c (shortM c c.items.length) (shortM c c.items.length).length
  · simp [h, Int.not_le.2 h]
  · simp [h, Int.not_lt.1 h]

end Go.Proofs.YthcfjdkflmkhbaaDoor

namespace Go.Proofs.YthcfjdkflmkhbaaDoor
open Go.Av

/-- The better one of a certificate and that of a price in lowest terms. -/
def tryQ (c : CaseM) (best : Int × Int × Int) (e : Int × Int) : Int × Int × Int :=
  if 0 < (boundM c e.1 e.2).2.2 * best.2.1 - best.2.2 * (boundM c e.1 e.2).2.1 ∨
    ((boundM c e.1 e.2).2.2 * best.2.1 - best.2.2 * (boundM c e.1 e.2).2.1 = 0 ∧ (boundM c e.1 e.2).1 * best.2.1 < best.1 * (boundM c e.1 e.2).2.1) then boundM c e.1 e.2
  else best
def lowM (p q : Nat) : Int × Int := ((p : Int).tdiv (Nat.gcd p q : Nat), (q : Int).tdiv (Nat.gcd p q : Nat))
theorem tryM_eq (c : CaseM) (best : Int × Int × Int) (p q : Nat) : tryM c best p q = tryQ c best (lowM p q) := rfl

section
variable (c : CaseM)
def eC (i a : Nat) : Nat → List (Int × Int)
  | 0 => []
  | b + 1 => if 0 < dP c i a b ∧ 0 < dQ c i a b then eC i a b ++ [lowM (dP c i a b).toNat (dQ c i a b).toNat] else eC i a b
def eB (i : Nat) : Nat → List (Int × Int)
  | 0 => []
  | a + 1 => eB i a ++ eC c i a (c.items.getD i default).length
def eA : Nat → List (Int × Int)
  | 0 => []
  | i + 1 => eA i ++ eB c i (c.items.getD i default).length
theorem dC_fold (i a : Nat) (x : Int × Int × Int) : ∀ b, dC c i a x b = (eC c i a b).foldl (tryQ c) x
  | 0 => rfl
  | b + 1 => by
    have ih := dC_fold i a x b
    have hd : dQ c i a b = ((c.items.getD i default).getD b default).1 - ((c.items.getD i default).getD a default).1 := rfl
    simp only [dC, eC]
    by_cases h : 0 < dP c i a b ∧ 0 < dQ c i a b
    · rw [if_pos h, if_pos (by omega), List.foldl_append, ← ih, tryM_eq]
      rfl
    · rw [if_neg h, if_neg (by omega), ih]
theorem dB_fold (i : Nat) (x : Int × Int × Int) : ∀ a, dB c i x a = (eB c i a).foldl (tryQ c) x
  | 0 => rfl
  | a + 1 => by
    simp only [dB, eB, List.foldl_append]
    rw [← dB_fold i x a, dC_fold]
theorem dA_fold : ∀ i, dA c i = (eA c i).foldl (tryQ c) (boundM c 0 1)
  | 0 => rfl
  | i + 1 => by
    simp only [dA, eA, List.foldl_append]
    rw [← dA_fold i, dB_fold]
/-- The prices. -/
def prM (i a b : Nat) : List (Int × Int) := (0, 1) :: (eA c i ++ (eB c i a ++ eC c i a b))
def pricesM : List (Int × Int) := (0, 1) :: eA c c.items.length
theorem prM_zero : prM c 0 0 0 = [(0, 1)] := rfl
theorem prM_row (i a : Nat) : prM c i a (c.items.getD i default).length = prM c i (a + 1) 0 := by simp [prM, eB, eC]
theorem prM_item (i : Nat) : prM c i (c.items.getD i default).length 0 = prM c (i + 1) 0 0 := by simp [prM, eA, eB, eC]
theorem prM_all : prM c c.items.length 0 0 = pricesM c := by simp [prM, pricesM, eB, eC]
theorem prM_yes (i a b : Nat) (h : 0 < dP c i a b ∧ 0 < dQ c i a b) : prM c i a (b + 1) = prM c i a b ++ [lowM (dP c i a b).toNat (dQ c i a b).toNat] := by
  simp only [prM, eC, if_pos h, List.cons_append, List.append_assoc]
theorem prM_no (i a b : Nat) (h : ¬ (0 < dP c i a b ∧ 0 < dQ c i a b)) : prM c i a (b + 1) = prM c i a b := by
  simp only [prM, eC, if_neg h]

def okE (e : Int × Int) : Prop := (0 ≤ e.1 ∧ e.1 ≤ 65536) ∧ 1 ≤ e.2 ∧ e.2 ≤ 64
variable {c}
theorem eC_ok (hc : OkC c) {i a : Nat} (hi : i < c.items.length) (ha : a < (c.items.getD i default).length) : ∀ b ≤ (c.items.getD i default).length, (∀ e ∈ eC c i a b, okE e) ∧ (eC c i a b).length ≤ b
  | 0, _ => by simp [eC]
  | b + 1, hb => by
    obtain ⟨h1, h2⟩ := eC_ok hc hi ha b (by omega)
    have hr := dP_range hc hi ha (show b < (c.items.getD i default).length by omega)
    simp only [eC]
    split
    · rename_i h
      refine ⟨fun e he => ?_, by simp; omega⟩
      rcases List.mem_append.1 he with he | he
      · exact h1 e he
      · simp only [List.mem_cons, List.not_mem_nil, or_false] at he
        subst he
        exact pq_div (by omega) (by omega)
    · exact ⟨h1, by omega⟩
theorem eB_ok (hc : OkC c) {i : Nat} (hi : i < c.items.length) : ∀ a ≤ (c.items.getD i default).length, (∀ e ∈ eB c i a, okE e) ∧ (eB c i a).length ≤ a * 8
  | 0, _ => by simp [eB]
  | a + 1, ha => by
    obtain ⟨h1, h2⟩ := eB_ok hc hi a (by omega)
    obtain ⟨h3, h4⟩ := eC_ok hc hi (show a < (c.items.getD i default).length by omega) _ (Nat.le_refl _)
    have h8 := hc.n8 i hi
    simp only [itemM] at h8
    simp only [eB]
    refine ⟨fun e he => ?_, by simp only [List.length_append]; omega⟩
    rcases List.mem_append.1 he with he | he
    · exact h1 e he
    · exact h3 e he
theorem eA_ok (hc : OkC c) : ∀ i ≤ c.items.length, (∀ e ∈ eA c i, okE e) ∧ (eA c i).length ≤ i * 64
  | 0, _ => by simp [eA]
  | i + 1, hi => by
    obtain ⟨h1, h2⟩ := eA_ok hc i (by omega)
    obtain ⟨h3, h4⟩ := eB_ok hc (show i < c.items.length by omega) _ (Nat.le_refl _)
    have h8 := hc.n8 i (by omega)
    simp only [itemM] at h8
    simp only [eA]
    refine ⟨fun e he => ?_, by simp only [List.length_append]; omega⟩
    rcases List.mem_append.1 he with he | he
    · exact h1 e he
    · exact h3 e he
theorem prices_ok (hc : OkC c) : (∀ e ∈ pricesM c, okE e) ∧ (pricesM c).length ≤ 4097 := by
  obtain ⟨h1, h2⟩ := eA_ok hc c.items.length (Nat.le_refl _)
  have hn := hc.n64
  refine ⟨fun e he => ?_, by simp [pricesM]; omega⟩
  rcases List.mem_cons.1 he with rfl | he
  · unfold okE; simp
  · exact h1 e he
theorem prM_len (hc : OkC c) {i a b : Nat} (hi : i < c.items.length) (ha : a < (c.items.getD i default).length) (hb : b ≤ (c.items.getD i default).length) : (prM c i a b).length ≤ 4200 := by
  obtain ⟨_, h2⟩ := eA_ok hc i (by omega)
  obtain ⟨_, h4⟩ := eB_ok hc hi a (by omega)
  obtain ⟨_, h6⟩ := eC_ok hc hi ha b hb
  have hn := hc.n64
  have h8 := hc.n8 i hi
  simp only [itemM] at h8
  simp only [prM, List.length_cons, List.length_append]
  omega

/-- The best certificate of the first prices. -/
def oM (c : CaseM) : Nat → Int × Int × Int
  | 0 => (0, 0, 0)
  | 1 => boundM c 0 1
  | k + 2 => tryQ c (oM c (k + 1)) ((pricesM c).getD (k + 1) default)
theorem oM_zero (c : CaseM) : oM c 0 = (0, 0, 0) := rfl
theorem oM_okB (hc : OkC c) : ∀ k, 0 < k → k ≤ (pricesM c).length → okB (oM c k)
  | 0, h, _ => by omega
  | 1, _, _ => bound_okB hc (by omega) (by omega)
  | k + 2, _, h => by
    have ih := oM_okB hc (k + 1) (by omega) (by omega)
    have he := getD_all (prices_ok hc).1 (show k + 1 < (pricesM c).length by omega)
    simp only [oM, tryQ]
    split
    · exact bound_okB hc he.1 he.2
    · exact ih
theorem oM_fold : ∀ k, k + 1 ≤ (pricesM c).length → oM c (k + 1) = ((eA c c.items.length).take k).foldl (tryQ c) (boundM c 0 1)
  | 0, _ => by simp [oM]
  | k + 1, h => by
    have ih := oM_fold k (by omega)
    have hk : k < (eA c c.items.length).length := by simp [pricesM] at h; omega
    rw [List.take_add_one, List.getElem?_eq_getElem hk]
    simp only [oM, Option.toList_some, List.foldl_append, List.foldl_cons, List.foldl_nil]
    rw [← ih]
    congr 1
    simp [pricesM, List.getD_eq_getElem?_getD, List.getElem?_eq_getElem hk]
theorem oM_all : oM c (pricesM c).length = dA c c.items.length := by
  have h : (pricesM c).length = (eA c c.items.length).length + 1 := by simp [pricesM]
  rw [h, oM_fold _ (by omega), List.take_length, dA_fold]
end

/-- A quotient rounded up, as the reference and as the package have it. -/
theorem up_eq {B Q : Int} (hQ : 1 ≤ Q) : (B.tdiv Q * Q < B) ↔ (0 < B ∧ B.tmod Q ≠ 0) := by
  have h := Int.tdiv_mul_add_tmod B Q
  constructor
  · intro h1
    have h2 : 0 < B.tmod Q := by omega
    refine ⟨?_, by omega⟩
    by_cases hB : 0 ≤ B
    · by_cases h0 : B = 0
      · subst h0; simp at h2
      · omega
    · obtain ⟨m, rfl⟩ : ∃ m, B = -m := ⟨-B, by omega⟩
      rw [Int.neg_tmod] at h2
      have := Int.tmod_nonneg Q (show 0 ≤ m by omega)
      omega
  · rintro ⟨h1, h2⟩
    have := Int.tmod_nonneg Q (show 0 ≤ B by omega)
    omega

end Go.Proofs.YthcfjdkflmkhbaaDoor

namespace Go.Proofs.YthcfjdkflmkhbaaDoor
open Go.Av

section
variable (c : CaseM)
/-- The option that a choice has for an item. -/
def opS (q : Nat → Nat) (i : Nat) : Int × Int := (c.items.getD i default).getD (q i) default
/-- Lines, turns, number of the last j items of a choice, and how many choices these have. -/
def linS (q : Nat → Nat) : Nat → Int
  | 0 => 0
  | j + 1 => linS q j + (opS c q (c.items.length - 1 - j)).1
def trnS (q : Nat → Nat) : Nat → Int
  | 0 => 0
  | j + 1 => trnS q j + c.weights.getD (c.items.length - 1 - j) default * (opS c q (c.items.length - 1 - j)).2
def cntS : Nat → Nat
  | 0 => 1
  | j + 1 => (c.items.getD (c.items.length - 1 - j) default).length * cntS j
def numS (q : Nat → Nat) : Nat → Nat
  | 0 => 0
  | j + 1 => q (c.items.length - 1 - j) * cntS c j + numS q j
/-- A choice of the last j items. -/
def InS (q : Nat → Nat) (j : Nat) : Prop := ∀ i, c.items.length - j ≤ i → i < c.items.length → q i < (c.items.getD i default).length
def pthS : Nat → Nat → Nat → Nat
  | 0, _ => fun _ => 0
  | j + 1, r => fun i => if i = c.items.length - 1 - j then (firJ c j r).toNat else pthS j ((r : Int) - ((c.items.getD (c.items.length - 1 - j) default).getD (firJ c j r).toNat default).1).toNat i

variable {c}
theorem lin_congr {q q' : Nat → Nat} : ∀ j, j ≤ c.items.length → (∀ i, c.items.length - j ≤ i → i < c.items.length → q i = q' i) → linS c q j = linS c q' j ∧ trnS c q j = trnS c q' j ∧ numS c q j = numS c q' j
  | 0, _, _ => ⟨rfl, rfl, rfl⟩
  | j + 1, hj, h => by
    obtain ⟨h1, h2, h3⟩ := lin_congr j (by omega) fun i hi hl => h i (by omega) hl
    have := h (c.items.length - 1 - j) (by omega) (by omega)
    simp only [linS, trnS, numS, opS, h1, h2, h3, this]
    simp

theorem InS.tail {q : Nat → Nat} {j : Nat} (h : InS c q (j + 1)) : InS c q j := fun i hi hl => h i (by omega) hl
theorem InS.head {q : Nat → Nat} {j : Nat} (hj : j < c.items.length) (h : InS c q (j + 1)) : q (c.items.length - 1 - j) < (c.items.getD (c.items.length - 1 - j) default).length := h _ (by omega) (by omega)

theorem opS_ok (hc : OkC c) {q : Nat → Nat} {i : Nat} (hi : i < c.items.length) (h : q i < (c.items.getD i default).length) : okO (opS c q i) := getD_all (hc.o i hi) h

theorem lin_nn (hc : OkC c) {q : Nat → Nat} : ∀ j ≤ c.items.length, InS c q j → 0 ≤ linS c q j ∧ 0 ≤ trnS c q j ∧ numS c q j < cntS c j
  | 0, _, _ => by simp [linS, trnS, numS, cntS]
  | j + 1, hj, h => by
    obtain ⟨h1, h2, h3⟩ := lin_nn hc j (by omega) h.tail
    have hh := h.head (by omega)
    have ho := opS_ok hc (by omega) hh
    have hw := hc.w (c.items.length - 1 - j) (by omega)
    unfold okO at ho
    have hm : 0 ≤ c.weights.getD (c.items.length - 1 - j) default * (opS c q (c.items.length - 1 - j)).2 := Int.mul_nonneg hw.1 ho.2.2.1
    simp only [linS, trnS, numS, cntS]
    refine ⟨by omega, by omega, ?_⟩
    have : (q (c.items.length - 1 - j) + 1) * cntS c j ≤ (c.items.getD (c.items.length - 1 - j) default).length * cntS c j := Nat.mul_le_mul_right _ hh
    rw [Nat.add_mul] at this
    omega

/-- The order: turns, lines. -/
def ltP (a b : Int × Int) : Prop := a.1 < b.1 ∨ (a.1 = b.1 ∧ a.2 < b.2)
theorem lessM_iff {a b : Int × Int} (hb : b = none2 ∨ 0 ≤ b.1) : lessM a b = true ↔ b = none2 ∨ ltP a b := by
  unfold lessM ltP none2
  obtain ⟨b1, b2⟩ := b
  simp only [Bool.or_eq_true, Bool.and_eq_true, beq_iff_eq, decide_eq_true_eq, Prod.mk.injEq] at *
  omega

section
variable {opts : List (Int × Int)} {w : Int} {aft : List (Int × Int)} {r m : Nat}
/-- The total with an option. -/
def cand (opts : List (Int × Int)) (w : Int) (aft : List (Int × Int)) (r k : Nat) : Int × Int :=
  ((aft.getD ((r : Int) - (opts.getD k default).1).toNat default).1 + w * (opts.getD k default).2, (aft.getD ((r : Int) - (opts.getD k default).1).toNat default).2 + (opts.getD k default).1)
def goes (opts : List (Int × Int)) (aft : List (Int × Int)) (r k : Nat) : Prop := (opts.getD k default).1 ≤ (r : Int) ∧ aft.getD ((r : Int) - (opts.getD k default).1).toNat default ≠ none2

theorem step_no {x : (Int × Int) × Int} {k : Nat} (h : ¬ goes opts aft r k) : stepM opts w aft r x k = x := by
  unfold stepM
  rw [if_pos]
  simp only [goes, Classical.not_and_iff_not_or_not, Int.not_le, ne_eq, Decidable.not_not] at h
  exact h
theorem step_go {x : (Int × Int) × Int} {k : Nat} (h : goes opts aft r k) : stepM opts w aft r x k = if lessM (cand opts w aft r k) x.1 then (cand opts w aft r k, (k : Int)) else x := by
  unfold stepM
  rw [if_neg]
  · rfl
  · simp only [not_or, Int.not_lt]
    exact h

theorem cell_best (hw : 0 ≤ w ∧ w ≤ 1024) (ho : ∀ k < opts.length, okO (opts.getD k default)) (hr : r < aft.length) (ha : ∀ q < aft.length, okT m (aft.getD q default)) :
    ∀ k ≤ opts.length, (∀ k' < k, goes opts aft r k' → (cellM opts w aft r k).1 ≠ none2 ∧ (ltP (cellM opts w aft r k).1 (cand opts w aft r k') ∨ ((cellM opts w aft r k).1 = cand opts w aft r k' ∧ (cellM opts w aft r k).2 ≤ (k' : Int))))
      ∧ ((cellM opts w aft r k).1 ≠ none2 → goes opts aft r (cellM opts w aft r k).2.toNat ∧ (cellM opts w aft r k).1 = cand opts w aft r (cellM opts w aft r k).2.toNat ∧ (cellM opts w aft r k).2 < (k : Int))
  | 0, _ => by simp [cellM]
  | k + 1, hk => by
    obtain ⟨i1, i2⟩ := cell_best hw ho hr ha k (by omega)
    have hs := (cell_snd (opts := opts) (w := w) (aft := aft) (r := r) k)
    have hx := cell_ok hw ho hr ha k (by omega)
    have hx' : (cellM opts w aft r k).1 = none2 ∨ 0 ≤ (cellM opts w aft r k).1.1 := hx.imp id fun h => h.1
    simp only [cellM]
    by_cases hg : goes opts aft r k
    · rw [step_go hg]
      have hcn : cand opts w aft r k ≠ none2 := by
        have hok := ho k (by omega)
        unfold okO at hok
        have hq := ha ((r : Int) - (opts.getD k default).1).toNat (by omega)
        have hq := hq.resolve_left hg.2
        have h1 : 0 ≤ w * (opts.getD k default).2 := Int.mul_nonneg hw.1 hok.2.2.1
        intro e
        have e1 := congrArg Prod.fst e
        simp only [cand] at e1
        omega
      split
      · rename_i hl
        rw [lessM_iff hx'] at hl
        refine ⟨fun k' hk' hg' => ⟨hcn, ?_⟩, fun _ => ⟨by simpa using hg, by simp, by simp only; omega⟩⟩
        by_cases he : k' = k
        · subst he; right; simp
        · obtain ⟨j1, j2⟩ := i1 k' (by omega) hg'
          have hl := hl.resolve_left j1
          left
          unfold ltP at *
          rcases j2 with j2 | ⟨j2, _⟩
          · simp only; omega
          · rw [j2] at hl; exact hl
      · rename_i hl
        rw [lessM_iff hx', not_or] at hl
        refine ⟨fun k' hk' hg' => ?_, fun h => ⟨(i2 h).1, (i2 h).2.1, by have := (i2 h).2.2; omega⟩⟩
        by_cases he : k' = k
        · subst he
          refine ⟨hl.1, ?_⟩
          have h2 := hl.2
          unfold ltP at *
          by_cases hq : (cellM opts w aft r k').1 = cand opts w aft r k'
          · exact .inr ⟨hq, hs.2⟩
          · left
            have : ¬ ((cellM opts w aft r k').1.1 = (cand opts w aft r k').1 ∧ (cellM opts w aft r k').1.2 = (cand opts w aft r k').2) := fun h => hq (Prod.ext h.1 h.2)
            omega
        · exact i1 k' (by omega) hg'
    · rw [step_no hg]
      refine ⟨fun k' hk' hg' => ?_, fun h => ⟨(i2 h).1, (i2 h).2.1, by have := (i2 h).2.2; omega⟩⟩
      by_cases he : k' = k
      · subst he; exact absurd hg' hg
      · exact i1 k' (by omega) hg'
end

/-- The order of choices: turns, lines, number. -/
def leC (c : CaseM) (q q' : Nat → Nat) (j : Nat) : Prop := trnS c q j < trnS c q' j ∨ (trnS c q j = trnS c q' j ∧ (linS c q j < linS c q' j ∨ (linS c q j = linS c q' j ∧ numS c q j ≤ numS c q' j)))

theorem aft_get (j r : Nat) (hr : r < n1M c) : (aftM c (j + 1)).getD r default = (cellM (c.items.getD (c.items.length - 1 - j) default) (c.weights.getD (c.items.length - 1 - j) default) (aftM c j) r (c.items.getD (c.items.length - 1 - j) default).length).1 := by
  simp only [aftM]
  rw [getD_map_range _ _ _ hr]

theorem best_at (hc : OkC c) : ∀ j ≤ c.items.length, ∀ r < n1M c,
    ((aftM c j).getD r default ≠ none2 → (aftM c j).getD r default = (trnS c (pthS c j r) j, linS c (pthS c j r) j) ∧ linS c (pthS c j r) j ≤ (r : Int) ∧ InS c (pthS c j r) j) ∧
    ∀ q, InS c q j → linS c q j ≤ (r : Int) → (aftM c j).getD r default ≠ none2 ∧ leC c (pthS c j r) q j
  | 0, _, r, hr => by
    have : (aftM c 0).getD r default = (0, 0) := by simp [aftM, List.getD_eq_getElem?_getD, hr]
    rw [this]
    refine ⟨fun _ => ⟨rfl, by simp [linS], fun i hi hl => by omega⟩, fun q _ _ => ⟨by simp, ?_⟩⟩
    unfold leC
    simp [trnS, linS, numS]
  | j + 1, hj, r, hr => by
    have ih := best_at hc j (by omega)
    have hcb := cell_best (r := r) (m := j) (w := c.weights.getD (c.items.length - 1 - j) default) (aft := aftM c j) (opts := (c.items.getD (c.items.length - 1 - j) default)) (hc.w _ (by omega)) (fun k hk => getD_all (hc.o (c.items.length - 1 - j) (by omega)) hk) (by rw [aftM_len]; exact hr) (aft_ok hc j (by omega)) _ (Nat.le_refl _)
    have hs := (cell_snd (opts := (c.items.getD (c.items.length - 1 - j) default)) (w := c.weights.getD (c.items.length - 1 - j) default) (aft := aftM c j) (r := r) (c.items.getD (c.items.length - 1 - j) default).length)
    obtain ⟨b1, b2⟩ := hcb
    rw [aft_get j r hr]
    have hfir : firJ c j r = (cellM (c.items.getD (c.items.length - 1 - j) default) (c.weights.getD (c.items.length - 1 - j) default) (aftM c j) r (c.items.getD (c.items.length - 1 - j) default).length).2 := rfl
    rw [← hfir] at b1 b2 hs
    generalize hcell : (cellM (c.items.getD (c.items.length - 1 - j) default) (c.weights.getD (c.items.length - 1 - j) default) (aftM c j) r (c.items.getD (c.items.length - 1 - j) default).length).1 = X at b1 b2 ⊢
    -- the choice
    have hpc : ∀ i, c.items.length - j ≤ i → i < c.items.length → pthS c (j + 1) r i = pthS c j ((r : Int) - ((c.items.getD (c.items.length - 1 - j) default).getD (firJ c j r).toNat default).1).toNat i := fun i hi hl => by
      simp only [pthS]
      rw [if_neg (by omega)]
    have hph : pthS c (j + 1) r (c.items.length - 1 - j) = (firJ c j r).toNat := by simp [pthS]
    obtain ⟨e1, e2, e3⟩ := lin_congr j (by omega) hpc
    have hop : opS c (pthS c (j + 1) r) (c.items.length - 1 - j) = (c.items.getD (c.items.length - 1 - j) default).getD (firJ c j r).toNat default := by unfold opS; rw [hph]
    have snd : X ≠ none2 → (X = (trnS c (pthS c (j + 1) r) (j + 1), linS c (pthS c (j + 1) r) (j + 1)) ∧ linS c (pthS c (j + 1) r) (j + 1) ≤ (r : Int) ∧ InS c (pthS c (j + 1) r) (j + 1)) ∧ InS c (pthS c j ((r : Int) - ((c.items.getD (c.items.length - 1 - j) default).getD (firJ c j r).toNat default).1).toNat) j := fun hx => by
      obtain ⟨⟨g1, g2⟩, g3, g4⟩ := b2 hx
      have hok : okO ((c.items.getD (c.items.length - 1 - j) default).getD (firJ c j r).toNat default) := getD_all (hc.o (c.items.length - 1 - j) (by omega)) (by simp only [itemM]; omega)
      unfold okO at hok
      have hr' : ((r : Int) - ((c.items.getD (c.items.length - 1 - j) default).getD (firJ c j r).toNat default).1).toNat < n1M c := by omega
      obtain ⟨i1, i2, i3⟩ := (ih _ hr').1 g2
      refine ⟨⟨?_, ?_, fun i hi hl => ?_⟩, i3⟩
      · rw [g3]
        simp only [cand, i1, trnS, linS, e1, e2, hop]
      · simp only [linS, e1, hop]
        omega
      · by_cases hii : i = c.items.length - 1 - j
        · subst hii
          rw [hph]; omega
        · rw [hpc i (by omega) hl]
          exact i3 i (by omega) hl
    refine ⟨fun hx => (snd hx).1, fun q hq hl => ?_⟩
    have hh := hq.head (by omega)
    have hok := opS_ok hc (by omega) hh
    have hokk := hok
    unfold okO at hok
    obtain ⟨n1, n2, n3⟩ := lin_nn hc j (by omega) hq.tail
    simp only [linS] at hl
    have hr' : ((r : Int) - (opS c q (c.items.length - 1 - j)).1).toNat < n1M c := by omega
    obtain ⟨i1, i2⟩ := ih _ hr'
    obtain ⟨i3, i4⟩ := i2 q hq.tail (by omega)
    obtain ⟨i5, i6, i7⟩ := i1 i3
    obtain ⟨c1, c2⟩ := b1 (q (c.items.length - 1 - j)) hh ⟨by show (opS c q (c.items.length - 1 - j)).1 ≤ (r : Int); omega, i3⟩
    refine ⟨c1, ?_⟩
    obtain ⟨⟨s1, s2, s3⟩, s4⟩ := snd c1
    have t1 := congrArg Prod.fst s1
    have t2 := congrArg Prod.snd s1
    simp only at t1 t2
    have hcd : cand (c.items.getD (c.items.length - 1 - j) default) (c.weights.getD (c.items.length - 1 - j) default) (aftM c j) r (q (c.items.length - 1 - j)) = (trnS c (pthS c j ((r : Int) - (opS c q (c.items.length - 1 - j)).1).toNat) j + c.weights.getD (c.items.length - 1 - j) default * (opS c q (c.items.length - 1 - j)).2, linS c (pthS c j ((r : Int) - (opS c q (c.items.length - 1 - j)).1).toNat) j + (opS c q (c.items.length - 1 - j)).1) := by
      unfold cand
      have : (c.items.getD (c.items.length - 1 - j) default).getD (q (c.items.length - 1 - j)) default = opS c q (c.items.length - 1 - j) := rfl
      rw [this, i5]
    rw [hcd] at c2
    unfold leC at i4 ⊢
    rw [← t1, ← t2]
    simp only [trnS, linS]
    unfold ltP at c2
    simp only at c2
    rcases c2 with c2 | ⟨c2, c3⟩
    · omega
    · have u1 := congrArg Prod.fst c2
      have u2 := congrArg Prod.snd c2
      simp only at u1 u2
      by_cases hlt : trnS c (pthS c j ((r : Int) - (opS c q (c.items.length - 1 - j)).1).toNat) j = trnS c q j ∧ linS c (pthS c j ((r : Int) - (opS c q (c.items.length - 1 - j)).1).toNat) j = linS c q j
      · right
        refine ⟨by omega, .inr ⟨by omega, ?_⟩⟩
        have hnum : numS c (pthS c j ((r : Int) - (opS c q (c.items.length - 1 - j)).1).toNat) j ≤ numS c q j := by omega
        simp only [numS, hph, e3]
        have hk : (firJ c j r).toNat ≤ q (c.items.length - 1 - j) := by omega
        by_cases hkk : (firJ c j r).toNat = q (c.items.length - 1 - j)
        · rw [hkk]
          have : (c.items.getD (c.items.length - 1 - j) default).getD (q (c.items.length - 1 - j)) default = opS c q (c.items.length - 1 - j) := rfl
          rw [this]
          omega
        · have hn := (lin_nn hc j (by omega) s4).2.2
          have : ((firJ c j r).toNat + 1) * cntS c j ≤ q (c.items.length - 1 - j) * cntS c j := Nat.mul_le_mul_right _ (by omega)
          rw [Nat.add_mul] at this
          omega
      · omega

/-- The choice of Best. -/
theorem kM_pth (hc : OkC c) (hb : (aftM c c.items.length).getD c.room.toNat default ≠ none2) : ∀ i ≤ c.items.length, ∀ i', i ≤ i' → i' < c.items.length → pthS c c.items.length c.room.toNat i' = pthS c (c.items.length - i) (curM c i).toNat i'
  | 0, _, i', _, _ => rfl
  | i + 1, hi, i', h1, h2 => by
    rw [kM_pth hc hb i (by omega) i' (by omega) h2]
    have hj : c.items.length - i = (c.items.length - 1 - i) + 1 := by omega
    have hii : c.items.length - 1 - (c.items.length - 1 - i) = i := by omega
    obtain ⟨h3, h4⟩ := cur_ok hc hb i (by omega)
    have hn := n1_room hc
    have hr : (curM c i).toNat < n1M c := by omega
    rw [hj]
    simp only [pthS, hii]
    rw [if_neg (by omega), show c.items.length - (i + 1) = c.items.length - 1 - i by omega]
    simp only [curM]
    have hk : (firM c i).getD (curM c i).toNat default = firJ c (c.items.length - 1 - i) (curM c i).toNat := by
      unfold firM
      rw [getD_map_range _ _ _ hr]
    rw [hk, show ((curM c i).toNat : Int) = curM c i by omega]

theorem kM_eq (hc : OkC c) (hb : (aftM c c.items.length).getD c.room.toNat default ≠ none2) {i : Nat} (hi : i < c.items.length) : kM c i = ((pthS c c.items.length c.room.toNat i : Nat) : Int) := by
  rw [kM_pth hc hb i (by omega) i (Nat.le_refl _) hi]
  have hj : c.items.length - i = (c.items.length - 1 - i) + 1 := by omega
  have hii : c.items.length - 1 - (c.items.length - 1 - i) = i := by omega
  obtain ⟨h3, h4⟩ := cur_ok hc hb i (by omega)
  have hn := n1_room hc
  have hr : (curM c i).toNat < n1M c := by omega
  have hkm := (kM_ok hc hb hi).1.1
  unfold kM at hkm ⊢
  have hk : (firM c i).getD (curM c i).toNat default = firJ c (c.items.length - 1 - i) (curM c i).toNat := by
    unfold firM
    rw [getD_map_range _ _ _ hr]
  rw [hj]
  simp only [pthS, hii, if_true]
  rw [hk] at hkm ⊢
  omega

/-- A choice as a list. -/
def lstS (c : CaseM) (q : Nat → Nat) : List Int := (List.range c.items.length).map fun i => (q i : Int)

/-- Best returns the first one of the best choices that fit, or none does. -/
theorem best_spec (hc : OkC c) : (bestM c = ([], 0, 21) ∧ ∀ q, InS c q c.items.length → ¬ linS c q c.items.length ≤ c.room) ∨
    ∃ q, InS c q c.items.length ∧ linS c q c.items.length ≤ c.room ∧ bestM c = (lstS c q, trnS c q c.items.length, 0) ∧ ∀ q', InS c q' c.items.length → linS c q' c.items.length ≤ c.room → leC c q q' c.items.length := by
  have hv : ¬ validM c ≠ 0 := by rw [validM_ok.2 hc]; simp
  have hn := n1_room hc
  have hcr := hc.room
  have hr : c.room.toNat < n1M c := by omega
  obtain ⟨h1, h2⟩ := best_at hc c.items.length (Nat.le_refl _) c.room.toNat hr
  have hrr : (c.room.toNat : Int) = c.room := by omega
  rw [hrr] at h1 h2
  unfold bestM
  rw [if_neg hv]
  by_cases hb : (aftM c c.items.length).getD c.room.toNat default = none2
  · rw [if_pos hb]
    exact .inl ⟨rfl, fun q hq hl => (h2 q hq hl).1 hb⟩
  · rw [if_neg hb]
    obtain ⟨h3, h4, h5⟩ := h1 hb
    refine .inr ⟨_, h5, h4, ?_, fun q hq hl => (h2 q hq hl).2⟩
    rw [h3]
    simp only [Prod.mk.injEq, and_true]
    unfold pickBM lstS
    apply List.map_congr_left
    intro i hi
    exact kM_eq hc hb (by simpa using hi)

/-- The sums of a choice that is a list. -/
theorem lst_sums {pick : List Int} : ∀ j ≤ c.items.length, linesM c pick c.items.length = linesM c pick (c.items.length - j) + linS c (fun i => (pickM pick i).toNat) j ∧ turnsM c pick c.items.length = turnsM c pick (c.items.length - j) + trnS c (fun i => (pickM pick i).toNat) j
  | 0, _ => by simp [linS, trnS]
  | j + 1, hj => by
    obtain ⟨h1, h2⟩ := lst_sums (pick := pick) j (by omega)
    rw [h1, h2, show c.items.length - j = (c.items.length - (j + 1)) + 1 by omega]
    simp only [linesM, turnsM, linS, trnS, opS, optM, itemM, weightM, show c.items.length - 1 - j = c.items.length - (j + 1) by omega, Int.mul_comm]
    constructor <;> omega
theorem lst_all {pick : List Int} : linesM c pick c.items.length = linS c (fun i => (pickM pick i).toNat) c.items.length ∧ turnsM c pick c.items.length = trnS c (fun i => (pickM pick i).toNat) c.items.length := by
  obtain ⟨h1, h2⟩ := lst_sums (c := c) (pick := pick) c.items.length (Nat.le_refl _)
  rw [h1, h2]
  simp [linesM, turnsM]
theorem lst_in {pick : List Int} (hp : OkP c pick) (hl : pick.length = c.items.length) : InS c (fun i => (pickM pick i).toNat) c.items.length := fun i _ h => by
  have := hp.at_ i (by omega)
  simp only [itemM] at this
  show (pickM pick i).toNat < _
  omega

end
end Go.Proofs.YthcfjdkflmkhbaaDoor

namespace Go.Proofs.YthcfjdkflmkhbaaDoor
open Go.Av

theorem getD_mem {α : Type} [Inhabited α] (l : List α) (i : Nat) (h : i < l.length) : l.getD i default ∈ l := by
  rw [List.getD_eq_getElem?_getD, List.getElem?_eq_getElem h]
  exact List.getElem_mem _

section
variable {c : CaseM} {p q : Int}
theorem minV_le {i : Nat} : ∀ k, ∀ j, j < k ∨ (j = 0 ∧ k = 0) → minV c p q i k ≤ valM c p q i ((c.items.getD i default).getD j default)
  | 0, j, h => by
    obtain rfl : j = 0 := by omega
    exact Int.le_refl _
  | k + 1, j, h => by
    simp only [minV]
    by_cases hj : j = k
    · subst hj
      split <;> omega
    · by_cases hk : k = 0
      · omega
      · have := minV_le (i := i) k j (by omega)
        split <;> omega
theorem minV_at {i : Nat} : ∀ k, ∃ j, (j < k ∨ (j = 0 ∧ k = 0)) ∧ minV c p q i k = valM c p q i ((c.items.getD i default).getD j default)
  | 0 => ⟨0, .inr ⟨rfl, rfl⟩, rfl⟩
  | k + 1 => by
    obtain ⟨j, h1, h2⟩ := minV_at (i := i) k
    simp only [minV]
    split
    · exact ⟨k, by omega, rfl⟩
    · exact ⟨j, by omega, h2⟩

theorem val_sum {i : Nat} {o : Int × Int} (L T : Int) : valM c p q i o + (p * L + q * T) = p * (L + o.1) + q * (T + o.2 * weightM c i) := by
  simp only [valM, weightM, Int.mul_add]
  have : q * c.weights.getD i default * o.2 = q * (o.2 * c.weights.getD i default) := by rw [Int.mul_assoc, Int.mul_comm (c.weights.getD i default)]
  omega

/-- No choice has less than the sum of the least values. -/
theorem bnd_le (hc : OkC c) {pick : List Int} (hp : OkP c pick) : ∀ i ≤ pick.length, bndM c p q i ≤ (0 - p) * c.room + (p * linesM c pick i + q * turnsM c pick i)
  | 0, _ => by simp [bndM, linesM, turnsM]
  | i + 1, h => by
    have ih := bnd_le hc hp i (by omega)
    have h1 := hp.at_ i (by omega)
    have h2 := minV_le (c := c) (p := p) (q := q) (i := i) (c.items.getD i default).length (pickM pick i).toNat (by simp only [itemM] at h1; omega)
    simp only [bndM, linesM, turnsM]
    rw [← val_sum]
    have : (c.items.getD i default).getD (pickM pick i).toNat default = optM c pick i := rfl
    rw [this] at h2
    omega
/-- One that has the least values has just that. -/
theorem bnd_eq (hc : OkC c) {pick : List Int} (hv : ∀ i < pick.length, valM c p q i (optM c pick i) = minV c p q i (c.items.getD i default).length) : ∀ i ≤ pick.length, bndM c p q i = (0 - p) * c.room + (p * linesM c pick i + q * turnsM c pick i)
  | 0, _ => by simp [bndM, linesM, turnsM]
  | i + 1, h => by
    have ih := bnd_eq hc hv i (by omega)
    have h1 := hv i (by omega)
    simp only [bndM, linesM, turnsM]
    rw [← val_sum]
    omega

theorem lstS_len (f : Nat → Nat) : (lstS c f).length = c.items.length := by simp [lstS]
theorem lstS_at (f : Nat → Nat) {i : Nat} (h : i < c.items.length) : pickM (lstS c f) i = (f i : Int) := by
  unfold pickM lstS
  rw [getD_map_range _ _ _ h]
theorem lstS_ok {f : Nat → Nat} (h : InS c f c.items.length) : OkP c (lstS c f) := ⟨by rw [lstS_len]; exact Nat.le_refl _, fun i hi => by
  rw [lstS_len] at hi
  have := h i (by omega) hi
  rw [lstS_at f hi]
  simp only [itemM]
  omega⟩
theorem lstS_sums (f : Nat → Nat) : linesM c (lstS c f) c.items.length = linS c f c.items.length ∧ turnsM c (lstS c f) c.items.length = trnS c f c.items.length := by
  obtain ⟨h1, h2⟩ := lst_all (c := c) (pick := lstS c f)
  obtain ⟨h3, h4, _⟩ := lin_congr (c := c) (q := fun i => (pickM (lstS c f) i).toNat) (q' := f) c.items.length (Nat.le_refl _) (fun i _ hi => by
    show (pickM (lstS c f) i).toNat = f i
    rw [lstS_at f hi]; omega)
  exact ⟨h1.trans h3, h2.trans h4⟩

/-- Best, by lists: the best choice fits, and no choice that fits has fewer turns. -/
theorem best_lists (hc : OkC c) : (bestM c = ([], 0, 21) ∧ ∀ pick, OkP c pick → pick.length = c.items.length → ¬ linesM c pick c.items.length ≤ c.room) ∨
    ∃ pick, OkP c pick ∧ pick.length = c.items.length ∧ linesM c pick c.items.length ≤ c.room ∧ bestM c = (pick, turnsM c pick c.items.length, 0) ∧ ∀ pick', OkP c pick' → pick'.length = c.items.length → linesM c pick' c.items.length ≤ c.room → turnsM c pick c.items.length ≤ turnsM c pick' c.items.length := by
  rcases best_spec hc with ⟨h1, h2⟩ | ⟨f, h1, h2, h3, h4⟩
  · refine .inl ⟨h1, fun pick hp hl hr => h2 _ (lst_in hp hl) ?_⟩
    rw [← (lst_all (c := c) (pick := pick)).1]
    exact hr
  · obtain ⟨e1, e2⟩ := lstS_sums (c := c) f
    refine .inr ⟨lstS c f, lstS_ok h1, lstS_len f, by omega, by rw [h3, e2], fun pick hp hl hr => ?_⟩
    obtain ⟨e3, e4⟩ := lst_all (c := c) (pick := pick)
    have := h4 _ (lst_in hp hl) (by omega)
    unfold leC at this
    omega

/-- The costs of a choice that fits. -/
theorem cost_fits (hc : OkC c) {pick : List Int} (hp : OkP c pick) (hl : pick.length = c.items.length) (hr : linesM c pick c.items.length ≤ c.room) : costM c pick = (linesM c pick c.items.length, turnsM c pick c.items.length, 0) := by
  unfold costM
  have hb : ¬ BadP c pick := by
    rintro ⟨i, hi, h⟩
    have := hp.at_ i hi
    omega
  have h0 := validM_ok.2 hc
  rw [if_neg (by omega), if_neg (by omega), if_neg hb, hl, if_neg (by omega)]
end

section
variable (c : CaseM) (p q : Int) (m : List Int)
/-- The options with the least value. -/
def smM (i : Nat) : Nat → List Int
  | 0 => []
  | k + 1 => if valM c p q i ((c.items.getD i default).getD k default) = minV c p q i (c.items.getD i default).length then smM i k ++ [(k : Int)] else smM i k
theorem smM_zero (i : Nat) : smM c p q i 0 = [] := rfl
def tpM (i : Nat) : Int := (smM c p q i (c.items.getD i default).length).getD (atM m i (smM c p q i (c.items.getD i default).length).length).toNat default
def tpL (i : Nat) : List Int := (List.range i).map (tpM c p q m)
theorem tpL_len (i : Nat) : (tpL c p q m i).length = i := by simp [tpL]
theorem tpL_zero : tpL c p q m 0 = [] := rfl
theorem tpL_succ (i : Nat) : tpL c p q m (i + 1) = tpL c p q m i ++ [tpM c p q m i] := by simp [tpL, List.range_succ]
variable {c p q m}
theorem smM_mem {i : Nat} : ∀ k, ∀ x, x ∈ smM c p q i k ↔ ∃ j : Nat, x = (j : Int) ∧ j < k ∧ valM c p q i ((c.items.getD i default).getD j default) = minV c p q i (c.items.getD i default).length
  | 0, x => by simp [smM]
  | k + 1, x => by
    simp only [smM]
    split
    · rename_i h
      rw [List.mem_append, smM_mem k x, List.mem_singleton]
      constructor
      · rintro (⟨j, h1, h2, h3⟩ | rfl)
        · exact ⟨j, h1, by omega, h3⟩
        · exact ⟨k, rfl, by omega, h⟩
      · rintro ⟨j, h1, h2, h3⟩
        by_cases hj : j = k
        · exact .inr (by rw [h1, hj])
        · exact .inl ⟨j, h1, by omega, h3⟩
    · rename_i h
      rw [smM_mem k x]
      constructor
      · rintro ⟨j, h1, h2, h3⟩
        exact ⟨j, h1, by omega, h3⟩
      · rintro ⟨j, h1, h2, h3⟩
        by_cases hj : j = k
        · subst hj; exact absurd h3 h
        · exact ⟨j, h1, by omega, h3⟩
theorem smM_le {i : Nat} : ∀ k, (smM c p q i k).length ≤ k
  | 0 => by simp [smM]
  | k + 1 => by
    have := smM_le (i := i) k
    simp only [smM]
    split <;> simp <;> omega
theorem smM_pos {i : Nat} (h : 0 < (c.items.getD i default).length) : 0 < (smM c p q i (c.items.getD i default).length).length := by
  obtain ⟨j, h1, h2⟩ := minV_at (c := c) (p := p) (q := q) (i := i) (c.items.getD i default).length
  exact List.length_pos_of_mem ((smM_mem _ _).2 ⟨j, rfl, by omega, h2.symm⟩)
theorem tpM_spec {i : Nat} (h : 0 < (c.items.getD i default).length) : (0 ≤ tpM c p q m i ∧ tpM c p q m i < ((c.items.getD i default).length : Int)) ∧ valM c p q i ((c.items.getD i default).getD (tpM c p q m i).toNat default) = minV c p q i (c.items.getD i default).length := by
  have hp := smM_pos (c := c) (p := p) (q := q) h
  have ha := atM_range (l := m) (i := (i : Int)) (m := ((smM c p q i (c.items.getD i default).length).length : Int)) (by omega)
  have hm : tpM c p q m i ∈ smM c p q i (c.items.getD i default).length := by
    exact getD_mem _ _ (by omega)
  obtain ⟨j, h1, h2, h3⟩ := (smM_mem _ _).1 hm
  rw [h1]
  exact ⟨by omega, by simpa using h3⟩

theorem tpL_at {i n : Nat} (h : i < n) : pickM (tpL c p q m n) i = tpM c p q m i := by
  unfold pickM tpL
  rw [getD_map_range _ _ _ h]
theorem tpL_ok (hc : OkC c) : OkP c (tpL c p q m c.items.length) := ⟨by rw [tpL_len]; exact Nat.le_refl _, fun i hi => by
  rw [tpL_len] at hi
  rw [tpL_at hi]
  exact (tpM_spec (hc.n1 i hi)).1⟩
theorem tpL_val (hc : OkC c) : ∀ i < (tpL c p q m c.items.length).length, valM c p q i (optM c (tpL c p q m c.items.length) i) = minV c p q i (c.items.getD i default).length := fun i hi => by
  rw [tpL_len] at hi
  unfold optM
  rw [tpL_at hi]
  exact (tpM_spec (hc.n1 i hi)).2

end

/-- The case with room for just this choice. -/
def tcM (c : CaseM) (p q : Int) (m : List Int) : CaseM :=
  if 0 < p ∨ c.room < linesM c (tpL c p q m c.items.length) c.items.length then ⟨c.items, c.weights, linesM c (tpL c p q m c.items.length) c.items.length⟩ else c
theorem lines_room (c : CaseM) (r : Int) (pick : List Int) : ∀ i, linesM ⟨c.items, c.weights, r⟩ pick i = linesM c pick i ∧ turnsM ⟨c.items, c.weights, r⟩ pick i = turnsM c pick i
  | 0 => ⟨rfl, rfl⟩
  | i + 1 => by
    obtain ⟨h1, h2⟩ := lines_room c r pick i
    exact ⟨by simp only [linesM, h1], by simp only [turnsM, h2]⟩
theorem minV_room (c : CaseM) (r p q : Int) (i : Nat) : ∀ k, minV ⟨c.items, c.weights, r⟩ p q i k = minV c p q i k
  | 0 => rfl
  | k + 1 => by simp only [minV, minV_room c r p q i k]; rfl
theorem smM_room (c : CaseM) (r p q : Int) (i : Nat) : ∀ k, smM ⟨c.items, c.weights, r⟩ p q i k = smM c p q i k
  | 0 => rfl
  | k + 1 => by simp only [smM, smM_room c r p q i k, minV_room]; rfl
theorem tpL_room (c : CaseM) (r p q : Int) (m : List Int) (i : Nat) : tpL ⟨c.items, c.weights, r⟩ p q m i = tpL c p q m i := by
  unfold tpL
  apply List.map_congr_left
  intro k _
  simp only [tpM, smM_room]
theorem room_ok {c : CaseM} (hc : OkC c) {r : Int} (hr : 0 ≤ r ∧ r ≤ 4096) : OkC ⟨c.items, c.weights, r⟩ := ⟨hc.n64, hc.n8, hc.n1, hc.wl, hr, hc.w, hc.o⟩

theorem tight {c : CaseM} {p q : Int} {m : List Int} (hc : OkC c) (hp : 0 ≤ p) (hq : 1 ≤ q) (hpq : okPQ p q) :
    OkC (tcM c p q m) ∧ costM (tcM c p q m) (tpL c p q m c.items.length) = (linesM c (tpL c p q m c.items.length) c.items.length, turnsM c (tpL c p q m c.items.length) c.items.length, 0) ∧
    (∃ P, bestM (tcM c p q m) = (P, turnsM c (tpL c p q m c.items.length) c.items.length, 0)) ∧
    boundE (tcM c p q m) p q = ((p, q, turnsM c (tpL c p q m c.items.length) c.items.length * q), 0) := by
  have hl := tpL_len c p q m c.items.length
  have ht := tpL_ok (p := p) (q := q) (m := m) hc
  have hsr := sums_range hc ht c.items.length (by omega)
  have h64 := hc.n64
  have hroom := hc.room
  -- the new case
  obtain ⟨r, hr, hlr, hpr, he⟩ : ∃ r : Int, (0 ≤ r ∧ r ≤ 4096) ∧ linesM c (tpL c p q m c.items.length) c.items.length ≤ r ∧ (p = 0 ∨ r = linesM c (tpL c p q m c.items.length) c.items.length) ∧ tcM c p q m = ⟨c.items, c.weights, r⟩ := by
    unfold tcM
    split
    · exact ⟨_, by omega, Int.le_refl _, .inr rfl, rfl⟩
    · exact ⟨c.room, hroom, by omega, .inl (by omega), rfl⟩
  rw [he]
  have hc' := room_ok hc hr
  have htn : tpL ⟨c.items, c.weights, r⟩ p q m c.items.length = tpL c p q m c.items.length := tpL_room ..
  have ht' : OkP ⟨c.items, c.weights, r⟩ (tpL c p q m c.items.length) := ⟨ht.len, ht.at_⟩
  obtain ⟨l1, l2⟩ := lines_room c r (tpL c p q m c.items.length) c.items.length
  have hv' : ∀ i < (tpL c p q m c.items.length).length, valM ⟨c.items, c.weights, r⟩ p q i (optM ⟨c.items, c.weights, r⟩ (tpL c p q m c.items.length) i) = minV ⟨c.items, c.weights, r⟩ p q i (c.items.getD i default).length := by
    have := tpL_val (c := ⟨c.items, c.weights, r⟩) (p := p) (q := q) (m := m) hc'
    rw [htn] at this
    exact this
  have hbe := bnd_eq hc' hv' c.items.length (by omega)
  simp only at hbe
  rw [l1, l2] at hbe
  refine ⟨hc', ?_, ?_, ?_⟩
  · rw [cost_fits hc' ht' hl (by simp only; omega)]
    simp only
    rw [l1, l2]
  · rcases best_lists hc' with ⟨_, h2⟩ | ⟨pick, h1, h2, h3, h4, h5⟩
    · exact absurd (by simp only; omega) (h2 _ ht' hl)
    · refine ⟨pick, ?_⟩
      rw [h4]
      simp only [Prod.mk.injEq, true_and, and_true]
      have h6 := h5 _ ht' hl (by simp only; omega)
      simp only at h6 h3 h2
      rw [l2] at h6
      have h7 := bnd_le (p := p) (q := q) hc' h1 c.items.length (by omega)
      rw [hbe] at h7
      simp only at h7
      have h8 : q * turnsM c (tpL c p q m c.items.length) c.items.length ≤ q * turnsM ⟨c.items, c.weights, r⟩ pick c.items.length := by
        rcases hpr with h0 | h0
        · subst h0; omega
        · have : p * linesM ⟨c.items, c.weights, r⟩ pick c.items.length ≤ p * linesM c (tpL c p q m c.items.length) c.items.length := Int.mul_le_mul_of_nonneg_left (by omega) hp
          omega
      have h9 := Int.le_of_mul_le_mul_left h8 (by omega)
      omega
  · have h0 := validM_ok.2 hc'
    unfold boundE
    unfold okPQ at hpq
    rw [if_neg (by omega), if_neg (by omega)]
    simp only [boundM, Prod.mk.injEq, true_and, and_true]
    rw [hbe, Int.mul_comm q]
    rcases hpr with h0 | h0
    · subst h0; simp
    · rw [h0, Int.sub_mul]; omega
end Go.Proofs.YthcfjdkflmkhbaaDoor

namespace Go.Proofs.YthcfjdkflmkhbaaDoor
open Go.Av

theorem sums_congr {c c' : CaseM} {pick pick' : List Int} : ∀ n, (∀ i < n, optM c pick i = optM c' pick' i) → (∀ i < n, weightM c i = weightM c' i) → linesM c pick n = linesM c' pick' n ∧ turnsM c pick n = turnsM c' pick' n
  | 0, _, _ => ⟨rfl, rfl⟩
  | n + 1, h, hw => by
    obtain ⟨h1, h2⟩ := sums_congr n (fun i hi => h i (by omega)) (fun i hi => hw i (by omega))
    simp only [linesM, turnsM, h1, h2, h n (by omega), hw n (by omega), and_self]

def moreA (c : CaseM) (r : Int) : CaseM := ⟨c.items, c.weights, c.room + r⟩
def moreB (c : CaseM) (k : Nat) (o : Int × Int) : CaseM := ⟨c.items.set k (c.items.getD k default ++ [o]), c.weights, c.room⟩
def moreC (c : CaseM) (o : Int × Int) (w : Int) : CaseM := ⟨c.items ++ [[o]], c.weights ++ [w], c.room⟩

theorem set_getD {α : Type} [Inhabited α] (l : List α) (k i : Nat) (x : α) : (l.set k x).getD i default = if i = k ∧ k < l.length then x else l.getD i default := by
  simp only [List.getD_eq_getElem?_getD, List.getElem?_set]
  by_cases h : k = i
  · subst h
    by_cases hk : k < l.length
    · simp [hk]
    · simp [hk]
  · rw [if_neg h, if_neg (by omega)]
theorem app_getD {α : Type} [Inhabited α] (l l' : List α) (i : Nat) (h : i < l.length) : (l ++ l').getD i default = l.getD i default := by
  simp only [List.getD_eq_getElem?_getD, List.getElem?_append_left h]
theorem app_last {α : Type} [Inhabited α] (l : List α) (x : α) : (l ++ [x]).getD l.length default = x := by
  simp [List.getD_eq_getElem?_getD]

variable {c : CaseM}
theorem moreA_ok (hc : OkC c) {r : Int} (h : 0 ≤ r) (hr : c.room + r ≤ 4096) : OkC (moreA c r) := room_ok hc ⟨by have := hc.room; omega, hr⟩
theorem moreB_item {k : Nat} {o : Int × Int} (hk : k < c.items.length) (i : Nat) : itemM (moreB c k o) i = if i = k then c.items.getD k default ++ [o] else itemM c i := by
  show (c.items.set k (c.items.getD k default ++ [o])).getD i default = _
  rw [set_getD]
  by_cases h : i = k
  · rw [if_pos ⟨h, hk⟩, if_pos h]
  · rw [if_neg (by omega), if_neg h]
theorem moreB_ok (hc : OkC c) {k : Nat} {o : Int × Int} (hk : k < c.items.length) (h7 : (c.items.getD k default).length ≤ 7) (ho : okO o) : OkC (moreB c k o) := by
  have hl : (moreB c k o).items.length = c.items.length := by simp [moreB]
  have hit := moreB_item (o := o) hk
  refine ⟨by rw [hl]; exact hc.n64, fun i hi => ?_, fun i hi => ?_, by rw [hl]; exact hc.wl, hc.room, fun i hi => hc.w i (by omega), fun i hi x hx => ?_⟩
  · rw [hit i]; split
    · simp only [List.length_append, List.length_cons, List.length_nil]; omega
    · exact hc.n8 i (by omega)
  · rw [hit i]; split
    · simp
    · exact hc.n1 i (by omega)
  · rw [hit i] at hx
    split at hx
    · rcases List.mem_append.1 hx with hx | hx
      · exact hc.o k hk x hx
      · simp at hx; subst hx; exact ho
    · exact hc.o i (by omega) x hx
theorem moreC_item {o : Int × Int} {w : Int} {i : Nat} (hi : i < c.items.length) : itemM (moreC c o w) i = itemM c i := app_getD _ _ _ hi
theorem moreC_weight {o : Int × Int} {w : Int} {i : Nat} (hi : i < c.weights.length) : weightM (moreC c o w) i = weightM c i := app_getD _ _ _ hi
theorem moreC_ok (hc : OkC c) {o : Int × Int} {w : Int} (h63 : c.items.length ≤ 63) (ho : okO o) (hw : 0 ≤ w ∧ w ≤ 1024) : OkC (moreC c o w) := by
  have hl : (moreC c o w).items.length = c.items.length + 1 := by simp [moreC]
  have hlast : itemM (moreC c o w) c.items.length = [o] := app_last _ _
  have hwl := hc.wl
  have hlw : weightM (moreC c o w) c.items.length = w := by rw [← hwl]; exact app_last _ _
  refine ⟨by omega, fun i hi => ?_, fun i hi => ?_, by simp [moreC, hwl], hc.room, fun i hi => ?_, fun i hi x hx => ?_⟩
  · by_cases h : i < c.items.length
    · rw [moreC_item h]; exact hc.n8 i h
    · obtain rfl : i = c.items.length := by omega
      rw [hlast]; simp
  · by_cases h : i < c.items.length
    · rw [moreC_item h]; exact hc.n1 i h
    · obtain rfl : i = c.items.length := by omega
      rw [hlast]; simp
  · by_cases h : i < c.items.length
    · rw [moreC_weight (by omega)]; exact hc.w i h
    · obtain rfl : i = c.items.length := by omega
      rw [hlw]; exact hw
  · by_cases h : i < c.items.length
    · rw [moreC_item h] at hx; exact hc.o i h x hx
    · obtain rfl : i = c.items.length := by omega
      rw [hlast] at hx; simp at hx; subst hx; exact ho

/-- A case whose choices all are choices of another one, at the same costs. -/
theorem best_le {c c' : CaseM} (hc : OkC c) (hc' : OkC c') (h : ∀ pick, OkP c pick → pick.length = c.items.length → linesM c pick c.items.length ≤ c.room →
      ∃ pick', OkP c' pick' ∧ pick'.length = c'.items.length ∧ linesM c' pick' c'.items.length ≤ c'.room ∧ turnsM c' pick' c'.items.length ≤ turnsM c pick c.items.length) (he : (bestM c).2.2 = 0) :
    (bestM c').2.2 = 0 ∧ (bestM c').2.1 ≤ (bestM c).2.1 := by
  rcases best_lists hc with ⟨h1, h2⟩ | ⟨pick, h1, h2, h3, h4, h5⟩
  · rw [h1] at he; simp at he
  · obtain ⟨p', g1, g2, g3, g4⟩ := h pick h1 h2 h3
    rcases best_lists hc' with ⟨k1, k2⟩ | ⟨q, k1, k2, k3, k4, k5⟩
    · exact absurd g3 (k2 _ g1 g2)
    · have := k5 _ g1 g2 g3
      rw [k4, h4]
      refine ⟨rfl, ?_⟩
      simp only
      omega
theorem best_err (hc : OkC c) : (bestM c).2.2 = 0 ∨ (bestM c).2.2 = 21 := by
  rcases best_lists hc with ⟨h1, h2⟩ | ⟨pick, h1, h2, h3, h4, h5⟩
  · rw [h1]; simp
  · rw [h4]; simp
theorem best_nn (hc : OkC c) : 0 ≤ (bestM c).2.1 ∧ (bestM c).2.1 ≤ 65536 * 64 := by
  rcases best_lists hc with ⟨h1, h2⟩ | ⟨pick, h1, h2, h3, h4, h5⟩
  · rw [h1]; simp
  · rw [h4]
    have := (sums_range hc h1 c.items.length (by omega)).2
    have := hc.n64
    simp only
    omega

theorem more_A (hc : OkC c) {r : Int} (h : 0 ≤ r) (hr : c.room + r ≤ 4096) (he : (bestM c).2.2 = 0) : (bestM (moreA c r)).2.2 = 0 ∧ (bestM (moreA c r)).2.1 ≤ (bestM c).2.1 := by
  refine best_le hc (moreA_ok hc h hr) (fun pick hp hl hf => ?_) he
  obtain ⟨h1, h2⟩ := lines_room c (c.room + r) pick c.items.length
  refine ⟨pick, ⟨hp.len, hp.at_⟩, hl, ?_, Int.le_of_eq h2⟩
  show linesM ⟨c.items, c.weights, c.room + r⟩ pick c.items.length ≤ c.room + r
  rw [h1]; omega
theorem more_B (hc : OkC c) {k : Nat} {o : Int × Int} (hk : k < c.items.length) (h7 : (c.items.getD k default).length ≤ 7) (ho : okO o) (he : (bestM c).2.2 = 0) : (bestM (moreB c k o)).2.2 = 0 ∧ (bestM (moreB c k o)).2.1 ≤ (bestM c).2.1 := by
  refine best_le hc (moreB_ok hc hk h7 ho) (fun pick hp hl hf => ?_) he
  have hit := moreB_item (o := o) hk
  have hll : (moreB c k o).items.length = c.items.length := by simp [moreB]
  have hopt : ∀ i < c.items.length, optM (moreB c k o) pick i = optM c pick i := fun i hi => by
    have ha := hp.at_ i (by omega)
    simp only [optM]
    rw [hit i]
    split
    · rename_i h
      subst h
      simp only [itemM] at ha
      exact app_getD _ _ _ (by omega)
    · rfl
  obtain ⟨h1, h2⟩ := sums_congr (c := moreB c k o) (c' := c) (pick := pick) (pick' := pick) c.items.length hopt (fun _ _ => rfl)
  refine ⟨pick, ⟨by omega, fun i hi => ?_⟩, by omega, ?_, ?_⟩
  · have ha := hp.at_ i (by omega)
    rw [hit i]
    split
    · rename_i h
      subst h
      simp only [itemM] at ha
      simp only [List.length_append, List.length_cons, List.length_nil]
      omega
    · exact ha
  · rw [hll, h1]; exact hf
  · rw [hll, h2]; exact Int.le_refl _
theorem more_C (hc : OkC c) {o : Int × Int} {w : Int} (h63 : c.items.length ≤ 63) (ho : okO o) (hw : 0 ≤ w ∧ w ≤ 1024) (he : (bestM (moreC c o w)).2.2 = 0) : (bestM c).2.2 = 0 ∧ (bestM c).2.1 ≤ (bestM (moreC c o w)).2.1 := by
  have hc' := moreC_ok hc h63 ho hw
  have hl : (moreC c o w).items.length = c.items.length + 1 := by simp [moreC]
  have hwl := hc.wl
  refine best_le hc' hc (fun pick hp hpl hf => ?_) he
  have hopt : ∀ i < c.items.length, optM c (pick.take c.items.length) i = optM (moreC c o w) pick i := fun i hi => by
    simp only [optM, moreC_item hi]
    have : pickM (pick.take c.items.length) i = pickM pick i := by simp [pickM, List.getD_eq_getElem?_getD, List.getElem?_take, hi]
    rw [this]
  obtain ⟨h1, h2⟩ := sums_congr (c := c) (c' := moreC c o w) (pick := pick.take c.items.length) (pick' := pick) c.items.length hopt (fun i hi => (moreC_weight (by omega)).symm)
  have ho' := hp.opt hc' (show c.items.length < pick.length by omega)
  unfold okO at ho'
  have hw' := hc'.w c.items.length (by omega)
  have hm : 0 ≤ (optM (moreC c o w) pick c.items.length).2 * weightM (moreC c o w) c.items.length := Int.mul_nonneg ho'.2.2.1 hw'.1
  rw [hl] at hf
  simp only [linesM] at hf
  have hrr : (moreC c o w).room = c.room := rfl
  have htl : (pick.take c.items.length).length = c.items.length := by rw [List.length_take]; omega
  refine ⟨pick.take c.items.length, ⟨by omega, fun i hi => ?_⟩, htl, by omega, ?_⟩
  · rw [htl] at hi
    have ha := hp.at_ i (by omega)
    rw [moreC_item hi] at ha
    have : pickM (pick.take c.items.length) i = pickM pick i := by simp [pickM, List.getD_eq_getElem?_getD, List.getElem?_take, hi]
    rw [this]; exact ha
  · rw [hl]
    simp only [turnsM]
    omega

end Go.Proofs.YthcfjdkflmkhbaaDoor

