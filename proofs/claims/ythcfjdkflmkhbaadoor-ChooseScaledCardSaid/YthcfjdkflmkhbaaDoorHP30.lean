/- The contract of Best. -/
import Derived.Test.YthcfjdkflmkhbaaDoorHP29
import Derived.Test.YthcfjdkflmkhbaaDoorHAv39
set_option linter.all false
namespace Go.Proofs.YthcfjdkflmkhbaaDoor
open Go.Av


set_option maxHeartbeats 4000000 in
theorem best_ok (c : CaseM) (hs : SzC c) : Gives Tryd.prog gG 30 [caseD c] [isD (bestM c).1, iD (bestM c).2.1, iD (bestM c).2.2] := by
  have hni := hs.ni
  have hst : (0 : Nat) = 0 := rfl
  have hir := hs.ir
  unfold I64 at hir
  have hidx : ∀ j : Nat, j < c.items.length → ((c.items.length : Int) - 1 - (j : Int)).toNat = c.items.length - 1 - j := by intro j h; omega
  refine gives_intro [] [] [] Tryd.func30 rfl (by rfl) (by simp [Tryd.ntmps30]) fun F hP hG hN hR => ?_
  rw [Tryd.ntmps30] at hN
  have hA := And.intro hN (And.intro hP (And.intro hG (And.intro hR.1 (And.intro hR.2.1 hR.2.2.1))))
  apply aw_regs [1] [1]
  · simp (disch := omega) only [avR2, avA, datsOf, fillA, seval, ↓List.forall_mem_cons, Op.operands, hA, tiA]
    first | exact ⟨rfl, rfl⟩ | ((repeat' first | refine And.intro ?_ ?_ | intro _) <;> first | with_reducible rfl | assumption | omega | rfl | (rename_i hq; rw [hq]; rfl) | (simp_all; done))
  apply aw_seq
  apply aw_regs [1, 5] [1]
  · simp (disch := omega) only [avR2, avA, datsOf, fillA, seval, ↓List.forall_mem_cons, Op.operands, hA, tiA]
    (repeat' refine And.intro ?_ ?_) <;> try first | omega | assumption | with_reducible rfl | exact rfl | (intro hside; (repeat' refine And.intro ?_ ?_) <;> first | exact hside | omega | (rw [hside]; rfl) | (simp_all; done))
    refine CallC.use (gvF hP hG (valid_ok gG c hs)) rfl ?_
    try simp (maxSteps := 2000000) (disch := omega) only [avR2, avA, datsOf, fillA, seval, ↓List.forall_mem_cons, Op.operands, hA, tiA]
    first | exact ⟨rfl, rfl⟩ | ((repeat' first | refine And.intro ?_ ?_ | intro _) <;> first | with_reducible rfl | assumption | omega | rfl | (rename_i hq; rw [hq]; rfl) | (simp_all; done))
  apply aw_regs [1, 5, 23] [1]
  · simp (disch := omega) only [avR2, avA, datsOf, fillA, seval, ↓List.forall_mem_cons, Op.operands, hA, tiA]
    first | exact ⟨rfl, rfl⟩ | ((repeat' first | refine And.intro ?_ ?_ | intro _) <;> first | with_reducible rfl | assumption | omega | rfl | (rename_i hq; rw [hq]; rfl) | (simp_all; done))
  refine aw_if _ rfl (fun hb => ?_) (fun hb => ?_) <;> (try simp only [pickB_true, pickB_false, Bool.false_or, Bool.false_and, Bool.true_and, decide_eq_true_eq, decide_eq_false_iff_not, Bool.or_eq_true, Bool.and_eq_true, Bool.or_eq_false_iff, Bool.and_eq_false_imp, Bool.not_eq_true, Bool.not_eq_false, Bool.not_eq_eq_eq_not, Bool.not_true, Bool.not_false, Int.not_lt, Int.not_le, beq_iff_eq, beq_eq_false_iff_ne, bne_iff_ne, bne_eq_false_iff_eq, ne_eq, Bool.true_eq_false, Bool.false_eq_true, if_false_left, if_true_left, Bool.not_eq_eq_eq_not, Bool.decide_eq_true, Classical.not_not] at hb)
  · skip
    have hv : bestM c = ([], 0, validM c) := by
      unfold bestM
      rw [if_pos hb]
    apply aw_regs [2, 3, 4] [158, 159]
    · simp (disch := omega) only [avR2, avA, datsOf, fillA, seval, ↓List.forall_mem_cons, Op.operands, hA, tiA]
      first | exact ⟨rfl, rfl⟩ | ((repeat' first | refine And.intro ?_ ?_ | intro _) <;> first | with_reducible rfl | assumption | omega | rfl | (rename_i hq; rw [hq]; rfl) | (simp_all; done))
    apply aw_ret
    apply q_ret_seq
    simp only [QRet, QRetM, QRetX, retsX_nil, retsX_cons, objsAre, Tryd.results30, resA, mapO_nil, mapO_cons, vD_dat, vD_nils, vD_rp, vD_osl, vD_ptr, vD_agg, vD_fn, vL_dat, vL_app, viewL, avA, datsOf, fillA, seval, ↓List.forall_mem_cons, Op.operands, hP, hG, tiA]
    rw [hv]
    try simp [pickBM_len, List.take_of_length_le]
    
  · skip
    have h0 : ¬ validM c ≠ 0 := by omega
    have hc : OkC c := validM_ok.1 (by omega)
    have hc64 := hc.n64
    have hcr := hc.room
    have hcw := hc.wl
    have hn1 := n1_room hc
    have hd1 : (c.room + 1).toNat = n1M c := rfl
    apply aw_skip
    apply q_seq
    apply aw_regs [1, 6] [1, 28, 44]
    · simp (disch := omega) only [avR2, avA, datsOf, fillA, seval, ↓List.forall_mem_cons, Op.operands, hA, tiA, hd1, List.map_replicate]
      first | exact ⟨rfl, rfl⟩ | ((repeat' first | refine And.intro ?_ ?_ | intro _) <;> first | with_reducible rfl | assumption | omega | rfl | (rename_i hq; rw [hq]; rfl) | (simp_all; done))
    apply aw_regs [1, 6, 7] [1, 28, 32, 44, 50]
    · simp (disch := omega) only [avR2, avA, datsOf, fillA, seval, ↓List.forall_mem_cons, Op.operands, hA, tiA, List.map_replicate]
      first | exact ⟨rfl, rfl⟩ | ((repeat' first | refine And.intro ?_ ?_ | intro _) <;> first | with_reducible rfl | assumption | omega | rfl | (rename_i hq; rw [hq]; rfl) | (simp_all; done))
    apply aw_seq
    apply aw_regs [1, 6, 7, 8] [1, 28, 32, 44, 50]
    · simp (disch := omega) only [avR2, avA, datsOf, fillA, seval, ↓List.forall_mem_cons, Op.operands, hA, tiA]
      first | exact ⟨rfl, rfl⟩ | ((repeat' first | refine And.intro ?_ ?_ | intro _) <;> first | with_reducible rfl | assumption | omega | rfl | (rename_i hq; rw [hq]; rfl) | (simp_all; done))
    apply aw_block
    refine aw_frz 28 hR.2.2.2 rfl (datE_rep _ _) ?_
    refine aw_loop (ι := {j : Nat // j ≤ c.items.length}) (fun ⟨j, hj⟩ => .of [(1, .ptr 1 3 0 0), (6, .dat (.sl ((aftM c j).map oD))), (7, .osl 32 1 0 c.items.length), (8, .dat (iD (c.items.length - 1 - j)))] [(1, ⟨3, [.dat (caseD c)]⟩), (32, ⟨1, rowsA c j⟩)]) (fun ⟨j, hj⟩ => c.items.length - j) (⟨0, by omega⟩) (Le.of ?_ ?_) fun ix => ?_
    · try simp (disch := omega) only [LeE, LeO, avA, datsOf, fillA, seval, ↓List.forall_mem_cons, Op.operands, aftM_zero, aftM_succ, rowsA_zero, rowsA_next, nowL_all, List.map_replicate, Int.sub_zero, List.take_replicate, Nat.min_self, List.length_replicate, Nat.le_refl]
      all_goals first | done | (repeat' apply And.intro) <;> first | rfl | omega | assumption | (simp only [AV.dat.injEq, Dat.int.injEq, true_and]; omega) | (congr <;> omega)
    · try simp (disch := omega) only [LeE, LeO, avA, datsOf, fillA, seval, ↓List.forall_mem_cons, Op.operands, aftM_zero, aftM_succ, rowsA_zero, rowsA_next, nowL_all, List.map_replicate, Int.sub_zero, List.take_replicate, Nat.min_self, List.length_replicate, Nat.le_refl]
      all_goals first | done | (repeat' apply And.intro) <;> first | rfl | omega | assumption | (simp only [AV.dat.injEq, Dat.int.injEq, true_and]; omega) | (congr <;> omega)
    obtain ⟨j, hj⟩ := ix
    dsimp only
    apply aw_seq
    apply aw_regs [1, 6, 7, 8, 38] [1, 28, 32, 44, 50]
    · simp (disch := omega) only [avR2, avA, datsOf, fillA, seval, ↓List.forall_mem_cons, Op.operands, hA, tiA]
      first | exact ⟨rfl, rfl⟩ | ((repeat' first | refine And.intro ?_ ?_ | intro _) <;> first | with_reducible rfl | assumption | omega | rfl | (rename_i hq; rw [hq]; rfl) | (simp_all; done))
    refine aw_if _ rfl (fun hb => ?_) (fun hb => ?_) <;> (try simp only [pickB_true, pickB_false, Bool.false_or, Bool.false_and, Bool.true_and, decide_eq_true_eq, decide_eq_false_iff_not, Bool.or_eq_true, Bool.and_eq_true, Bool.or_eq_false_iff, Bool.and_eq_false_imp, Bool.not_eq_true, Bool.not_eq_false, Bool.not_eq_eq_eq_not, Bool.not_true, Bool.not_false, Int.not_lt, Int.not_le, beq_iff_eq, beq_eq_false_iff_ne, bne_iff_ne, bne_eq_false_iff_eq, ne_eq, Bool.true_eq_false, Bool.false_eq_true, if_false_left, if_true_left, Bool.not_eq_eq_eq_not, Bool.decide_eq_true, Classical.not_not] at hb)
    · skip
      have hjn : j < c.items.length := by omega
      have hal := aftM_len c j
      have hi8 := hc.n8 (c.items.length - 1 - j) (by omega)
      have hwj := hc.w (c.items.length - 1 - j) (by omega)
      have hrl := rowsA_len c j
      simp only [itemM, weightM] at hi8 hwj
      apply aw_skip
      apply q_seq
      apply aw_seq
      apply aw_block
      apply aw_regs [1, 6, 7, 8, 9] [1, 28, 32, 44, 50]
      · simp (disch := omega) only [avR2, avA, datsOf, fillA, seval, ↓List.forall_mem_cons, Op.operands, hA, tiA, hd1, List.map_replicate, rowsA_kill]
        first | exact ⟨rfl, rfl⟩ | ((repeat' first | refine And.intro ?_ ?_ | intro _) <;> first | with_reducible rfl | assumption | omega | rfl | (rename_i hq; rw [hq]; rfl) | (simp_all; done))
      apply aw_regs [1, 6, 7, 8, 9] [1, 28, 32, 44, 50]
      · simp (disch := omega) only [avR2, avA, datsOf, fillA, seval, ↓List.forall_mem_cons, Op.operands, hA, tiA, hd1, hidx, List.map_replicate, rowsA_kill, rowsA_nil, rowsA_len]
        first | exact ⟨rfl, rfl⟩ | ((repeat' first | refine And.intro ?_ ?_ | intro _) <;> first | with_reducible rfl | assumption | omega | rfl | (rename_i hq; rw [hq]; rfl) | (simp_all; done))
      apply aw_seq
      apply aw_regs [1, 6, 7, 8, 9, 54, 55] [1, 28, 32, 44, 50]
      · simp (disch := omega) only [avR2, avA, datsOf, fillA, seval, ↓List.forall_mem_cons, Op.operands, hA, tiA]
        first | exact ⟨rfl, rfl⟩ | ((repeat' first | refine And.intro ?_ ?_ | intro _) <;> first | with_reducible rfl | assumption | omega | rfl | (rename_i hq; rw [hq]; rfl) | (simp_all; done))
      apply aw_block
      refine aw_loop (ι := {r : Nat // r ≤ n1M c}) (fun ⟨r, hr⟩ => .of [(1, .ptr 1 3 0 0), (6, .dat (.sl ((aftM c j).map oD))), (7, .osl 32 1 0 c.items.length), (8, .dat (iD (c.items.length - 1 - j))), (9, .osl 44 2 0 (n1M c)), (54, .dat (iD (c.room + 1))), (55, .dat (iD r))] [(1, ⟨3, [.dat (caseD c)]⟩), (32, ⟨1, (rowsA c j).set (c.items.length - 1 - j) (.osl 50 1 0 (n1M c))⟩), (44, ⟨2, ((nowL (aftJ c j) (0, 0) (n1M c) r).map oD).map .dat⟩), (50, ⟨1, ((nowL (firJ c j) 0 (n1M c) r).map iD).map .dat⟩)]) (fun ⟨r, hr⟩ => n1M c - r) (⟨0, by omega⟩) (Le.of ?_ ?_) fun ix => ?_
      · try simp (disch := omega) only [LeE, LeO, avA, datsOf, fillA, seval, ↓List.forall_mem_cons, Op.operands, nowL_zero, nowA_next, nowF_next, List.map_replicate]
        all_goals first | done | (repeat' apply And.intro) <;> first | rfl | omega | assumption | (simp only [AV.dat.injEq, Dat.int.injEq, true_and]; omega) | (congr <;> omega)
      · try simp (disch := omega) only [LeE, LeO, avA, datsOf, fillA, seval, ↓List.forall_mem_cons, Op.operands, nowL_zero, nowA_next, nowF_next, List.map_replicate]
        all_goals first | done | (repeat' apply And.intro) <;> first | rfl | omega | assumption | (simp only [AV.dat.injEq, Dat.int.injEq, true_and]; omega) | (congr <;> omega)
      obtain ⟨r, hr⟩ := ix
      dsimp only
      apply aw_regs [1, 6, 7, 8, 9, 54, 55, 56] [1, 28, 32, 44, 50]
      · simp (disch := omega) only [avR2, avA, datsOf, fillA, seval, ↓List.forall_mem_cons, Op.operands, hA, tiA]
        first | exact ⟨rfl, rfl⟩ | ((repeat' first | refine And.intro ?_ ?_ | intro _) <;> first | with_reducible rfl | assumption | omega | rfl | (rename_i hq; rw [hq]; rfl) | (simp_all; done))
      apply aw_seq
      refine aw_if _ rfl (fun hb => ?_) (fun hb => ?_) <;> (try simp only [pickB_true, pickB_false, Bool.false_or, Bool.false_and, Bool.true_and, decide_eq_true_eq, decide_eq_false_iff_not, Bool.or_eq_true, Bool.and_eq_true, Bool.or_eq_false_iff, Bool.and_eq_false_imp, Bool.not_eq_true, Bool.not_eq_false, Bool.not_eq_eq_eq_not, Bool.not_true, Bool.not_false, Int.not_lt, Int.not_le, beq_iff_eq, beq_eq_false_iff_ne, bne_iff_ne, bne_eq_false_iff_eq, ne_eq, Bool.true_eq_false, Bool.false_eq_true, if_false_left, if_true_left, Bool.not_eq_eq_eq_not, Bool.decide_eq_true, Classical.not_not] at hb)
      · skip
        have hrn : r < n1M c := by omega
        have hnl1 := nowL_len (aftJ c j) (0, 0) (n1M c) r
        have hnl2 := nowL_len (firJ c j) 0 (n1M c) r
        apply aw_skip
        apply q_seq
        apply aw_seq
        apply aw_block
        apply aw_regs [1, 6, 7, 8, 9, 10, 54, 55] [1, 28, 32, 44, 50]
        · simp (disch := omega) only [avR2, avA, datsOf, fillA, seval, ↓List.forall_mem_cons, Op.operands, hA, tiA]
          first | exact ⟨rfl, rfl⟩ | ((repeat' first | refine And.intro ?_ ?_ | intro _) <;> first | with_reducible rfl | assumption | omega | rfl | (rename_i hq; rw [hq]; rfl) | (simp_all; done))
        apply aw_regs [1, 6, 7, 8, 9, 10, 54, 55] [1, 28, 32, 44, 50]
        · simp (disch := omega) only [avR2, avA, datsOf, fillA, seval, ↓List.forall_mem_cons, Op.operands, hA, tiA, Dat.flat, gG_look, set_rowP]
          first | exact ⟨rfl, rfl⟩ | ((repeat' first | refine And.intro ?_ ?_ | intro _) <;> first | with_reducible rfl | assumption | omega | rfl | (rename_i hq; rw [hq]; rfl) | (simp_all; done))
        apply aw_regs [1, 6, 7, 8, 9, 10, 54, 55, 66, 67, 68] [1, 28, 32, 44, 50]
        · simp (disch := omega) only [avR2, avA, datsOf, fillA, seval, ↓List.forall_mem_cons, Op.operands, hA, tiA, hidx]
          first | exact ⟨rfl, rfl⟩ | ((repeat' first | refine And.intro ?_ ?_ | intro _) <;> first | with_reducible rfl | assumption | omega | rfl | (rename_i hq; rw [hq]; rfl) | (simp_all; done))
        apply aw_block
        refine aw_loop (ι := {k : Nat // k ≤ (c.items.getD (c.items.length - 1 - j) default).length}) (fun ⟨k, hk⟩ => .of [(1, .ptr 1 3 0 0), (6, .dat (.sl ((aftM c j).map oD))), (7, .osl 32 1 0 c.items.length), (8, .dat (iD (c.items.length - 1 - j))), (9, .osl 44 2 0 (n1M c)), (54, .dat (iD (c.room + 1))), (55, .dat (iD r)), (10, .dat (iD r)), (66, .dat (osD (c.items.getD (c.items.length - 1 - j) default))), (67, .dat (iD (c.items.getD (c.items.length - 1 - j) default).length)), (68, .dat (iD k))] [(1, ⟨3, [.dat (caseD c)]⟩), (32, ⟨1, (rowsA c j).set (c.items.length - 1 - j) (.osl 50 1 0 (n1M c))⟩), (44, ⟨2, (((nowL (aftJ c j) (0, 0) (n1M c) r).set r (cellK c j r k).1).map oD).map .dat⟩), (50, ⟨1, (((nowL (firJ c j) 0 (n1M c) r).set r (cellK c j r k).2).map iD).map .dat⟩)]) (fun ⟨k, hk⟩ => (c.items.getD (c.items.length - 1 - j) default).length - k) (⟨0, by omega⟩) (Le.of ?_ ?_) fun ix => ?_
        · try simp (disch := omega) only [LeE, LeO, avA, datsOf, fillA, seval, ↓List.forall_mem_cons, Op.operands, cellK_zero, nowL_self, hst, List.set_set]
          all_goals first | done | (repeat' apply And.intro) <;> first | rfl | omega | assumption | (simp only [AV.dat.injEq, Dat.int.injEq, true_and]; omega) | (congr <;> omega)
        · try simp (disch := omega) only [LeE, LeO, avA, datsOf, fillA, seval, ↓List.forall_mem_cons, Op.operands, cellK_zero, nowL_self, hst, List.set_set]
          all_goals first | done | (repeat' apply And.intro) <;> first | rfl | omega | assumption | (simp only [AV.dat.injEq, Dat.int.injEq, true_and]; omega) | (congr <;> omega)
        obtain ⟨k, hk⟩ := ix
        dsimp only
        apply aw_regs [1, 6, 7, 8, 9, 10, 54, 55, 66, 67, 68, 69] [1, 28, 32, 44, 50]
        · simp (disch := omega) only [avR2, avA, datsOf, fillA, seval, ↓List.forall_mem_cons, Op.operands, hA, tiA]
          first | exact ⟨rfl, rfl⟩ | ((repeat' first | refine And.intro ?_ ?_ | intro _) <;> first | with_reducible rfl | assumption | omega | rfl | (rename_i hq; rw [hq]; rfl) | (simp_all; done))
        apply aw_seq
        refine aw_if _ rfl (fun hb => ?_) (fun hb => ?_) <;> (try simp only [pickB_true, pickB_false, Bool.false_or, Bool.false_and, Bool.true_and, decide_eq_true_eq, decide_eq_false_iff_not, Bool.or_eq_true, Bool.and_eq_true, Bool.or_eq_false_iff, Bool.and_eq_false_imp, Bool.not_eq_true, Bool.not_eq_false, Bool.not_eq_eq_eq_not, Bool.not_true, Bool.not_false, Int.not_lt, Int.not_le, beq_iff_eq, beq_eq_false_iff_ne, bne_iff_ne, bne_eq_false_iff_eq, ne_eq, Bool.true_eq_false, Bool.false_eq_true, if_false_left, if_true_left, Bool.not_eq_eq_eq_not, Bool.decide_eq_true, Classical.not_not] at hb)
        · skip
          have hkl : k < (c.items.getD (c.items.length - 1 - j) default).length := by omega
          have hok := getD_all (hc.o (c.items.length - 1 - j) (by omega)) (i := k) (by simp only [itemM]; omega)
          simp only [itemM] at hok
          unfold okO at hok
          have hsl1 : ((nowL (aftJ c j) (0, 0) (n1M c) r).set r (cellK c j r k).1).length = n1M c := by simp [nowL_len]
          have hsl2 : ((nowL (firJ c j) 0 (n1M c) r).set r (cellK c j r k).2).length = n1M c := by simp [nowL_len]
          have hck := (cell_ok (r := r) (m := j) (w := c.weights.getD (c.items.length - 1 - j) default) (aft := aftM c j) (opts := (c.items.getD (c.items.length - 1 - j) default)) hwj (fun k hk => getD_all (hc.o (c.items.length - 1 - j) (by omega)) (by simp only [itemM]; omega)) (by omega) (aft_ok hc j (by omega)) k (by omega)).i64
          have hcs := cell_snd (opts := (c.items.getD (c.items.length - 1 - j) default)) (w := c.weights.getD (c.items.length - 1 - j) default) (aft := aftM c j) (r := r) k
          apply aw_skip
          apply q_seq
          apply aw_seq
          apply aw_block
          apply aw_regs [1, 6, 7, 8, 9, 10, 11, 12, 54, 55, 66, 67, 68] [1, 12, 28, 32, 44, 50]
          · simp (disch := omega) only [avR2, avA, datsOf, fillA, seval, ↓List.forall_mem_cons, Op.operands, hA, tiA, rowsA_kset]
            first | exact ⟨rfl, rfl⟩ | ((repeat' first | refine And.intro ?_ ?_ | intro _) <;> first | with_reducible rfl | assumption | omega | rfl | (rename_i hq; rw [hq]; rfl) | (simp_all; done))
          apply aw_seq
          by_cases hsp : (r : Int) < ((c.items.getD (c.items.length - 1 - j) default).getD k default).1
          · skip
            have hdc : decide ((r : Int) < ((c.items.getD (c.items.length - 1 - j) default).getD k default).1) = true := by rw [decide_eq_true_eq]; exact hsp
            have hst : cellK c j r (k + 1) = cellK c j r k := by
              rw [cellK_succ]
              unfold stepM
              rw [if_pos (.inl hsp)]
            apply aw_rgds [1, 6, 7, 8, 9, 10, 11, 12, 54, 55, 66, 67, 68, 87] [1, 12, 28, 32, 44, 50] [0, 1, 2, 3, 4, 5, 6, 7, 8, 9, 10, 11, 12, 13, 14] []
            · rw [hP]; kernel_rfl
            · exact hR
            · kernel_rfl
            · (repeat (apply PickL.cons; exact rfl)); exact PickL.nil _
            · simp (maxSteps := 2000000) (disch := omega) only [avR2, avA, datsOf, fillA, seval, ↓List.forall_mem_cons, Op.operands, hA, tiA, hdc, eq97, Dat.flat, gG_look]
              first | exact ⟨rfl, rfl⟩ | ((repeat' first | refine And.intro ?_ ?_ | intro _) <;> first | with_reducible rfl | assumption | omega | rfl | (rename_i hq; rw [hq]; rfl) | (simp_all; done))
            refine aw_ift rfl ?_
            apply aw_exit
            apply q_exit_seq
            apply q_exit
            apply q_seq
            apply aw_reg [1, 6, 7, 8, 9, 10, 54, 55, 66, 67, 68] [1, 28, 32, 44, 50]
            · simp (disch := omega) only [avR2, avA, datsOf, fillA, seval, ↓List.forall_mem_cons, Op.operands, hA, tiA]
              first | exact ⟨rfl, rfl⟩ | ((repeat' first | refine And.intro ?_ ?_ | intro _) <;> first | with_reducible rfl | assumption | omega | rfl | (rename_i hq; rw [hq]; rfl) | (simp_all; done))
            refine q_loop (⟨k + 1, by omega⟩) (Le.of ?_ ?_) (by dsimp only; omega)
            · try simp (disch := omega) only [LeE, LeO, avA, datsOf, fillA, seval, ↓List.forall_mem_cons, Op.operands, cellK_zero, nowL_self, hst, List.set_set]
              all_goals first | done | (repeat' apply And.intro) <;> first | rfl | omega | assumption | (simp only [AV.dat.injEq, Dat.int.injEq, true_and]; omega) | (congr <;> omega)
            · try simp (disch := omega) only [LeE, LeO, avA, datsOf, fillA, seval, ↓List.forall_mem_cons, Op.operands, cellK_zero, nowL_self, hst, List.set_set]
              all_goals first | done | (repeat' apply And.intro) <;> first | rfl | omega | assumption | (simp only [AV.dat.injEq, Dat.int.injEq, true_and]; omega) | (congr <;> omega)
          · skip
            have hdc : decide ((r : Int) < ((c.items.getD (c.items.length - 1 - j) default).getD k default).1) = false := by rw [decide_eq_false_iff_not]; exact hsp
            have hqb : ((r : Int) - ((c.items.getD (c.items.length - 1 - j) default).getD k default).1).toNat < (aftM c j).length := by omega
            have hq := (aft_ok hc j (by omega) ((r : Int) - ((c.items.getD (c.items.length - 1 - j) default).getD k default).1).toNat hqb).i64
            have hm1 : 0 ≤ c.weights.getD (c.items.length - 1 - j) default * ((c.items.getD (c.items.length - 1 - j) default).getD k default).2 := Int.mul_nonneg hwj.1 hok.2.2.1
            have hm2 : c.weights.getD (c.items.length - 1 - j) default * ((c.items.getD (c.items.length - 1 - j) default).getD k default).2 ≤ 1024 * 64 := Int.mul_le_mul hwj.2 hok.2.2.2 hok.2.2.1 (by omega)
            apply aw_rgds [1, 6, 7, 8, 9, 10, 11, 12, 54, 55, 66, 67, 68, 87] [1, 12, 28, 32, 44, 50] [0, 1, 2, 3, 4, 5, 6, 7, 8, 9, 10, 11, 12, 13, 14] []
            · rw [hP]; kernel_rfl
            · exact hR
            · kernel_rfl
            · (repeat (apply PickL.cons; exact rfl)); exact PickL.nil _
            · simp (maxSteps := 2000000) (disch := omega) only [avR2, avA, datsOf, fillA, seval, ↓List.forall_mem_cons, Op.operands, hA, tiA, hdc, eq97, Dat.flat, gG_look]
              first | exact ⟨rfl, rfl⟩ | ((repeat' first | refine And.intro ?_ ?_ | intro _) <;> first | with_reducible rfl | assumption | omega | rfl | (rename_i hq; rw [hq]; rfl) | (simp_all; done))
            refine aw_if _ rfl (fun hb => ?_) (fun hb => ?_) <;> (try simp only [pickB_true, pickB_false, Bool.false_or, Bool.false_and, Bool.true_and, decide_eq_true_eq, decide_eq_false_iff_not, Bool.or_eq_true, Bool.and_eq_true, Bool.or_eq_false_iff, Bool.and_eq_false_imp, Bool.not_eq_true, Bool.not_eq_false, Bool.not_eq_eq_eq_not, Bool.not_true, Bool.not_false, Int.not_lt, Int.not_le, beq_iff_eq, beq_eq_false_iff_ne, bne_iff_ne, bne_eq_false_iff_eq, ne_eq, Bool.true_eq_false, Bool.false_eq_true, if_false_left, if_true_left, Bool.not_eq_eq_eq_not, Bool.decide_eq_true, Classical.not_not] at hb)
            · skip
              have hst : cellK c j r (k + 1) = cellK c j r k := by
                rw [cellK_succ]
                unfold stepM
                rw [if_pos (.inr (Prod.ext hb.1 hb.2))]
              apply aw_exit
              apply q_exit_seq
              apply q_exit
              apply q_seq
              apply aw_reg [1, 6, 7, 8, 9, 10, 54, 55, 66, 67, 68] [1, 28, 32, 44, 50]
              · simp (disch := omega) only [avR2, avA, datsOf, fillA, seval, ↓List.forall_mem_cons, Op.operands, hA, tiA]
                first | exact ⟨rfl, rfl⟩ | ((repeat' first | refine And.intro ?_ ?_ | intro _) <;> first | with_reducible rfl | assumption | omega | rfl | (rename_i hq; rw [hq]; rfl) | (simp_all; done))
              refine q_loop (⟨k + 1, by omega⟩) (Le.of ?_ ?_) (by dsimp only; omega)
              · try simp (disch := omega) only [LeE, LeO, avA, datsOf, fillA, seval, ↓List.forall_mem_cons, Op.operands, cellK_zero, nowL_self, hst, List.set_set]
                all_goals first | done | (repeat' apply And.intro) <;> first | rfl | omega | assumption | (simp only [AV.dat.injEq, Dat.int.injEq, true_and]; omega) | (congr <;> omega)
              · try simp (disch := omega) only [LeE, LeO, avA, datsOf, fillA, seval, ↓List.forall_mem_cons, Op.operands, cellK_zero, nowL_self, hst, List.set_set]
                all_goals first | done | (repeat' apply And.intro) <;> first | rfl | omega | assumption | (simp only [AV.dat.injEq, Dat.int.injEq, true_and]; omega) | (congr <;> omega)
            · skip
              have hne : ¬ ((r : Int) < ((c.items.getD (c.items.length - 1 - j) default).getD k default).1 ∨ (aftM c j).getD ((r : Int) - ((c.items.getD (c.items.length - 1 - j) default).getD k default).1).toNat default = none2) := by
                rintro (h | h)
                · exact hsp h
                · rw [h] at hb; simp at hb
              apply aw_skip
              apply q_seq
              apply aw_regs [1, 6, 7, 8, 9, 10, 11, 12, 13, 54, 55, 66, 67, 68] [1, 12, 13, 28, 32, 44, 50]
              · simp (disch := omega) only [avR2, avA, datsOf, fillA, seval, ↓List.forall_mem_cons, Op.operands, hA, tiA, rowsA_kset]
                first | exact ⟨rfl, rfl⟩ | ((repeat' first | refine And.intro ?_ ?_ | intro _) <;> first | with_reducible rfl | assumption | omega | rfl | (rename_i hq; rw [hq]; rfl) | (simp_all; done))
              apply aw_rgds [1, 6, 7, 8, 9, 10, 11, 14, 54, 55, 66, 67, 68] [1, 14, 28, 32, 44, 50] [0, 1, 2, 3, 4, 5, 6, 7, 8, 9, 10, 11, 12, 13, 14, 15, 16, 17, 18] [14]
              · rw [hP]; kernel_rfl
              · exact hR
              · kernel_rfl
              · (repeat (apply PickL.cons; exact rfl)); exact PickL.nil _
              · simp (maxSteps := 2000000) (disch := omega) only [avR2, avA, datsOf, fillA, seval, ↓List.forall_mem_cons, Op.operands, hA, tiA, rowsA_kset, hidx]
                first | exact ⟨rfl, rfl⟩ | ((repeat' first | refine And.intro ?_ ?_ | intro _) <;> first | with_reducible rfl | assumption | omega | rfl | (rename_i hq; rw [hq]; rfl) | (simp_all; done))
              apply aw_rgds [1, 6, 7, 8, 9, 10, 11, 14, 54, 55, 66, 67, 68, 117] [1, 14, 28, 32, 44, 50] [0, 1, 2, 3, 4, 5] []
              · rw [hP]; kernel_rfl
              · exact hR
              · kernel_rfl
              · (repeat (apply PickL.cons; exact rfl)); exact PickL.nil _
              · simp (disch := omega) only [avR2, avA, datsOf, fillA, seval, ↓List.forall_mem_cons, Op.operands, hA, tiA, getD_set_self]
                (repeat' refine And.intro ?_ ?_) <;> try first | omega | assumption | with_reducible rfl | exact rfl | (intro hside; (repeat' refine And.intro ?_ ?_) <;> first | exact hside | omega | (rw [hside]; rfl) | (simp_all; done))
                refine CallC.use (gvF hP hG (less_ok (((aftM c j).getD ((r : Int) - ((c.items.getD (c.items.length - 1 - j) default).getD k default).1).toNat default).1 + c.weights.getD (c.items.length - 1 - j) default * ((c.items.getD (c.items.length - 1 - j) default).getD k default).2, ((aftM c j).getD ((r : Int) - ((c.items.getD (c.items.length - 1 - j) default).getD k default).1).toNat default).2 + ((c.items.getD (c.items.length - 1 - j) default).getD k default).1) (cellK c j r k).1)) rfl ?_
                try simp (maxSteps := 2000000) (disch := omega) only [avR2, avA, datsOf, fillA, seval, ↓List.forall_mem_cons, Op.operands, hA, tiA]
                first | exact ⟨rfl, rfl⟩ | ((repeat' first | refine And.intro ?_ ?_ | intro _) <;> first | with_reducible rfl | assumption | omega | rfl | (rename_i hq; rw [hq]; rfl) | (simp_all; done))
              refine aw_if _ rfl (fun hb => ?_) (fun hb => ?_) <;> (try simp only [pickB_true, pickB_false, Bool.false_or, Bool.false_and, Bool.true_and, decide_eq_true_eq, decide_eq_false_iff_not, Bool.or_eq_true, Bool.and_eq_true, Bool.or_eq_false_iff, Bool.and_eq_false_imp, Bool.not_eq_true, Bool.not_eq_false, Bool.not_eq_eq_eq_not, Bool.not_true, Bool.not_false, Int.not_lt, Int.not_le, beq_iff_eq, beq_eq_false_iff_ne, bne_iff_ne, bne_eq_false_iff_eq, ne_eq, Bool.true_eq_false, Bool.false_eq_true, if_false_left, if_true_left, Bool.not_eq_eq_eq_not, Bool.decide_eq_true, Classical.not_not] at hb)
              · skip
                have hst : cellK c j r (k + 1) = ((((aftM c j).getD ((r : Int) - ((c.items.getD (c.items.length - 1 - j) default).getD k default).1).toNat default).1 + c.weights.getD (c.items.length - 1 - j) default * ((c.items.getD (c.items.length - 1 - j) default).getD k default).2, ((aftM c j).getD ((r : Int) - ((c.items.getD (c.items.length - 1 - j) default).getD k default).1).toNat default).2 + ((c.items.getD (c.items.length - 1 - j) default).getD k default).1), (k : Int)) := by
                  rw [cellK_succ]
                  unfold stepM
                  rw [if_neg hne, if_pos hb]
                apply aw_rgd [1, 6, 7, 8, 9, 10, 54, 55, 66, 67, 68] [1, 28, 32, 44, 50] [0, 1, 2, 3, 4, 5, 7, 9, 10, 6, 8, 11, 12] []
                · rw [hP]; kernel_rfl
                · exact hR
                · kernel_rfl
                · (repeat (apply PickL.cons; exact rfl)); exact PickL.nil _
                · simp (maxSteps := 2000000) (disch := omega) only [avR2, avA, datsOf, fillA, seval, ↓List.forall_mem_cons, Op.operands, hA, tiA, List.length_set, rowsA_len, hidx, getA_set_self, set_rowP, set_row]
                  first | exact ⟨rfl, rfl⟩ | ((repeat' first | refine And.intro ?_ ?_ | intro _) <;> first | with_reducible rfl | assumption | omega | rfl | (rename_i hq; rw [hq]; rfl) | (simp_all; done))
                apply q_block
                apply q_seq
                apply aw_reg [1, 6, 7, 8, 9, 10, 54, 55, 66, 67, 68] [1, 28, 32, 44, 50]
                · simp (disch := omega) only [avR2, avA, datsOf, fillA, seval, ↓List.forall_mem_cons, Op.operands, hA, tiA]
                  first | exact ⟨rfl, rfl⟩ | ((repeat' first | refine And.intro ?_ ?_ | intro _) <;> first | with_reducible rfl | assumption | omega | rfl | (rename_i hq; rw [hq]; rfl) | (simp_all; done))
                refine q_loop (⟨k + 1, by omega⟩) (Le.of ?_ ?_) (by dsimp only; omega)
                · try simp (disch := omega) only [LeE, LeO, avA, datsOf, fillA, seval, ↓List.forall_mem_cons, Op.operands, cellK_zero, nowL_self, hst, List.set_set]
                  all_goals first | done | (repeat' apply And.intro) <;> first | rfl | omega | assumption | (simp only [AV.dat.injEq, Dat.int.injEq, true_and]; omega) | (congr <;> omega)
                · try simp (disch := omega) only [LeE, LeO, avA, datsOf, fillA, seval, ↓List.forall_mem_cons, Op.operands, cellK_zero, nowL_self, hst, List.set_set]
                  all_goals first | done | (repeat' apply And.intro) <;> first | rfl | omega | assumption | (simp only [AV.dat.injEq, Dat.int.injEq, true_and]; omega) | (congr <;> omega)
              · skip
                have hst : cellK c j r (k + 1) = cellK c j r k := by
                  rw [cellK_succ]
                  unfold stepM
                  rw [if_neg hne, if_neg (by rw [hb]; simp)]
                apply aw_skip
                apply q_block
                apply q_seq
                apply aw_reg [1, 6, 7, 8, 9, 10, 54, 55, 66, 67, 68] [1, 28, 32, 44, 50]
                · simp (disch := omega) only [avR2, avA, datsOf, fillA, seval, ↓List.forall_mem_cons, Op.operands, hA, tiA]
                  first | exact ⟨rfl, rfl⟩ | ((repeat' first | refine And.intro ?_ ?_ | intro _) <;> first | with_reducible rfl | assumption | omega | rfl | (rename_i hq; rw [hq]; rfl) | (simp_all; done))
                refine q_loop (⟨k + 1, by omega⟩) (Le.of ?_ ?_) (by dsimp only; omega)
                · try simp (disch := omega) only [LeE, LeO, avA, datsOf, fillA, seval, ↓List.forall_mem_cons, Op.operands, cellK_zero, nowL_self, hst, List.set_set]
                  all_goals first | done | (repeat' apply And.intro) <;> first | rfl | omega | assumption | (simp only [AV.dat.injEq, Dat.int.injEq, true_and]; omega) | (congr <;> omega)
                · try simp (disch := omega) only [LeE, LeO, avA, datsOf, fillA, seval, ↓List.forall_mem_cons, Op.operands, cellK_zero, nowL_self, hst, List.set_set]
                  all_goals first | done | (repeat' apply And.intro) <;> first | rfl | omega | assumption | (simp only [AV.dat.injEq, Dat.int.injEq, true_and]; omega) | (congr <;> omega)
        · skip
          have hkk : k = (c.items.getD (c.items.length - 1 - j) default).length := by omega
          subst hkk
          apply aw_exit
          apply q_exit_seq
          apply q_exit_loop
          apply q_exit
          apply q_block
          apply q_seq
          apply aw_reg [1, 6, 7, 8, 9, 54, 55] [1, 28, 32, 44, 50]
          · simp (disch := omega) only [avR2, avA, datsOf, fillA, seval, ↓List.forall_mem_cons, Op.operands, hA, tiA]
            first | exact ⟨rfl, rfl⟩ | ((repeat' first | refine And.intro ?_ ?_ | intro _) <;> first | with_reducible rfl | assumption | omega | rfl | (rename_i hq; rw [hq]; rfl) | (simp_all; done))
          refine q_loop (⟨r + 1, by omega⟩) (Le.of ?_ ?_) (by dsimp only; omega)
          · try simp (disch := omega) only [LeE, LeO, avA, datsOf, fillA, seval, ↓List.forall_mem_cons, Op.operands, nowL_zero, nowA_next, nowF_next, List.map_replicate]
            all_goals first | done | (repeat' apply And.intro) <;> first | rfl | omega | assumption | (simp only [AV.dat.injEq, Dat.int.injEq, true_and]; omega) | (congr <;> omega)
          · try simp (disch := omega) only [LeE, LeO, avA, datsOf, fillA, seval, ↓List.forall_mem_cons, Op.operands, nowL_zero, nowA_next, nowF_next, List.map_replicate]
            all_goals first | done | (repeat' apply And.intro) <;> first | rfl | omega | assumption | (simp only [AV.dat.injEq, Dat.int.injEq, true_and]; omega) | (congr <;> omega)
      · skip
        have hrr : r = n1M c := by omega
        subst hrr
        have hnl1 := nowL_len (aftJ c j) (0, 0) (n1M c) (n1M c)
        have hnl2 := nowL_len (firJ c j) 0 (n1M c) (n1M c)
        refine aw_frz 44 hR.2.2.2 rfl (datE_map _) ?_
        refine aw_frz 50 hR.2.2.2 rfl (by simp only [frz_dats]; exact datE_map _) ?_
        apply aw_exit
        apply q_exit_seq
        apply q_exit_loop
        apply q_exit
        apply q_seq
        apply aw_reg [1, 6, 7, 8] [1, 28, 32, 44, 50]
        · simp (disch := omega) only [avR2, avA, datsOf, fillA, seval, ↓List.forall_mem_cons, Op.operands, hA, tiA, rowsA_frz, List.map_set, List.take_of_length_le, nowL_len]
          first | exact ⟨rfl, rfl⟩ | ((repeat' first | refine And.intro ?_ ?_ | intro _) <;> first | with_reducible rfl | assumption | omega | rfl | (rename_i hq; rw [hq]; rfl) | (simp_all; done))
        apply q_block
        apply q_seq
        apply aw_reg [1, 6, 7, 8] [1, 28, 32, 44, 50]
        · simp (disch := omega) only [avR2, avA, datsOf, fillA, seval, ↓List.forall_mem_cons, Op.operands, hA, tiA]
          first | exact ⟨rfl, rfl⟩ | ((repeat' first | refine And.intro ?_ ?_ | intro _) <;> first | with_reducible rfl | assumption | omega | rfl | (rename_i hq; rw [hq]; rfl) | (simp_all; done))
        refine q_loop (⟨j + 1, by omega⟩) (Le.of ?_ ?_) (by dsimp only; omega)
        · try simp (disch := omega) only [LeE, LeO, avA, datsOf, fillA, seval, ↓List.forall_mem_cons, Op.operands, aftM_zero, aftM_succ, rowsA_zero, rowsA_next, nowL_all, List.map_replicate, Int.sub_zero, List.take_replicate, Nat.min_self, List.length_replicate, Nat.le_refl]
          all_goals first | done | (repeat' apply And.intro) <;> first | rfl | omega | assumption | (simp only [AV.dat.injEq, Dat.int.injEq, true_and]; omega) | (congr <;> omega)
        · try simp (disch := omega) only [LeE, LeO, avA, datsOf, fillA, seval, ↓List.forall_mem_cons, Op.operands, aftM_zero, aftM_succ, rowsA_zero, rowsA_next, nowL_all, List.map_replicate, Int.sub_zero, List.take_replicate, Nat.min_self, List.length_replicate, Nat.le_refl]
          all_goals first | done | (repeat' apply And.intro) <;> first | rfl | omega | assumption | (simp only [AV.dat.injEq, Dat.int.injEq, true_and]; omega) | (congr <;> omega)
    · skip
      have hjj : j = c.items.length := by omega
      subst hjj
      have hal := aftM_len c c.items.length
      simp only [rowsA_all]
      apply aw_exit
      apply q_exit_seq
      apply q_exit_loop
      apply q_exit
      apply q_seq
      apply aw_seq
      apply aw_rgds [1, 6, 7, 138] [1, 28, 32, 44, 50] [0, 1, 2, 3, 4, 5, 6] []
      · rw [hP]; kernel_rfl
      · exact hR
      · kernel_rfl
      · (repeat (apply PickL.cons; exact rfl)); exact PickL.nil _
      · simp (disch := omega) only [avR2, avA, datsOf, fillA, seval, ↓List.forall_mem_cons, Op.operands, hA, tiA, eq97, Dat.flat, gG_look]
        first | exact ⟨rfl, rfl⟩ | ((repeat' first | refine And.intro ?_ ?_ | intro _) <;> first | with_reducible rfl | assumption | omega | rfl | (rename_i hq; rw [hq]; rfl) | (simp_all; done))
      refine aw_if _ rfl (fun hb => ?_) (fun hb => ?_) <;> (try simp only [pickB_true, pickB_false, Bool.false_or, Bool.false_and, Bool.true_and, decide_eq_true_eq, decide_eq_false_iff_not, Bool.or_eq_true, Bool.and_eq_true, Bool.or_eq_false_iff, Bool.and_eq_false_imp, Bool.not_eq_true, Bool.not_eq_false, Bool.not_eq_eq_eq_not, Bool.not_true, Bool.not_false, Int.not_lt, Int.not_le, beq_iff_eq, beq_eq_false_iff_ne, bne_iff_ne, bne_eq_false_iff_eq, ne_eq, Bool.true_eq_false, Bool.false_eq_true, if_false_left, if_true_left, Bool.not_eq_eq_eq_not, Bool.decide_eq_true, Classical.not_not] at hb)
      · skip
        have hv : bestM c = ([], 0, 21) := by
          unfold bestM
          rw [if_neg h0, if_pos (Prod.ext hb.1 hb.2)]
        apply aw_regs [2, 3, 4] [158, 159]
        · simp (disch := omega) only [avR2, avA, datsOf, fillA, seval, ↓List.forall_mem_cons, Op.operands, hA, tiA]
          first | exact ⟨rfl, rfl⟩ | ((repeat' first | refine And.intro ?_ ?_ | intro _) <;> first | with_reducible rfl | assumption | omega | rfl | (rename_i hq; rw [hq]; rfl) | (simp_all; done))
        apply aw_ret
        apply q_ret_seq
        simp only [QRet, QRetM, QRetX, retsX_nil, retsX_cons, objsAre, Tryd.results30, resA, mapO_nil, mapO_cons, vD_dat, vD_nils, vD_rp, vD_osl, vD_ptr, vD_agg, vD_fn, vL_dat, vL_app, viewL, avA, datsOf, fillA, seval, ↓List.forall_mem_cons, Op.operands, hP, hG, tiA]
        rw [hv]
        try simp [pickBM_len, List.take_of_length_le]
        
      · skip
        have hnb : (aftM c c.items.length).getD c.room.toNat default ≠ none2 := by
          intro h
          rw [h] at hb
          simp at hb
        have hv : bestM c = (pickBM c c.items.length, ((aftM c c.items.length).getD c.room.toNat default).1, 0) := by
          unfold bestM
          rw [if_neg h0, if_neg hnb]
        apply aw_skip
        apply q_seq
        apply aw_regs [1, 6, 7, 15] [1, 28, 32, 44, 50, 158, 159]
        · simp (disch := omega) only [avR2, avA, datsOf, fillA, seval, ↓List.forall_mem_cons, Op.operands, hA, tiA]
          first | exact ⟨rfl, rfl⟩ | ((repeat' first | refine And.intro ?_ ?_ | intro _) <;> first | with_reducible rfl | assumption | omega | rfl | (rename_i hq; rw [hq]; rfl) | (simp_all; done))
        apply aw_regs [1, 6, 7, 15, 16] [1, 28, 32, 44, 50, 158, 159]
        · simp (disch := omega) only [avR2, avA, datsOf, fillA, seval, ↓List.forall_mem_cons, Op.operands, hA, tiA]
          first | exact ⟨rfl, rfl⟩ | ((repeat' first | refine And.intro ?_ ?_ | intro _) <;> first | with_reducible rfl | assumption | omega | rfl | (rename_i hq; rw [hq]; rfl) | (simp_all; done))
        apply aw_seq
        apply aw_regs [1, 6, 7, 15, 16, 142, 143, 144] [1, 28, 32, 44, 50, 158, 159]
        · simp (disch := omega) only [avR2, avA, datsOf, fillA, seval, ↓List.forall_mem_cons, Op.operands, hA, tiA]
          first | exact ⟨rfl, rfl⟩ | ((repeat' first | refine And.intro ?_ ?_ | intro _) <;> first | with_reducible rfl | assumption | omega | rfl | (rename_i hq; rw [hq]; rfl) | (simp_all; done))
        apply aw_block
        refine aw_new0 159 1 (by omega) ?_
        refine aw_nilE 15 159 1 rfl rfl ?_
        refine aw_loop (ι := {i : Nat // i ≤ c.items.length}) (fun ⟨i, hi⟩ => .of [(1, .ptr 1 3 0 0), (6, .dat (.sl ((aftM c c.items.length).map oD))), (7, .osl 32 1 0 c.items.length), (15, .osl 159 1 0 i), (16, .dat (iD (curM c i))), (142, .dat (.sl (c.items.map osD))), (143, .dat (iD c.items.length)), (144, .dat (iD i))] [(1, ⟨3, [.dat (caseD c)]⟩), (32, ⟨1, (((List.range c.items.length).map (firM c)).map isD).map .dat⟩), (159, ⟨1, ((pickBM c i).map iD).map .dat⟩)]) (fun ⟨i, hi⟩ => c.items.length - i) (⟨0, by omega⟩) (Le.of ?_ ?_) fun ix => ?_
        · try simp (disch := omega) only [LeE, LeO, avA, datsOf, fillA, seval, ↓List.forall_mem_cons, Op.operands, pickBM_zero, pickBM_succ, curM, kM, pickBM_len]
          all_goals first | done | (repeat' apply And.intro) <;> first | rfl | omega | assumption | (simp only [AV.dat.injEq, Dat.int.injEq, true_and]; omega) | (congr <;> omega)
        · try simp (disch := omega) only [LeE, LeO, avA, datsOf, fillA, seval, ↓List.forall_mem_cons, Op.operands, pickBM_zero, pickBM_succ, curM, kM, pickBM_len]
          all_goals first | done | (repeat' apply And.intro) <;> first | rfl | omega | assumption | (simp only [AV.dat.injEq, Dat.int.injEq, true_and]; omega) | (congr <;> omega)
        obtain ⟨i, hi⟩ := ix
        dsimp only
        apply aw_regs [1, 6, 7, 15, 16, 142, 143, 144, 145] [1, 28, 32, 44, 50, 158, 159]
        · simp (disch := omega) only [avR2, avA, datsOf, fillA, seval, ↓List.forall_mem_cons, Op.operands, hA, tiA]
          first | exact ⟨rfl, rfl⟩ | ((repeat' first | refine And.intro ?_ ?_ | intro _) <;> first | with_reducible rfl | assumption | omega | rfl | (rename_i hq; rw [hq]; rfl) | (simp_all; done))
        apply aw_seq
        refine aw_if _ rfl (fun hb => ?_) (fun hb => ?_) <;> (try simp only [pickB_true, pickB_false, Bool.false_or, Bool.false_and, Bool.true_and, decide_eq_true_eq, decide_eq_false_iff_not, Bool.or_eq_true, Bool.and_eq_true, Bool.or_eq_false_iff, Bool.and_eq_false_imp, Bool.not_eq_true, Bool.not_eq_false, Bool.not_eq_eq_eq_not, Bool.not_true, Bool.not_false, Int.not_lt, Int.not_le, beq_iff_eq, beq_eq_false_iff_ne, bne_iff_ne, bne_eq_false_iff_eq, ne_eq, Bool.true_eq_false, Bool.false_eq_true, if_false_left, if_true_left, Bool.not_eq_eq_eq_not, Bool.decide_eq_true, Classical.not_not] at hb)
        · skip
          have hin : i < c.items.length := by omega
          have hpl := pickBM_len c i
          have hcu := cur_ok hc hnb i (by omega)
          have hkm := kM_ok hc hnb hin
          have hlr : ((List.range c.items.length).map (firM c)).length = c.items.length := by simp
          have hfl : (firM c i).length = n1M c := by simp [firM]
          simp only [kM] at hkm
          unfold okO at hkm
          apply aw_skip
          apply q_seq
          apply aw_seq
          apply aw_block
          apply aw_regs [1, 6, 7, 15, 16, 17, 18, 142, 143, 144] [1, 28, 32, 44, 50, 158, 159]
          · simp (disch := omega) only [avR2, avA, datsOf, fillA, seval, ↓List.forall_mem_cons, Op.operands, hA, tiA]
            first | exact ⟨rfl, rfl⟩ | ((repeat' first | refine And.intro ?_ ?_ | intro _) <;> first | with_reducible rfl | assumption | omega | rfl | (rename_i hq; rw [hq]; rfl) | (simp_all; done))
          apply aw_regs [1, 6, 7, 15, 16, 18, 19, 142, 143, 144] [1, 28, 32, 44, 50, 158, 159]
          · simp (disch := omega) only [avR2, avA, datsOf, fillA, seval, ↓List.forall_mem_cons, Op.operands, hA, tiA, getD_map_range]
            first | exact ⟨rfl, rfl⟩ | ((repeat' first | refine And.intro ?_ ?_ | intro _) <;> first | with_reducible rfl | assumption | omega | rfl | (rename_i hq; rw [hq]; rfl) | (simp_all; done))
          apply aw_regs [1, 6, 7, 15, 16, 18, 19, 142, 143, 144] [1, 28, 32, 44, 50, 158, 159]
          · simp (disch := omega) only [avR2, avA, datsOf, fillA, seval, ↓List.forall_mem_cons, Op.operands, hA, tiA, pickBM_len]
            first | exact ⟨rfl, rfl⟩ | ((repeat' first | refine And.intro ?_ ?_ | intro _) <;> first | with_reducible rfl | assumption | omega | rfl | (rename_i hq; rw [hq]; rfl) | (simp_all; done))
          apply aw_reg [1, 6, 7, 15, 16, 142, 143, 144] [1, 28, 32, 44, 50, 158, 159]
          · simp (disch := omega) only [avR2, avA, datsOf, fillA, seval, ↓List.forall_mem_cons, Op.operands, hA, tiA]
            first | exact ⟨rfl, rfl⟩ | ((repeat' first | refine And.intro ?_ ?_ | intro _) <;> first | with_reducible rfl | assumption | omega | rfl | (rename_i hq; rw [hq]; rfl) | (simp_all; done))
          apply q_block
          apply q_seq
          apply aw_reg [1, 6, 7, 15, 16, 142, 143, 144] [1, 28, 32, 44, 50, 158, 159]
          · simp (disch := omega) only [avR2, avA, datsOf, fillA, seval, ↓List.forall_mem_cons, Op.operands, hA, tiA]
            first | exact ⟨rfl, rfl⟩ | ((repeat' first | refine And.intro ?_ ?_ | intro _) <;> first | with_reducible rfl | assumption | omega | rfl | (rename_i hq; rw [hq]; rfl) | (simp_all; done))
          refine q_loop (⟨i + 1, by omega⟩) (Le.of ?_ ?_) (by dsimp only; omega)
          · try simp (disch := omega) only [LeE, LeO, avA, datsOf, fillA, seval, ↓List.forall_mem_cons, Op.operands, pickBM_zero, pickBM_succ, curM, kM, pickBM_len]
            all_goals first | done | (repeat' apply And.intro) <;> first | rfl | omega | assumption | (simp only [AV.dat.injEq, Dat.int.injEq, true_and]; omega) | (congr <;> omega)
          · try simp (disch := omega) only [LeE, LeO, avA, datsOf, fillA, seval, ↓List.forall_mem_cons, Op.operands, pickBM_zero, pickBM_succ, curM, kM, pickBM_len]
            all_goals first | done | (repeat' apply And.intro) <;> first | rfl | omega | assumption | (simp only [AV.dat.injEq, Dat.int.injEq, true_and]; omega) | (congr <;> omega)
        · skip
          have hii : i = c.items.length := by omega
          subst hii
          have hpl := pickBM_len c c.items.length
          have hfin := (aft_ok hc c.items.length (Nat.le_refl _) c.room.toNat (by omega)).i64
          apply aw_exit
          apply q_exit_seq
          apply q_exit_loop
          apply q_exit
          apply q_seq
          apply aw_rgds [2, 3, 4] [158, 159] [0, 1, 2, 3, 4, 5, 6, 7, 8, 9] []
          · rw [hP]; kernel_rfl
          · exact hR
          · kernel_rfl
          · (repeat (apply PickL.cons; exact rfl)); exact PickL.nil _
          · simp (disch := omega) only [avR2, avA, datsOf, fillA, seval, ↓List.forall_mem_cons, Op.operands, hA, tiA]
            first | exact ⟨rfl, rfl⟩ | ((repeat' first | refine And.intro ?_ ?_ | intro _) <;> first | with_reducible rfl | assumption | omega | rfl | (rename_i hq; rw [hq]; rfl) | (simp_all; done))
          apply aw_ret
          simp only [QRet, QRetM, QRetX, retsX_nil, retsX_cons, objsAre, Tryd.results30, resA, mapO_nil, mapO_cons, vD_dat, vD_nils, vD_rp, vD_osl, vD_ptr, vD_agg, vD_fn, vL_dat, vL_app, viewL, avA, datsOf, fillA, seval, ↓List.forall_mem_cons, Op.operands, hP, hG, tiA]
          rw [hv]
          try simp [pickBM_len, List.take_of_length_le]
          

end Go.Proofs.YthcfjdkflmkhbaaDoor

namespace Go.Proofs.YthcfjdkflmkhbaaDoor
open Go.Av

abbrev ceD (x : Int × Int × Int) : Dat := .agg [.int .i64 x.1, .int .i64 x.2.1, .int .i64 x.2.2]

section
variable (c : CaseM) (p q : Int)
def valM (i : Nat) (o : Int × Int) : Int := q * (c.weights.getD i default) * o.2 + p * o.1
def minV (i : Nat) : Nat → Int
  | 0 => valM c p q i ((c.items.getD i default).getD 0 default)
  | k + 1 => if valM c p q i ((c.items.getD i default).getD k default) < minV i k then valM c p q i ((c.items.getD i default).getD k default) else minV i k
def bndM : Nat → Int
  | 0 => (0 - p) * c.room
  | i + 1 => bndM i + minV c p q i (c.items.getD i default).length
def boundM : Int × Int × Int := (p, q, bndM c p q c.items.length)
def okPQ (p q : Int) : Prop := 0 ≤ p ∧ p ≤ 1048576 ∧ 0 ≤ q ∧ q ≤ 1048576

variable {c p q}
theorem val_range (hpq : okPQ p q) {i : Nat} {o : Int × Int} (hw : 0 ≤ c.weights.getD i default ∧ c.weights.getD i default ≤ 1024) (ho : okO o) :
    (0 ≤ q * (c.weights.getD i default) ∧ q * (c.weights.getD i default) ≤ 1048576 * 1024) ∧ (0 ≤ q * (c.weights.getD i default) * o.2 ∧ q * (c.weights.getD i default) * o.2 ≤ 1048576 * 1024 * 64) ∧ (0 ≤ p * o.1 ∧ p * o.1 ≤ 1048576 * 64) ∧
    0 ≤ valM c p q i o ∧ valM c p q i o ≤ 68786585600 := by
  obtain ⟨p1, p2, q1, q2⟩ := hpq
  obtain ⟨o1, o2, o3, o4⟩ := ho
  have h1 : 0 ≤ q * (c.weights.getD i default) := Int.mul_nonneg q1 hw.1
  have h2 : q * (c.weights.getD i default) ≤ 1048576 * 1024 := Int.mul_le_mul q2 hw.2 hw.1 (by omega)
  have h3 : 0 ≤ q * (c.weights.getD i default) * o.2 := Int.mul_nonneg h1 o3
  have h4 : q * (c.weights.getD i default) * o.2 ≤ 1048576 * 1024 * 64 := Int.mul_le_mul h2 o4 o3 (by omega)
  have h5 : 0 ≤ p * o.1 := Int.mul_nonneg p1 o1
  have h6 : p * o.1 ≤ 1048576 * 64 := Int.mul_le_mul p2 o2 o1 (by omega)
  unfold valM
  omega
theorem minV_range (hc : OkC c) (hpq : okPQ p q) {i : Nat} (hi : i < c.items.length) : ∀ k ≤ (c.items.getD i default).length, 0 ≤ minV c p q i k ∧ minV c p q i k ≤ 68786585600
  | 0, _ => (val_range hpq (hc.w i hi) (getD_all (hc.o i hi) (hc.n1 i hi))).2.2.2
  | k + 1, hk => by
    have h1 := minV_range hc hpq hi k (by omega)
    have h2 := (val_range (p := p) (q := q) hpq (hc.w i hi) (getD_all (hc.o i hi) (i := k) (by simp only [itemM]; omega))).2.2.2
    simp only [minV]
    split
    · exact h2
    · exact h1
theorem room_range (hc : OkC c) (hpq : okPQ p q) : -4294967296 ≤ (0 - p) * c.room ∧ (0 - p) * c.room ≤ 0 := by
  obtain ⟨p1, p2, _⟩ := hpq
  have hr := hc.room
  have h1 : 0 ≤ p * c.room := Int.mul_nonneg p1 hr.1
  have h2 : p * c.room ≤ 1048576 * 4096 := Int.mul_le_mul p2 hr.2 hr.1 (by omega)
  have h3 : (0 - p) * c.room = -(p * c.room) := by rw [Int.zero_sub, Int.neg_mul]
  omega
theorem bnd_range (hc : OkC c) (hpq : okPQ p q) : ∀ i ≤ c.items.length, -4294967296 ≤ bndM c p q i ∧ bndM c p q i ≤ 68786585600 * (i : Int)
  | 0, _ => by
    have := room_range hc hpq
    simp only [bndM]; omega
  | i + 1, h => by
    have h1 := bnd_range hc hpq i (by omega)
    have h2 := minV_range hc hpq (show i < c.items.length by omega) _ (Nat.le_refl _)
    simp only [bndM]
    omega
end

/-- The option with the fewest lines, and of these the fewest turns. -/
def shAt (l : List (Int × Int)) : Nat → Nat
  | 0 => 0
  | k + 1 => if (l.getD k default).1 < (l.getD (shAt l k) default).1 ∨ ((l.getD k default).1 = (l.getD (shAt l k) default).1 ∧ (l.getD k default).2 < (l.getD (shAt l k) default).2) then k else shAt l k
theorem shAt_zero (l : List (Int × Int)) : shAt l 0 = 0 := rfl
theorem shAt_le (l : List (Int × Int)) : ∀ k, shAt l k ≤ k ∧ (0 < k → shAt l k < k)
  | 0 => by simp [shAt]
  | k + 1 => by
    have h := shAt_le l k
    simp only [shAt]
    split
    · omega
    · omega
def shortI (c : CaseM) (i : Nat) : Int := (shAt (c.items.getD i default) (c.items.getD i default).length : Int)
def shortM (c : CaseM) (i : Nat) : List Int := (List.range i).map (shortI c)
theorem shortM_len (c : CaseM) (i : Nat) : (shortM c i).length = i := by simp [shortM]
theorem shortM_zero (c : CaseM) : shortM c 0 = [] := rfl
theorem shortM_succ (c : CaseM) (i : Nat) : shortM c (i + 1) = shortM c i ++ [shortI c i] := by simp [shortM, List.range_succ]
theorem shortM_ok {c : CaseM} (hc : OkC c) : OkP c (shortM c c.items.length) := by
  refine ⟨by rw [shortM_len]; exact Nat.le_refl _, fun i hi => ?_⟩
  rw [shortM_len] at hi
  have hn := hc.n1 i hi
  simp only [itemM] at hn
  have h := (shAt_le (c.items.getD i default) (c.items.getD i default).length).2 hn
  have : pickM (shortM c c.items.length) i = shortI c i := getD_map_range _ _ _ hi
  rw [this]
  unfold shortI
  simp only [itemM]
  omega

/-- The certificate of a price, or the error. -/
def boundE (c : CaseM) (p q : Int) : (Int × Int × Int) × Int :=
  if validM c ≠ 0 then ((0, 0, 0), validM c)
  else if p < 0 ∨ 1048576 < p ∨ q < 1 ∨ 1048576 < q then ((0, 0, 0), 5)
  else (boundM c p q, 0)

theorem boundE_ok {c : CaseM} {p q : Int} (h : (boundE c p q).2 = 0) : OkC c ∧ okPQ p q ∧ 1 ≤ q ∧ (boundE c p q).1 = boundM c p q := by
  unfold boundE at h ⊢
  split at h
  · rename_i h1; exact absurd h h1
  · rename_i h1
    rw [if_neg h1]
    split at h
    · simp at h
    · rename_i h2
      rw [if_neg h2]
      refine ⟨validM_ok.1 (by omega), by unfold okPQ; omega, by omega, rfl⟩
theorem tdiv_small {a b : Int} (h : -4294967296 ≤ a ∧ a ≤ 5000000000000) : -5000000000000 ≤ a.tdiv b ∧ a.tdiv b ≤ 5000000000000 := by
  have h1 : (a.tdiv b).natAbs ≤ a.natAbs := by rw [Int.natAbs_tdiv]; exact Nat.div_le_self _ _
  omega

/-- How many turns there are at least. -/
def checkM (c : CaseM) (pick : List Int) (x : Int × Int × Int) : Int × Int × Int :=
  if (costM c pick).2.2 ≠ 0 then (0, 0, (costM c pick).2.2)
  else if (boundE c x.1 x.2.1).2 ≠ 0 ∨ (boundE c x.1 x.2.1).1 ≠ x then (0, 0, 17)
  else ((costM c pick).2.1, (if 0 < x.2.2 ∧ x.2.2.tmod x.2.1 ≠ 0 then x.2.2.tdiv x.2.1 + 1 else x.2.2.tdiv x.2.1), 0)

theorem mulB {a b A B : Int} (h : -A ≤ a ∧ a ≤ A) (hb : 0 ≤ b ∧ b ≤ B) : -(A * B) ≤ a * b ∧ a * b ≤ A * B := by
  have hA : 0 ≤ A := by omega
  have h1 : a * b ≤ A * B := Int.le_trans (Int.mul_le_mul_of_nonneg_right h.2 hb.1) (Int.mul_le_mul_of_nonneg_left hb.2 hA)
  have h2 : (-a) * b ≤ A * B := Int.le_trans (Int.mul_le_mul_of_nonneg_right (by omega) hb.1) (Int.mul_le_mul_of_nonneg_left hb.2 hA)
  rw [Int.neg_mul] at h2
  omega

/-- What a certificate's numbers may be. -/
def okB (x : Int × Int × Int) : Prop := (0 ≤ x.1 ∧ x.1 ≤ 65536) ∧ (1 ≤ x.2.1 ∧ x.2.1 ≤ 64) ∧ -4294967296 ≤ x.2.2 ∧ x.2.2 ≤ 5000000000000
theorem bound_okB {c : CaseM} (hc : OkC c) {p q : Int} (hp : 0 ≤ p ∧ p ≤ 65536) (hq : 1 ≤ q ∧ q ≤ 64) : okB (boundM c p q) := by
  have hpq : okPQ p q := by unfold okPQ; omega
  have h := bnd_range hc hpq c.items.length (Nat.le_refl _)
  have hn := hc.n64
  unfold okB boundM
  simp only
  omega

theorem pq_div {p q : Nat} (hp : 0 < p ∧ p ≤ 65536) (hq : 0 < q ∧ q ≤ 64) : (0 ≤ (p : Int).tdiv (Nat.gcd p q : Nat) ∧ (p : Int).tdiv (Nat.gcd p q : Nat) ≤ 65536) ∧ 1 ≤ (q : Int).tdiv (Nat.gcd p q : Nat) ∧ (q : Int).tdiv (Nat.gcd p q : Nat) ≤ 64 := by
  have hg : 0 < Nat.gcd p q := Nat.gcd_pos_of_pos_left _ hp.1
  have h1 : (p : Int).tdiv (Nat.gcd p q : Nat) = ((p / Nat.gcd p q : Nat) : Int) := rfl
  have h2 : (q : Int).tdiv (Nat.gcd p q : Nat) = ((q / Nat.gcd p q : Nat) : Int) := rfl
  rw [h1, h2]
  have h3 : p / Nat.gcd p q ≤ p := Nat.div_le_self _ _
  have h4 : q / Nat.gcd p q ≤ q := Nat.div_le_self _ _
  have h5 : 0 < q / Nat.gcd p q := Nat.div_pos (Nat.le_of_dvd hq.1 (Nat.gcd_dvd_right _ _)) hg
  generalize p / Nat.gcd p q = P at *
  generalize q / Nat.gcd p q = Q at *
  omega

/-- The better one of a certificate and that of a price. -/
def tryM (c : CaseM) (best : Int × Int × Int) (p q : Nat) : Int × Int × Int :=
  if 0 < (boundM c ((p : Int).tdiv (Nat.gcd p q : Nat)) ((q : Int).tdiv (Nat.gcd p q : Nat))).2.2 * best.2.1 - best.2.2 * (boundM c ((p : Int).tdiv (Nat.gcd p q : Nat)) ((q : Int).tdiv (Nat.gcd p q : Nat))).2.1 ∨
    ((boundM c ((p : Int).tdiv (Nat.gcd p q : Nat)) ((q : Int).tdiv (Nat.gcd p q : Nat))).2.2 * best.2.1 - best.2.2 * (boundM c ((p : Int).tdiv (Nat.gcd p q : Nat)) ((q : Int).tdiv (Nat.gcd p q : Nat))).2.1 = 0 ∧
      (boundM c ((p : Int).tdiv (Nat.gcd p q : Nat)) ((q : Int).tdiv (Nat.gcd p q : Nat))).1 * best.2.1 < best.1 * (boundM c ((p : Int).tdiv (Nat.gcd p q : Nat)) ((q : Int).tdiv (Nat.gcd p q : Nat))).2.1) then
    boundM c ((p : Int).tdiv (Nat.gcd p q : Nat)) ((q : Int).tdiv (Nat.gcd p q : Nat))
  else best
theorem try_okB {c : CaseM} (hc : OkC c) {best : Int × Int × Int} (hb : okB best) {p q : Nat} (hp : 0 < p ∧ p ≤ 65536) (hq : 0 < q ∧ q ≤ 64) : okB (tryM c best p q) := by
  unfold tryM
  have h := pq_div hp hq
  split
  · exact bound_okB hc h.1 h.2
  · exact hb

section
variable (c : CaseM)
def dP (i a b : Nat) : Int := c.weights.getD i default * (((c.items.getD i default).getD a default).2 - ((c.items.getD i default).getD b default).2)
def dQ (i a b : Nat) : Int := ((c.items.getD i default).getD b default).1 - ((c.items.getD i default).getD a default).1
def dC (i a : Nat) (x : Int × Int × Int) : Nat → Int × Int × Int
  | 0 => x
  | b + 1 => if 0 < dP c i a b ∧ ((c.items.getD i default).getD a default).1 < ((c.items.getD i default).getD b default).1 then tryM c (dC i a x b) (dP c i a b).toNat (dQ c i a b).toNat else dC i a x b
theorem dC_zero (i a : Nat) (x : Int × Int × Int) : dC c i a x 0 = x := rfl
def dB (i : Nat) (x : Int × Int × Int) : Nat → Int × Int × Int
  | 0 => x
  | a + 1 => dC c i a (dB i x a) (c.items.getD i default).length
def dA : Nat → Int × Int × Int
  | 0 => boundM c 0 1
  | i + 1 => dB c i (dA i) (c.items.getD i default).length
/-- The certificate of the price with the greatest bound, or the error. -/
def dualM : (Int × Int × Int) × Int :=
  if validM c ≠ 0 then ((0, 0, 0), validM c)
  else if c.room < linesM c (shortM c c.items.length) (shortM c c.items.length).length then ((0, 0, 0), 21)
  else (dA c c.items.length, 0)
variable {c}
theorem dP_range (hc : OkC c) {i a b : Nat} (hi : i < c.items.length) (ha : a < (c.items.getD i default).length) (hb : b < (c.items.getD i default).length) : (-65536 ≤ dP c i a b ∧ dP c i a b ≤ 65536) ∧ -64 ≤ dQ c i a b ∧ dQ c i a b ≤ 64 := by
  have h1 := getD_all (hc.o i hi) ha
  have h2 := getD_all (hc.o i hi) hb
  have hw := hc.w i hi
  unfold okO at h1 h2
  simp only [itemM, weightM] at h1 h2 hw
  have h3 := mulB (a := ((c.items.getD i default).getD a default).2 - ((c.items.getD i default).getD b default).2) (b := c.weights.getD i default) (A := 64) (B := 1024) (by omega) hw
  unfold dP dQ
  have h4 := Int.mul_comm (c.weights.getD i default) (((c.items.getD i default).getD a default).2 - ((c.items.getD i default).getD b default).2)
  omega
theorem dC_okB (hc : OkC c) {i a : Nat} (hi : i < c.items.length) (ha : a < (c.items.getD i default).length) {x : Int × Int × Int} (hx : okB x) : ∀ b ≤ (c.items.getD i default).length, okB (dC c i a x b)
  | 0, _ => hx
  | b + 1, hb => by
    have h := dC_okB hc hi ha hx b (by omega)
    have hr := dP_range hc hi ha (show b < (c.items.getD i default).length by omega)
    simp only [dC]
    split
    · rename_i hh
      have hd : dQ c i a b = ((c.items.getD i default).getD b default).1 - ((c.items.getD i default).getD a default).1 := rfl
      exact try_okB hc h (by omega) (by omega)
    · exact h
theorem dB_okB (hc : OkC c) {i : Nat} (hi : i < c.items.length) {x : Int × Int × Int} (hx : okB x) : ∀ a ≤ (c.items.getD i default).length, okB (dB c i x a)
  | 0, _ => hx
  | a + 1, ha => by
    simp only [dB]
    exact dC_okB hc hi (by omega) (dB_okB hc hi hx a (by omega)) _ (Nat.le_refl _)
theorem dA_okB (hc : OkC c) : ∀ i ≤ c.items.length, okB (dA c i)
  | 0, _ => bound_okB hc (by omega) (by omega)
  | i + 1, hi => by
    simp only [dA]
    exact dB_okB hc (by omega) (dA_okB hc i (by omega)) _ (Nat.le_refl _)
end

end Go.Proofs.YthcfjdkflmkhbaaDoor

namespace Go.Proofs.YthcfjdkflmkhbaaDoor
open Go.Av


theorem value_ok (G) (c : CaseM) (p q : Int) (i : Nat) (o : Int × Int) (hc : OkC c) (hpq : okPQ p q) (hi : i < c.items.length) (ho : okO o) : Gives Tryd.prog G 54 [oD o, .ref (iD q), .ref (caseD c), .ref (iD i), .ref (iD p)] [iD (valM c p q i o)] := by
  have hw := hc.w i hi
  have hwl := hc.wl
  have hv := val_range hpq hw ho
  simp only [valM, weightM] at hv hw
  refine gives_intro [] [] [] Tryd.func54 rfl (by rfl) (by simp [Tryd.ntmps54]) fun F hP hG hN hR => ?_
  rw [Tryd.ntmps54] at hN
  have hA := And.intro hN (And.intro hP (And.intro hG (And.intro hR.1 (And.intro hR.2.1 hR.2.2.1))))
  apply aw_regs [1, 2, 3, 4, 5] [5]
  · simp (disch := omega) only [avR2, avA, datsOf, fillA, seval, ↓List.forall_mem_cons, Op.operands, hA, tiA]
    first | exact ⟨rfl, rfl⟩ | ((repeat' first | refine And.intro ?_ ?_ | intro _) <;> first | with_reducible rfl | assumption | omega | rfl | (rename_i hq; rw [hq]; rfl) | (simp_all; done))
  apply aw_rgds [6] [] [0, 1, 2, 3, 4, 5, 6, 7, 8, 9, 10, 11, 12, 13, 14, 15] []
  · rw [hP]; kernel_rfl
  · exact hR
  · kernel_rfl
  · (repeat (apply PickL.cons; exact rfl)); exact PickL.nil _
  · simp (maxSteps := 2000000) (disch := omega) only [avR2, avA, datsOf, fillA, seval, ↓List.forall_mem_cons, Op.operands, hA, tiA]
    first | exact ⟨rfl, rfl⟩ | ((repeat' first | refine And.intro ?_ ?_ | intro _) <;> first | with_reducible rfl | assumption | omega | rfl | (rename_i hq; rw [hq]; rfl) | (simp_all; done))
  apply aw_ret
  simp only [QRet, QRetM, QRetX, retsX_nil, retsX_cons, objsAre, Tryd.results54, resA, mapO_nil, mapO_cons, vD_dat, vD_nils, vD_rp, vD_osl, vD_ptr, vD_agg, vD_fn, vL_dat, vL_app, viewL, avA, datsOf, fillA, seval, ↓List.forall_mem_cons, Op.operands, hP, hG, tiA]
  rfl
  

set_option maxHeartbeats 1000000 in
theorem bound_ok (G) (c : CaseM) (p q : Int) (hc : OkC c) (hpq : okPQ p q) : Gives Tryd.prog G 46 [caseD c, iD p, iD q] [ceD (boundM c p q)] := by
  have hn := hc.n64
  have hrr := room_range hc hpq
  have hpq' := hpq
  unfold okPQ at hpq'
  refine gives_intro [] [] [] Tryd.func46 rfl (by rfl) (by simp [Tryd.ntmps46]) fun F hP hG hN hR => ?_
  rw [Tryd.ntmps46] at hN
  have hA := And.intro hN (And.intro hP (And.intro hG (And.intro hR.1 (And.intro hR.2.1 hR.2.2.1))))
  apply aw_regs [3, 4, 5, 6] [3, 4, 5, 6]
  · simp (disch := omega) only [avR2, avA, datsOf, fillA, seval, ↓List.forall_mem_cons, Op.operands, hA, tiA]
    first | exact ⟨rfl, rfl⟩ | ((repeat' first | refine And.intro ?_ ?_ | intro _) <;> first | with_reducible rfl | assumption | omega | rfl | (rename_i hq; rw [hq]; rfl) | (simp_all; done))
  apply aw_regs [3, 4, 5, 6, 7] [3, 4, 5, 6, 7]
  · simp (disch := omega) only [avR2, avA, datsOf, fillA, seval, ↓List.forall_mem_cons, Op.operands, hA, tiA]
    first | exact ⟨rfl, rfl⟩ | ((repeat' first | refine And.intro ?_ ?_ | intro _) <;> first | with_reducible rfl | assumption | omega | rfl | (rename_i hq; rw [hq]; rfl) | (simp_all; done))
  apply aw_seq
  apply aw_regs [3, 4, 5, 6, 7, 23, 24, 25] [3, 4, 5, 6, 7]
  · simp (disch := omega) only [avR2, avA, datsOf, fillA, seval, ↓List.forall_mem_cons, Op.operands, hA, tiA]
    first | exact ⟨rfl, rfl⟩ | ((repeat' first | refine And.intro ?_ ?_ | intro _) <;> first | with_reducible rfl | assumption | omega | rfl | (rename_i hq; rw [hq]; rfl) | (simp_all; done))
  apply aw_block
  refine aw_loop (ι := {i : Nat // i ≤ c.items.length}) (fun ⟨i, hi⟩ => .of [(3, .ptr 3 3 0 0), (4, .ptr 4 1 0 0), (5, .ptr 5 1 0 0), (6, .ptr 6 3 0 0), (7, .ptr 7 3 0 0), (23, .dat (.sl (c.items.map osD))), (24, .dat (iD c.items.length)), (25, .dat (iD i))] [(3, ⟨3, [.dat (caseD c)]⟩), (4, ⟨1, [.dat (iD p)]⟩), (5, ⟨1, [.dat (iD q)]⟩), (6, ⟨3, [.dat (ceD (0, 0, 0))]⟩), (7, ⟨3, [.dat (ceD (p, q, bndM c p q i))]⟩)]) (fun ⟨i, hi⟩ => c.items.length - i) (⟨0, by omega⟩) (Le.of ?_ ?_) fun ix => ?_
  · try simp (disch := omega) only [LeE, LeO, avA, datsOf, fillA, seval, ↓List.forall_mem_cons, Op.operands, bndM]
    all_goals first | done | (repeat' apply And.intro) <;> first | rfl | omega | assumption | (simp only [AV.dat.injEq, Dat.int.injEq, true_and]; omega) | (congr <;> omega)
  · try simp (disch := omega) only [LeE, LeO, avA, datsOf, fillA, seval, ↓List.forall_mem_cons, Op.operands, bndM]
    all_goals first | done | (repeat' apply And.intro) <;> first | rfl | omega | assumption | (simp only [AV.dat.injEq, Dat.int.injEq, true_and]; omega) | (congr <;> omega)
  obtain ⟨i, hi⟩ := ix
  dsimp only
  apply aw_regs [3, 4, 5, 6, 7, 23, 24, 25, 26] [3, 4, 5, 6, 7]
  · simp (disch := omega) only [avR2, avA, datsOf, fillA, seval, ↓List.forall_mem_cons, Op.operands, hA, tiA]
    first | exact ⟨rfl, rfl⟩ | ((repeat' first | refine And.intro ?_ ?_ | intro _) <;> first | with_reducible rfl | assumption | omega | rfl | (rename_i hq; rw [hq]; rfl) | (simp_all; done))
  apply aw_seq
  refine aw_if _ rfl (fun hb => ?_) (fun hb => ?_) <;> (try simp only [pickB_true, pickB_false, Bool.false_or, Bool.false_and, Bool.true_and, decide_eq_true_eq, decide_eq_false_iff_not, Bool.or_eq_true, Bool.and_eq_true, Bool.or_eq_false_iff, Bool.and_eq_false_imp, Bool.not_eq_true, Bool.not_eq_false, Bool.not_eq_eq_eq_not, Bool.not_true, Bool.not_false, Int.not_lt, Int.not_le, beq_iff_eq, beq_eq_false_iff_ne, bne_iff_ne, bne_eq_false_iff_eq, ne_eq, Bool.true_eq_false, Bool.false_eq_true, if_false_left, if_true_left, Bool.not_eq_eq_eq_not, Bool.decide_eq_true, Classical.not_not] at hb)
  · skip
    have hil : i < c.items.length := by omega
    have hi8 := hc.n8 i hil
    have hi1 := hc.n1 i hil
    have hbr := bnd_range hc hpq i hi
    simp only [itemM] at hi8 hi1
    have ho0 := getD_all (hc.o i hil) (i := 0) (by simp only [itemM]; omega)
    simp only [itemM] at ho0
    apply aw_skip
    apply q_seq
    apply aw_seq
    apply aw_block
    apply aw_regs [3, 4, 5, 6, 7, 8, 9, 23, 24, 25] [3, 4, 5, 6, 7, 8]
    · simp (disch := omega) only [avR2, avA, datsOf, fillA, seval, ↓List.forall_mem_cons, Op.operands, hA, tiA]
      first | exact ⟨rfl, rfl⟩ | ((repeat' first | refine And.intro ?_ ?_ | intro _) <;> first | with_reducible rfl | assumption | omega | rfl | (rename_i hq; rw [hq]; rfl) | (simp_all; done))
    apply aw_regs [3, 4, 5, 6, 7, 9, 10, 23, 24, 25] [3, 4, 5, 6, 7, 8]
    · simp (disch := omega) only [avR2, avA, datsOf, fillA, seval, ↓List.forall_mem_cons, Op.operands, hA, tiA]
      first | exact ⟨rfl, rfl⟩ | ((repeat' first | refine And.intro ?_ ?_ | intro _) <;> first | with_reducible rfl | assumption | omega | rfl | (rename_i hq; rw [hq]; rfl) | (simp_all; done))
    apply aw_regs [3, 4, 5, 6, 7, 9, 10, 11, 23, 24, 25] [3, 4, 5, 6, 7, 8]
    · simp (disch := omega) only [avR2, avA, datsOf, fillA, seval, ↓List.forall_mem_cons, Op.operands, hA, tiA]
      (repeat' refine And.intro ?_ ?_) <;> try first | omega | assumption | with_reducible rfl | exact rfl | (intro hside; (repeat' refine And.intro ?_ ?_) <;> first | exact hside | omega | (rw [hside]; rfl) | (simp_all; done))
      refine CallC.use (gvF hP hG (value_ok G c p q i ((c.items.getD i default).getD 0 default) hc hpq hil ho0)) rfl ?_
      try simp (maxSteps := 2000000) (disch := omega) only [avR2, avA, datsOf, fillA, seval, ↓List.forall_mem_cons, Op.operands, hA, tiA]
      first | exact ⟨rfl, rfl⟩ | ((repeat' first | refine And.intro ?_ ?_ | intro _) <;> first | with_reducible rfl | assumption | omega | rfl | (rename_i hq; rw [hq]; rfl) | (simp_all; done))
    apply aw_seq
    apply aw_regs [3, 4, 5, 6, 7, 10, 11, 23, 24, 25, 36, 37, 38] [3, 4, 5, 6, 7, 8]
    · simp (disch := omega) only [avR2, avA, datsOf, fillA, seval, ↓List.forall_mem_cons, Op.operands, hA, tiA]
      first | exact ⟨rfl, rfl⟩ | ((repeat' first | refine And.intro ?_ ?_ | intro _) <;> first | with_reducible rfl | assumption | omega | rfl | (rename_i hq; rw [hq]; rfl) | (simp_all; done))
    apply aw_block
    refine aw_loop (ι := {k : Nat // k ≤ (c.items.getD i default).length}) (fun ⟨k, hk⟩ => .of [(3, .ptr 3 3 0 0), (4, .ptr 4 1 0 0), (5, .ptr 5 1 0 0), (6, .ptr 6 3 0 0), (7, .ptr 7 3 0 0), (10, .fn 54 [.ptr 5 1 0 0, .ptr 3 3 0 0, .ptr 8 1 0 0, .ptr 4 1 0 0]), (11, .dat (iD (minV c p q i k))), (23, .dat (.sl (c.items.map osD))), (24, .dat (iD c.items.length)), (25, .dat (iD i)), (36, .dat (osD (c.items.getD i default))), (37, .dat (iD (c.items.getD i default).length)), (38, .dat (iD k))] [(3, ⟨3, [.dat (caseD c)]⟩), (4, ⟨1, [.dat (iD p)]⟩), (5, ⟨1, [.dat (iD q)]⟩), (6, ⟨3, [.dat (ceD (0, 0, 0))]⟩), (7, ⟨3, [.dat (ceD (p, q, bndM c p q i))]⟩), (8, ⟨1, [.dat (iD i)]⟩)]) (fun ⟨k, hk⟩ => (c.items.getD i default).length - k) (⟨0, by omega⟩) (Le.of ?_ ?_) fun ix => ?_
    · try simp (disch := omega) only [LeE, LeO, avA, datsOf, fillA, seval, ↓List.forall_mem_cons, Op.operands, minV]
      all_goals first | done | (repeat' apply And.intro) <;> first | rfl | omega | assumption | (simp only [AV.dat.injEq, Dat.int.injEq, true_and]; omega) | (congr <;> omega)
    · try simp (disch := omega) only [LeE, LeO, avA, datsOf, fillA, seval, ↓List.forall_mem_cons, Op.operands, minV]
      all_goals first | done | (repeat' apply And.intro) <;> first | rfl | omega | assumption | (simp only [AV.dat.injEq, Dat.int.injEq, true_and]; omega) | (congr <;> omega)
    obtain ⟨k, hk⟩ := ix
    dsimp only
    apply aw_regs [3, 4, 5, 6, 7, 10, 11, 23, 24, 25, 36, 37, 38, 39] [3, 4, 5, 6, 7, 8]
    · simp (disch := omega) only [avR2, avA, datsOf, fillA, seval, ↓List.forall_mem_cons, Op.operands, hA, tiA]
      first | exact ⟨rfl, rfl⟩ | ((repeat' first | refine And.intro ?_ ?_ | intro _) <;> first | with_reducible rfl | assumption | omega | rfl | (rename_i hq; rw [hq]; rfl) | (simp_all; done))
    apply aw_seq
    refine aw_if _ rfl (fun hb => ?_) (fun hb => ?_) <;> (try simp only [pickB_true, pickB_false, Bool.false_or, Bool.false_and, Bool.true_and, decide_eq_true_eq, decide_eq_false_iff_not, Bool.or_eq_true, Bool.and_eq_true, Bool.or_eq_false_iff, Bool.and_eq_false_imp, Bool.not_eq_true, Bool.not_eq_false, Bool.not_eq_eq_eq_not, Bool.not_true, Bool.not_false, Int.not_lt, Int.not_le, beq_iff_eq, beq_eq_false_iff_ne, bne_iff_ne, bne_eq_false_iff_eq, ne_eq, Bool.true_eq_false, Bool.false_eq_true, if_false_left, if_true_left, Bool.not_eq_eq_eq_not, Bool.decide_eq_true, Classical.not_not] at hb)
    · skip
      have hkl : k < (c.items.getD i default).length := by omega
      have hok := getD_all (hc.o i hil) (i := k) (by simp only [itemM]; omega)
      simp only [itemM] at hok
      apply aw_skip
      apply q_seq
      apply aw_seq
      apply aw_block
      apply aw_regs [3, 4, 5, 6, 7, 10, 11, 13, 23, 24, 25, 36, 37, 38] [3, 4, 5, 6, 7, 8, 13]
      · simp (disch := omega) only [avR2, avA, datsOf, fillA, seval, ↓List.forall_mem_cons, Op.operands, hA, tiA]
        first | exact ⟨rfl, rfl⟩ | ((repeat' first | refine And.intro ?_ ?_ | intro _) <;> first | with_reducible rfl | assumption | omega | rfl | (rename_i hq; rw [hq]; rfl) | (simp_all; done))
      apply aw_reg [3, 4, 5, 6, 7, 10, 11, 23, 24, 25, 36, 37, 38] [3, 4, 5, 6, 7, 8]
      · simp (disch := omega) only [avR2, avA, datsOf, fillA, seval, ↓List.forall_mem_cons, Op.operands, hA, tiA]
        (repeat' refine And.intro ?_ ?_) <;> try first | omega | assumption | with_reducible rfl | exact rfl | (intro hside; (repeat' refine And.intro ?_ ?_) <;> first | exact hside | omega | (rw [hside]; rfl) | (simp_all; done))
        refine CallC.use (gvF hP hG (value_ok G c p q i ((c.items.getD i default).getD k default) hc hpq hil hok)) rfl ?_
        try simp (maxSteps := 2000000) (disch := omega) only [avR2, avA, datsOf, fillA, seval, ↓List.forall_mem_cons, Op.operands, hA, tiA]
        first | exact ⟨rfl, rfl⟩ | ((repeat' first | refine And.intro ?_ ?_ | intro _) <;> first | with_reducible rfl | assumption | omega | rfl | (rename_i hq; rw [hq]; rfl) | (simp_all; done))
      apply q_block
      apply q_seq
      apply aw_reg [3, 4, 5, 6, 7, 10, 11, 23, 24, 25, 36, 37, 38] [3, 4, 5, 6, 7, 8]
      · simp (disch := omega) only [avR2, avA, datsOf, fillA, seval, ↓List.forall_mem_cons, Op.operands, hA, tiA]
        first | exact ⟨rfl, rfl⟩ | ((repeat' first | refine And.intro ?_ ?_ | intro _) <;> first | with_reducible rfl | assumption | omega | rfl | (rename_i hq; rw [hq]; rfl) | (simp_all; done))
      refine q_loop (⟨k + 1, by omega⟩) (Le.of ?_ ?_) (by dsimp only; omega)
      · try simp (disch := omega) only [LeE, LeO, avA, datsOf, fillA, seval, ↓List.forall_mem_cons, Op.operands, minV]
        all_goals first | done | (repeat' apply And.intro) <;> first | rfl | omega | assumption | (simp only [AV.dat.injEq, Dat.int.injEq, true_and]; omega) | (congr <;> omega)
      · try simp (disch := omega) only [LeE, LeO, avA, datsOf, fillA, seval, ↓List.forall_mem_cons, Op.operands, minV]
        all_goals first | done | (repeat' apply And.intro) <;> first | rfl | omega | assumption | (simp only [AV.dat.injEq, Dat.int.injEq, true_and]; omega) | (congr <;> omega)
    · skip
      have hkk : k = (c.items.getD i default).length := by omega
      subst hkk
      have hmr := minV_range hc hpq hil (c.items.getD i default).length (Nat.le_refl _)
      apply aw_exit
      apply q_exit_seq
      apply q_exit_loop
      apply q_exit
      apply q_seq
      apply aw_reg [3, 4, 5, 6, 7, 23, 24, 25] [3, 4, 5, 6, 7]
      · simp (disch := omega) only [avR2, avA, datsOf, fillA, seval, ↓List.forall_mem_cons, Op.operands, hA, tiA]
        first | exact ⟨rfl, rfl⟩ | ((repeat' first | refine And.intro ?_ ?_ | intro _) <;> first | with_reducible rfl | assumption | omega | rfl | (rename_i hq; rw [hq]; rfl) | (simp_all; done))
      apply q_block
      apply q_seq
      apply aw_reg [3, 4, 5, 6, 7, 23, 24, 25] [3, 4, 5, 6, 7]
      · simp (disch := omega) only [avR2, avA, datsOf, fillA, seval, ↓List.forall_mem_cons, Op.operands, hA, tiA]
        first | exact ⟨rfl, rfl⟩ | ((repeat' first | refine And.intro ?_ ?_ | intro _) <;> first | with_reducible rfl | assumption | omega | rfl | (rename_i hq; rw [hq]; rfl) | (simp_all; done))
      refine q_loop (⟨i + 1, by omega⟩) (Le.of ?_ ?_) (by dsimp only; omega)
      · try simp (disch := omega) only [LeE, LeO, avA, datsOf, fillA, seval, ↓List.forall_mem_cons, Op.operands, bndM]
        all_goals first | done | (repeat' apply And.intro) <;> first | rfl | omega | assumption | (simp only [AV.dat.injEq, Dat.int.injEq, true_and]; omega) | (congr <;> omega)
      · try simp (disch := omega) only [LeE, LeO, avA, datsOf, fillA, seval, ↓List.forall_mem_cons, Op.operands, bndM]
        all_goals first | done | (repeat' apply And.intro) <;> first | rfl | omega | assumption | (simp only [AV.dat.injEq, Dat.int.injEq, true_and]; omega) | (congr <;> omega)
  · skip
    have hii : i = c.items.length := by omega
    subst hii
    apply aw_exit
    apply q_exit_seq
    apply q_exit_loop
    apply q_exit
    apply q_seq
    apply aw_regs [6] [6]
    · simp (disch := omega) only [avR2, avA, datsOf, fillA, seval, ↓List.forall_mem_cons, Op.operands, hA, tiA]
      first | exact ⟨rfl, rfl⟩ | ((repeat' first | refine And.intro ?_ ?_ | intro _) <;> first | with_reducible rfl | assumption | omega | rfl | (rename_i hq; rw [hq]; rfl) | (simp_all; done))
    apply aw_ret
    simp only [QRet, QRetM, QRetX, retsX_nil, retsX_cons, objsAre, Tryd.results46, resA, mapO_nil, mapO_cons, vD_dat, vD_nils, vD_rp, vD_osl, vD_ptr, vD_agg, vD_fn, vL_dat, vL_app, viewL, avA, datsOf, fillA, seval, ↓List.forall_mem_cons, Op.operands, hP, hG, tiA]
    rfl
    

theorem short_ok (G) (c : CaseM) (hc : OkC c) : Gives Tryd.prog G 45 [caseD c] [isD (shortM c c.items.length)] := by
  have hn := hc.n64
  have hst : (0 : Nat) = 0 := rfl
  refine gives_intro [] [] [] Tryd.func45 rfl (by rfl) (by simp [Tryd.ntmps45]) fun F hP hG hN hR => ?_
  rw [Tryd.ntmps45] at hN
  have hA := And.intro hN (And.intro hP (And.intro hG (And.intro hR.1 (And.intro hR.2.1 hR.2.2.1))))
  apply aw_regs [1] [1]
  · simp (disch := omega) only [avR2, avA, datsOf, fillA, seval, ↓List.forall_mem_cons, Op.operands, hA, tiA]
    first | exact ⟨rfl, rfl⟩ | ((repeat' first | refine And.intro ?_ ?_ | intro _) <;> first | with_reducible rfl | assumption | omega | rfl | (rename_i hq; rw [hq]; rfl) | (simp_all; done))
  apply aw_regs [1, 3] [1, 55, 56]
  · simp (disch := omega) only [avR2, avA, datsOf, fillA, seval, ↓List.forall_mem_cons, Op.operands, hA, tiA]
    first | exact ⟨rfl, rfl⟩ | ((repeat' first | refine And.intro ?_ ?_ | intro _) <;> first | with_reducible rfl | assumption | omega | rfl | (rename_i hq; rw [hq]; rfl) | (simp_all; done))
  apply aw_seq
  apply aw_regs [3, 10, 11, 12] [55, 56]
  · simp (disch := omega) only [avR2, avA, datsOf, fillA, seval, ↓List.forall_mem_cons, Op.operands, hA, tiA]
    first | exact ⟨rfl, rfl⟩ | ((repeat' first | refine And.intro ?_ ?_ | intro _) <;> first | with_reducible rfl | assumption | omega | rfl | (rename_i hq; rw [hq]; rfl) | (simp_all; done))
  apply aw_block
  refine aw_new0 56 1 (by omega) ?_
  refine aw_nilE 3 56 1 rfl rfl ?_
  refine aw_loop (ι := {i : Nat // i ≤ c.items.length}) (fun ⟨i, hi⟩ => .of [(3, .osl 56 1 0 i), (10, .dat (.sl (c.items.map osD))), (11, .dat (iD c.items.length)), (12, .dat (iD i))] [(56, ⟨1, ((shortM c i).map iD).map .dat⟩)]) (fun ⟨i, hi⟩ => c.items.length - i) (⟨0, by omega⟩) (Le.of ?_ ?_) fun ix => ?_
  · try simp (disch := omega) only [LeE, LeO, avA, datsOf, fillA, seval, ↓List.forall_mem_cons, Op.operands, shortM_zero, shortM_succ, shortM_len, shortI]
    all_goals first | done | (repeat' apply And.intro) <;> first | rfl | omega | assumption | (simp only [AV.dat.injEq, Dat.int.injEq, true_and]; omega) | (congr <;> omega)
  · try simp (disch := omega) only [LeE, LeO, avA, datsOf, fillA, seval, ↓List.forall_mem_cons, Op.operands, shortM_zero, shortM_succ, shortM_len, shortI]
    all_goals first | done | (repeat' apply And.intro) <;> first | rfl | omega | assumption | (simp only [AV.dat.injEq, Dat.int.injEq, true_and]; omega) | (congr <;> omega)
  obtain ⟨i, hi⟩ := ix
  dsimp only
  apply aw_regs [3, 10, 11, 12, 13] [55, 56]
  · simp (disch := omega) only [avR2, avA, datsOf, fillA, seval, ↓List.forall_mem_cons, Op.operands, hA, tiA]
    first | exact ⟨rfl, rfl⟩ | ((repeat' first | refine And.intro ?_ ?_ | intro _) <;> first | with_reducible rfl | assumption | omega | rfl | (rename_i hq; rw [hq]; rfl) | (simp_all; done))
  apply aw_seq
  refine aw_if _ rfl (fun hb => ?_) (fun hb => ?_) <;> (try simp only [pickB_true, pickB_false, Bool.false_or, Bool.false_and, Bool.true_and, decide_eq_true_eq, decide_eq_false_iff_not, Bool.or_eq_true, Bool.and_eq_true, Bool.or_eq_false_iff, Bool.and_eq_false_imp, Bool.not_eq_true, Bool.not_eq_false, Bool.not_eq_eq_eq_not, Bool.not_true, Bool.not_false, Int.not_lt, Int.not_le, beq_iff_eq, beq_eq_false_iff_ne, bne_iff_ne, bne_eq_false_iff_eq, ne_eq, Bool.true_eq_false, Bool.false_eq_true, if_false_left, if_true_left, Bool.not_eq_eq_eq_not, Bool.decide_eq_true, Classical.not_not] at hb)
  · skip
    have hil : i < c.items.length := by omega
    have hi8 := hc.n8 i hil
    have hi1 := hc.n1 i hil
    simp only [itemM] at hi8 hi1
    have hsl := shortM_len c i
    apply aw_skip
    apply q_seq
    apply aw_seq
    apply aw_block
    apply aw_regs [3, 5, 10, 11, 12] [55, 56]
    · simp (disch := omega) only [avR2, avA, datsOf, fillA, seval, ↓List.forall_mem_cons, Op.operands, hA, tiA]
      first | exact ⟨rfl, rfl⟩ | ((repeat' first | refine And.intro ?_ ?_ | intro _) <;> first | with_reducible rfl | assumption | omega | rfl | (rename_i hq; rw [hq]; rfl) | (simp_all; done))
    apply aw_regs [3, 5, 6, 10, 11, 12] [55, 56]
    · simp (disch := omega) only [avR2, avA, datsOf, fillA, seval, ↓List.forall_mem_cons, Op.operands, hA, tiA]
      first | exact ⟨rfl, rfl⟩ | ((repeat' first | refine And.intro ?_ ?_ | intro _) <;> first | with_reducible rfl | assumption | omega | rfl | (rename_i hq; rw [hq]; rfl) | (simp_all; done))
    apply aw_seq
    apply aw_regs [3, 5, 6, 10, 11, 12, 16, 17, 18] [55, 56]
    · simp (disch := omega) only [avR2, avA, datsOf, fillA, seval, ↓List.forall_mem_cons, Op.operands, hA, tiA]
      first | exact ⟨rfl, rfl⟩ | ((repeat' first | refine And.intro ?_ ?_ | intro _) <;> first | with_reducible rfl | assumption | omega | rfl | (rename_i hq; rw [hq]; rfl) | (simp_all; done))
    apply aw_block
    refine aw_loop (ι := {k : Nat // k ≤ (c.items.getD i default).length}) (fun ⟨k, hk⟩ => .of [(3, .osl 56 1 0 i), (5, .dat (osD (c.items.getD i default))), (6, .dat (iD (shAt (c.items.getD i default) k : Nat))), (10, .dat (.sl (c.items.map osD))), (11, .dat (iD c.items.length)), (12, .dat (iD i)), (16, .dat (osD (c.items.getD i default))), (17, .dat (iD (c.items.getD i default).length)), (18, .dat (iD k))] [(56, ⟨1, ((shortM c i).map iD).map .dat⟩)]) (fun ⟨k, hk⟩ => (c.items.getD i default).length - k) (⟨0, by omega⟩) (Le.of ?_ ?_) fun ix => ?_
    · try simp (disch := omega) only [LeE, LeO, avA, datsOf, fillA, seval, ↓List.forall_mem_cons, Op.operands, hst, shAt_zero]
      all_goals first | done | (repeat' apply And.intro) <;> first | rfl | omega | assumption | (simp only [AV.dat.injEq, Dat.int.injEq, true_and]; omega) | (congr <;> omega)
    · try simp (disch := omega) only [LeE, LeO, avA, datsOf, fillA, seval, ↓List.forall_mem_cons, Op.operands, hst, shAt_zero]
      all_goals first | done | (repeat' apply And.intro) <;> first | rfl | omega | assumption | (simp only [AV.dat.injEq, Dat.int.injEq, true_and]; omega) | (congr <;> omega)
    obtain ⟨k, hk⟩ := ix
    dsimp only
    apply aw_regs [3, 5, 6, 10, 11, 12, 16, 17, 18, 19] [55, 56]
    · simp (disch := omega) only [avR2, avA, datsOf, fillA, seval, ↓List.forall_mem_cons, Op.operands, hA, tiA]
      first | exact ⟨rfl, rfl⟩ | ((repeat' first | refine And.intro ?_ ?_ | intro _) <;> first | with_reducible rfl | assumption | omega | rfl | (rename_i hq; rw [hq]; rfl) | (simp_all; done))
    apply aw_seq
    refine aw_if _ rfl (fun hb => ?_) (fun hb => ?_) <;> (try simp only [pickB_true, pickB_false, Bool.false_or, Bool.false_and, Bool.true_and, decide_eq_true_eq, decide_eq_false_iff_not, Bool.or_eq_true, Bool.and_eq_true, Bool.or_eq_false_iff, Bool.and_eq_false_imp, Bool.not_eq_true, Bool.not_eq_false, Bool.not_eq_eq_eq_not, Bool.not_true, Bool.not_false, Int.not_lt, Int.not_le, beq_iff_eq, beq_eq_false_iff_ne, bne_iff_ne, bne_eq_false_iff_eq, ne_eq, Bool.true_eq_false, Bool.false_eq_true, if_false_left, if_true_left, Bool.not_eq_eq_eq_not, Bool.decide_eq_true, Classical.not_not] at hb)
    · skip
      have hkl : k < (c.items.getD i default).length := by omega
      have hsa := shAt_le (c.items.getD i default) k
      apply aw_skip
      apply q_seq
      apply aw_seq
      apply aw_block
      apply aw_regs [3, 5, 6, 7, 8, 10, 11, 12, 16, 17, 18] [8, 55, 56]
      · simp (disch := omega) only [avR2, avA, datsOf, fillA, seval, ↓List.forall_mem_cons, Op.operands, hA, tiA]
        first | exact ⟨rfl, rfl⟩ | ((repeat' first | refine And.intro ?_ ?_ | intro _) <;> first | with_reducible rfl | assumption | omega | rfl | (rename_i hq; rw [hq]; rfl) | (simp_all; done))
      apply aw_rgds [3, 5, 6, 7, 10, 11, 12, 16, 17, 18, 50] [55, 56] [0, 1, 2, 3, 4, 5, 6, 7, 8, 9, 10, 11, 12, 13, 14, 15, 16, 17, 18, 19, 20, 21, 22, 23, 24, 25, 26, 27] []
      · rw [hP]; kernel_rfl
      · exact hR
      · kernel_rfl
      · (repeat (apply PickL.cons; exact rfl)); exact PickL.nil _
      · simp (maxSteps := 2000000) (disch := omega) only [avR2, avA, datsOf, fillA, seval, ↓List.forall_mem_cons, Op.operands, hA, tiA]
        first | exact ⟨rfl, rfl⟩ | ((repeat' first | refine And.intro ?_ ?_ | intro _) <;> first | with_reducible rfl | assumption | omega | rfl | (rename_i hq; rw [hq]; rfl) | (simp_all; done))
      refine aw_if _ rfl (fun hb => ?_) (fun hb => ?_) <;> (try simp only [pickB_true, pickB_false, Bool.false_or, Bool.false_and, Bool.true_and, decide_eq_true_eq, decide_eq_false_iff_not, Bool.or_eq_true, Bool.and_eq_true, Bool.or_eq_false_iff, Bool.and_eq_false_imp, Bool.not_eq_true, Bool.not_eq_false, Bool.not_eq_eq_eq_not, Bool.not_true, Bool.not_false, Int.not_lt, Int.not_le, beq_iff_eq, beq_eq_false_iff_ne, bne_iff_ne, bne_eq_false_iff_eq, ne_eq, Bool.true_eq_false, Bool.false_eq_true, if_false_left, if_true_left, Bool.not_eq_eq_eq_not, Bool.decide_eq_true, Classical.not_not] at hb)
      · skip
        have hst : shAt (c.items.getD i default) (k + 1) = k := by
          simp only [shAt]
          rw [if_pos (by omega)]
        apply aw_reg [3, 5, 6, 10, 11, 12, 16, 17, 18] [55, 56]
        · simp (disch := omega) only [avR2, avA, datsOf, fillA, seval, ↓List.forall_mem_cons, Op.operands, hA, tiA]
          first | exact ⟨rfl, rfl⟩ | ((repeat' first | refine And.intro ?_ ?_ | intro _) <;> first | with_reducible rfl | assumption | omega | rfl | (rename_i hq; rw [hq]; rfl) | (simp_all; done))
        apply q_block
        apply q_seq
        apply aw_reg [3, 5, 6, 10, 11, 12, 16, 17, 18] [55, 56]
        · simp (disch := omega) only [avR2, avA, datsOf, fillA, seval, ↓List.forall_mem_cons, Op.operands, hA, tiA]
          first | exact ⟨rfl, rfl⟩ | ((repeat' first | refine And.intro ?_ ?_ | intro _) <;> first | with_reducible rfl | assumption | omega | rfl | (rename_i hq; rw [hq]; rfl) | (simp_all; done))
        refine q_loop (⟨k + 1, by omega⟩) (Le.of ?_ ?_) (by dsimp only; omega)
        · try simp (disch := omega) only [LeE, LeO, avA, datsOf, fillA, seval, ↓List.forall_mem_cons, Op.operands, hst, shAt_zero]
          all_goals first | done | (repeat' apply And.intro) <;> first | rfl | omega | assumption | (simp only [AV.dat.injEq, Dat.int.injEq, true_and]; omega) | (congr <;> omega)
        · try simp (disch := omega) only [LeE, LeO, avA, datsOf, fillA, seval, ↓List.forall_mem_cons, Op.operands, hst, shAt_zero]
          all_goals first | done | (repeat' apply And.intro) <;> first | rfl | omega | assumption | (simp only [AV.dat.injEq, Dat.int.injEq, true_and]; omega) | (congr <;> omega)
      · skip
        have hst : shAt (c.items.getD i default) (k + 1) = shAt (c.items.getD i default) k := by
          simp only [shAt]
          rw [if_neg (by omega)]
        apply aw_skip
        apply q_block
        apply q_seq
        apply aw_reg [3, 5, 6, 10, 11, 12, 16, 17, 18] [55, 56]
        · simp (disch := omega) only [avR2, avA, datsOf, fillA, seval, ↓List.forall_mem_cons, Op.operands, hA, tiA]
          first | exact ⟨rfl, rfl⟩ | ((repeat' first | refine And.intro ?_ ?_ | intro _) <;> first | with_reducible rfl | assumption | omega | rfl | (rename_i hq; rw [hq]; rfl) | (simp_all; done))
        refine q_loop (⟨k + 1, by omega⟩) (Le.of ?_ ?_) (by dsimp only; omega)
        · try simp (disch := omega) only [LeE, LeO, avA, datsOf, fillA, seval, ↓List.forall_mem_cons, Op.operands, hst, shAt_zero]
          all_goals first | done | (repeat' apply And.intro) <;> first | rfl | omega | assumption | (simp only [AV.dat.injEq, Dat.int.injEq, true_and]; omega) | (congr <;> omega)
        · try simp (disch := omega) only [LeE, LeO, avA, datsOf, fillA, seval, ↓List.forall_mem_cons, Op.operands, hst, shAt_zero]
          all_goals first | done | (repeat' apply And.intro) <;> first | rfl | omega | assumption | (simp only [AV.dat.injEq, Dat.int.injEq, true_and]; omega) | (congr <;> omega)
    · skip
      have hkk : k = (c.items.getD i default).length := by omega
      subst hkk
      apply aw_exit
      apply q_exit_seq
      apply q_exit_loop
      apply q_exit
      apply q_seq
      apply aw_reg [3, 10, 11, 12] [55, 56]
      · simp (disch := omega) only [avR2, avA, datsOf, fillA, seval, ↓List.forall_mem_cons, Op.operands, hA, tiA, shortM_len]
        first | exact ⟨rfl, rfl⟩ | ((repeat' first | refine And.intro ?_ ?_ | intro _) <;> first | with_reducible rfl | assumption | omega | rfl | (rename_i hq; rw [hq]; rfl) | (simp_all; done))
      apply q_block
      apply q_seq
      apply aw_reg [3, 10, 11, 12] [55, 56]
      · simp (disch := omega) only [avR2, avA, datsOf, fillA, seval, ↓List.forall_mem_cons, Op.operands, hA, tiA]
        first | exact ⟨rfl, rfl⟩ | ((repeat' first | refine And.intro ?_ ?_ | intro _) <;> first | with_reducible rfl | assumption | omega | rfl | (rename_i hq; rw [hq]; rfl) | (simp_all; done))
      refine q_loop (⟨i + 1, by omega⟩) (Le.of ?_ ?_) (by dsimp only; omega)
      · try simp (disch := omega) only [LeE, LeO, avA, datsOf, fillA, seval, ↓List.forall_mem_cons, Op.operands, shortM_zero, shortM_succ, shortM_len, shortI]
        all_goals first | done | (repeat' apply And.intro) <;> first | rfl | omega | assumption | (simp only [AV.dat.injEq, Dat.int.injEq, true_and]; omega) | (congr <;> omega)
      · try simp (disch := omega) only [LeE, LeO, avA, datsOf, fillA, seval, ↓List.forall_mem_cons, Op.operands, shortM_zero, shortM_succ, shortM_len, shortI]
        all_goals first | done | (repeat' apply And.intro) <;> first | rfl | omega | assumption | (simp only [AV.dat.injEq, Dat.int.injEq, true_and]; omega) | (congr <;> omega)
  · skip
    have hii : i = c.items.length := by omega
    subst hii
    apply aw_exit
    apply q_exit_seq
    apply q_exit_loop
    apply q_exit
    apply q_seq
    apply aw_regs [2] [55, 56]
    · simp (disch := omega) only [avR2, avA, datsOf, fillA, seval, ↓List.forall_mem_cons, Op.operands, hA, tiA]
      first | exact ⟨rfl, rfl⟩ | ((repeat' first | refine And.intro ?_ ?_ | intro _) <;> first | with_reducible rfl | assumption | omega | rfl | (rename_i hq; rw [hq]; rfl) | (simp_all; done))
    apply aw_ret
    simp only [QRet, QRetM, QRetX, retsX_nil, retsX_cons, objsAre, Tryd.results45, resA, mapO_nil, mapO_cons, vD_dat, vD_nils, vD_rp, vD_osl, vD_ptr, vD_agg, vD_fn, vL_dat, vL_app, viewL, avA, datsOf, fillA, seval, ↓List.forall_mem_cons, Op.operands, hP, hG, tiA]
    simp [shortM_len, List.take_of_length_le]
    

theorem boundF_ok (G) (c : CaseM) (p q : Int) (hs : SzC c) : Gives Tryd.prog G 25 [caseD c, iD p, iD q] [ceD (boundE c p q).1, iD (boundE c p q).2] := by
  refine gives_intro [] [] [] Tryd.func25 rfl (by rfl) (by simp [Tryd.ntmps25]) fun F hP hG hN hR => ?_
  rw [Tryd.ntmps25] at hN
  have hA := And.intro hN (And.intro hP (And.intro hG (And.intro hR.1 (And.intro hR.2.1 hR.2.2.1))))
  apply aw_regs [1, 2, 3, 6] [3, 6]
  · simp (disch := omega) only [avR2, avA, datsOf, fillA, seval, ↓List.forall_mem_cons, Op.operands, hA, tiA]
    first | exact ⟨rfl, rfl⟩ | ((repeat' first | refine And.intro ?_ ?_ | intro _) <;> first | with_reducible rfl | assumption | omega | rfl | (rename_i hq; rw [hq]; rfl) | (simp_all; done))
  apply aw_seq
  apply aw_regs [1, 2, 3, 6, 8] [3, 6]
  · simp (disch := omega) only [avR2, avA, datsOf, fillA, seval, ↓List.forall_mem_cons, Op.operands, hA, tiA]
    (repeat' refine And.intro ?_ ?_) <;> try first | omega | assumption | with_reducible rfl | exact rfl | (intro hside; (repeat' refine And.intro ?_ ?_) <;> first | exact hside | omega | (rw [hside]; rfl) | (simp_all; done))
    refine CallC.use (gvF hP hG (valid_ok G c hs)) rfl ?_
    try simp (maxSteps := 2000000) (disch := omega) only [avR2, avA, datsOf, fillA, seval, ↓List.forall_mem_cons, Op.operands, hA, tiA]
    first | exact ⟨rfl, rfl⟩ | ((repeat' first | refine And.intro ?_ ?_ | intro _) <;> first | with_reducible rfl | assumption | omega | rfl | (rename_i hq; rw [hq]; rfl) | (simp_all; done))
  apply aw_regs [1, 2, 3, 6, 8, 12] [3, 6]
  · simp (disch := omega) only [avR2, avA, datsOf, fillA, seval, ↓List.forall_mem_cons, Op.operands, hA, tiA]
    first | exact ⟨rfl, rfl⟩ | ((repeat' first | refine And.intro ?_ ?_ | intro _) <;> first | with_reducible rfl | assumption | omega | rfl | (rename_i hq; rw [hq]; rfl) | (simp_all; done))
  refine aw_if _ rfl (fun hb => ?_) (fun hb => ?_) <;> (try simp only [pickB_true, pickB_false, Bool.false_or, Bool.false_and, Bool.true_and, decide_eq_true_eq, decide_eq_false_iff_not, Bool.or_eq_true, Bool.and_eq_true, Bool.or_eq_false_iff, Bool.and_eq_false_imp, Bool.not_eq_true, Bool.not_eq_false, Bool.not_eq_eq_eq_not, Bool.not_true, Bool.not_false, Int.not_lt, Int.not_le, beq_iff_eq, beq_eq_false_iff_ne, bne_iff_ne, bne_eq_false_iff_eq, ne_eq, Bool.true_eq_false, Bool.false_eq_true, if_false_left, if_true_left, Bool.not_eq_eq_eq_not, Bool.decide_eq_true, Classical.not_not] at hb)
  · skip
    have hv : boundE c p q = ((0, 0, 0), validM c) := by
      unfold boundE
      rw [if_pos hb]
    apply aw_regs [6, 7] [6]
    · simp (disch := omega) only [avR2, avA, datsOf, fillA, seval, ↓List.forall_mem_cons, Op.operands, hA, tiA]
      first | exact ⟨rfl, rfl⟩ | ((repeat' first | refine And.intro ?_ ?_ | intro _) <;> first | with_reducible rfl | assumption | omega | rfl | (rename_i hq; rw [hq]; rfl) | (simp_all; done))
    apply aw_ret
    apply q_ret_seq
    simp only [QRet, QRetM, QRetX, retsX_nil, retsX_cons, objsAre, Tryd.results25, resA, mapO_nil, mapO_cons, vD_dat, vD_nils, vD_rp, vD_osl, vD_ptr, vD_agg, vD_fn, vL_dat, vL_app, viewL, avA, datsOf, fillA, seval, ↓List.forall_mem_cons, Op.operands, hP, hG, tiA]
    rw [hv]
    
  · skip
    have h0 : ¬ validM c ≠ 0 := by omega
    have hc : OkC c := validM_ok.1 (by omega)
    apply aw_skip
    apply q_seq
    apply aw_seq
    apply aw_regs [1, 2, 3, 6, 28] [3, 6]
    · simp (maxSteps := 2000000) (disch := omega) only [avR2, avA, datsOf, fillA, seval, ↓List.forall_mem_cons, Op.operands, hA, tiA]
      first | exact ⟨rfl, rfl⟩ | ((repeat' first | refine And.intro ?_ ?_ | intro _) <;> first | with_reducible rfl | assumption | omega | rfl | (rename_i hq; rw [hq]; rfl) | (simp_all; done))
    refine aw_if _ rfl (fun hb => ?_) (fun hb => ?_) <;> (try simp only [pickB_true, pickB_false, Bool.false_or, Bool.false_and, Bool.true_and, decide_eq_true_eq, decide_eq_false_iff_not, Bool.or_eq_true, Bool.and_eq_true, Bool.or_eq_false_iff, Bool.and_eq_false_imp, Bool.not_eq_true, Bool.not_eq_false, Bool.not_eq_eq_eq_not, Bool.not_true, Bool.not_false, Int.not_lt, Int.not_le, beq_iff_eq, beq_eq_false_iff_ne, bne_iff_ne, bne_eq_false_iff_eq, ne_eq, Bool.true_eq_false, Bool.false_eq_true, if_false_left, if_true_left, Bool.not_eq_eq_eq_not, Bool.decide_eq_true, Classical.not_not] at hb)
    · skip
      have hv : boundE c p q = ((0, 0, 0), 5) := by
        unfold boundE
        rw [if_neg h0, if_pos (by omega)]
      apply aw_regs [6, 7] [6]
      · simp (disch := omega) only [avR2, avA, datsOf, fillA, seval, ↓List.forall_mem_cons, Op.operands, hA, tiA]
        first | exact ⟨rfl, rfl⟩ | ((repeat' first | refine And.intro ?_ ?_ | intro _) <;> first | with_reducible rfl | assumption | omega | rfl | (rename_i hq; rw [hq]; rfl) | (simp_all; done))
      apply aw_ret
      apply q_ret_seq
      simp only [QRet, QRetM, QRetX, retsX_nil, retsX_cons, objsAre, Tryd.results25, resA, mapO_nil, mapO_cons, vD_dat, vD_nils, vD_rp, vD_osl, vD_ptr, vD_agg, vD_fn, vL_dat, vL_app, viewL, avA, datsOf, fillA, seval, ↓List.forall_mem_cons, Op.operands, hP, hG, tiA]
      rw [hv]
      
    · skip
      have hpq : okPQ p q := by unfold okPQ; omega
      have hv : boundE c p q = (boundM c p q, 0) := by
        unfold boundE
        rw [if_neg h0, if_neg (by omega)]
      apply aw_skip
      apply q_seq
      apply aw_regs [6, 7] [6]
      · simp (disch := omega) only [avR2, avA, datsOf, fillA, seval, ↓List.forall_mem_cons, Op.operands, hA, tiA]
        (repeat' refine And.intro ?_ ?_) <;> try first | omega | assumption | with_reducible rfl | exact rfl | (intro hside; (repeat' refine And.intro ?_ ?_) <;> first | exact hside | omega | (rw [hside]; rfl) | (simp_all; done))
        refine CallC.use (gvF hP hG (bound_ok G c p q hc hpq)) rfl ?_
        try simp (maxSteps := 2000000) (disch := omega) only [avR2, avA, datsOf, fillA, seval, ↓List.forall_mem_cons, Op.operands, hA, tiA]
        first | exact ⟨rfl, rfl⟩ | ((repeat' first | refine And.intro ?_ ?_ | intro _) <;> first | with_reducible rfl | assumption | omega | rfl | (rename_i hq; rw [hq]; rfl) | (simp_all; done))
      apply aw_ret
      simp only [QRet, QRetM, QRetX, retsX_nil, retsX_cons, objsAre, Tryd.results25, resA, mapO_nil, mapO_cons, vD_dat, vD_nils, vD_rp, vD_osl, vD_ptr, vD_agg, vD_fn, vL_dat, vL_app, viewL, avA, datsOf, fillA, seval, ↓List.forall_mem_cons, Op.operands, hP, hG, tiA]
      rw [hv]
      

theorem checkF_ok (G) (c : CaseM) (pick : List Int) (x : Int × Int × Int) (hs : SzC c) (hpk : pick.length ≤ 1000) (hx : I64 x.2.2) : Gives Tryd.prog G 27 [caseD c, isD pick, ceD x] [iD (checkM c pick x).1, iD (checkM c pick x).2.1, iD (checkM c pick x).2.2] := by
  unfold I64 at hx
  refine gives_intro [] [] [] Tryd.func27 rfl (by rfl) (by simp [Tryd.ntmps27]) fun F hP hG hN hR => ?_
  rw [Tryd.ntmps27] at hN
  have hA := And.intro hN (And.intro hP (And.intro hG (And.intro hR.1 (And.intro hR.2.1 hR.2.2.1))))
  apply aw_regs [1, 3, 5] [3, 5]
  · simp (disch := omega) only [avR2, avA, datsOf, fillA, seval, ↓List.forall_mem_cons, Op.operands, hA, tiA]
    first | exact ⟨rfl, rfl⟩ | ((repeat' first | refine And.intro ?_ ?_ | intro _) <;> first | with_reducible rfl | assumption | omega | rfl | (rename_i hq; rw [hq]; rfl) | (simp_all; done))
  apply aw_regs [3, 5, 10, 11] [3, 5]
  · simp (disch := omega) only [avR2, avA, datsOf, fillA, seval, ↓List.forall_mem_cons, Op.operands, hA, tiA]
    (repeat' refine And.intro ?_ ?_) <;> try first | omega | assumption | with_reducible rfl | exact rfl | (intro hside; (repeat' refine And.intro ?_ ?_) <;> first | exact hside | omega | (rw [hside]; rfl) | (simp_all; done))
    refine CallC.use (gvF hP hG (costF_ok G c pick hs hpk)) rfl ?_
    try simp (maxSteps := 2000000) (disch := omega) only [avR2, avA, datsOf, fillA, seval, ↓List.forall_mem_cons, Op.operands, hA, tiA]
    first | exact ⟨rfl, rfl⟩ | ((repeat' first | refine And.intro ?_ ?_ | intro _) <;> first | with_reducible rfl | assumption | omega | rfl | (rename_i hq; rw [hq]; rfl) | (simp_all; done))
  apply aw_seq
  apply aw_regs [3, 5, 10, 11, 23] [3, 5]
  · simp (disch := omega) only [avR2, avA, datsOf, fillA, seval, ↓List.forall_mem_cons, Op.operands, hA, tiA]
    first | exact ⟨rfl, rfl⟩ | ((repeat' first | refine And.intro ?_ ?_ | intro _) <;> first | with_reducible rfl | assumption | omega | rfl | (rename_i hq; rw [hq]; rfl) | (simp_all; done))
  refine aw_if _ rfl (fun hb => ?_) (fun hb => ?_) <;> (try simp only [pickB_true, pickB_false, Bool.false_or, Bool.false_and, Bool.true_and, decide_eq_true_eq, decide_eq_false_iff_not, Bool.or_eq_true, Bool.and_eq_true, Bool.or_eq_false_iff, Bool.and_eq_false_imp, Bool.not_eq_true, Bool.not_eq_false, Bool.not_eq_eq_eq_not, Bool.not_true, Bool.not_false, Int.not_lt, Int.not_le, beq_iff_eq, beq_eq_false_iff_ne, bne_iff_ne, bne_eq_false_iff_eq, ne_eq, Bool.true_eq_false, Bool.false_eq_true, if_false_left, if_true_left, Bool.not_eq_eq_eq_not, Bool.decide_eq_true, Classical.not_not] at hb)
  · skip
    have hv : checkM c pick x = (0, 0, (costM c pick).2.2) := by
      unfold checkM
      rw [if_pos hb]
    apply aw_regs [6, 7, 8] []
    · simp (disch := omega) only [avR2, avA, datsOf, fillA, seval, ↓List.forall_mem_cons, Op.operands, hA, tiA]
      first | exact ⟨rfl, rfl⟩ | ((repeat' first | refine And.intro ?_ ?_ | intro _) <;> first | with_reducible rfl | assumption | omega | rfl | (rename_i hq; rw [hq]; rfl) | (simp_all; done))
    apply aw_ret
    apply q_ret_seq
    simp only [QRet, QRetM, QRetX, retsX_nil, retsX_cons, objsAre, Tryd.results27, resA, mapO_nil, mapO_cons, vD_dat, vD_nils, vD_rp, vD_osl, vD_ptr, vD_agg, vD_fn, vL_dat, vL_app, viewL, avA, datsOf, fillA, seval, ↓List.forall_mem_cons, Op.operands, hP, hG, tiA]
    rw [hv]
    
  · skip
    have h0 : ¬ (costM c pick).2.2 ≠ 0 := by omega
    apply aw_skip
    apply q_seq
    apply aw_seq
    apply aw_regs [5, 10, 12, 13] [5, 12]
    · simp (disch := omega) only [avR2, avA, datsOf, fillA, seval, ↓List.forall_mem_cons, Op.operands, hA, tiA]
      (repeat' refine And.intro ?_ ?_) <;> try first | omega | assumption | with_reducible rfl | exact rfl | (intro hside; (repeat' refine And.intro ?_ ?_) <;> first | exact hside | omega | (rw [hside]; rfl) | (simp_all; done))
      refine CallC.use (gvF hP hG (boundF_ok G c x.1 x.2.1 hs)) rfl ?_
      try simp (maxSteps := 2000000) (disch := omega) only [avR2, avA, datsOf, fillA, seval, ↓List.forall_mem_cons, Op.operands, hA, tiA]
      first | exact ⟨rfl, rfl⟩ | ((repeat' first | refine And.intro ?_ ?_ | intro _) <;> first | with_reducible rfl | assumption | omega | rfl | (rename_i hq; rw [hq]; rfl) | (simp_all; done))
    apply aw_regs [5, 10, 40] [5]
    · simp (disch := omega) only [avR2, avA, datsOf, fillA, seval, ↓List.forall_mem_cons, Op.operands, hA, tiA, eq50]
      first | exact ⟨rfl, rfl⟩ | ((repeat' first | refine And.intro ?_ ?_ | intro _) <;> first | with_reducible rfl | assumption | omega | rfl | (rename_i hq; rw [hq]; rfl) | (simp_all; done))
    refine aw_if _ rfl (fun hb => ?_) (fun hb => ?_) <;> (try simp only [pickB_true, pickB_false, Bool.false_or, Bool.false_and, Bool.true_and, decide_eq_true_eq, decide_eq_false_iff_not, Bool.or_eq_true, Bool.and_eq_true, Bool.or_eq_false_iff, Bool.and_eq_false_imp, Bool.not_eq_true, Bool.not_eq_false, Bool.not_eq_eq_eq_not, Bool.not_true, Bool.not_false, Int.not_lt, Int.not_le, beq_iff_eq, beq_eq_false_iff_ne, bne_iff_ne, bne_eq_false_iff_eq, ne_eq, Bool.true_eq_false, Bool.false_eq_true, if_false_left, if_true_left, Bool.not_eq_eq_eq_not, Bool.decide_eq_true, Classical.not_not] at hb)
    · skip
      have hv : checkM c pick x = (0, 0, 17) := by
        unfold checkM
        rw [if_neg h0, if_pos]
        rcases hb with hb | hb
        · exact .inl hb
        · right
          intro e
          rw [e] at hb
          simp at hb
      apply aw_regs [6, 7, 8] []
      · simp (disch := omega) only [avR2, avA, datsOf, fillA, seval, ↓List.forall_mem_cons, Op.operands, hA, tiA]
        first | exact ⟨rfl, rfl⟩ | ((repeat' first | refine And.intro ?_ ?_ | intro _) <;> first | with_reducible rfl | assumption | omega | rfl | (rename_i hq; rw [hq]; rfl) | (simp_all; done))
      apply aw_ret
      apply q_ret_seq
      simp only [QRet, QRetM, QRetX, retsX_nil, retsX_cons, objsAre, Tryd.results27, resA, mapO_nil, mapO_cons, vD_dat, vD_nils, vD_rp, vD_osl, vD_ptr, vD_agg, vD_fn, vL_dat, vL_app, viewL, avA, datsOf, fillA, seval, ↓List.forall_mem_cons, Op.operands, hP, hG, tiA]
      rw [hv]
      
    · skip
      have hB2 : (boundE c x.1 x.2.1).2 = 0 := by
        by_cases h : (boundE c x.1 x.2.1).2 = 0
        · exact h
        · simp [h] at hb
      have hB1 : (boundE c x.1 x.2.1).1 = x := by
        have h := hb.2
        try simp only [Bool.and_eq_true, beq_iff_eq] at h
        first | exact Prod.ext h.1.1 (Prod.ext h.1.2 h.2) | exact Prod.ext h.1 (Prod.ext h.2.1 h.2.2)
      obtain ⟨hc, hpq, hq1, hBM⟩ := boundE_ok hB2
      have hbr := bnd_range hc hpq c.items.length (Nat.le_refl _)
      have hc64 := hc.n64
      have hx2 : x.2.2 = bndM c x.1 x.2.1 c.items.length := by
        have : x = boundM c x.1 x.2.1 := by rw [← hBM, hB1]
        have h := congrArg (fun y : Int × Int × Int => y.2.2) this
        exact h
      have htd := tdiv_small (a := x.2.2) (b := x.2.1) (by omega)
      have htm := tmod_range (a := x.2.2) (b := x.2.1) (by unfold I64; omega)
      unfold I64 at htm
      have hne : ¬ ((boundE c x.1 x.2.1).2 ≠ 0 ∨ (boundE c x.1 x.2.1).1 ≠ x) := by
        rintro (h | h)
        · exact h hB2
        · exact h hB1
      apply aw_skip
      apply q_seq
      apply aw_regs [5, 10, 14] [5]
      · simp (disch := omega) only [avR2, avA, datsOf, fillA, seval, ↓List.forall_mem_cons, Op.operands, hA, tiA]
        first | exact ⟨rfl, rfl⟩ | ((repeat' first | refine And.intro ?_ ?_ | intro _) <;> first | with_reducible rfl | assumption | omega | rfl | (rename_i hq; rw [hq]; rfl) | (simp_all; done))
      apply aw_seq
      apply aw_regs [10, 14, 56] []
      · simp (disch := omega) only [avR2, avA, datsOf, fillA, seval, ↓List.forall_mem_cons, Op.operands, hA, tiA]
        first | exact ⟨rfl, rfl⟩ | ((repeat' first | refine And.intro ?_ ?_ | intro _) <;> first | with_reducible rfl | assumption | omega | rfl | (rename_i hq; rw [hq]; rfl) | (simp_all; done))
      refine aw_if _ rfl (fun hb => ?_) (fun hb => ?_) <;> (try simp only [pickB_true, pickB_false, Bool.false_or, Bool.false_and, Bool.true_and, decide_eq_true_eq, decide_eq_false_iff_not, Bool.or_eq_true, Bool.and_eq_true, Bool.or_eq_false_iff, Bool.and_eq_false_imp, Bool.not_eq_true, Bool.not_eq_false, Bool.not_eq_eq_eq_not, Bool.not_true, Bool.not_false, Int.not_lt, Int.not_le, beq_iff_eq, beq_eq_false_iff_ne, bne_iff_ne, bne_eq_false_iff_eq, ne_eq, Bool.true_eq_false, Bool.false_eq_true, if_false_left, if_true_left, Bool.not_eq_eq_eq_not, Bool.decide_eq_true, Classical.not_not] at hb)
      · skip
        have hv : checkM c pick x = ((costM c pick).2.1, x.2.2.tdiv x.2.1 + 1, 0) := by
          unfold checkM
          rw [if_neg h0, if_neg hne, if_pos hb]
        apply aw_reg [10, 14] []
        · simp (disch := omega) only [avR2, avA, datsOf, fillA, seval, ↓List.forall_mem_cons, Op.operands, hA, tiA]
          first | exact ⟨rfl, rfl⟩ | ((repeat' first | refine And.intro ?_ ?_ | intro _) <;> first | with_reducible rfl | assumption | omega | rfl | (rename_i hq; rw [hq]; rfl) | (simp_all; done))
        apply q_seq
        apply aw_regs [6, 7, 8] []
        · simp (disch := omega) only [avR2, avA, datsOf, fillA, seval, ↓List.forall_mem_cons, Op.operands, hA, tiA]
          first | exact ⟨rfl, rfl⟩ | ((repeat' first | refine And.intro ?_ ?_ | intro _) <;> first | with_reducible rfl | assumption | omega | rfl | (rename_i hq; rw [hq]; rfl) | (simp_all; done))
        apply aw_ret
        simp only [QRet, QRetM, QRetX, retsX_nil, retsX_cons, objsAre, Tryd.results27, resA, mapO_nil, mapO_cons, vD_dat, vD_nils, vD_rp, vD_osl, vD_ptr, vD_agg, vD_fn, vL_dat, vL_app, viewL, avA, datsOf, fillA, seval, ↓List.forall_mem_cons, Op.operands, hP, hG, tiA]
        rw [hv]
        
      · skip
        have hv : checkM c pick x = ((costM c pick).2.1, x.2.2.tdiv x.2.1, 0) := by
          unfold checkM
          rw [if_neg h0, if_neg hne, if_neg (by omega)]
        apply aw_skip
        apply q_seq
        apply aw_regs [6, 7, 8] []
        · simp (disch := omega) only [avR2, avA, datsOf, fillA, seval, ↓List.forall_mem_cons, Op.operands, hA, tiA]
          first | exact ⟨rfl, rfl⟩ | ((repeat' first | refine And.intro ?_ ?_ | intro _) <;> first | with_reducible rfl | assumption | omega | rfl | (rename_i hq; rw [hq]; rfl) | (simp_all; done))
        apply aw_ret
        simp only [QRet, QRetM, QRetX, retsX_nil, retsX_cons, objsAre, Tryd.results27, resA, mapO_nil, mapO_cons, vD_dat, vD_nils, vD_rp, vD_osl, vD_ptr, vD_agg, vD_fn, vL_dat, vL_app, viewL, avA, datsOf, fillA, seval, ↓List.forall_mem_cons, Op.operands, hP, hG, tiA]
        rw [hv]
        

end Go.Proofs.YthcfjdkflmkhbaaDoor

namespace Go.Proofs.YthcfjdkflmkhbaaDoor
open Go.Av


set_option maxHeartbeats 1000000 in
theorem try_ok (G) (c : CaseM) (best : Int × Int × Int) (p q : Nat) (hc : OkC c) (hbe : okB best) (hp : 0 < p ∧ p ≤ 65536) (hq : 0 < q ∧ q ≤ 64) : GivesM Tryd.prog G 47 [.dat (iD p), .dat (iD q), .ptr 1000 3 0 0, .ptr 1001 3 0 0] [(1000, ⟨3, [.dat (caseD c)]⟩), (1001, ⟨3, [.dat (ceD best)]⟩)] [] [(1000, ⟨3, [.dat (caseD c)]⟩), (1001, ⟨3, [.dat (ceD (tryM c best p q))]⟩)] := by
  have hmm : ∀ a b : Nat, (a : Int).tmod (b : Int) = ((a % b : Nat) : Int) := fun _ _ => rfl
  have hpd := pq_div hp hq
  have hbx := bound_okB hc hpd.1 hpd.2
  have hpq : okPQ ((p : Int).tdiv (Nat.gcd p q : Nat)) ((q : Int).tdiv (Nat.gcd p q : Nat)) := by unfold okPQ; omega
  have hbe' := hbe
  have hbx' := hbx
  unfold okB at hbe' hbx'
  have m1 := mulB (a := (boundM c ((p : Int).tdiv (Nat.gcd p q : Nat)) ((q : Int).tdiv (Nat.gcd p q : Nat))).2.2) (b := best.2.1) (A := 5000000000000) (B := 64) (by omega) (by omega)
  have m2 := mulB (a := best.2.2) (b := (boundM c ((p : Int).tdiv (Nat.gcd p q : Nat)) ((q : Int).tdiv (Nat.gcd p q : Nat))).2.1) (A := 5000000000000) (B := 64) (by omega) (by omega)
  have m3 := mulB (a := (boundM c ((p : Int).tdiv (Nat.gcd p q : Nat)) ((q : Int).tdiv (Nat.gcd p q : Nat))).1) (b := best.2.1) (A := 65536) (B := 64) (by omega) (by omega)
  have m4 := mulB (a := best.1) (b := (boundM c ((p : Int).tdiv (Nat.gcd p q : Nat)) ((q : Int).tdiv (Nat.gcd p q : Nat))).2.1) (A := 65536) (B := 64) (by omega) (by omega)
  refine gives_introM [] [] [] Tryd.func47 rfl (by rfl) (by simp [Tryd.ntmps47]) (by intro p hp; simp only [Tryd.ntmps47]; simp at hp; rcases hp with rfl | rfl <;> simp) rfl (by intro p hp; simp at hp; rcases hp with rfl | rfl <;> rfl) fun F hP hG hN hR3 => ?_
  rw [Tryd.ntmps47] at hN
  have hR : F.rows = [] ∧ F.lits = [] ∧ F.apps = [] ∧ True := ⟨hR3.1, hR3.2.1, hR3.2.2, trivial⟩
  have hA := And.intro hN (And.intro hP (And.intro hG (And.intro hR.1 (And.intro hR.2.1 hR.2.2.1))))
  apply aw_seq
  apply aw_regs [0, 1, 2, 3, 6, 7] [1000, 1001]
  · simp (disch := omega) only [avR2, avA, datsOf, fillA, seval, ↓List.forall_mem_cons, Op.operands, hA, tiA]
    first | exact ⟨rfl, rfl⟩ | ((repeat' first | refine And.intro ?_ ?_ | intro _) <;> first | with_reducible rfl | assumption | omega | rfl | (rename_i hq; rw [hq]; rfl) | (simp_all; done))
  apply aw_block
  refine aw_loop (ι := {ab : Nat × Nat // 0 < ab.1 ∧ Nat.gcd ab.1 ab.2 = Nat.gcd p q ∧ ab.1 ≤ 65536 ∧ ab.2 ≤ 65536}) (fun ⟨ab, hab⟩ => .of [(0, .dat (iD p)), (1, .dat (iD q)), (2, .ptr 1000 3 0 0), (3, .ptr 1001 3 0 0), (6, .dat (iD ab.1)), (7, .dat (iD ab.2))] [(1000, ⟨3, [.dat (caseD c)]⟩), (1001, ⟨3, [.dat (ceD best)]⟩)]) (fun ⟨ab, hab⟩ => ab.2) (⟨(p, q), hp.1, rfl, hp.2, by omega⟩) (Le.of ?_ ?_) fun ix => ?_
  · try simp (disch := omega) only [LeE, LeO, avA, datsOf, fillA, seval, ↓List.forall_mem_cons, Op.operands, hmm]
    all_goals first | done | (repeat' apply And.intro) <;> first | rfl | omega | assumption | (simp only [AV.dat.injEq, Dat.int.injEq, true_and]; omega) | (congr <;> omega)
  · try simp (disch := omega) only [LeE, LeO, avA, datsOf, fillA, seval, ↓List.forall_mem_cons, Op.operands, hmm]
    all_goals first | done | (repeat' apply And.intro) <;> first | rfl | omega | assumption | (simp only [AV.dat.injEq, Dat.int.injEq, true_and]; omega) | (congr <;> omega)
  obtain ⟨ab, hab⟩ := ix
  dsimp only
  apply aw_seq
  apply aw_block
  apply aw_regs [0, 1, 2, 3, 6, 7, 17] [1000, 1001]
  · simp (disch := omega) only [avR2, avA, datsOf, fillA, seval, ↓List.forall_mem_cons, Op.operands, hA, tiA]
    first | exact ⟨rfl, rfl⟩ | ((repeat' first | refine And.intro ?_ ?_ | intro _) <;> first | with_reducible rfl | assumption | omega | rfl | (rename_i hq; rw [hq]; rfl) | (simp_all; done))
  refine aw_if _ rfl (fun hb => ?_) (fun hb => ?_) <;> (try simp only [pickB_true, pickB_false, Bool.false_or, Bool.false_and, Bool.true_and, decide_eq_true_eq, decide_eq_false_iff_not, Bool.or_eq_true, Bool.and_eq_true, Bool.or_eq_false_iff, Bool.and_eq_false_imp, Bool.not_eq_true, Bool.not_eq_false, Bool.not_eq_eq_eq_not, Bool.not_true, Bool.not_false, Int.not_lt, Int.not_le, beq_iff_eq, beq_eq_false_iff_ne, bne_iff_ne, bne_eq_false_iff_eq, ne_eq, Bool.true_eq_false, Bool.false_eq_true, if_false_left, if_true_left, Bool.not_eq_eq_eq_not, Bool.decide_eq_true, Classical.not_not] at hb)
  · skip
    have hgg : ab.1 = Nat.gcd p q := by
      have h := hab.2.1
      rw [show ab.2 = 0 by omega, Nat.gcd_zero_right] at h
      exact h
    rw [hgg]
    apply aw_rgds [0, 1, 2, 3] [1000, 1001] [0, 1, 2, 3, 4, 5, 6, 7] []
    · rw [hP]; kernel_rfl
    · exact hR
    · kernel_rfl
    · (repeat (apply PickL.cons; exact rfl)); exact PickL.nil _
    · simp (disch := omega) only [avR2, avA, datsOf, fillA, seval, ↓List.forall_mem_cons, Op.operands, hA, tiA]
      first | exact ⟨rfl, rfl⟩ | ((repeat' first | refine And.intro ?_ ?_ | intro _) <;> first | with_reducible rfl | assumption | omega | rfl | (rename_i hq; rw [hq]; rfl) | (simp_all; done))
    apply aw_exit
    apply q_exit_other (by decide)
    apply q_exit_seq
    apply q_exit_loop
    apply q_exit
    apply q_seq
    apply aw_regs [3, 8] [8, 1000, 1001]
    · simp (disch := omega) only [avR2, avA, datsOf, fillA, seval, ↓List.forall_mem_cons, Op.operands, hA, tiA]
      (repeat' refine And.intro ?_ ?_) <;> try first | omega | assumption | with_reducible rfl | exact rfl | (intro hside; (repeat' refine And.intro ?_ ?_) <;> first | exact hside | omega | (rw [hside]; rfl) | (simp_all; done))
      refine CallC.use (gvF hP hG (bound_ok G c ((p : Int).tdiv (Nat.gcd p q : Nat)) ((q : Int).tdiv (Nat.gcd p q : Nat)) hc hpq)) rfl ?_
      try simp (maxSteps := 2000000) (disch := omega) only [avR2, avA, datsOf, fillA, seval, ↓List.forall_mem_cons, Op.operands, hA, tiA]
      first | exact ⟨rfl, rfl⟩ | ((repeat' first | refine And.intro ?_ ?_ | intro _) <;> first | with_reducible rfl | assumption | omega | rfl | (rename_i hq; rw [hq]; rfl) | (simp_all; done))
    apply aw_regs [3, 8, 9] [8, 1000, 1001]
    · simp (disch := omega) only [avR2, avA, datsOf, fillA, seval, ↓List.forall_mem_cons, Op.operands, hA, tiA]
      first | exact ⟨rfl, rfl⟩ | ((repeat' first | refine And.intro ?_ ?_ | intro _) <;> first | with_reducible rfl | assumption | omega | rfl | (rename_i hq; rw [hq]; rfl) | (simp_all; done))
    apply aw_regs [3, 8, 57] [8, 1000, 1001]
    · simp (maxSteps := 2000000) (disch := omega) only [avR2, avA, datsOf, fillA, seval, ↓List.forall_mem_cons, Op.operands, hA, tiA]
      first | exact ⟨rfl, rfl⟩ | ((repeat' first | refine And.intro ?_ ?_ | intro _) <;> first | with_reducible rfl | assumption | omega | rfl | (rename_i hq; rw [hq]; rfl) | (simp_all; done))
    refine aw_if _ rfl (fun hb => ?_) (fun hb => ?_) <;> (try simp only [pickB_true, pickB_false, Bool.false_or, Bool.false_and, Bool.true_and, decide_eq_true_eq, decide_eq_false_iff_not, Bool.or_eq_true, Bool.and_eq_true, Bool.or_eq_false_iff, Bool.and_eq_false_imp, Bool.not_eq_true, Bool.not_eq_false, Bool.not_eq_eq_eq_not, Bool.not_true, Bool.not_false, Int.not_lt, Int.not_le, beq_iff_eq, beq_eq_false_iff_ne, bne_iff_ne, bne_eq_false_iff_eq, ne_eq, Bool.true_eq_false, Bool.false_eq_true, if_false_left, if_true_left, Bool.not_eq_eq_eq_not, Bool.decide_eq_true, Classical.not_not] at hb)
    · skip
      have hv : tryM c best p q = (boundM c ((p : Int).tdiv (Nat.gcd p q : Nat)) ((q : Int).tdiv (Nat.gcd p q : Nat))) := by
        unfold tryM
        rw [if_pos hb]
      apply aw_reg [] [1000, 1001]
      · simp (disch := omega) only [avR2, avA, datsOf, fillA, seval, ↓List.forall_mem_cons, Op.operands, hA, tiA]
        first | exact ⟨rfl, rfl⟩ | ((repeat' first | refine And.intro ?_ ?_ | intro _) <;> first | with_reducible rfl | assumption | omega | rfl | (rename_i hq; rw [hq]; rfl) | (simp_all; done))
      simp only [QRet, QRetM, QRetX, retsX_nil, retsX_cons, objsAre, Tryd.results47, resA, mapO_nil, mapO_cons, vD_dat, vD_nils, vD_rp, vD_osl, vD_ptr, vD_agg, vD_fn, vL_dat, vL_app, viewL, avA, datsOf, fillA, seval, ↓List.forall_mem_cons, Op.operands, hP, hG, tiA]
      rw [hv]
    · skip
      have hv : tryM c best p q = best := by
        unfold tryM
        rw [if_neg (by omega)]
      apply aw_skip
      simp only [QRet, QRetM, QRetX, retsX_nil, retsX_cons, objsAre, Tryd.results47, resA, mapO_nil, mapO_cons, vD_dat, vD_nils, vD_rp, vD_osl, vD_ptr, vD_agg, vD_fn, vL_dat, vL_app, viewL, avA, datsOf, fillA, seval, ↓List.forall_mem_cons, Op.operands, hP, hG, tiA]
      rw [hv]
  · skip
    have hb0 : 0 < ab.2 := by omega
    have hgr : Nat.gcd ab.2 (ab.1 % ab.2) = Nat.gcd p q := by rw [← hab.2.1, Nat.gcd_comm ab.2, ← Nat.gcd_rec, Nat.gcd_comm]
    have hlt : ab.1 % ab.2 < ab.2 := Nat.mod_lt _ hb0
    have hle := hab.2.2.2
    apply aw_skip
    apply q_block
    apply q_seq
    apply aw_rgd [0, 1, 2, 3, 6, 7] [1000, 1001] [0, 1, 2, 3, 4, 5] []
    · rw [hP]; kernel_rfl
    · exact hR
    · kernel_rfl
    · (repeat (apply PickL.cons; exact rfl)); exact PickL.nil _
    · simp (disch := omega) only [avR2, avA, datsOf, fillA, seval, ↓List.forall_mem_cons, Op.operands, hA, tiA]
      first | exact ⟨rfl, rfl⟩ | ((repeat' first | refine And.intro ?_ ?_ | intro _) <;> first | with_reducible rfl | assumption | omega | rfl | (rename_i hq; rw [hq]; rfl) | (simp_all; done))
    refine q_loop (⟨(ab.2, ab.1 % ab.2), hb0, hgr, hab.2.2.2, by omega⟩) (Le.of ?_ ?_) (by dsimp only; omega)
    · try simp (disch := omega) only [LeE, LeO, avA, datsOf, fillA, seval, ↓List.forall_mem_cons, Op.operands, hmm]
      all_goals first | done | (repeat' apply And.intro) <;> first | rfl | omega | assumption | (simp only [AV.dat.injEq, Dat.int.injEq, true_and]; omega) | (congr <;> omega)
    · try simp (disch := omega) only [LeE, LeO, avA, datsOf, fillA, seval, ↓List.forall_mem_cons, Op.operands, hmm]
      all_goals first | done | (repeat' apply And.intro) <;> first | rfl | omega | assumption | (simp only [AV.dat.injEq, Dat.int.injEq, true_and]; omega) | (congr <;> omega)

theorem tryI_ok (G) (c : CaseM) (best : Int × Int × Int) (p q : Int) (hc : OkC c) (hbe : okB best) (hp : 0 < p ∧ p ≤ 65536) (hq : 0 < q ∧ q ≤ 64) : GivesM Tryd.prog G 47 [.dat (iD p), .dat (iD q), .ptr 1000 3 0 0, .ptr 1001 3 0 0] [(1000, ⟨3, [.dat (caseD c)]⟩), (1001, ⟨3, [.dat (ceD best)]⟩)] [] [(1000, ⟨3, [.dat (caseD c)]⟩), (1001, ⟨3, [.dat (ceD (tryM c best p.toNat q.toNat))]⟩)] := by
  have h := try_ok G c best p.toNat q.toNat hc hbe (by omega) (by omega)
  rwa [Int.toNat_of_nonneg (by omega), Int.toNat_of_nonneg (by omega)] at h


set_option maxHeartbeats 2000000 in
theorem dual_ok (G) (c : CaseM) (hs : SzC c) : Gives Tryd.prog G 22 [caseD c] [ceD (dualM c).1, iD (dualM c).2] := by
  have hst : (0 : Nat) = 0 := rfl
  refine gives_intro [] [84] [] Tryd.func22 rfl (by rfl) (by simp [Tryd.ntmps22]) fun F hP hG hN hR => ?_
  rw [Tryd.ntmps22] at hN
  have hA := And.intro hN (And.intro hP (And.intro hG (And.intro hR.1 (And.intro hR.2.1 hR.2.2.1))))
  apply aw_regs [1, 2] [1, 2]
  · simp (disch := omega) only [avR2, avA, datsOf, fillA, seval, ↓List.forall_mem_cons, Op.operands, hA, tiA]
    first | exact ⟨rfl, rfl⟩ | ((repeat' first | refine And.intro ?_ ?_ | intro _) <;> first | with_reducible rfl | assumption | omega | rfl | (rename_i hq; rw [hq]; rfl) | (simp_all; done))
  apply aw_seq
  apply aw_regs [1, 2, 4] [1, 2]
  · simp (disch := omega) only [avR2, avA, datsOf, fillA, seval, ↓List.forall_mem_cons, Op.operands, hA, tiA]
    (repeat' refine And.intro ?_ ?_) <;> try first | omega | assumption | with_reducible rfl | exact rfl | (intro hside; (repeat' refine And.intro ?_ ?_) <;> first | exact hside | omega | (rw [hside]; rfl) | (simp_all; done))
    refine CallC.use (gvF hP hG (valid_ok G c hs)) rfl ?_
    try simp (maxSteps := 2000000) (disch := omega) only [avR2, avA, datsOf, fillA, seval, ↓List.forall_mem_cons, Op.operands, hA, tiA]
    first | exact ⟨rfl, rfl⟩ | ((repeat' first | refine And.intro ?_ ?_ | intro _) <;> first | with_reducible rfl | assumption | omega | rfl | (rename_i hq; rw [hq]; rfl) | (simp_all; done))
  apply aw_regs [1, 2, 4, 19] [1, 2]
  · simp (disch := omega) only [avR2, avA, datsOf, fillA, seval, ↓List.forall_mem_cons, Op.operands, hA, tiA]
    first | exact ⟨rfl, rfl⟩ | ((repeat' first | refine And.intro ?_ ?_ | intro _) <;> first | with_reducible rfl | assumption | omega | rfl | (rename_i hq; rw [hq]; rfl) | (simp_all; done))
  refine aw_if _ rfl (fun hb => ?_) (fun hb => ?_) <;> (try simp only [pickB_true, pickB_false, Bool.false_or, Bool.false_and, Bool.true_and, decide_eq_true_eq, decide_eq_false_iff_not, Bool.or_eq_true, Bool.and_eq_true, Bool.or_eq_false_iff, Bool.and_eq_false_imp, Bool.not_eq_true, Bool.not_eq_false, Bool.not_eq_eq_eq_not, Bool.not_true, Bool.not_false, Int.not_lt, Int.not_le, beq_iff_eq, beq_eq_false_iff_ne, bne_iff_ne, bne_eq_false_iff_eq, ne_eq, Bool.true_eq_false, Bool.false_eq_true, if_false_left, if_true_left, Bool.not_eq_eq_eq_not, Bool.decide_eq_true, Classical.not_not] at hb)
  · skip
    have hv : dualM c = ((0, 0, 0), validM c) := by
      unfold dualM
      rw [if_pos hb]
    apply aw_regs [2, 3] [2]
    · simp (disch := omega) only [avR2, avA, datsOf, fillA, seval, ↓List.forall_mem_cons, Op.operands, hA, tiA]
      first | exact ⟨rfl, rfl⟩ | ((repeat' first | refine And.intro ?_ ?_ | intro _) <;> first | with_reducible rfl | assumption | omega | rfl | (rename_i hq; rw [hq]; rfl) | (simp_all; done))
    apply aw_ret
    apply q_ret_seq
    simp only [QRet, QRetM, QRetX, retsX_nil, retsX_cons, objsAre, Tryd.results22, resA, mapO_nil, mapO_cons, vD_dat, vD_nils, vD_rp, vD_osl, vD_ptr, vD_agg, vD_fn, vL_dat, vL_app, viewL, avA, datsOf, fillA, seval, ↓List.forall_mem_cons, Op.operands, hP, hG, tiA]
    rw [hv]
  · skip
    have h0 : ¬ validM c ≠ 0 := by omega
    have hc : OkC c := validM_ok.1 (by omega)
    have hn := hc.n64
    have hcr := hc.room
    have hcw := hc.wl
    have hp := shortM_ok hc
    have hsr := sums_range hc hp _ (Nat.le_refl _)
    apply aw_skip
    apply q_seq
    apply aw_seq
    apply aw_rgds [1, 2, 6] [1, 2] [0, 1, 2, 3, 4, 5, 6, 7, 8] []
    · rw [hP]; kernel_rfl
    · exact hR
    · kernel_rfl
    · (repeat (apply PickL.cons; exact rfl)); exact PickL.nil _
    · simp (disch := omega) only [avR2, avA, datsOf, fillA, seval, ↓List.forall_mem_cons, Op.operands, hA, tiA]
      (repeat' refine And.intro ?_ ?_) <;> try first | omega | assumption | with_reducible rfl | exact rfl | (intro hside; (repeat' refine And.intro ?_ ?_) <;> first | exact hside | omega | (rw [hside]; rfl) | (simp_all; done))
      refine CallC.use (gvF hP hG (short_ok G c hc)) rfl ?_
      try simp (maxSteps := 2000000) (disch := omega) only [avR2, avA, datsOf, fillA, seval, ↓List.forall_mem_cons, Op.operands, hA, tiA]
      (repeat' refine And.intro ?_ ?_) <;> try first | omega | assumption | with_reducible rfl | exact rfl | (intro hside; (repeat' refine And.intro ?_ ?_) <;> first | exact hside | omega | (rw [hside]; rfl) | (simp_all; done))
      refine CallC.use (gvF hP hG (cost_ok G c (shortM c c.items.length) hc hp)) rfl ?_
      try simp (maxSteps := 2000000) (disch := omega) only [avR2, avA, datsOf, fillA, seval, ↓List.forall_mem_cons, Op.operands, hA, tiA]
      first | exact ⟨rfl, rfl⟩ | ((repeat' first | refine And.intro ?_ ?_ | intro _) <;> first | with_reducible rfl | assumption | omega | rfl | (rename_i hq; rw [hq]; rfl) | (simp_all; done))
    apply aw_regs [1, 2, 32] [1, 2]
    · simp (disch := omega) only [avR2, avA, datsOf, fillA, seval, ↓List.forall_mem_cons, Op.operands, hA, tiA]
      first | exact ⟨rfl, rfl⟩ | ((repeat' first | refine And.intro ?_ ?_ | intro _) <;> first | with_reducible rfl | assumption | omega | rfl | (rename_i hq; rw [hq]; rfl) | (simp_all; done))
    refine aw_if _ rfl (fun hb => ?_) (fun hb => ?_) <;> (try simp only [pickB_true, pickB_false, Bool.false_or, Bool.false_and, Bool.true_and, decide_eq_true_eq, decide_eq_false_iff_not, Bool.or_eq_true, Bool.and_eq_true, Bool.or_eq_false_iff, Bool.and_eq_false_imp, Bool.not_eq_true, Bool.not_eq_false, Bool.not_eq_eq_eq_not, Bool.not_true, Bool.not_false, Int.not_lt, Int.not_le, beq_iff_eq, beq_eq_false_iff_ne, bne_iff_ne, bne_eq_false_iff_eq, ne_eq, Bool.true_eq_false, Bool.false_eq_true, if_false_left, if_true_left, Bool.not_eq_eq_eq_not, Bool.decide_eq_true, Classical.not_not] at hb)
    · skip
      have hv : dualM c = ((0, 0, 0), 21) := by
        unfold dualM
        rw [if_neg h0, if_pos hb]
      apply aw_regs [2, 3] [2]
      · simp (disch := omega) only [avR2, avA, datsOf, fillA, seval, ↓List.forall_mem_cons, Op.operands, hA, tiA]
        first | exact ⟨rfl, rfl⟩ | ((repeat' first | refine And.intro ?_ ?_ | intro _) <;> first | with_reducible rfl | assumption | omega | rfl | (rename_i hq; rw [hq]; rfl) | (simp_all; done))
      apply aw_ret
      apply q_ret_seq
      simp only [QRet, QRetM, QRetX, retsX_nil, retsX_cons, objsAre, Tryd.results22, resA, mapO_nil, mapO_cons, vD_dat, vD_nils, vD_rp, vD_osl, vD_ptr, vD_agg, vD_fn, vL_dat, vL_app, viewL, avA, datsOf, fillA, seval, ↓List.forall_mem_cons, Op.operands, hP, hG, tiA]
      rw [hv]
    · skip
      have hv : dualM c = (dA c c.items.length, 0) := by
        unfold dualM
        rw [if_neg h0, if_neg (by omega)]
      apply aw_skip
      apply q_seq
      apply aw_regs [1, 2, 7] [1, 2, 7]
      · simp (disch := omega) only [avR2, avA, datsOf, fillA, seval, ↓List.forall_mem_cons, Op.operands, hA, tiA]
        (repeat' refine And.intro ?_ ?_) <;> try first | omega | assumption | with_reducible rfl | exact rfl | (intro hside; (repeat' refine And.intro ?_ ?_) <;> first | exact hside | omega | (rw [hside]; rfl) | (simp_all; done))
        refine CallC.use (gvF hP hG (bound_ok G c 0 1 hc (by unfold okPQ; omega))) rfl ?_
        try simp (maxSteps := 2000000) (disch := omega) only [avR2, avA, datsOf, fillA, seval, ↓List.forall_mem_cons, Op.operands, hA, tiA]
        first | exact ⟨rfl, rfl⟩ | ((repeat' first | refine And.intro ?_ ?_ | intro _) <;> first | with_reducible rfl | assumption | omega | rfl | (rename_i hq; rw [hq]; rfl) | (simp_all; done))
      apply aw_regs [1, 2, 7, 8] [1, 2, 7]
      · simp (disch := omega) only [avR2, avA, datsOf, fillA, seval, ↓List.forall_mem_cons, Op.operands, hA, tiA]
        first | exact ⟨rfl, rfl⟩ | ((repeat' first | refine And.intro ?_ ?_ | intro _) <;> first | with_reducible rfl | assumption | omega | rfl | (rename_i hq; rw [hq]; rfl) | (simp_all; done))
      apply aw_seq
      apply aw_regs [1, 2, 7, 8, 38, 39, 40] [1, 2, 7]
      · simp (disch := omega) only [avR2, avA, datsOf, fillA, seval, ↓List.forall_mem_cons, Op.operands, hA, tiA]
        first | exact ⟨rfl, rfl⟩ | ((repeat' first | refine And.intro ?_ ?_ | intro _) <;> first | with_reducible rfl | assumption | omega | rfl | (rename_i hq; rw [hq]; rfl) | (simp_all; done))
      apply aw_block
      refine aw_loop (ι := {i : Nat // i ≤ c.items.length}) (fun ⟨i, hi⟩ => .of [(1, .ptr 1 3 0 0), (2, .ptr 2 3 0 0), (7, .ptr 7 3 0 0), (8, .fn 47 [.ptr 1 3 0 0, .ptr 7 3 0 0]), (38, .dat (.sl (c.items.map osD))), (39, .dat (iD c.items.length)), (40, .dat (iD i))] [(1, ⟨3, [.dat (caseD c)]⟩), (2, ⟨3, [.dat (ceD (0, 0, 0))]⟩), (7, ⟨3, [.dat (ceD (dA c i))]⟩)]) (fun ⟨i, hi⟩ => c.items.length - i) (⟨0, by omega⟩) (Le.of ?_ ?_) fun ix => ?_
      · try simp (disch := omega) only [LeE, LeO, avA, datsOf, fillA, seval, ↓List.forall_mem_cons, Op.operands, dA]
        all_goals first | done | (repeat' apply And.intro) <;> first | rfl | omega | assumption | (simp only [AV.dat.injEq, Dat.int.injEq, true_and]; omega) | (congr <;> omega)
      · try simp (disch := omega) only [LeE, LeO, avA, datsOf, fillA, seval, ↓List.forall_mem_cons, Op.operands, dA]
        all_goals first | done | (repeat' apply And.intro) <;> first | rfl | omega | assumption | (simp only [AV.dat.injEq, Dat.int.injEq, true_and]; omega) | (congr <;> omega)
      obtain ⟨i, hi⟩ := ix
      dsimp only
      apply aw_regs [1, 2, 7, 8, 38, 39, 40, 41] [1, 2, 7]
      · simp (disch := omega) only [avR2, avA, datsOf, fillA, seval, ↓List.forall_mem_cons, Op.operands, hA, tiA]
        first | exact ⟨rfl, rfl⟩ | ((repeat' first | refine And.intro ?_ ?_ | intro _) <;> first | with_reducible rfl | assumption | omega | rfl | (rename_i hq; rw [hq]; rfl) | (simp_all; done))
      apply aw_seq
      refine aw_if _ rfl (fun hb => ?_) (fun hb => ?_) <;> (try simp only [pickB_true, pickB_false, Bool.false_or, Bool.false_and, Bool.true_and, decide_eq_true_eq, decide_eq_false_iff_not, Bool.or_eq_true, Bool.and_eq_true, Bool.or_eq_false_iff, Bool.and_eq_false_imp, Bool.not_eq_true, Bool.not_eq_false, Bool.not_eq_eq_eq_not, Bool.not_true, Bool.not_false, Int.not_lt, Int.not_le, beq_iff_eq, beq_eq_false_iff_ne, bne_iff_ne, bne_eq_false_iff_eq, ne_eq, Bool.true_eq_false, Bool.false_eq_true, if_false_left, if_true_left, Bool.not_eq_eq_eq_not, Bool.decide_eq_true, Classical.not_not] at hb)
      · skip
        have hil : i < c.items.length := by omega
        have hi8 := hc.n8 i hil
        have hwi := hc.w i hil
        simp only [itemM, weightM] at hi8 hwi
        have hdA := dA_okB hc i hi
        apply aw_skip
        apply q_seq
        apply aw_seq
        apply aw_block
        apply aw_regs [1, 2, 7, 8, 9, 10, 38, 39, 40] [1, 2, 7]
        · simp (disch := omega) only [avR2, avA, datsOf, fillA, seval, ↓List.forall_mem_cons, Op.operands, hA, tiA]
          first | exact ⟨rfl, rfl⟩ | ((repeat' first | refine And.intro ?_ ?_ | intro _) <;> first | with_reducible rfl | assumption | omega | rfl | (rename_i hq; rw [hq]; rfl) | (simp_all; done))
        apply aw_regs [1, 2, 7, 8, 9, 10, 38, 39, 40, 45, 46, 47] [1, 2, 7]
        · simp (disch := omega) only [avR2, avA, datsOf, fillA, seval, ↓List.forall_mem_cons, Op.operands, hA, tiA]
          first | exact ⟨rfl, rfl⟩ | ((repeat' first | refine And.intro ?_ ?_ | intro _) <;> first | with_reducible rfl | assumption | omega | rfl | (rename_i hq; rw [hq]; rfl) | (simp_all; done))
        apply aw_block
        refine aw_loop (ι := {a : Nat // a ≤ (c.items.getD i default).length}) (fun ⟨a, ha⟩ => .of [(1, .ptr 1 3 0 0), (2, .ptr 2 3 0 0), (7, .ptr 7 3 0 0), (8, .fn 47 [.ptr 1 3 0 0, .ptr 7 3 0 0]), (38, .dat (.sl (c.items.map osD))), (39, .dat (iD c.items.length)), (40, .dat (iD i)), (9, .dat (iD i)), (10, .dat (osD (c.items.getD i default))), (45, .dat (osD (c.items.getD i default))), (46, .dat (iD (c.items.getD i default).length)), (47, .dat (iD a))] [(1, ⟨3, [.dat (caseD c)]⟩), (2, ⟨3, [.dat (ceD (0, 0, 0))]⟩), (7, ⟨3, [.dat (ceD (dB c i (dA c i) a))]⟩)]) (fun ⟨a, ha⟩ => (c.items.getD i default).length - a) (⟨0, by omega⟩) (Le.of ?_ ?_) fun ix => ?_
        · try simp (disch := omega) only [LeE, LeO, avA, datsOf, fillA, seval, ↓List.forall_mem_cons, Op.operands, dB]
          all_goals first | done | (repeat' apply And.intro) <;> first | rfl | omega | assumption | (simp only [AV.dat.injEq, Dat.int.injEq, true_and]; omega) | (congr <;> omega)
        · try simp (disch := omega) only [LeE, LeO, avA, datsOf, fillA, seval, ↓List.forall_mem_cons, Op.operands, dB]
          all_goals first | done | (repeat' apply And.intro) <;> first | rfl | omega | assumption | (simp only [AV.dat.injEq, Dat.int.injEq, true_and]; omega) | (congr <;> omega)
        obtain ⟨a, ha⟩ := ix
        dsimp only
        apply aw_regs [1, 2, 7, 8, 9, 10, 38, 39, 40, 45, 46, 47, 48] [1, 2, 7]
        · simp (disch := omega) only [avR2, avA, datsOf, fillA, seval, ↓List.forall_mem_cons, Op.operands, hA, tiA]
          first | exact ⟨rfl, rfl⟩ | ((repeat' first | refine And.intro ?_ ?_ | intro _) <;> first | with_reducible rfl | assumption | omega | rfl | (rename_i hq; rw [hq]; rfl) | (simp_all; done))
        apply aw_seq
        refine aw_if _ rfl (fun hb => ?_) (fun hb => ?_) <;> (try simp only [pickB_true, pickB_false, Bool.false_or, Bool.false_and, Bool.true_and, decide_eq_true_eq, decide_eq_false_iff_not, Bool.or_eq_true, Bool.and_eq_true, Bool.or_eq_false_iff, Bool.and_eq_false_imp, Bool.not_eq_true, Bool.not_eq_false, Bool.not_eq_eq_eq_not, Bool.not_true, Bool.not_false, Int.not_lt, Int.not_le, beq_iff_eq, beq_eq_false_iff_ne, bne_iff_ne, bne_eq_false_iff_eq, ne_eq, Bool.true_eq_false, Bool.false_eq_true, if_false_left, if_true_left, Bool.not_eq_eq_eq_not, Bool.decide_eq_true, Classical.not_not] at hb)
        · skip
          have hal : a < (c.items.getD i default).length := by omega
          have hdB := dB_okB hc hil hdA a ha
          have hoa := getD_all (hc.o i hil) (i := a) (by simp only [itemM]; omega)
          simp only [itemM] at hoa
          unfold okO at hoa
          apply aw_skip
          apply q_seq
          apply aw_seq
          apply aw_block
          apply aw_regs [1, 2, 7, 8, 9, 10, 12, 38, 39, 40, 45, 46, 47] [1, 2, 7, 12]
          · simp (disch := omega) only [avR2, avA, datsOf, fillA, seval, ↓List.forall_mem_cons, Op.operands, hA, tiA]
            first | exact ⟨rfl, rfl⟩ | ((repeat' first | refine And.intro ?_ ?_ | intro _) <;> first | with_reducible rfl | assumption | omega | rfl | (rename_i hq; rw [hq]; rfl) | (simp_all; done))
          apply aw_regs [1, 2, 7, 8, 9, 10, 12, 38, 39, 40, 45, 46, 47, 51, 52, 53] [1, 2, 7, 12]
          · simp (disch := omega) only [avR2, avA, datsOf, fillA, seval, ↓List.forall_mem_cons, Op.operands, hA, tiA]
            first | exact ⟨rfl, rfl⟩ | ((repeat' first | refine And.intro ?_ ?_ | intro _) <;> first | with_reducible rfl | assumption | omega | rfl | (rename_i hq; rw [hq]; rfl) | (simp_all; done))
          apply aw_block
          refine aw_loop (ι := {b : Nat // b ≤ (c.items.getD i default).length}) (fun ⟨b, hbl⟩ => .of [(1, .ptr 1 3 0 0), (2, .ptr 2 3 0 0), (7, .ptr 7 3 0 0), (8, .fn 47 [.ptr 1 3 0 0, .ptr 7 3 0 0]), (38, .dat (.sl (c.items.map osD))), (39, .dat (iD c.items.length)), (40, .dat (iD i)), (9, .dat (iD i)), (10, .dat (osD (c.items.getD i default))), (45, .dat (osD (c.items.getD i default))), (46, .dat (iD (c.items.getD i default).length)), (47, .dat (iD a)), (12, .ptr 12 2 0 0), (51, .dat (osD (c.items.getD i default))), (52, .dat (iD (c.items.getD i default).length)), (53, .dat (iD b))] [(1, ⟨3, [.dat (caseD c)]⟩), (2, ⟨3, [.dat (ceD (0, 0, 0))]⟩), (7, ⟨3, [.dat (ceD (dC c i a (dB c i (dA c i) a) b))]⟩), (12, ⟨2, [.dat (oD ((c.items.getD i default).getD a default))]⟩)]) (fun ⟨b, hbl⟩ => (c.items.getD i default).length - b) (⟨0, by omega⟩) (Le.of ?_ ?_) fun ix => ?_
          · try simp (disch := omega) only [LeE, LeO, avA, datsOf, fillA, seval, ↓List.forall_mem_cons, Op.operands, hst, dC_zero]
            all_goals first | done | (repeat' apply And.intro) <;> first | rfl | omega | assumption | (simp only [AV.dat.injEq, Dat.int.injEq, true_and]; omega) | (congr <;> omega)
          · try simp (disch := omega) only [LeE, LeO, avA, datsOf, fillA, seval, ↓List.forall_mem_cons, Op.operands, hst, dC_zero]
            all_goals first | done | (repeat' apply And.intro) <;> first | rfl | omega | assumption | (simp only [AV.dat.injEq, Dat.int.injEq, true_and]; omega) | (congr <;> omega)
          obtain ⟨b, hbl⟩ := ix
          dsimp only
          apply aw_regs [1, 2, 7, 8, 9, 10, 12, 38, 39, 40, 45, 46, 47, 51, 52, 53, 54] [1, 2, 7, 12]
          · simp (disch := omega) only [avR2, avA, datsOf, fillA, seval, ↓List.forall_mem_cons, Op.operands, hA, tiA]
            first | exact ⟨rfl, rfl⟩ | ((repeat' first | refine And.intro ?_ ?_ | intro _) <;> first | with_reducible rfl | assumption | omega | rfl | (rename_i hq; rw [hq]; rfl) | (simp_all; done))
          apply aw_seq
          refine aw_if _ rfl (fun hb => ?_) (fun hb => ?_) <;> (try simp only [pickB_true, pickB_false, Bool.false_or, Bool.false_and, Bool.true_and, decide_eq_true_eq, decide_eq_false_iff_not, Bool.or_eq_true, Bool.and_eq_true, Bool.or_eq_false_iff, Bool.and_eq_false_imp, Bool.not_eq_true, Bool.not_eq_false, Bool.not_eq_eq_eq_not, Bool.not_true, Bool.not_false, Int.not_lt, Int.not_le, beq_iff_eq, beq_eq_false_iff_ne, bne_iff_ne, bne_eq_false_iff_eq, ne_eq, Bool.true_eq_false, Bool.false_eq_true, if_false_left, if_true_left, Bool.not_eq_eq_eq_not, Bool.decide_eq_true, Classical.not_not] at hb)
          · skip
            have hbb : b < (c.items.getD i default).length := by omega
            have hob := getD_all (hc.o i hil) (i := b) (by simp only [itemM]; omega)
            simp only [itemM] at hob
            unfold okO at hob
            have hdC := dC_okB hc hil hal hdB b hbl
            have hpr := dP_range hc hil hal hbb
            have hpd : dP c i a b = c.weights.getD i default * (((c.items.getD i default).getD a default).2 - ((c.items.getD i default).getD b default).2) := rfl
            have hqd : dQ c i a b = ((c.items.getD i default).getD b default).1 - ((c.items.getD i default).getD a default).1 := rfl
            apply aw_skip
            apply q_seq
            apply aw_seq
            apply aw_block
            apply aw_regs [1, 2, 7, 8, 9, 10, 12, 14, 38, 39, 40, 45, 46, 47, 51, 52, 53] [1, 2, 7, 12, 14]
            · simp (disch := omega) only [avR2, avA, datsOf, fillA, seval, ↓List.forall_mem_cons, Op.operands, hA, tiA]
              first | exact ⟨rfl, rfl⟩ | ((repeat' first | refine And.intro ?_ ?_ | intro _) <;> first | with_reducible rfl | assumption | omega | rfl | (rename_i hq; rw [hq]; rfl) | (simp_all; done))
            apply aw_rgds [1, 2, 7, 8, 9, 10, 12, 14, 15, 38, 39, 40, 45, 46, 47, 51, 52, 53] [1, 2, 7, 12, 14] [0, 1, 2, 3, 4, 5, 6, 7, 8, 9, 10, 11] []
            · rw [hP]; kernel_rfl
            · exact hR
            · kernel_rfl
            · (repeat (apply PickL.cons; exact rfl)); exact PickL.nil _
            · simp (disch := omega) only [avR2, avA, datsOf, fillA, seval, ↓List.forall_mem_cons, Op.operands, hA, tiA]
              first | exact ⟨rfl, rfl⟩ | ((repeat' first | refine And.intro ?_ ?_ | intro _) <;> first | with_reducible rfl | assumption | omega | rfl | (rename_i hq; rw [hq]; rfl) | (simp_all; done))
            apply aw_regs [1, 2, 7, 8, 9, 10, 12, 14, 15, 38, 39, 40, 45, 46, 47, 51, 52, 53, 76] [1, 2, 7, 12, 14]
            · simp (disch := omega) only [avR2, avA, datsOf, fillA, seval, ↓List.forall_mem_cons, Op.operands, hA, tiA]
              first | exact ⟨rfl, rfl⟩ | ((repeat' first | refine And.intro ?_ ?_ | intro _) <;> first | with_reducible rfl | assumption | omega | rfl | (rename_i hq; rw [hq]; rfl) | (simp_all; done))
            refine aw_if _ rfl (fun hb => ?_) (fun hb => ?_) <;> (try simp only [pickB_true, pickB_false, Bool.false_or, Bool.false_and, Bool.true_and, decide_eq_true_eq, decide_eq_false_iff_not, Bool.or_eq_true, Bool.and_eq_true, Bool.or_eq_false_iff, Bool.and_eq_false_imp, Bool.not_eq_true, Bool.not_eq_false, Bool.not_eq_eq_eq_not, Bool.not_true, Bool.not_false, Int.not_lt, Int.not_le, beq_iff_eq, beq_eq_false_iff_ne, bne_iff_ne, bne_eq_false_iff_eq, ne_eq, Bool.true_eq_false, Bool.false_eq_true, if_false_left, if_true_left, Bool.not_eq_eq_eq_not, Bool.decide_eq_true, Classical.not_not] at hb)
            · skip
              have hst : dC c i a (dB c i (dA c i) a) (b + 1) = tryM c (dC c i a (dB c i (dA c i) a) b) (dP c i a b).toNat (dQ c i a b).toNat := by
                simp only [dC]
                rw [if_pos (by omega)]
              apply aw_reg [1, 2, 7, 8, 9, 10, 12, 38, 39, 40, 45, 46, 47, 51, 52, 53] [1, 2, 7, 12]
              · simp (disch := omega) only [avR2, avA, datsOf, fillA, seval, ↓List.forall_mem_cons, Op.operands, hA, tiA]
                (repeat' refine And.intro ?_ ?_) <;> try first | omega | assumption | with_reducible rfl | exact rfl
                refine CallC.useM (fun i => if i = 1000 then 1 else 7) (by simp [LitD, hR.2.1]) (gvFM hP hG (tryI_ok G c (dC c i a (dB c i (dA c i) a) b) (dP c i a b) (dQ c i a b) hc hdC (by omega) (by omega))) rfl ⟨by intro p hp; simp only [List.mem_cons, List.not_mem_nil, or_false] at hp; rcases hp with rfl | rfl <;> rfl, by simp, rfl⟩ ?_
                try simp (maxSteps := 2000000) (disch := omega) only [avR2, avA, datsOf, fillA, seval, ↓List.forall_mem_cons, Op.operands, hA, tiA, objsM_nil, objsM_cons, AObj.ren]
                first | exact ⟨rfl, rfl⟩ | ((repeat' first | refine And.intro ?_ ?_ | intro _) <;> first | with_reducible rfl | assumption | omega | rfl | (rename_i hq; rw [hq]; rfl) | (simp_all; done))
              apply q_block
              apply q_seq
              apply aw_reg [1, 2, 7, 8, 9, 10, 12, 38, 39, 40, 45, 46, 47, 51, 52, 53] [1, 2, 7, 12]
              · simp (disch := omega) only [avR2, avA, datsOf, fillA, seval, ↓List.forall_mem_cons, Op.operands, hA, tiA]
                first | exact ⟨rfl, rfl⟩ | ((repeat' first | refine And.intro ?_ ?_ | intro _) <;> first | with_reducible rfl | assumption | omega | rfl | (rename_i hq; rw [hq]; rfl) | (simp_all; done))
              refine q_loop (⟨b + 1, by omega⟩) (Le.of ?_ ?_) (by dsimp only; omega)
              · try simp (disch := omega) only [LeE, LeO, avA, datsOf, fillA, seval, ↓List.forall_mem_cons, Op.operands, hst, dC_zero]
                all_goals first | done | (repeat' apply And.intro) <;> first | rfl | omega | assumption | (simp only [AV.dat.injEq, Dat.int.injEq, true_and]; omega) | (congr <;> omega)
              · try simp (disch := omega) only [LeE, LeO, avA, datsOf, fillA, seval, ↓List.forall_mem_cons, Op.operands, hst, dC_zero]
                all_goals first | done | (repeat' apply And.intro) <;> first | rfl | omega | assumption | (simp only [AV.dat.injEq, Dat.int.injEq, true_and]; omega) | (congr <;> omega)
            · skip
              have hst : dC c i a (dB c i (dA c i) a) (b + 1) = dC c i a (dB c i (dA c i) a) b := by
                simp only [dC]
                rw [if_neg (by omega)]
              apply aw_skip
              apply q_block
              apply q_seq
              apply aw_reg [1, 2, 7, 8, 9, 10, 12, 38, 39, 40, 45, 46, 47, 51, 52, 53] [1, 2, 7, 12]
              · simp (disch := omega) only [avR2, avA, datsOf, fillA, seval, ↓List.forall_mem_cons, Op.operands, hA, tiA]
                first | exact ⟨rfl, rfl⟩ | ((repeat' first | refine And.intro ?_ ?_ | intro _) <;> first | with_reducible rfl | assumption | omega | rfl | (rename_i hq; rw [hq]; rfl) | (simp_all; done))
              refine q_loop (⟨b + 1, by omega⟩) (Le.of ?_ ?_) (by dsimp only; omega)
              · try simp (disch := omega) only [LeE, LeO, avA, datsOf, fillA, seval, ↓List.forall_mem_cons, Op.operands, hst, dC_zero]
                all_goals first | done | (repeat' apply And.intro) <;> first | rfl | omega | assumption | (simp only [AV.dat.injEq, Dat.int.injEq, true_and]; omega) | (congr <;> omega)
              · try simp (disch := omega) only [LeE, LeO, avA, datsOf, fillA, seval, ↓List.forall_mem_cons, Op.operands, hst, dC_zero]
                all_goals first | done | (repeat' apply And.intro) <;> first | rfl | omega | assumption | (simp only [AV.dat.injEq, Dat.int.injEq, true_and]; omega) | (congr <;> omega)
          · skip
            have hbe : b = (c.items.getD i default).length := by omega
            subst hbe
            apply aw_exit
            apply q_exit_seq
            apply q_exit_loop
            apply q_exit
            apply q_block
            apply q_seq
            apply aw_reg [1, 2, 7, 8, 9, 10, 38, 39, 40, 45, 46, 47] [1, 2, 7]
            · simp (disch := omega) only [avR2, avA, datsOf, fillA, seval, ↓List.forall_mem_cons, Op.operands, hA, tiA]
              first | exact ⟨rfl, rfl⟩ | ((repeat' first | refine And.intro ?_ ?_ | intro _) <;> first | with_reducible rfl | assumption | omega | rfl | (rename_i hq; rw [hq]; rfl) | (simp_all; done))
            refine q_loop (⟨a + 1, by omega⟩) (Le.of ?_ ?_) (by dsimp only; omega)
            · try simp (disch := omega) only [LeE, LeO, avA, datsOf, fillA, seval, ↓List.forall_mem_cons, Op.operands, dB]
              all_goals first | done | (repeat' apply And.intro) <;> first | rfl | omega | assumption | (simp only [AV.dat.injEq, Dat.int.injEq, true_and]; omega) | (congr <;> omega)
            · try simp (disch := omega) only [LeE, LeO, avA, datsOf, fillA, seval, ↓List.forall_mem_cons, Op.operands, dB]
              all_goals first | done | (repeat' apply And.intro) <;> first | rfl | omega | assumption | (simp only [AV.dat.injEq, Dat.int.injEq, true_and]; omega) | (congr <;> omega)
        · skip
          have hae : a = (c.items.getD i default).length := by omega
          subst hae
          apply aw_exit
          apply q_exit_seq
          apply q_exit_loop
          apply q_exit
          apply q_block
          apply q_seq
          apply aw_reg [1, 2, 7, 8, 38, 39, 40] [1, 2, 7]
          · simp (disch := omega) only [avR2, avA, datsOf, fillA, seval, ↓List.forall_mem_cons, Op.operands, hA, tiA]
            first | exact ⟨rfl, rfl⟩ | ((repeat' first | refine And.intro ?_ ?_ | intro _) <;> first | with_reducible rfl | assumption | omega | rfl | (rename_i hq; rw [hq]; rfl) | (simp_all; done))
          refine q_loop (⟨i + 1, by omega⟩) (Le.of ?_ ?_) (by dsimp only; omega)
          · try simp (disch := omega) only [LeE, LeO, avA, datsOf, fillA, seval, ↓List.forall_mem_cons, Op.operands, dA]
            all_goals first | done | (repeat' apply And.intro) <;> first | rfl | omega | assumption | (simp only [AV.dat.injEq, Dat.int.injEq, true_and]; omega) | (congr <;> omega)
          · try simp (disch := omega) only [LeE, LeO, avA, datsOf, fillA, seval, ↓List.forall_mem_cons, Op.operands, dA]
            all_goals first | done | (repeat' apply And.intro) <;> first | rfl | omega | assumption | (simp only [AV.dat.injEq, Dat.int.injEq, true_and]; omega) | (congr <;> omega)
      · skip
        have hie : i = c.items.length := by omega
        subst hie
        apply aw_exit
        apply q_exit_seq
        apply q_exit_loop
        apply q_exit
        apply q_seq
        apply aw_regs [2, 3] [2]
        · simp (disch := omega) only [avR2, avA, datsOf, fillA, seval, ↓List.forall_mem_cons, Op.operands, hA, tiA]
          first | exact ⟨rfl, rfl⟩ | ((repeat' first | refine And.intro ?_ ?_ | intro _) <;> first | with_reducible rfl | assumption | omega | rfl | (rename_i hq; rw [hq]; rfl) | (simp_all; done))
        apply aw_ret
        simp only [QRet, QRetM, QRetX, retsX_nil, retsX_cons, objsAre, Tryd.results22, resA, mapO_nil, mapO_cons, vD_dat, vD_nils, vD_rp, vD_osl, vD_ptr, vD_agg, vD_fn, vL_dat, vL_app, viewL, avA, datsOf, fillA, seval, ↓List.forall_mem_cons, Op.operands, hP, hG, tiA]
        rw [hv]

end Go.Proofs.YthcfjdkflmkhbaaDoor

namespace Go.Proofs.YthcfjdkflmkhbaaDoor
open Go.Av

def exM (room : Int) : CaseM := ⟨[[(1, 4), (3, 1)], [(0, 5), (2, 2)]], [3, 1], room⟩
theorem exM_sz (room : Int) (h : 0 ≤ room ∧ room ≤ 9) : SzC (exM room) := by
  apply SzL.sz
  refine ⟨by simp [exM], by simp [exM], ?_, ?_, by unfold I64; simp only [exM]; omega, ?_⟩
  · intro l hl; simp [exM] at hl; rcases hl with rfl | rfl <;> simp
  · intro w hw; simp [exM] at hw; rcases hw with rfl | rfl <;> (unfold I64; omega)
  · intro l hl o ho; simp [exM] at hl; rcases hl with rfl | rfl <;> (simp at ho; rcases ho with rfl | rfl <;> (unfold I2 I64; simp))
theorem exB0 : bestM (exM 0) = ([], 0, 21) := by decide +kernel
theorem exB3 : bestM (exM 3) = ([1, 0], 8, 0) := by decide +kernel
theorem exB2 : bestM (exM 2) = ([0, 0], 17, 0) := by decide +kernel
theorem exB5 : bestM (exM 5) = ([1, 1], 5, 0) := by decide +kernel
theorem exD0 : dualM (exM 0) = ((0, 0, 0), 21) := by decide +kernel
theorem exD3 : dualM (exM 3) = ((3, 2, 16), 0) := by decide +kernel
theorem exD2 : dualM (exM 2) = ((9, 2, 25), 0) := by decide +kernel
theorem exD5 : dualM (exM 5) = ((0, 1, 5), 0) := by decide +kernel
theorem exC : checkM (exM 2) [0, 0] (9, 2, 25) = (17, 13, 0) := by decide +kernel

end Go.Proofs.YthcfjdkflmkhbaaDoor

namespace Go.Proofs.YthcfjdkflmkhbaaDoor
open Go.Av

theorem exP0 : Gives Tryd.prog gG 44 [iD 0] [caseD (exM 0)] := example_ok gG 0
theorem exP3 : Gives Tryd.prog gG 44 [iD 3] [caseD (exM 3)] := example_ok gG 3
theorem exP2 : Gives Tryd.prog gG 44 [iD 2] [caseD (exM 2)] := example_ok gG 2
theorem exP5 : Gives Tryd.prog gG 44 [iD 5] [caseD (exM 5)] := example_ok gG 5
theorem exQ0 : Gives Tryd.prog gG 30 [caseD (exM 0)] [isD [], iD 0, iD 21] := by have h := best_ok (exM 0) (exM_sz 0 (by omega)); rw [exB0] at h; exact h
theorem exQ3 : Gives Tryd.prog gG 30 [caseD (exM 3)] [isD [1, 0], iD 8, iD 0] := by have h := best_ok (exM 3) (exM_sz 3 (by omega)); rw [exB3] at h; exact h
theorem exQ2 : Gives Tryd.prog gG 30 [caseD (exM 2)] [isD [0, 0], iD 17, iD 0] := by have h := best_ok (exM 2) (exM_sz 2 (by omega)); rw [exB2] at h; exact h
theorem exQ5 : Gives Tryd.prog gG 30 [caseD (exM 5)] [isD [1, 1], iD 5, iD 0] := by have h := best_ok (exM 5) (exM_sz 5 (by omega)); rw [exB5] at h; exact h
theorem exR0 : Gives Tryd.prog gG 22 [caseD (exM 0)] [ceD (0, 0, 0), iD 21] := by have h := dual_ok gG (exM 0) (exM_sz 0 (by omega)); rw [exD0] at h; exact h
theorem exR3 : Gives Tryd.prog gG 22 [caseD (exM 3)] [ceD (3, 2, 16), iD 0] := by have h := dual_ok gG (exM 3) (exM_sz 3 (by omega)); rw [exD3] at h; exact h
theorem exR2 : Gives Tryd.prog gG 22 [caseD (exM 2)] [ceD (9, 2, 25), iD 0] := by have h := dual_ok gG (exM 2) (exM_sz 2 (by omega)); rw [exD2] at h; exact h
theorem exR5 : Gives Tryd.prog gG 22 [caseD (exM 5)] [ceD (0, 1, 5), iD 0] := by have h := dual_ok gG (exM 5) (exM_sz 5 (by omega)); rw [exD5] at h; exact h
theorem exS : Gives Tryd.prog gG 27 [caseD (exM 2), isD [0, 0], ceD (9, 2, 25)] [iD 17, iD 13, iD 0] := by have h := checkF_ok gG (exM 2) [0, 0] (9, 2, 25) (exM_sz 2 (by omega)) (by simp) (by unfold I64; simp); rw [exC] at h; exact h


set_option maxHeartbeats 2000000 in
theorem lives_ok : Gives Tryd.prog gG 20 [] [.bool true] := by
  refine gives_intro [] [] [] Tryd.func20 rfl (by rfl) (by simp [Tryd.ntmps20]) fun F hP hG hN hR => ?_
  rw [Tryd.ntmps20] at hN
  have hA := And.intro hN (And.intro hP (And.intro hG (And.intro hR.1 (And.intro hR.2.1 hR.2.2.1))))
  apply aw_regs [] []
  · simp (disch := omega) only [avR2, avA, datsOf, fillA, seval, ↓List.forall_mem_cons, Op.operands, hA, tiA]
    first | exact ⟨rfl, rfl⟩ | ((repeat' first | refine And.intro ?_ ?_ | intro _) <;> first | with_reducible rfl | assumption | omega | rfl | (rename_i hq; rw [hq]; rfl) | (simp_all; done))
  apply aw_regs [3] []
  · simp (disch := omega) only [avR2, avA, datsOf, fillA, seval, ↓List.forall_mem_cons, Op.operands, hA, tiA]
    (repeat' refine And.intro ?_ ?_) <;> try first | omega | assumption | with_reducible rfl | exact rfl | (intro hside; (repeat' refine And.intro ?_ ?_) <;> first | exact hside | omega | (rw [hside]; rfl) | (simp_all; done))
    refine CallC.use (gvF hP hG (exP0)) rfl ?_
    try simp (maxSteps := 2000000) (disch := omega) only [avR2, avA, datsOf, fillA, seval, ↓List.forall_mem_cons, Op.operands, hA, tiA]
    (repeat' refine And.intro ?_ ?_) <;> try first | omega | assumption | with_reducible rfl | exact rfl | (intro hside; (repeat' refine And.intro ?_ ?_) <;> first | exact hside | omega | (rw [hside]; rfl) | (simp_all; done))
    refine CallC.use (gvF hP hG (exQ0)) rfl ?_
    try simp (maxSteps := 2000000) (disch := omega) only [avR2, avA, datsOf, fillA, seval, ↓List.forall_mem_cons, Op.operands, hA, tiA]
    first | exact ⟨rfl, rfl⟩ | ((repeat' first | refine And.intro ?_ ?_ | intro _) <;> first | with_reducible rfl | assumption | omega | rfl | (rename_i hq; rw [hq]; rfl) | (simp_all; done))
  apply aw_regs [3, 5] []
  · simp (disch := omega) only [avR2, avA, datsOf, fillA, seval, ↓List.forall_mem_cons, Op.operands, hA, tiA]
    (repeat' refine And.intro ?_ ?_) <;> try first | omega | assumption | with_reducible rfl | exact rfl | (intro hside; (repeat' refine And.intro ?_ ?_) <;> first | exact hside | omega | (rw [hside]; rfl) | (simp_all; done))
    refine CallC.use (gvF hP hG (exP0)) rfl ?_
    try simp (maxSteps := 2000000) (disch := omega) only [avR2, avA, datsOf, fillA, seval, ↓List.forall_mem_cons, Op.operands, hA, tiA]
    (repeat' refine And.intro ?_ ?_) <;> try first | omega | assumption | with_reducible rfl | exact rfl | (intro hside; (repeat' refine And.intro ?_ ?_) <;> first | exact hside | omega | (rw [hside]; rfl) | (simp_all; done))
    refine CallC.use (gvF hP hG (exR0)) rfl ?_
    try simp (maxSteps := 2000000) (disch := omega) only [avR2, avA, datsOf, fillA, seval, ↓List.forall_mem_cons, Op.operands, hA, tiA]
    first | exact ⟨rfl, rfl⟩ | ((repeat' first | refine And.intro ?_ ?_ | intro _) <;> first | with_reducible rfl | assumption | omega | rfl | (rename_i hq; rw [hq]; rfl) | (simp_all; done))
  apply aw_regs [3, 5, 6, 7, 8] []
  · simp (disch := omega) only [avR2, avA, datsOf, fillA, seval, ↓List.forall_mem_cons, Op.operands, hA, tiA]
    (repeat' refine And.intro ?_ ?_) <;> try first | omega | assumption | with_reducible rfl | exact rfl | (intro hside; (repeat' refine And.intro ?_ ?_) <;> first | exact hside | omega | (rw [hside]; rfl) | (simp_all; done))
    refine CallC.use (gvF hP hG (exP3)) rfl ?_
    try simp (maxSteps := 2000000) (disch := omega) only [avR2, avA, datsOf, fillA, seval, ↓List.forall_mem_cons, Op.operands, hA, tiA]
    (repeat' refine And.intro ?_ ?_) <;> try first | omega | assumption | with_reducible rfl | exact rfl | (intro hside; (repeat' refine And.intro ?_ ?_) <;> first | exact hside | omega | (rw [hside]; rfl) | (simp_all; done))
    refine CallC.use (gvF hP hG (exQ3)) rfl ?_
    try simp (maxSteps := 2000000) (disch := omega) only [avR2, avA, datsOf, fillA, seval, ↓List.forall_mem_cons, Op.operands, hA, tiA]
    first | exact ⟨rfl, rfl⟩ | ((repeat' first | refine And.intro ?_ ?_ | intro _) <;> first | with_reducible rfl | assumption | omega | rfl | (rename_i hq; rw [hq]; rfl) | (simp_all; done))
  apply aw_regs [3, 5, 6, 7, 8, 9, 10] [9]
  · simp (disch := omega) only [avR2, avA, datsOf, fillA, seval, ↓List.forall_mem_cons, Op.operands, hA, tiA]
    (repeat' refine And.intro ?_ ?_) <;> try first | omega | assumption | with_reducible rfl | exact rfl | (intro hside; (repeat' refine And.intro ?_ ?_) <;> first | exact hside | omega | (rw [hside]; rfl) | (simp_all; done))
    refine CallC.use (gvF hP hG (exP3)) rfl ?_
    try simp (maxSteps := 2000000) (disch := omega) only [avR2, avA, datsOf, fillA, seval, ↓List.forall_mem_cons, Op.operands, hA, tiA]
    (repeat' refine And.intro ?_ ?_) <;> try first | omega | assumption | with_reducible rfl | exact rfl | (intro hside; (repeat' refine And.intro ?_ ?_) <;> first | exact hside | omega | (rw [hside]; rfl) | (simp_all; done))
    refine CallC.use (gvF hP hG (exR3)) rfl ?_
    try simp (maxSteps := 2000000) (disch := omega) only [avR2, avA, datsOf, fillA, seval, ↓List.forall_mem_cons, Op.operands, hA, tiA]
    first | exact ⟨rfl, rfl⟩ | ((repeat' first | refine And.intro ?_ ?_ | intro _) <;> first | with_reducible rfl | assumption | omega | rfl | (rename_i hq; rw [hq]; rfl) | (simp_all; done))
  apply aw_regs [3, 5, 6, 7, 8, 9, 10, 11, 12, 13] [9]
  · simp (disch := omega) only [avR2, avA, datsOf, fillA, seval, ↓List.forall_mem_cons, Op.operands, hA, tiA]
    (repeat' refine And.intro ?_ ?_) <;> try first | omega | assumption | with_reducible rfl | exact rfl | (intro hside; (repeat' refine And.intro ?_ ?_) <;> first | exact hside | omega | (rw [hside]; rfl) | (simp_all; done))
    refine CallC.use (gvF hP hG (exP2)) rfl ?_
    try simp (maxSteps := 2000000) (disch := omega) only [avR2, avA, datsOf, fillA, seval, ↓List.forall_mem_cons, Op.operands, hA, tiA]
    (repeat' refine And.intro ?_ ?_) <;> try first | omega | assumption | with_reducible rfl | exact rfl | (intro hside; (repeat' refine And.intro ?_ ?_) <;> first | exact hside | omega | (rw [hside]; rfl) | (simp_all; done))
    refine CallC.use (gvF hP hG (exQ2)) rfl ?_
    try simp (maxSteps := 2000000) (disch := omega) only [avR2, avA, datsOf, fillA, seval, ↓List.forall_mem_cons, Op.operands, hA, tiA]
    first | exact ⟨rfl, rfl⟩ | ((repeat' first | refine And.intro ?_ ?_ | intro _) <;> first | with_reducible rfl | assumption | omega | rfl | (rename_i hq; rw [hq]; rfl) | (simp_all; done))
  apply aw_regs [3, 5, 6, 7, 8, 9, 10, 11, 12, 13, 14, 15] [9, 14]
  · simp (disch := omega) only [avR2, avA, datsOf, fillA, seval, ↓List.forall_mem_cons, Op.operands, hA, tiA]
    (repeat' refine And.intro ?_ ?_) <;> try first | omega | assumption | with_reducible rfl | exact rfl | (intro hside; (repeat' refine And.intro ?_ ?_) <;> first | exact hside | omega | (rw [hside]; rfl) | (simp_all; done))
    refine CallC.use (gvF hP hG (exP2)) rfl ?_
    try simp (maxSteps := 2000000) (disch := omega) only [avR2, avA, datsOf, fillA, seval, ↓List.forall_mem_cons, Op.operands, hA, tiA]
    (repeat' refine And.intro ?_ ?_) <;> try first | omega | assumption | with_reducible rfl | exact rfl | (intro hside; (repeat' refine And.intro ?_ ?_) <;> first | exact hside | omega | (rw [hside]; rfl) | (simp_all; done))
    refine CallC.use (gvF hP hG (exR2)) rfl ?_
    try simp (maxSteps := 2000000) (disch := omega) only [avR2, avA, datsOf, fillA, seval, ↓List.forall_mem_cons, Op.operands, hA, tiA]
    first | exact ⟨rfl, rfl⟩ | ((repeat' first | refine And.intro ?_ ?_ | intro _) <;> first | with_reducible rfl | assumption | omega | rfl | (rename_i hq; rw [hq]; rfl) | (simp_all; done))
  apply aw_regs [3, 5, 6, 7, 8, 9, 10, 11, 12, 13, 14, 15, 16, 17, 18] [9, 14]
  · simp (disch := omega) only [avR2, avA, datsOf, fillA, seval, ↓List.forall_mem_cons, Op.operands, hA, tiA]
    (repeat' refine And.intro ?_ ?_) <;> try first | omega | assumption | with_reducible rfl | exact rfl | (intro hside; (repeat' refine And.intro ?_ ?_) <;> first | exact hside | omega | (rw [hside]; rfl) | (simp_all; done))
    refine CallC.use (gvF hP hG (exP5)) rfl ?_
    try simp (maxSteps := 2000000) (disch := omega) only [avR2, avA, datsOf, fillA, seval, ↓List.forall_mem_cons, Op.operands, hA, tiA]
    (repeat' refine And.intro ?_ ?_) <;> try first | omega | assumption | with_reducible rfl | exact rfl | (intro hside; (repeat' refine And.intro ?_ ?_) <;> first | exact hside | omega | (rw [hside]; rfl) | (simp_all; done))
    refine CallC.use (gvF hP hG (exQ5)) rfl ?_
    try simp (maxSteps := 2000000) (disch := omega) only [avR2, avA, datsOf, fillA, seval, ↓List.forall_mem_cons, Op.operands, hA, tiA]
    first | exact ⟨rfl, rfl⟩ | ((repeat' first | refine And.intro ?_ ?_ | intro _) <;> first | with_reducible rfl | assumption | omega | rfl | (rename_i hq; rw [hq]; rfl) | (simp_all; done))
  apply aw_regs [3, 5, 6, 7, 8, 9, 10, 11, 12, 13, 14, 15, 16, 17, 18, 19, 20] [9, 14, 19]
  · simp (disch := omega) only [avR2, avA, datsOf, fillA, seval, ↓List.forall_mem_cons, Op.operands, hA, tiA]
    (repeat' refine And.intro ?_ ?_) <;> try first | omega | assumption | with_reducible rfl | exact rfl | (intro hside; (repeat' refine And.intro ?_ ?_) <;> first | exact hside | omega | (rw [hside]; rfl) | (simp_all; done))
    refine CallC.use (gvF hP hG (exP5)) rfl ?_
    try simp (maxSteps := 2000000) (disch := omega) only [avR2, avA, datsOf, fillA, seval, ↓List.forall_mem_cons, Op.operands, hA, tiA]
    (repeat' refine And.intro ?_ ?_) <;> try first | omega | assumption | with_reducible rfl | exact rfl | (intro hside; (repeat' refine And.intro ?_ ?_) <;> first | exact hside | omega | (rw [hside]; rfl) | (simp_all; done))
    refine CallC.use (gvF hP hG (exR5)) rfl ?_
    try simp (maxSteps := 2000000) (disch := omega) only [avR2, avA, datsOf, fillA, seval, ↓List.forall_mem_cons, Op.operands, hA, tiA]
    first | exact ⟨rfl, rfl⟩ | ((repeat' first | refine And.intro ?_ ?_ | intro _) <;> first | with_reducible rfl | assumption | omega | rfl | (rename_i hq; rw [hq]; rfl) | (simp_all; done))
  apply aw_rgds [3, 5, 6, 7, 8, 9, 10, 11, 12, 13, 14, 15, 16, 17, 18, 19, 20, 21, 22, 23] [9, 14, 19] [0, 1, 2, 3, 4, 5, 6, 7, 8, 9, 10] []
  · rw [hP]; kernel_rfl
  · exact hR
  · kernel_rfl
  · (repeat (apply PickL.cons; exact rfl)); exact PickL.nil _
  · simp (disch := omega) only [avR2, avA, datsOf, fillA, seval, ↓List.forall_mem_cons, Op.operands, hA, tiA]
    (repeat' refine And.intro ?_ ?_) <;> try first | omega | assumption | with_reducible rfl | exact rfl | (intro hside; (repeat' refine And.intro ?_ ?_) <;> first | exact hside | omega | (rw [hside]; rfl) | (simp_all; done))
    refine CallC.use (gvF hP hG (exP2)) rfl ?_
    try simp (maxSteps := 2000000) (disch := omega) only [avR2, avA, datsOf, fillA, seval, ↓List.forall_mem_cons, Op.operands, hA, tiA]
    (repeat' refine And.intro ?_ ?_) <;> try first | omega | assumption | with_reducible rfl | exact rfl | (intro hside; (repeat' refine And.intro ?_ ?_) <;> first | exact hside | omega | (rw [hside]; rfl) | (simp_all; done))
    refine CallC.use (gvF hP hG (exS)) rfl ?_
    try simp (maxSteps := 2000000) (disch := omega) only [avR2, avA, datsOf, fillA, seval, ↓List.forall_mem_cons, Op.operands, hA, tiA]
    first | exact ⟨rfl, rfl⟩ | ((repeat' first | refine And.intro ?_ ?_ | intro _) <;> first | with_reducible rfl | assumption | omega | rfl | (rename_i hq; rw [hq]; rfl) | (simp_all; done))
  apply aw_seq
  apply aw_regs [6, 7, 9, 11, 12, 14, 16, 17, 19, 21, 22, 110] [9, 14, 19]
  · simp (maxSteps := 2000000) (disch := omega) only [avR2, avA, datsOf, fillA, seval, ↓List.forall_mem_cons, Op.operands, hA, tiA]
    first | exact ⟨rfl, rfl⟩ | ((repeat' first | refine And.intro ?_ ?_ | intro _) <;> first | with_reducible rfl | assumption | omega | rfl | (rename_i hq; rw [hq]; rfl) | (simp_all; done))
  refine aw_iff rfl ?_
  apply aw_skip
  apply q_seq
  refine aw_lists ?_
  apply al_seg
  · (iterate 9 apply Seg.cons); exact Seg.nil _
  · simp (maxSteps := 2000000) (disch := omega) only [avR2, avA, datsOf, fillA, seval, ↓List.forall_mem_cons, Op.operands, hA, tiA, KeptS]
    (repeat' refine And.intro ?_ ?_) <;> try first | omega | assumption | with_reducible rfl | exact rfl | (intro hside; (repeat' refine And.intro ?_ ?_) <;> first | exact hside | omega | (rw [hside]; rfl) | (simp_all; done))
    refine CallC.use (gvF hP hG (same_ok gG [1, 0] [1, 0] (by decide))) rfl ?_
    try simp (maxSteps := 2000000) (disch := omega) only [avR2, avA, datsOf, fillA, seval, ↓List.forall_mem_cons, Op.operands, hA, tiA, KeptS]
    first | exact ⟨rfl, rfl⟩ | ((repeat' first | refine And.intro ?_ ?_ | intro _) <;> first | with_reducible rfl | assumption | omega | rfl | (rename_i hq; rw [hq]; rfl) | (simp_all; done))
  apply al_true
  · exact rfl
  · simp (maxSteps := 2000000) (disch := omega) only [avR2, avA, datsOf, fillA, seval, ↓List.forall_mem_cons, Op.operands, hA, tiA, KeptS]
    first | exact ⟨rfl, rfl⟩ | ((repeat' first | refine And.intro ?_ ?_ | intro _) <;> first | with_reducible rfl | assumption | omega | rfl | (rename_i hq; rw [hq]; rfl) | (simp_all; done))
  apply al_seg
  · (iterate 8 apply Seg.cons); exact Seg.nil _
  · simp (maxSteps := 2000000) (disch := omega) only [avR2, avA, datsOf, fillA, seval, ↓List.forall_mem_cons, Op.operands, hA, tiA, KeptS]
    (repeat' refine And.intro ?_ ?_) <;> try first | omega | assumption | with_reducible rfl | exact rfl | (intro hside; (repeat' refine And.intro ?_ ?_) <;> first | exact hside | omega | (rw [hside]; rfl) | (simp_all; done))
    refine CallGC.use rfl (fun hg => ⟨by simp_all [gdAll], gvF hP hG (same_ok gG [0, 0] [0, 0] (by decide))⟩) ?_
    try simp (maxSteps := 2000000) (disch := omega) only [avR2, avA, datsOf, fillA, seval, ↓List.forall_mem_cons, Op.operands, hA, tiA, KeptS]
    first | exact ⟨rfl, rfl⟩ | ((repeat' first | refine And.intro ?_ ?_ | intro _) <;> first | with_reducible rfl | assumption | omega | rfl | (rename_i hq; rw [hq]; rfl) | (simp_all; done))
  apply al_true
  · exact rfl
  · simp (maxSteps := 2000000) (disch := omega) only [avR2, avA, datsOf, fillA, seval, ↓List.forall_mem_cons, Op.operands, hA, tiA, KeptS]
    first | exact ⟨rfl, rfl⟩ | ((repeat' first | refine And.intro ?_ ?_ | intro _) <;> first | with_reducible rfl | assumption | omega | rfl | (rename_i hq; rw [hq]; rfl) | (simp_all; done))
  apply al_last [9, 14, 19, 21, 22, 24] [9, 14, 19]
  · simp (maxSteps := 2000000) (disch := omega) only [avR2, avA, datsOf, fillA, seval, ↓List.forall_mem_cons, Op.operands, hA, tiA]
    (repeat' refine And.intro ?_ ?_) <;> try first | omega | assumption | with_reducible rfl | exact rfl | (intro hside; (repeat' refine And.intro ?_ ?_) <;> first | exact hside | omega | (rw [hside]; rfl) | (simp_all; done))
    refine CallGC.use rfl (fun hg => ⟨by simp_all [gdAll], gvF hP hG (same_ok gG [1, 1] [1, 1] (by decide))⟩) ?_
    try simp (maxSteps := 2000000) (disch := omega) only [avR2, avA, datsOf, fillA, seval, ↓List.forall_mem_cons, Op.operands, hA, tiA]
    first | exact ⟨rfl, rfl⟩ | ((repeat' first | refine And.intro ?_ ?_ | intro _) <;> first | with_reducible rfl | assumption | omega | rfl | (rename_i hq; rw [hq]; rfl) | (simp_all; done))
  apply q_seq
  apply aw_regs [0] []
  · simp (maxSteps := 2000000) (disch := omega) only [avR2, avA, datsOf, fillA, seval, ↓List.forall_mem_cons, Op.operands, hA, tiA, eq50]
    first | exact ⟨rfl, rfl⟩ | ((repeat' first | refine And.intro ?_ ?_ | intro _) <;> first | with_reducible rfl | assumption | omega | rfl | (rename_i hq; rw [hq]; rfl) | (simp_all; done))
  apply aw_ret
  simp only [QRet, QRetM, QRetX, retsX_nil, retsX_cons, objsAre, Tryd.results20, resA, mapO_nil, mapO_cons, vD_dat, vD_nils, vD_rp, vD_osl, vD_ptr, vD_agg, vD_fn, vL_dat, vL_app, viewL, avA, datsOf, fillA, seval, ↓List.forall_mem_cons, Op.operands, hP, hG, tiA]
  simp
  

end Go.Proofs.YthcfjdkflmkhbaaDoor

namespace Go.Proofs.YthcfjdkflmkhbaaDoor
open Go.Av

def ofItem (r : Int × Int × Int × Int) : List (Int × Int) := [(r.1, r.2.1), (r.2.2.1, r.2.2.2)]
def ofItems (raw : List (Int × Int × Int × Int)) (i : Nat) : List (List (Int × Int)) := (preM raw i).map ofItem
theorem ofItems_zero (raw : List (Int × Int × Int × Int)) : ofItems raw 0 = [] := rfl
theorem ofItems_succ (raw : List (Int × Int × Int × Int)) (i : Nat) (h : i < raw.length) : ofItems raw (i + 1) = ofItems raw i ++ [ofItem (raw.getD i default)] := by
  unfold ofItems
  rw [preM_succ raw i h]
  simp
theorem ofItems_len (raw : List (Int × Int × Int × Int)) (i : Nat) (h : i ≤ raw.length) : (ofItems raw i).length = i := by
  unfold ofItems
  rw [List.length_map, preM_len raw i h]
def ofM (raw : List (Int × Int × Int × Int)) (weights : List Int) (room : Int) : CaseM := ⟨ofItems raw (min raw.length 6), takeM weights 6, room⟩
theorem takeM_mem {l : List Int} {n : Int} {x : Int} (h : x ∈ takeM l n) : x ∈ l := List.mem_of_mem_take h
theorem takeM_len (l : List Int) (n : Int) : ((takeM l n).length : Int) ≤ max n 0 := by
  unfold takeM
  rw [List.length_take]
  split <;> omega
theorem ofM_sz (raw : List (Int × Int × Int × Int)) (weights : List Int) (room : Int) (hr : ∀ r ∈ raw, I64 r.1 ∧ I64 r.2.1 ∧ I64 r.2.2.1 ∧ I64 r.2.2.2) (hw : ∀ x ∈ weights, I64 x) (hm : I64 room) : SzC (ofM raw weights room) := by
  have hlen : (ofM raw weights room).items.length = min raw.length 6 := ofItems_len _ _ (by omega)
  have hit : ∀ i < min raw.length 6, itemM (ofM raw weights room) i = ofItem (raw.getD i default) := fun i hi => by
    have hp := preM_len raw (min raw.length 6) (by omega)
    show ((preM raw (min raw.length 6)).map ofItem).getD i default = _
    simp only [List.getD_eq_getElem?_getD, List.getElem?_map, preM, List.getElem?_take, if_pos hi, List.getElem?_eq_getElem (show i < raw.length by omega), Option.map_some, Option.getD_some]
  have hwl := takeM_len weights 6
  refine ⟨by omega, fun i hi => ?_, ?_, fun i hi => ?_, hm, fun i hi k hk => ?_⟩
  · rw [hit i (by omega)]; simp [ofItem]
  · show (takeM weights 6).length ≤ 100
    omega
  · exact hw _ (takeM_mem (getD_all (p := fun x => x ∈ takeM weights 6) (fun x h => h) hi))
  · rw [hit i (by omega)] at hk ⊢
    have h := getD_all hr (show i < raw.length by omega)
    simp only [ofItem, List.length_cons, List.length_nil] at hk
    match k, hk with
    | 0, _ => exact ⟨h.1, h.2.1⟩
    | 1, _ => exact ⟨h.2.2.1, h.2.2.2⟩


theorem of_ok (G) (raw : List (Int × Int × Int × Int)) (weights : List Int) (room : Int) : Gives Tryd.prog G 12 [.sl (raw.map rD), isD weights, iD room] [caseD (ofM raw weights room)] := by
  refine gives_intro [] [] [] Tryd.func12 rfl (by rfl) (by simp [Tryd.ntmps12]) fun F hP hG hN hR => ?_
  rw [Tryd.ntmps12] at hN
  have hA := And.intro hN (And.intro hP (And.intro hG (And.intro hR.1 (And.intro hR.2.1 hR.2.2.1))))
  apply aw_regs [0, 1, 2, 6] [6, 47, 48, 49]
  · simp (disch := omega) only [avR2, avA, datsOf, fillA, seval, ↓List.forall_mem_cons, Op.operands, hA, tiA]
    first | exact ⟨rfl, rfl⟩ | ((repeat' first | refine And.intro ?_ ?_ | intro _) <;> first | with_reducible rfl | assumption | omega | rfl | (rename_i hq; rw [hq]; rfl) | (simp_all; done))
  apply aw_regs [0, 6, 7] [6, 7, 47, 48, 49]
  · simp (disch := omega) only [avR2, avA, datsOf, fillA, seval, ↓List.forall_mem_cons, Op.operands, hA, tiA]
    (repeat' refine And.intro ?_ ?_) <;> try first | omega | assumption | with_reducible rfl | exact rfl | (intro hside; (repeat' refine And.intro ?_ ?_) <;> first | exact hside | omega | (rw [hside]; rfl) | (simp_all; done))
    refine CallC.use (gvF hP hG (take_ok G weights 6 (by omega) (by omega))) rfl ?_
    try simp (maxSteps := 2000000) (disch := omega) only [avR2, avA, datsOf, fillA, seval, ↓List.forall_mem_cons, Op.operands, hA, tiA]
    first | exact ⟨rfl, rfl⟩ | ((repeat' first | refine And.intro ?_ ?_ | intro _) <;> first | with_reducible rfl | assumption | omega | rfl | (rename_i hq; rw [hq]; rfl) | (simp_all; done))
  apply aw_seq
  apply aw_regs [0, 6, 7, 8] [6, 7, 47, 48, 49]
  · simp (disch := omega) only [avR2, avA, datsOf, fillA, seval, ↓List.forall_mem_cons, Op.operands, hA, tiA]
    first | exact ⟨rfl, rfl⟩ | ((repeat' first | refine And.intro ?_ ?_ | intro _) <;> first | with_reducible rfl | assumption | omega | rfl | (rename_i hq; rw [hq]; rfl) | (simp_all; done))
  apply aw_block
  refine aw_new0 49 1 (by omega) ?_
  refine aw_nilO 7 49 1 0 rfl rfl rfl rfl ?_
  refine aw_loop (ι := {i : Nat // i ≤ raw.length ∧ i ≤ 6}) (fun ⟨i, hii⟩ => .of [(0, .dat (.sl (raw.map rD))), (6, .ptr 6 3 0 0), (7, .ptr 7 3 0 0), (8, .dat (iD i))] [(6, ⟨3, [.agg [.nils, .nils, .dat (iD 0)]]⟩), (7, ⟨3, [.agg [.osl 49 1 0 i, .dat (isD (takeM weights 6)), .dat (iD room)]]⟩), (49, ⟨1, ((ofItems raw i).map osD).map .dat⟩)]) (fun ⟨i, hii⟩ => 6 - i) (⟨0, by omega⟩) (Le.of ?_ ?_) fun ix => ?_
  · try simp (disch := omega) only [LeE, LeO, avA, datsOf, fillA, seval, ↓List.forall_mem_cons, Op.operands, ofItems_zero, ofItems_succ, ofItem, ofItems_len]
    all_goals first | done | (repeat' apply And.intro) <;> first | rfl | omega | assumption | (simp only [AV.dat.injEq, Dat.int.injEq, true_and]; omega) | (congr <;> omega)
  · try simp (disch := omega) only [LeE, LeO, avA, datsOf, fillA, seval, ↓List.forall_mem_cons, Op.operands, ofItems_zero, ofItems_succ, ofItem, ofItems_len]
    all_goals first | done | (repeat' apply And.intro) <;> first | rfl | omega | assumption | (simp only [AV.dat.injEq, Dat.int.injEq, true_and]; omega) | (congr <;> omega)
  obtain ⟨i, hii⟩ := ix
  dsimp only
  obtain ⟨hi, hi6⟩ := hii
  apply aw_seq
  apply aw_regs [0, 6, 7, 8, 20] [6, 7, 47, 48, 49]
  · simp (disch := omega) only [avR2, avA, datsOf, fillA, seval, ↓List.forall_mem_cons, Op.operands, hA, tiA]
    first | exact ⟨rfl, rfl⟩ | ((repeat' first | refine And.intro ?_ ?_ | intro _) <;> first | with_reducible rfl | assumption | omega | rfl | (rename_i hq; rw [hq]; rfl) | (simp_all; done))
  refine aw_if _ rfl (fun hb => ?_) (fun hb => ?_) <;> (try simp only [pickB_true, pickB_false, Bool.false_or, Bool.false_and, Bool.true_and, decide_eq_true_eq, decide_eq_false_iff_not, Bool.or_eq_true, Bool.and_eq_true, Bool.or_eq_false_iff, Bool.and_eq_false_imp, Bool.not_eq_true, Bool.not_eq_false, Bool.not_eq_eq_eq_not, Bool.not_true, Bool.not_false, Int.not_lt, Int.not_le, beq_iff_eq, beq_eq_false_iff_ne, bne_iff_ne, bne_eq_false_iff_eq, ne_eq, Bool.true_eq_false, Bool.false_eq_true, if_false_left, if_true_left, Bool.not_eq_eq_eq_not, Bool.decide_eq_true, Classical.not_not] at hb)
  · skip
    have hol := ofItems_len raw i hi
    apply aw_skip
    apply q_seq
    apply aw_seq
    apply aw_block
    apply aw_rgd [0, 6, 7, 8] [6, 7, 47, 48, 49] [0, 1, 2, 3, 4, 5, 6, 7, 8, 9, 10, 11, 12, 13, 14, 15, 16, 17, 18, 19, 20, 21, 22, 23, 24, 25, 26, 27, 28] []
    · rw [hP]; kernel_rfl
    · exact hR
    · kernel_rfl
    · (repeat (apply PickL.cons; exact rfl)); exact PickL.nil _
    · simp (maxSteps := 2000000) (disch := omega) only [avR2, avA, datsOf, fillA, seval, ↓List.forall_mem_cons, Op.operands, hA, tiA, ofItems_len]
      first | exact ⟨rfl, rfl⟩ | ((repeat' first | refine And.intro ?_ ?_ | intro _) <;> first | with_reducible rfl | assumption | omega | rfl | (rename_i hq; rw [hq]; rfl) | (simp_all; done))
    apply q_block
    apply q_seq
    apply aw_reg [0, 6, 7, 8] [6, 7, 47, 48, 49]
    · simp (disch := omega) only [avR2, avA, datsOf, fillA, seval, ↓List.forall_mem_cons, Op.operands, hA, tiA]
      first | exact ⟨rfl, rfl⟩ | ((repeat' first | refine And.intro ?_ ?_ | intro _) <;> first | with_reducible rfl | assumption | omega | rfl | (rename_i hq; rw [hq]; rfl) | (simp_all; done))
    refine q_loop (⟨i + 1, by omega⟩) (Le.of ?_ ?_) (by dsimp only; omega)
    · try simp (disch := omega) only [LeE, LeO, avA, datsOf, fillA, seval, ↓List.forall_mem_cons, Op.operands, ofItems_zero, ofItems_succ, ofItem, ofItems_len]
      all_goals first | done | (repeat' apply And.intro) <;> first | rfl | omega | assumption | (simp only [AV.dat.injEq, Dat.int.injEq, true_and]; omega) | (congr <;> omega)
    · try simp (disch := omega) only [LeE, LeO, avA, datsOf, fillA, seval, ↓List.forall_mem_cons, Op.operands, ofItems_zero, ofItems_succ, ofItem, ofItems_len]
      all_goals first | done | (repeat' apply And.intro) <;> first | rfl | omega | assumption | (simp only [AV.dat.injEq, Dat.int.injEq, true_and]; omega) | (congr <;> omega)
  · skip
    have him : i = min raw.length 6 := by omega
    subst him
    apply aw_exit
    apply q_exit_seq
    apply q_exit_loop
    apply q_exit
    apply q_seq
    apply aw_regs [6] [6, 47, 48, 49]
    · simp (disch := omega) only [avR2, avA, datsOf, fillA, seval, ↓List.forall_mem_cons, Op.operands, hA, tiA]
      first | exact ⟨rfl, rfl⟩ | ((repeat' first | refine And.intro ?_ ?_ | intro _) <;> first | with_reducible rfl | assumption | omega | rfl | (rename_i hq; rw [hq]; rfl) | (simp_all; done))
    apply aw_ret
    simp only [QRet, QRetM, QRetX, retsX_nil, retsX_cons, objsAre, Tryd.results12, resA, mapO_nil, mapO_cons, vD_dat, vD_nils, vD_rp, vD_osl, vD_ptr, vD_agg, vD_fn, vL_dat, vL_app, viewL, avA, datsOf, fillA, seval, ↓List.forall_mem_cons, Op.operands, hP, hG, tiA]
    simp [ofItems_len, ofM, List.take_of_length_le, Nat.min_le_left]
    

end Go.Proofs.YthcfjdkflmkhbaaDoor

