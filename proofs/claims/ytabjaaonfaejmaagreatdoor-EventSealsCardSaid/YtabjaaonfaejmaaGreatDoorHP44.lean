/- The contract of Valid of events. -/
import Derived.Test.YtabjaaonfaejmaaGreatDoorHP43
import Derived.Test.YtabjaaonfaejmaaGreatDoorHP42
import Derived.Test.YtabjaaonfaejmaaGreatDoorHAv48
import Derived.Test.YtabjaaonfaejmaaGreatDoorHAv46
import Derived.Test.YtabjaaonfaejmaaGreatDoorHAv49
import Derived.Test.YtabjaaonfaejmaaGreatDoorHAv50
set_option linter.all false
namespace Go.Proofs.YtabjaaonfaejmaaGreatDoor
open Go.Av


set_option maxRecDepth 100000 in
set_option maxHeartbeats 2000000 in
theorem valid_ok (G) (e : EventM) (h : OkEv e) : Gives Tryz.prog G 30 [eventD e] [iD (validM e)] := by
  have hnr := h.nrefs
  have hnp := h.nposts
  have hnb := h.nbroader
  have hoz := szOp_of h.op
  have hol := h.op.all
  skip
  refine gives_intro [] [] [] Tryz.func30 rfl (by rfl) (by simp [Tryz.ntmps30]) fun F hP hG hN hR => ?_
  rw [Tryz.ntmps30] at hN
  have hA := And.intro hN (And.intro hP (And.intro hG (And.intro hR.1 (And.intro hR.2.1 hR.2.2.1))))
  have hE := And.intro @Tryz.results30 (And.intro @eqName (And.intro @eqId (@str_beq)))
  refine WS [1] [1] ?_
  have hc := gvF hP hG (of_ok G e.Kind)
  refine WSc [1, 3] [1, 3] ?_
  apply aw_seq
  apply aw_regs [1, 3, 39] [1, 3]
  · simp (maxSteps := 2000000) (disch := omega) only [avR2, avA, datsOf, fillA, seval, ↓List.forall_mem_cons, Op.operands, hA, tiA, hE]
    (repeat' refine And.intro ?_ ?_) <;> try exact SD
    refine CallGC.use rfl (fun hg => ⟨by first | trivial | (simp only [gdAll, AV.gd, avA, seval]; (repeat' apply And.intro) <;> first | trivial | rfl | exact hg) | simp_all [gdAll], gvF hP hG (wop_ok G e.Op h.op)⟩) ?_
    try simp (maxSteps := 2000000) (disch := omega) only [avR2, avA, datsOf, fillA, seval, ↓List.forall_mem_cons, Op.operands, hA, tiA, hE]
    exact SC
  refine WI (fun hb => ?_) (fun hb => ?_)
  · skip
    have hv := valid_lim (e := e) (by unfold limM; grind)
    have hE := And.intro hE hv
    refine WS [2] [] ?_
    apply aw_ret
    apply q_ret_seq
    simp only [QRet, QRetM, QRetX, retsX_nil, retsX_cons, objsAre, resA, mapO_nil, mapO_cons, vD_dat, vD_nils, vD_rp, vD_osl, vD_ptr, vD_agg, vD_fn, vD_isl, vL_dat, vL_app, viewL, avA, datsOf, fillA, seval, ↓List.forall_mem_cons, Op.operands, hP, hG, tiA, hE]
    all_goals try (first | done | rfl | trivial)
  · skip
    have h0 : limM e = false := by unfold limM; grind
    apply aw_skip
    apply q_seq
    apply aw_seq
    apply aw_block
    apply aw_regs [1, 3, 40] [1, 3]
    · simp (maxSteps := 2000000) (disch := omega) only [avR2, avA, datsOf, fillA, seval, ↓List.forall_mem_cons, Op.operands, hA, tiA, hE]
      (repeat' refine And.intro ?_ ?_) <;> try exact SD
      refine CallC.use (gvF hP hG (name_ok G e)) rfl ?_
      try simp (maxSteps := 2000000) (disch := omega) only [avR2, avA, datsOf, fillA, seval, ↓List.forall_mem_cons, Op.operands, hA, tiA, hE]
      (repeat' refine And.intro ?_ ?_) <;> try exact SD
      refine CallC.use (gvF hP hG (possible_ok G (evName e))) rfl ?_
      try simp (maxSteps := 2000000) (disch := omega) only [avR2, avA, datsOf, fillA, seval, ↓List.forall_mem_cons, Op.operands, hA, tiA, hE]
      (repeat' refine And.intro ?_ ?_) <;> try exact SD
      refine CallGC.use rfl (fun hg => ⟨by first | trivial | (simp only [gdAll, AV.gd, avA, seval]; (repeat' apply And.intro) <;> first | trivial | rfl | exact hg) | simp_all [gdAll], gvF hP hG (within_ok G e.Tick 1048576)⟩) ?_
      try simp (maxSteps := 2000000) (disch := omega) only [avR2, avA, datsOf, fillA, seval, ↓List.forall_mem_cons, Op.operands, hA, tiA, hE]
      (repeat' refine And.intro ?_ ?_) <;> try exact SD
      refine CallGC.use rfl (fun hg => ⟨by first | trivial | (simp only [gdAll, AV.gd, avA, seval]; (repeat' apply And.intro) <;> first | trivial | rfl | exact hg) | simp_all [gdAll], gvF hP hG (within_ok G e.Kind 6)⟩) ?_
      try simp (maxSteps := 2000000) (disch := omega) only [avR2, avA, datsOf, fillA, seval, ↓List.forall_mem_cons, Op.operands, hA, tiA, hE]
      exact SC
    refine WI (fun hb => ?_) (fun hb => ?_)
    · skip
      have hv := valid_123 h0 (.inl (by unfold bad1; grind))
      have hE := And.intro hE hv
      refine WS [2] [] ?_
      apply aw_ret
      apply q_ret_block
      apply q_ret_seq
      simp only [QRet, QRetM, QRetX, retsX_nil, retsX_cons, objsAre, resA, mapO_nil, mapO_cons, vD_dat, vD_nils, vD_rp, vD_osl, vD_ptr, vD_agg, vD_fn, vD_isl, vL_dat, vL_app, viewL, avA, datsOf, fillA, seval, ↓List.forall_mem_cons, Op.operands, hP, hG, tiA, hE]
      all_goals try (first | done | rfl | trivial)
    · skip
      have h1 : bad1 e = false := by unfold bad1; grind
      apply aw_regs [1, 3, 57] [1, 3]
      · simp (maxSteps := 2000000) (disch := omega) only [avR2, avA, datsOf, fillA, seval, ↓List.forall_mem_cons, Op.operands, hA, tiA, hE]
        (repeat' refine And.intro ?_ ?_) <;> try exact SD
        refine CallGC.use rfl (fun hg => ⟨by first | trivial | (simp only [gdAll, AV.gd, avA, seval]; (repeat' apply And.intro) <;> first | trivial | rfl | exact hg) | simp_all [gdAll], gvF hP hG (sop_ok G e.Op zOp hoz)⟩) ?_
        try simp (maxSteps := 2000000) (disch := omega) only [avR2, avA, datsOf, fillA, seval, ↓List.forall_mem_cons, Op.operands, hA, tiA, hE]
        (repeat' refine And.intro ?_ ?_) <;> try exact SD
        refine CallGC.use rfl (fun hg => ⟨by first | trivial | (simp only [gdAll, AV.gd, avA, seval]; (repeat' apply And.intro) <;> first | trivial | rfl | exact hg) | simp_all [gdAll], gvF hP hG (sterm_ok G e.Term zTerm (by omega))⟩) ?_
        try simp (maxSteps := 2000000) (disch := omega) only [avR2, avA, datsOf, fillA, seval, ↓List.forall_mem_cons, Op.operands, hA, tiA, hE]
        exact SC
      refine WI (fun hb => ?_) (fun hb => ?_)
      · skip
        have hv := valid_123 h0 (.inr (.inl (by unfold bad2; grind)))
        have hE := And.intro hE hv
        refine WS [2] [] ?_
        apply aw_ret
        apply q_ret_block
        apply q_ret_seq
        simp only [QRet, QRetM, QRetX, retsX_nil, retsX_cons, objsAre, resA, mapO_nil, mapO_cons, vD_dat, vD_nils, vD_rp, vD_osl, vD_ptr, vD_agg, vD_fn, vD_isl, vL_dat, vL_app, viewL, avA, datsOf, fillA, seval, ↓List.forall_mem_cons, Op.operands, hP, hG, tiA, hE]
        all_goals try (first | done | rfl | trivial)
      · skip
        have h2 : bad2 e = false := by unfold bad2; grind
        apply aw_regs [1, 3, 80] [1, 3]
        · simp (maxSteps := 2000000) (disch := omega) only [avR2, avA, datsOf, fillA, seval, ↓List.forall_mem_cons, Op.operands, hA, tiA, hE]
          (repeat' refine And.intro ?_ ?_) <;> try exact SD
          refine CallGC.use rfl (fun hg => ⟨by first | trivial | (simp only [gdAll, AV.gd, avA, seval]; (repeat' apply And.intro) <;> first | trivial | rfl | exact hg) | simp_all [gdAll], gvF hP hG (within_ok G e.N 1048576)⟩) ?_
          try simp (maxSteps := 2000000) (disch := omega) only [avR2, avA, datsOf, fillA, seval, ↓List.forall_mem_cons, Op.operands, hA, tiA, hE]
          exact SC
        refine WI (fun hb => ?_) (fun hb => ?_)
        · skip
          have hv := valid_123 h0 (.inr (.inr (by unfold bad3 sameID; grind)))
          have hE := And.intro hE hv
          refine WS [2] [] ?_
          apply aw_ret
          apply q_ret_block
          apply q_ret_seq
          simp only [QRet, QRetM, QRetX, retsX_nil, retsX_cons, objsAre, resA, mapO_nil, mapO_cons, vD_dat, vD_nils, vD_rp, vD_osl, vD_ptr, vD_agg, vD_fn, vD_isl, vL_dat, vL_app, viewL, avA, datsOf, fillA, seval, ↓List.forall_mem_cons, Op.operands, hP, hG, tiA, hE]
          all_goals try (first | done | rfl | trivial)
        · skip
          have h3 : bad3 e = false ∧ withinM e.N 1048576 = true := by unfold bad3 sameID; grind
          have h123 := And.intro h1 (And.intro h2 h3)
          apply aw_skip
          apply q_block
          apply q_seq
          apply aw_seq
          refine WS [1, 3, 118, 119, 120] [1, 3] ?_
          apply aw_block
          refine WL (ι := {i : Nat // i ≤ e.Refs.length ∧ ∀ j, j < i → badRef e j = false}) [1, 3, 118, 119] [1, 3] (fun ⟨i, hic⟩ => [(120, .dat (iD i))]) (fun ⟨i, hic⟩ => []) (fun ⟨i, hic⟩ => e.Refs.length - i) (⟨0, by omega, none0⟩) ?_
          rintro ⟨i, hic⟩
          dsimp only [List.cons_append, List.nil_append]
          obtain ⟨hi, hall⟩ := id hic
          have hi1 : ((i : Int) - 1).toNat = i - 1 := by omega
          have hE := And.intro hE hi1
          refine WS [1, 3, 118, 119, 120, 121] [1, 3] ?_
          apply aw_seq
          refine WI (fun hb => ?_) (fun hb => ?_)
          · skip
            apply aw_skip
            apply q_seq
            apply aw_seq
            apply aw_block
            refine WS [1, 3, 4, 5, 118, 119, 120] [1, 3, 5] ?_
            apply aw_rgds [1, 3, 118, 119, 120, 148] [1, 3] [0, 1, 2, 3, 4, 5, 6, 7, 8, 9, 10, 11, 12, 13, 14, 15, 16, 17, 18, 19, 20, 21, 22, 23] []
            · rw [hP]; kernel_rfl
            · exact hR
            · kernel_rfl
            · (repeat (apply PickL.cons; exact rfl)); exact PickL.nil _
            · simp (maxSteps := 2000000) (disch := omega) only [avR2, avA, datsOf, fillA, seval, ↓List.forall_mem_cons, Op.operands, hA, tiA, hE]
              (repeat' refine And.intro ?_ ?_) <;> try exact SD
              refine CallC.use (gvF hP hG (possible_ok G (e.Refs.getD i default))) rfl ?_
              try simp (maxSteps := 2000000) (disch := omega) only [avR2, avA, datsOf, fillA, seval, ↓List.forall_mem_cons, Op.operands, hA, tiA, hE]
              (repeat' refine And.intro ?_ ?_) <;> try exact SD
              refine CallGC.use rfl (fun hg => ⟨by first | trivial | (simp only [gdAll, AV.gd, avA, seval]; (repeat' apply And.intro) <;> first | trivial | rfl | exact hg) | simp_all [gdAll], gvF hP hG (name_ok G e)⟩) ?_
              try simp (maxSteps := 2000000) (disch := omega) only [avR2, avA, datsOf, fillA, seval, ↓List.forall_mem_cons, Op.operands, hA, tiA, hE]
              (repeat' refine And.intro ?_ ?_) <;> try exact SD
              refine CallGC.use rfl (fun hg => ⟨by first | trivial | (simp only [gdAll, AV.gd, avA, seval]; (repeat' apply And.intro) <;> first | trivial | rfl | exact hg) | simp_all [gdAll], gvF hP hG (less_ok G (e.Refs.getD (i - 1) default) (e.Refs.getD i default))⟩) ?_
              try simp (maxSteps := 2000000) (disch := omega) only [avR2, avA, datsOf, fillA, seval, ↓List.forall_mem_cons, Op.operands, hA, tiA, hE]
              exact SC
            refine WI (fun hb => ?_) (fun hb => ?_)
            · skip
              have hv := valid_ref h0 h123 (i := i) (by omega) (by unfold badRef sameName; grind)
              have hE := And.intro hE hv
              refine WS [2] [] ?_
              apply aw_ret
              apply q_ret_block
              apply q_ret_seq
              apply q_ret_loop
              apply q_ret_block
              apply q_ret_seq
              simp only [QRet, QRetM, QRetX, retsX_nil, retsX_cons, objsAre, resA, mapO_nil, mapO_cons, vD_dat, vD_nils, vD_rp, vD_osl, vD_ptr, vD_agg, vD_fn, vD_isl, vL_dat, vL_app, viewL, avA, datsOf, fillA, seval, ↓List.forall_mem_cons, Op.operands, hP, hG, tiA, hE]
              all_goals try (first | done | rfl | trivial)
            · skip
              have hnb1 : badRef e i = false := by unfold badRef sameName; grind
              apply aw_skip
              apply q_block
              apply q_seq
              refine WQ [1, 3, 118, 119, 120] [1, 3] ?_
              refine WN (⟨i + 1, by omega, allstep hic.2 hnb1⟩)
          · skip
            apply aw_exit
            apply q_exit_seq
            obtain rfl : i = e.Refs.length := by omega
            apply q_exit_loop
            apply q_exit
            apply q_seq
            apply aw_seq
            refine WS [1, 3, 6] [1, 3, 6] ?_
            apply aw_regs [1, 188] [1]
            · simp (maxSteps := 2000000) (disch := omega) only [avR2, avA, datsOf, fillA, seval, ↓List.forall_mem_cons, Op.operands, hA, tiA, hE]
              (repeat' refine And.intro ?_ ?_) <;> try exact SD
              refine CallGC.use rfl (fun hg => ⟨by first | trivial | (simp only [gdAll, AV.gd, avA, seval]; (repeat' apply And.intro) <;> first | trivial | rfl | exact hg) | simp_all [gdAll], gvF hP hG (word_ok' G e.Term.Name (by have := h.name; omega))⟩) ?_
              try simp (maxSteps := 2000000) (disch := omega) only [avR2, avA, datsOf, fillA, seval, ↓List.forall_mem_cons, Op.operands, hA, tiA, hE]
              (repeat' refine And.intro ?_ ?_) <;> try exact SD
              refine CallGC.use rfl (fun hg => ⟨by first | trivial | (simp only [gdAll, AV.gd, avA, seval]; (repeat' apply And.intro) <;> first | trivial | rfl | exact hg) | simp_all [gdAll], gvF hP hG (word_ok' G e.Term.See (by have := h.see; omega))⟩) ?_
              try simp (maxSteps := 2000000) (disch := omega) only [avR2, avA, datsOf, fillA, seval, ↓List.forall_mem_cons, Op.operands, hA, tiA, hE]
              (repeat' refine And.intro ?_ ?_) <;> try exact SD
              refine CallGC.use rfl (fun hg => ⟨by first | trivial | (simp only [gdAll, AV.gd, avA, seval]; (repeat' apply And.intro) <;> first | trivial | rfl | exact hg) | simp_all [gdAll], gvF hP hG (within_ok G e.Term.Kind 2)⟩) ?_
              try simp (maxSteps := 2000000) (disch := omega) only [avR2, avA, datsOf, fillA, seval, ↓List.forall_mem_cons, Op.operands, hA, tiA, hE]
              (repeat' refine And.intro ?_ ?_) <;> try exact SD
              refine CallGC.use rfl (fun hg => ⟨by first | trivial | (simp only [gdAll, AV.gd, avA, seval]; (repeat' apply And.intro) <;> first | trivial | rfl | exact hg) | simp_all [gdAll], gvF hP hG (within_ok G e.Term.Lang 3)⟩) ?_
              try simp (maxSteps := 2000000) (disch := omega) only [avR2, avA, datsOf, fillA, seval, ↓List.forall_mem_cons, Op.operands, hA, tiA, hE]
              (repeat' refine And.intro ?_ ?_) <;> try exact SD
              refine CallGC.use rfl (fun hg => ⟨by first | trivial | (simp only [gdAll, AV.gd, avA, seval]; (repeat' apply And.intro) <;> first | trivial | rfl | exact hg) | simp_all [gdAll], gvF hP hG (words_ok G e.Term.Broader (by omega) (fun s hs => by have := h.broader s hs; omega))⟩) ?_
              try simp (maxSteps := 2000000) (disch := omega) only [avR2, avA, datsOf, fillA, seval, ↓List.forall_mem_cons, Op.operands, hA, tiA, hE]
              exact SC
            refine WI (fun hb => ?_) (fun hb => ?_)
            · skip
              have hv := valid_5 h0 h123 hall (by unfold bad5; grind)
              have hE := And.intro hE hv
              refine WS [2] [] ?_
              apply aw_ret
              apply q_ret_seq
              simp only [QRet, QRetM, QRetX, retsX_nil, retsX_cons, objsAre, resA, mapO_nil, mapO_cons, vD_dat, vD_nils, vD_rp, vD_osl, vD_ptr, vD_agg, vD_fn, vD_isl, vL_dat, vL_app, viewL, avA, datsOf, fillA, seval, ↓List.forall_mem_cons, Op.operands, hP, hG, tiA, hE]
              all_goals try (first | done | rfl | trivial)
            · skip
              have h5 : bad5 e = false := by unfold bad5; grind
              apply aw_skip
              apply q_seq
              apply aw_seq
              refine WS [1, 190, 191, 192] [1] ?_
              apply aw_block
              refine WL (ι := {i : Nat // i ≤ e.Posts.length ∧ ∀ j, j < i → badPost e j = false}) [1, 190, 191] [1] (fun ⟨i, hic⟩ => [(192, .dat (iD i))]) (fun ⟨i, hic⟩ => []) (fun ⟨i, hic⟩ => e.Posts.length - i) (⟨0, by omega, none0⟩) ?_
              rintro ⟨i, hic⟩
              dsimp only [List.cons_append, List.nil_append]
              obtain ⟨hi, hallp⟩ := id hic
              refine WS [1, 190, 191, 192, 193] [1] ?_
              apply aw_seq
              refine WI (fun hb => ?_) (fun hb => ?_)
              · skip
                have hp := getD_all h.posts (i := i) (by omega)
                apply aw_skip
                apply q_seq
                apply aw_seq
                apply aw_block
                refine WS [1, 8, 190, 191, 192] [1, 8] ?_
                apply aw_regs [1, 190, 191, 192, 218] [1]
                · simp (maxSteps := 2000000) (disch := omega) only [avR2, avA, datsOf, fillA, seval, ↓List.forall_mem_cons, Op.operands, hA, tiA, hE]
                  (repeat' refine And.intro ?_ ?_) <;> try exact SD
                  refine CallGC.use rfl (fun hg => ⟨by first | trivial | (simp only [gdAll, AV.gd, avA, seval]; (repeat' apply And.intro) <;> first | trivial | rfl | exact hg) | simp_all [gdAll], gvF hP hG (words_ok G (e.Posts.getD i default).Path (by omega) (fun s hs => by have := hp.2.2 s hs; omega))⟩) ?_
                  try simp (maxSteps := 2000000) (disch := omega) only [avR2, avA, datsOf, fillA, seval, ↓List.forall_mem_cons, Op.operands, hA, tiA, hE]
                  exact SC
                refine WI (fun hb => ?_) (fun hb => ?_)
                · skip
                  have hv := valid_post h0 h123 hall h5 (i := i) (by omega) (by unfold badPost sameID; grind)
                  have hE := And.intro hE hv
                  refine WS [2] [] ?_
                  apply aw_ret
                  apply q_ret_block
                  apply q_ret_seq
                  apply q_ret_loop
                  apply q_ret_block
                  apply q_ret_seq
                  simp only [QRet, QRetM, QRetX, retsX_nil, retsX_cons, objsAre, resA, mapO_nil, mapO_cons, vD_dat, vD_nils, vD_rp, vD_osl, vD_ptr, vD_agg, vD_fn, vD_isl, vL_dat, vL_app, viewL, avA, datsOf, fillA, seval, ↓List.forall_mem_cons, Op.operands, hP, hG, tiA, hE]
                  all_goals try (first | done | rfl | trivial)
                · skip
                  have hnb1 : badPost e i = false := by unfold badPost sameID; grind
                  apply aw_skip
                  apply q_block
                  apply q_seq
                  refine WQ [1, 190, 191, 192] [1] ?_
                  refine WN (⟨i + 1, by omega, allstep hic.2 hnb1⟩)
              · skip
                apply aw_exit
                apply q_exit_seq
                obtain rfl : i = e.Posts.length := by omega
                have hv := valid_all h0 h123 hall h5 hallp
                have hE := And.intro hE hv
                apply q_exit_loop
                apply q_exit
                apply q_seq
                refine WS [2] [] ?_
                apply aw_ret
                simp only [QRet, QRetM, QRetX, retsX_nil, retsX_cons, objsAre, resA, mapO_nil, mapO_cons, vD_dat, vD_nils, vD_rp, vD_osl, vD_ptr, vD_agg, vD_fn, vD_isl, vL_dat, vL_app, viewL, avA, datsOf, fillA, seval, ↓List.forall_mem_cons, Op.operands, hP, hG, tiA, hE]
                all_goals try (first | done | rfl | trivial)

end Go.Proofs.YtabjaaonfaejmaaGreatDoor

namespace Go.Proofs.YtabjaaonfaejmaaGreatDoor
open Go.Av

def opN (l : List Int) (a : Int) : Int := atM l a 65536
def opT (l : List Int) (a : Int) : List ByteArray := if (opN l a).tmod 3 = 0 then listM l (a + 1) (((opN l a).tdiv 3).tmod 3).toNat else []
def opP (l : List Int) (a : Int) : List (Int × Int) := if (opN l a).tmod 3 = 0 then [((opN l a).tmod 2, ((opN l a).tdiv 2).tmod 3)] else []
def opS (l : List Int) (a : Int) : SpotM := if (opN l a).tmod 4 = 0 then ⟨((opN l a).tdiv 4).tmod 2, ((opN l a).tdiv 8).tmod 3, ((opN l a).tdiv 16).tmod 4⟩ else ⟨0, 0, 0⟩
def opR (l : List Int) (a : Int) : List IdM := if (opN l a).tmod 4 = 0 then [idM ((opN l a).tdiv 5)] else []
def opM (l : List Int) (a : Int) : OpM := { Kind := (opN l a).tmod 10, At := idM ((opN l a).tdiv 10), To := ⟨0, 0, 0⟩, Spot := opS l a, N := ((opN l a).tdiv 100).tmod 5, Form := 0, Lang := 0, Text := wordM ((opN l a).tdiv 7), Texts := opT l a, Pairs := opP l a, Refs := opR l a }

def idZ : IdM := ⟨0, 0, 0⟩
def kindG (l : List Int) : Int := atM l 3 7
/-- A bit, as the machine computes it. -/
def shrG (n : Int) (i : Nat) : Int := IntKind.i64.wrap ↑(BitVec.ofInt IntKind.i64.bits (n.fdiv (2 ^ min i IntKind.i64.bits)) &&& BitVec.ofInt IntKind.i64.bits 1).toNat
def nmG (l : List Int) (i : Nat) : NameM := ⟨i, atM l (5 + (i : Int)) 64⟩
def refsG (l : List Int) : Nat → List NameM
  | 0 => []
  | i + 1 => refsG l i ++ if shrG (atM l 4 64) i = 1 ∧ ((i : Int) = atM l 0 6 → ¬ atM l (5 + (i : Int)) 64 = atM l 1 64) then [nmG l i] else []
def numG (l : List Int) : Int := atM l 11 4096
def zOpG : OpM := { Kind := 0, At := idZ, To := idZ, Spot := ⟨0, 0, 0⟩, N := 0, Form := 0, Lang := 0, Text := ⟨#[]⟩, Texts := [], Pairs := [], Refs := [] }
def zTermG : TermM := { Name := ⟨#[]⟩, Kind := 0, Lang := 0, See := ⟨#[]⟩, Broader := [] }
def termG (l : List Int) : TermM := { Name := wordM (numG l), Kind := (numG l).tmod 3, Lang := ((numG l).tdiv 3).tmod 4, See := if (numG l).tmod 5 = 0 then wordM ((numG l).tdiv 5) else ⟨#[]⟩, Broader := listM l 12 (((numG l).tdiv 12).tmod 3).toNat }
def postG (l : List Int) (i : Nat) : PostM := { ID := idM (numG l), Path := listM l (12 + 4 * (i : Int)) (1 + atM l (30 + (i : Int)) 4).toNat, Main := decide (shrG (numG l) i = 1) }
def postsG (l : List Int) (i : Nat) : List PostM := (List.range i).map (postG l)
/-- The event before its fields of its kind. -/
def evI (l : List Int) (i : Nat) : EventM := { By := atM l 0 6, Seq := atM l 1 64, Tick := atM l 2 1048577, Kind := kindG l, Refs := refsG l i, Op := zOpG, Term := zTermG, ID := idZ, Posts := [], N := 0 }
def evG (l : List Int) : EventM :=
  if kindG l = 0 then { evI l 6 with Op := opM l 12 }
  else if kindG l = 2 then { evI l 6 with Term := termG l }
  else if kindG l = 3 ∨ kindG l = 4 then { evI l 6 with ID := idM (numG l), Posts := postsG l ((numG l).tmod 4).toNat }
  else if kindG l = 5 ∨ kindG l = 6 then { evI l 6 with ID := idM (numG l), N := atM l 12 1048577 }
  else evI l 6
theorem refsG_len (l : List Int) : ∀ i, (refsG l i).length ≤ i
  | 0 => Nat.le_refl _
  | i + 1 => by
    have := refsG_len l i
    rw [refsG, List.length_append]
    split
    · simp; omega
    · simp; omega
end Go.Proofs.YtabjaaonfaejmaaGreatDoor

namespace Go.Proofs.YtabjaaonfaejmaaGreatDoor
open Go.Av

/-- The comparison that Sort hands on. -/
def cmpM (a b : EventM) : Int := if beforeM a b = true then -1 else if beforeM b a = true then 1 else 0
theorem cmpM_neg (a b : EventM) : cmpM a b < 0 ↔ beforeM a b = true := by
  unfold cmpM
  split
  · simp [*]
  · split <;> simp [*]
/-- Element j goes down to its place: what the inner loop leaves, when it stands at k. -/
def swapM (l : List EventM) (j : Nat) : List EventM := (l.set j (l.getD (j - 1) default)).set (j - 1) (l.getD j default)
theorem swapM_len (l : List EventM) (j : Nat) : (swapM l j).length = l.length := by simp [swapM]
/-- The inner loop from j down. -/
def downM (l : List EventM) : Nat → List EventM
  | 0 => l
  | j + 1 => if beforeM (l.getD (j + 1) default) (l.getD j default) = true then downM (swapM l (j + 1)) j else l
theorem downM_len (l : List EventM) : ∀ j (l : List EventM), (downM l j).length = l.length
  | 0, _ => rfl
  | j + 1, l => by
    rw [downM]
    split
    · rw [downM_len l j, swapM_len]
    · rfl
/-- The first i elements are sorted in. -/
def insM (l : List EventM) : Nat → List EventM
  | 0 => l
  | i + 1 => downM (insM l i) i
theorem insM_len (l : List EventM) : ∀ i, (insM l i).length = l.length
  | 0 => rfl
  | i + 1 => by rw [insM, downM_len (insM l i) i, insM_len l i]
def sortM (l : List EventM) : List EventM := insM l l.length

end Go.Proofs.YtabjaaonfaejmaaGreatDoor

namespace Go.Proofs.YtabjaaonfaejmaaGreatDoor
open Go.Av

/-- Where the reference puts an event among the first k. -/
def posM (x : EventM) (out : List EventM) : Nat → Nat
  | 0 => 0
  | k + 1 => if beforeM x (out.getD k default) = true then posM x out k else k + 1
theorem posM_le (x : EventM) (out : List EventM) : ∀ k, posM x out k ≤ k
  | 0 => Nat.le_refl _
  | k + 1 => by
    rw [posM]
    split
    · exact Nat.le_succ_of_le (posM_le x out k)
    · exact Nat.le_refl _
def insR (x : EventM) (out : List EventM) (p : Nat) : List EventM := out.take p ++ [x] ++ out.drop p
theorem insR_len (x : EventM) (out : List EventM) (p : Nat) (h : p ≤ out.length) : (insR x out p).length = out.length + 1 := by
  simp [insR]; omega
/-- The reference's list of the first i. -/
def rsN (l : List EventM) : Nat → List EventM
  | 0 => []
  | i + 1 => insR (l.getD i default) (rsN l i) (posM (l.getD i default) (rsN l i) (rsN l i).length)
theorem rsN_len (l : List EventM) : ∀ i, (rsN l i).length = i
  | 0 => rfl
  | i + 1 => by rw [rsN, insR_len _ _ _ (posM_le _ _ _), rsN_len l i]

theorem swapM_at (P : List EventM) (a x : EventM) (Q : List EventM) : swapM (P ++ a :: x :: Q) (P.length + 1) = P ++ x :: a :: Q := by
  simp [swapM, List.getD_eq_getElem?_getD]
theorem downM_pos (x : EventM) (A R : List EventM) : ∀ k, k ≤ A.length → downM (A.take k ++ x :: (A.drop k ++ R)) k = A.take (posM x A k) ++ x :: (A.drop (posM x A k) ++ R)
  | 0, _ => rfl
  | k + 1, h => by
    have ht : A.take (k + 1) = A.take k ++ [A.getD k default] := by
      rw [List.getD_eq_getElem?_getD, List.getElem?_eq_getElem h, Option.getD_some, List.take_append_getElem]
    have hd : A.drop k = A.getD k default :: A.drop (k + 1) := by
      rw [List.getD_eq_getElem?_getD, List.getElem?_eq_getElem h, Option.getD_some, List.drop_eq_getElem_cons h]
    have hl : (A.take k).length = k := by simp; omega
    have e : A.take (k + 1) ++ x :: (A.drop (k + 1) ++ R) = A.take k ++ A.getD k default :: x :: (A.drop (k + 1) ++ R) := by rw [ht]; simp
    rw [e, downM, posM]
    have g1 : (A.take k ++ A.getD k default :: x :: (A.drop (k + 1) ++ R)).getD (k + 1) default = x := by
      rw [List.getD_eq_getElem?_getD, List.getElem?_append_right (by omega), hl]
      simp
    have g0 : (A.take k ++ A.getD k default :: x :: (A.drop (k + 1) ++ R)).getD k default = A.getD k default := by
      rw [List.getD_eq_getElem?_getD, List.getElem?_append_right (by omega), hl]
      simp
    rw [g1, g0]
    split
    · have hs := swapM_at (A.take k) (A.getD k default) x (A.drop (k + 1) ++ R)
      rw [hl] at hs
      rw [hs]
      have := downM_pos x A R k (by omega)
      rw [hd] at this
      simpa using this
    · rw [e]
theorem insM_rs (l : List EventM) : ∀ i, i ≤ l.length → insM l i = rsN l i ++ l.drop i
  | 0, _ => rfl
  | i + 1, h => by
    have hd : l.drop i = l.getD i default :: l.drop (i + 1) := by
      rw [List.getD_eq_getElem?_getD, List.getElem?_eq_getElem h, Option.getD_some, List.drop_eq_getElem_cons h]
    rw [insM, insM_rs l i (by omega), rsN]
    have := downM_pos (l.getD i default) (rsN l i) (l.drop (i + 1)) i (by rw [rsN_len]; exact Nat.le_refl _)
    have hl := rsN_len l i
    rw [List.take_of_length_le (by omega), List.drop_of_length_le (by omega), List.nil_append, ← hd] at this
    rw [this, insR, rsN_len]
    simp
theorem rs_sort (l : List EventM) : rsN l l.length = sortM l := by
  have := insM_rs l l.length (Nat.le_refl _)
  rw [List.drop_of_length_le (Nat.le_refl _), List.append_nil] at this
  exact this.symm
end Go.Proofs.YtabjaaonfaejmaaGreatDoor

namespace Go.Proofs.YtabjaaonfaejmaaGreatDoor
open Go.Av

def isName (n : NameM) (e : EventM) : Bool := sameName (evName e) n
def findM (l : List EventM) (n : NameM) : Int := idxM (isName n) l
/-- How many of the first i have a property. -/
def cntN {α : Type} (p : α → Bool) (l : List α) (i : Nat) : Nat := (l.take i).countP p
def anyN {α : Type} (p : α → Bool) (l : List α) (i : Nat) : Bool := (l.take i).any p
theorem take_step {α : Type} [Inhabited α] (l : List α) {i : Nat} (h : i < l.length) : l.take (i + 1) = l.take i ++ [l.getD i default] := by
  rw [List.getD_eq_getElem?_getD, List.getElem?_eq_getElem h, Option.getD_some, List.take_append_getElem]
theorem cntN_zero {α : Type} (p : α → Bool) (l : List α) : cntN p l 0 = 0 := rfl
theorem anyN_zero {α : Type} (p : α → Bool) (l : List α) : anyN p l 0 = false := rfl
theorem cntN_succ {α : Type} [Inhabited α] (p : α → Bool) (l : List α) {i : Nat} (h : i < l.length) : cntN p l (i + 1) = cntN p l i + if p (l.getD i default) = true then 1 else 0 := by
  rw [cntN, take_step l h, List.countP_append, ← cntN]
  simp [List.countP_cons]
theorem anyN_succ {α : Type} [Inhabited α] (p : α → Bool) (l : List α) {i : Nat} (h : i < l.length) : anyN p l (i + 1) = (anyN p l i || p (l.getD i default)) := by
  rw [anyN, take_step l h, List.any_append, ← anyN]
  simp
theorem cntN_le {α : Type} (p : α → Bool) (l : List α) (i : Nat) : cntN p l i ≤ i := by
  have := List.countP_le_length (p := p) (l := l.take i)
  rw [cntN]; simp at this; omega
/-- The events of the same person; and those of them that are not earlier. -/
def isBy (e x : EventM) : Bool := x.By == e.By
def isLate (e x : EventM) : Bool := x.By == e.By && decide (e.Tick ≤ x.Tick)
theorem cnt_by {l : List EventM} {e : EventM} {i : Nat} (hi : i < l.length) (h : (l.getD i default).By = e.By) : cntN (isBy e) l (i + 1) = cntN (isBy e) l i + 1 := by
  have : isBy e (l.getD i default) = true := by unfold isBy; rw [h]; exact beq_self_eq_true _
  rw [cntN_succ _ _ hi, if_pos this]
theorem cnt_no {l : List EventM} {e : EventM} {i : Nat} (hi : i < l.length) (h : ¬ (l.getD i default).By = e.By) : cntN (isBy e) l (i + 1) = cntN (isBy e) l i := by
  have : ¬ isBy e (l.getD i default) = true := by unfold isBy; rw [beq_iff_eq]; exact h
  rw [cntN_succ _ _ hi, if_neg this, Nat.add_zero]
theorem late_by {l : List EventM} {e : EventM} {i : Nat} (hi : i < l.length) (h : (l.getD i default).By = e.By) : anyN (isLate e) l (i + 1) = (anyN (isLate e) l i || decide (e.Tick ≤ (l.getD i default).Tick)) := by
  rw [anyN_succ _ _ hi]
  congr 1
  unfold isLate
  rw [h, beq_self_eq_true, Bool.true_and]
theorem late_no {l : List EventM} {e : EventM} {i : Nat} (hi : i < l.length) (h : ¬ (l.getD i default).By = e.By) : anyN (isLate e) l (i + 1) = anyN (isLate e) l i := by
  rw [anyN_succ _ _ hi]
  have : ((l.getD i default).By == e.By) = false := by rw [beq_eq_false_iff_ne]; exact h
  unfold isLate
  rw [this, Bool.false_and, Bool.or_false]
/-- A reference that stands for an event which is not earlier. -/
def refLate (l : List EventM) (e : EventM) (n : NameM) : Bool := decide (e.Tick ≤ (l.getD (findM l n).toNat default).Tick)
def faultM (l : List EventM) (e : EventM) : Int :=
  if validM e ≠ 0 then validM e else if 0 ≤ findM l (evName e) then 7 else if (l.countP (isBy e) : Int) ≠ e.Seq then 10
  else if e.Refs.any (fun n => decide (findM l n < 0)) = true then 10 else if (l.any (isLate e) || e.Refs.any (refLate l e)) = true then 5 else 0
theorem faultM_ref {l : List EventM} {e : EventM} (h1 : validM e = 0) (h2 : ¬ 0 ≤ findM l (evName e)) (h3 : (l.countP (isBy e) : Int) = e.Seq) {i : Nat} (hi : i < e.Refs.length) (h : findM l (e.Refs.getD i default) < 0) : faultM l e = 10 := by
  unfold faultM
  have : e.Refs.any (fun n => decide (findM l n < 0)) = true := by
    rw [List.any_eq_true]
    refine ⟨e.Refs[i], List.getElem_mem hi, ?_⟩
    rw [List.getD_eq_getElem?_getD, List.getElem?_eq_getElem hi] at h
    simpa using h
  rw [if_neg (by omega), if_neg h2, if_neg (by omega), if_pos this]
theorem faultM_end {l : List EventM} {e : EventM} (h1 : validM e = 0) (h2 : ¬ 0 ≤ findM l (evName e)) (h3 : (l.countP (isBy e) : Int) = e.Seq) (h : ∀ i, i < e.Refs.length → 0 ≤ findM l (e.Refs.getD i default)) : faultM l e = if (l.any (isLate e) || e.Refs.any (refLate l e)) = true then 5 else 0 := by
  unfold faultM
  have : ¬ e.Refs.any (fun n => decide (findM l n < 0)) = true := by
    rw [List.any_eq_true]
    rintro ⟨x, hx, hf⟩
    obtain ⟨j, hj, rfl⟩ := List.getElem_of_mem hx
    have := h j hj
    rw [List.getD_eq_getElem?_getD, List.getElem?_eq_getElem hj] at this
    simp at hf this
    omega
  rw [if_neg (by omega), if_neg h2, if_neg (by omega), if_neg this]
theorem findM_range (l : List EventM) (n : NameM) : findM l n = -1 ∨ (0 ≤ findM l n ∧ (findM l n).toNat < l.length ∧ findM l n < l.length) := by
  unfold findM idxM
  split
  · right; omega
  · left; rfl
theorem count_full {α : Type} (p : α → Bool) (l : List α) : cntN p l l.length = l.countP p := by rw [cntN, List.take_length]
theorem any_full {α : Type} (p : α → Bool) (l : List α) : anyN p l l.length = l.any p := by rw [anyN, List.take_length]
/-- The first fault of a list in its order. -/
def closedG (n : Nat) (s : List EventM) : Nat → Int × Int
  | 0 => (n, 0)
  | k + 1 => let i := s.length - (k + 1); if faultM (s.take i) (s.getD i default) ≠ 0 then (i, faultM (s.take i) (s.getD i default)) else closedG n s k
def closedM (l : List EventM) : Int × Int := if 384 < l.length then (0, 4) else closedG l.length (sortM l) (sortM l).length
theorem closedG_go {n : Nat} {s : List EventM} {i : Nat} (hi : i < s.length) (h : faultM (s.take i) (s.getD i default) = 0) : closedG n s (s.length - i) = closedG n s (s.length - (i + 1)) := by
  rw [show s.length - i = s.length - (i + 1) + 1 by omega, closedG]
  have : s.length - (s.length - (i + 1) + 1) = i := by omega
  simp only [this]
  rw [if_neg (by omega)]
theorem closedG_at {n : Nat} {s : List EventM} {i : Nat} (hi : i < s.length) (h : faultM (s.take i) (s.getD i default) ≠ 0) : closedG n s (s.length - i) = ((i : Int), faultM (s.take i) (s.getD i default)) := by
  rw [show s.length - i = s.length - (i + 1) + 1 by omega, closedG]
  have : s.length - (s.length - (i + 1) + 1) = i := by omega
  simp only [this]
  rw [if_pos h]
theorem posM_stop {x : EventM} {out : List EventM} {k : Nat} (h : 0 < k → ¬ beforeM x (out.getD (k - 1) default) = true) : posM x out k = k := by
  cases k with
  | zero => rfl
  | succ k => rw [posM, if_neg (by simpa using h (by omega))]
theorem posM_go {x : EventM} {out : List EventM} {k : Nat} (hk : 0 < k) (h : beforeM x (out.getD (k - 1) default) = true) : posM x out (k - 1) = posM x out k := by
  obtain ⟨j, rfl⟩ : ∃ j, k = j + 1 := ⟨k - 1, by omega⟩
  rw [posM, if_pos (by simpa using h)]
  rfl
theorem ev_takeD (l : List EventM) (i : Nat) : List.take i (List.map (fun e => eventD e) l) = List.map (fun e => eventD e) (List.take i l) := by rw [List.map_take]
theorem ev_dropD (l : List EventM) (i : Nat) : List.drop i (List.map (fun e => eventD e) l) = List.map (fun e => eventD e) (List.drop i l) := by rw [List.map_drop]
theorem ev_take (l : List EventM) (i : Nat) : List.take i (List.map AV.dat (List.map (fun e => eventD e) l)) = List.map AV.dat (List.map (fun e => eventD e) (List.take i l)) := by rw [List.map_take, List.map_take]
theorem ev_drop (l : List EventM) (i : Nat) : List.drop i (List.map AV.dat (List.map (fun e => eventD e) l)) = List.map AV.dat (List.map (fun e => eventD e) (List.drop i l)) := by rw [List.map_drop, List.map_drop]
end Go.Proofs.YtabjaaonfaejmaaGreatDoor

namespace Go.Proofs.YtabjaaonfaejmaaGreatDoor
open Go.Av

def lsN (l : List Int) (i : Nat) : Int := atM l (2 + (i : Int)) 4096
theorem lsN_rng (l : List Int) (i : Nat) : 0 ≤ lsN l i ∧ lsN l i ≤ 4096 := by
  have := atM_range (l := l) (i := 2 + (i : Int)) (m := 4096) (by omega)
  unfold lsN
  omega
/-- The references to events of one person. -/
def lsRef (out : List EventM) (n t : Int) (b : Nat) : Nat → List NameM
  | 0 => []
  | k + 1 => lsRef out n t b k ++ if (out.getD k default).By = (b : Int) ∧ ((k : Int) + n.tdiv 3).tmod 4 = 0 ∧ (out.getD k default).Tick < t then [evName (out.getD k default)] else []
theorem lsRef_zero (out : List EventM) (n t : Int) (b : Nat) : lsRef out n t b 0 = [] := rfl
def lsRefs (out : List EventM) (n t : Int) : Nat → List NameM
  | 0 => []
  | b + 1 => lsRefs out n t b ++ lsRef out n t b out.length
theorem lsRefs_zero (out : List EventM) (n t : Int) : lsRefs out n t 0 = [] := rfl
/-- The references so far. -/
def lsRB (out : List EventM) (n t : Int) (b k : Nat) : List NameM := lsRefs out n t b ++ lsRef out n t b k
theorem lsRB_zero (out : List EventM) (n t : Int) (b : Nat) : lsRB out n t b 0 = lsRefs out n t b := List.append_nil _
theorem lsRB_all (out : List EventM) (n t : Int) (b : Nat) : lsRefs out n t (b + 1) = lsRB out n t b out.length := rfl
theorem lsRB_yes {out : List EventM} {n t : Int} {b k : Nat} (h : (out.getD k default).By = (b : Int) ∧ ((k : Int) + n.tdiv 3).tmod 4 = 0 ∧ (out.getD k default).Tick < t) : lsRB out n t b (k + 1) = lsRB out n t b k ++ [evName (out.getD k default)] := by
  rw [lsRB, lsRef, if_pos h, lsRB, List.append_assoc]
theorem lsRB_no {out : List EventM} {n t : Int} {b k : Nat} (h : ¬ ((out.getD k default).By = (b : Int) ∧ ((k : Int) + n.tdiv 3).tmod 4 = 0 ∧ (out.getD k default).Tick < t)) : lsRB out n t b (k + 1) = lsRB out n t b k := by
  rw [lsRB, lsRef, if_neg h, lsRB, List.append_nil]
theorem lsRef_len (out : List EventM) (n t : Int) (b : Nat) : ∀ k, (lsRef out n t b k).length ≤ k
  | 0 => Nat.le_refl _
  | k + 1 => by
    have := lsRef_len out n t b k
    rw [lsRef, List.length_append]
    split
    · simp; omega
    · simp; omega
theorem lsRefs_len (out : List EventM) (n t : Int) : ∀ b, (lsRefs out n t b).length ≤ b * out.length
  | 0 => by rw [lsRefs]; exact Nat.zero_le _
  | b + 1 => by
    have h1 := lsRefs_len out n t b
    have h2 := lsRef_len out n t b out.length
    rw [lsRefs, List.length_append, Nat.add_mul]
    omega
theorem lsRB_len (out : List EventM) (n t : Int) (b k : Nat) (hb : b ≤ 3) (ho : out.length ≤ 10) (hk : k ≤ 10) : (lsRB out n t b k).length ≤ 40 := by
  have h1 := lsRefs_len out n t b
  have h2 := lsRef_len out n t b k
  have h3 : b * out.length ≤ 3 * 10 := Nat.mul_le_mul hb ho
  rw [lsRB, List.length_append]
  omega
def lsEv (out : List EventM) (n t : Int) : EventM :=
  { By := n.tmod 3, Seq := (cntN (fun x => x.By == n.tmod 3) out out.length : Int), Tick := t, Kind := if (n.tdiv 12).tmod 2 = 0 then 5 else 1, Refs := lsRefs out n t 3, Op := zOpG, Term := zTermG,
    ID := if (n.tdiv 12).tmod 2 = 0 then idM n else idZ, Posts := [], N := if (n.tdiv 12).tmod 2 = 0 then n.tdiv 24 else 0 }
def lsSt (l : List Int) : Nat → List EventM × Int
  | 0 => ([], atM l 0 5)
  | i + 1 => ((lsSt l i).1 ++ [lsEv (lsSt l i).1 (lsN l i) (lsSt l i).2], (lsSt l i).2 + 1 + ((lsN l i).tdiv 48).tmod 2)
theorem lsSt_zero (l : List Int) : lsSt l 0 = ([], atM l 0 5) := rfl
theorem lsSt_len (l : List Int) : ∀ i, (lsSt l i).1.length = i
  | 0 => rfl
  | i + 1 => by
    rw [lsSt]
    simp only [List.length_append, List.length_singleton, lsSt_len l i]
theorem lsSt_tick (l : List Int) : ∀ i : Nat, 0 ≤ (lsSt l i).2 ∧ (lsSt l i).2 ≤ 4 + 2 * (i : Int)
  | 0 => by
    have := atM_range (l := l) (i := 0) (m := 5) (by omega)
    rw [lsSt]
    dsimp only
    omega
  | i + 1 => by
    have h := lsSt_tick l i
    have hn := lsN_rng l i
    have h1 : 0 ≤ ((lsN l i).tdiv 48).tmod 2 := Int.tmod_nonneg _ (by rw [Int.tdiv_eq_ediv_of_nonneg hn.1]; exact Int.ediv_nonneg hn.1 (by omega))
    have h2 : ((lsN l i).tdiv 48).tmod 2 < 2 := Int.tmod_lt_of_pos _ (by omega)
    rw [lsSt]
    dsimp only
    omega
def listG (l : List Int) : List EventM := (lsSt l (atM l 1 9).toNat).1
end Go.Proofs.YtabjaaonfaejmaaGreatDoor

namespace Go.Proofs.YtabjaaonfaejmaaGreatDoor
open Go.Av

abbrev isKI : Dat → Prop := fun d => ∃ n, d = .int .i64 n
abbrev isKN : Dat → Prop := fun d => ∃ a b, d = .agg [.int .i64 a, .int .i64 b]
theorem keyB_int (a b : Int) : keyB (iD a) (iD b) = (a == b) := rfl
theorem keyB_name (m n : NameM) : keyB (nameD m) (nameD n) = sameName m n := rfl
theorem sameName_eq {m n : NameM} (h : sameName m n = true) : m = n := by
  cases m; cases n
  simp only [sameName, Bool.and_eq_true, beq_iff_eq] at h
  rw [h.1, h.2]
theorem sameName_refl (m : NameM) : sameName m m = true := by simp [sameName]

theorem findM_app (l : List EventM) (e : EventM) (n : NameM) : findM (l ++ [e]) n = if 0 ≤ findM l n then findM l n else if isName n e = true then (l.length : Int) else -1 := by
  unfold findM idxM
  rw [List.findIdx_append]
  have hle : l.findIdx (isName n) ≤ l.length := List.findIdx_le_length
  by_cases h : l.findIdx (isName n) < l.length
  · simp [h]
    omega
  · simp only [h, if_false]
    by_cases he : isName n e = true
    · simp [List.findIdx_cons, he]
    · simp [List.findIdx_cons, he]
      omega

structure ClInv (l : List EventM) (k1 v1 k2 v2 k3 v3 : List Dat) : Prop where
  l1 : k1.length = v1.length
  l2 : k2.length = v2.length
  l3 : k3.length = v3.length
  q1 : ∀ k ∈ k1, isKN k
  q2 : ∀ k ∈ k2, isKI k
  q3 : ∀ k ∈ k3, isKI k
  tick : ∀ n, (findM l n = -1 ∧ lkp k1 v1 (nameD n) = none) ∨ (0 ≤ findM l n ∧ lkp k1 v1 (nameD n) = some (iD (l.getD (findM l n).toNat default).Tick))
  count : ∀ b, (lkp k2 v2 (iD b)).getD (iD 0) = iD (l.countP (fun x => x.By == b))
  last : ∀ b, ((l.countP (fun x => x.By == b)) = 0 ∧ lkp k3 v3 (iD b) = none) ∨ (0 < l.countP (fun x => x.By == b) ∧ ∃ t, lkp k3 v3 (iD b) = some (iD t) ∧ (∃ x ∈ l, x.By = b ∧ x.Tick = t) ∧ ∀ x ∈ l, x.By = b → x.Tick ≤ t)

theorem clInv_nil : ClInv [] [] [] [] [] [] [] where
  l1 := rfl
  l2 := rfl
  l3 := rfl
  q1 := by simp
  q2 := by simp
  q3 := by simp
  tick n := .inl ⟨rfl, rfl⟩
  count b := rfl
  last b := .inl ⟨rfl, rfl⟩

theorem intSymm {d k : Dat} (hd : isKI d) (hk : isKI k) (h : keyB d k = true) : d = k := by
  obtain ⟨a, rfl⟩ := hd
  obtain ⟨b, rfl⟩ := hk
  simp [keyB] at h
  rw [h]
theorem nameSymm {d k : Dat} (hd : isKN d) (hk : isKN k) (h : keyB d k = true) : d = k := by
  obtain ⟨a, b, rfl⟩ := hd
  obtain ⟨c, d, rfl⟩ := hk
  simp [keyB] at h
  rw [h.1, h.2]

/-- An event without a fault is entered. -/
theorem clInv_add {l : List EventM} {k1 v1 k2 v2 k3 v3 : List Dat} (h : ClInv l k1 v1 k2 v2 k3 v3) (e : EventM) (hn : findM l (evName e) = -1) (ht : ∀ x ∈ l, x.By = e.By → x.Tick < e.Tick) :
    ClInv (l ++ [e]) (putK k1 (nameD (evName e))) (putV k1 v1 (nameD (evName e)) (iD e.Tick)) (putK k2 (iD e.By)) (putV k2 v2 (iD e.By) (iD ((l.countP (fun x => x.By == e.By) : Int) + 1))) (putK k3 (iD e.By)) (putV k3 v3 (iD e.By) (iD e.Tick)) where
  l1 := put_len h.l1
  l2 := put_len h.l2
  l3 := put_len h.l3
  q1 := put_keys ⟨_, _, rfl⟩ h.q1
  q2 := put_keys ⟨_, rfl⟩ h.q2
  q3 := put_keys ⟨_, rfl⟩ h.q3
  tick n := by
    rw [lkp_put h.l1 (fun k hk => nameSymm ⟨_, _, rfl⟩ (h.q1 k hk)) (nameSymm ⟨_, _, rfl⟩ ⟨_, _, rfl⟩), findM_app, keyB_name]
    by_cases hne : sameName n (evName e) = true
    · have := sameName_eq hne
      subst this
      have hi : isName (evName e) e = true := sameName_refl _
      right
      rw [hn, if_neg (by omega), if_pos hi, if_pos hne]
      refine ⟨by omega, ?_⟩
      simp [List.getD_eq_getElem?_getD]
    · have hi : ¬ isName n e = true := fun h => hne (by have := sameName_eq h; rw [this]; exact sameName_refl _)
      rw [if_neg hne, if_neg hi]
      rcases h.tick n with ⟨h1, h2⟩ | ⟨h1, h2⟩
      · left
        rw [if_neg (by omega)]
        exact ⟨rfl, h2⟩
      · right
        rw [if_pos h1]
        refine ⟨h1, ?_⟩
        have hr := findM_range l n
        rw [h2, List.getD_eq_getElem?_getD, List.getD_eq_getElem?_getD, List.getElem?_append_left (by omega)]
  count b := by
    rw [lkp_put h.l2 (fun k hk => intSymm ⟨_, rfl⟩ (h.q2 k hk)) (intSymm ⟨_, rfl⟩ ⟨_, rfl⟩), keyB_int, List.countP_append]
    by_cases hb : b = e.By
    · subst hb
      simp [List.countP_cons]
    · have hb' : ¬ (e.By == b) = true := by simpa using Ne.symm hb
      have hb2 : ¬ (b == e.By) = true := by simpa using hb
      rw [if_neg hb2, h.count b]
      simp [List.countP_cons, hb']
  last b := by
    rw [lkp_put h.l3 (fun k hk => intSymm ⟨_, rfl⟩ (h.q3 k hk)) (intSymm ⟨_, rfl⟩ ⟨_, rfl⟩), keyB_int, List.countP_append]
    by_cases hb : b = e.By
    · subst hb
      right
      refine ⟨by simp [List.countP_cons], e.Tick, by simp, ⟨e, by simp, rfl, rfl⟩, fun x hx hby => ?_⟩
      rcases List.mem_append.1 hx with hx | hx
      · exact Int.le_of_lt (ht x hx hby)
      · simp at hx; rw [hx]; exact Int.le_refl _
    · have hb' : ¬ (e.By == b) = true := by simpa using Ne.symm hb
      have hb2 : ¬ (b == e.By) = true := by simpa using hb
      have hc : ([e].countP fun x => x.By == b) = 0 := by simp [List.countP_cons, hb']
      rw [if_neg hb2, hc, Nat.add_zero]
      rcases h.last b with h1 | ⟨h1, t, h2, ⟨x, hx, hxb, hxt⟩, h3⟩
      · exact .inl h1
      · refine .inr ⟨h1, t, h2, ⟨x, List.mem_append_left _ hx, hxb, hxt⟩, fun y hy hyb => ?_⟩
        rcases List.mem_append.1 hy with hy | hy
        · exact h3 y hy hyb
        · simp at hy
          subst hy
          exact absurd hyb.symm hb

/-- Whether the last event of the person is not earlier. -/
theorem clInv_late {l : List EventM} {k1 v1 k2 v2 k3 v3 : List Dat} (h : ClInv l k1 v1 k2 v2 k3 v3) (e : EventM) :
    (l.countP (fun x => x.By == e.By) = 0 ∧ l.any (isLate e) = false ∧ lkp k3 v3 (iD e.By) = none) ∨ (0 < l.countP (fun x => x.By == e.By) ∧ ∃ t, lkp k3 v3 (iD e.By) = some (iD t) ∧ l.any (isLate e) = decide (e.Tick ≤ t)) := by
  rcases h.last e.By with ⟨h1, h2⟩ | ⟨h1, t, h2, ⟨x, hx, hxb, hxt⟩, h3⟩
  · refine .inl ⟨h1, ?_, h2⟩
    rw [List.any_eq_false]
    intro x hx hl
    simp only [isLate, Bool.and_eq_true] at hl
    have := List.countP_eq_zero.1 h1 x hx
    exact this hl.1
  · refine .inr ⟨h1, t, h2, ?_⟩
    by_cases ht : e.Tick ≤ t
    · rw [decide_eq_true ht, List.any_eq_true]
      exact ⟨x, hx, by simp [isLate, hxb, hxt, ht]⟩
    · rw [decide_eq_false ht, List.any_eq_false]
      intro y hy hl
      simp only [isLate, Bool.and_eq_true, beq_iff_eq, decide_eq_true_eq] at hl
      have := h3 y hy hl.1
      omega
end Go.Proofs.YtabjaaonfaejmaaGreatDoor

namespace Go.Proofs.YtabjaaonfaejmaaGreatDoor
open Go.Av
def exE (b t k : Int) (r : List NameM) (n : Int) : EventM := { By := b, Seq := 0, Tick := t, Kind := k, Refs := r, Op := zOpG, Term := zTermG, ID := idZ, Posts := [], N := n }
theorem ex1 : closedM [exE 1 4 1 [⟨0, 0⟩] 0, exE 0 3 1 [] 0] = (2, 0) := by decide +kernel
theorem ex2 : closedM [exE 0 3 1 [] 0, exE 1 3 1 [⟨0, 0⟩] 0] = (1, 5) := by decide +kernel
theorem ex3 : closedM [exE 1 4 1 [⟨0, 0⟩] 0] = (0, 10) := by decide +kernel
theorem ex4 : closedM [exE 0 3 1 [] 0, exE 0 3 1 [] 0] = (1, 7) := by decide +kernel
theorem ex5 : closedM [exE 2 1 5 [] (-1)] = (0, 1) := by decide +kernel

theorem insR_mem {x a : EventM} {out : List EventM} {p : Nat} (h : x ∈ insR a out p) : x = a ∨ x ∈ out := by
  simp only [insR, List.mem_append, List.mem_singleton] at h
  rcases h with (h | h) | h
  · exact .inr (List.mem_of_mem_take h)
  · exact .inl h
  · exact .inr (List.mem_of_mem_drop h)
theorem rsN_mem {x : EventM} (l : List EventM) : ∀ i, i ≤ l.length → x ∈ rsN l i → x ∈ l
  | 0, _, h => by simp [rsN] at h
  | i + 1, hi, h => by
    rw [rsN] at h
    rcases insR_mem h with h | h
    · rw [h, List.getD_eq_getElem?_getD, List.getElem?_eq_getElem hi]
      exact List.getElem_mem hi
    · exact rsN_mem l i (by omega) h
theorem sortM_mem {x : EventM} {l : List EventM} (h : x ∈ sortM l) : x ∈ l := by
  rw [← rs_sort] at h
  exact rsN_mem l _ (Nat.le_refl _) h
theorem i64z : I64 0 := by unfold I64; omega
theorem okZ : OkOp zOpG where
  head := by
    intro x hx
    have : x = 0 := by
      simp [headL, zOpG, idZ] at hx
      exact hx
    rw [this]; exact i64z
  pairs := by simp [zOpG]
  refs := by simp [zOpG]
  text := by decide
  texts := by simp [zOpG]
  ntexts := by decide
  npairs := by decide
  nrefs := by decide
  all := by decide +kernel
theorem okEx {b t k n : Int} {r : List NameM} (hb : I64 b) (ht : I64 t) (hk : I64 k) (hn : I64 n) (hr : r.length ≤ 1000) (hrr : ∀ x ∈ r, I64 x.By ∧ I64 x.Seq) : OkEv (exE b t k r n) where
  by_ := hb
  seq := i64z
  tick := ht
  kind := hk
  n := hn
  id := ⟨i64z, i64z, i64z⟩
  tk := i64z
  tl := i64z
  refs := hrr
  nrefs := by show r.length ≤ 100000; omega
  op := okZ
  name := by show (0 : Nat) ≤ 900000; omega
  see := by show (0 : Nat) ≤ 900000; omega
  broader := by simp [exE, zTermG]
  nbroader := by show (0 : Nat) ≤ 100000; omega
  posts := by simp [exE]
  nposts := by show (0 : Nat) ≤ 1000; omega
end Go.Proofs.YtabjaaonfaejmaaGreatDoor

namespace Go.Proofs.YtabjaaonfaejmaaGreatDoor
open Go.Av

/-- Lists of events, each later than those before it, that are closed. -/
inductive GoodL : List EventM → Prop
  | nil : GoodL []
  | snoc {s : List EventM} {e : EventM} : GoodL s → (∀ x ∈ s, x.Tick < e.Tick) → validM e = 0 → (∀ x ∈ s, evName x ≠ evName e) → ((s.countP (isBy e) : Nat) : Int) = e.Seq → (∀ n ∈ e.Refs, ∃ x ∈ s, evName x = n) → GoodL (s ++ [e])

theorem good_inv {s : List EventM} {e : EventM} (h : GoodL (s ++ [e])) : GoodL s ∧ (∀ x ∈ s, x.Tick < e.Tick) ∧ validM e = 0 ∧ (∀ x ∈ s, evName x ≠ evName e) ∧ ((s.countP (isBy e) : Nat) : Int) = e.Seq ∧ (∀ n ∈ e.Refs, ∃ x ∈ s, evName x = n) := by
  generalize ht : s ++ [e] = t at h
  cases h with
  | nil => simp at ht
  | snoc h1 h2 h3 h4 h5 h6 =>
    obtain ⟨rfl, he⟩ := List.append_inj' ht rfl
    simp only [List.cons.injEq, and_true] at he
    subst he
    exact ⟨h1, h2, h3, h4, h5, h6⟩
theorem good_take {s : List EventM} (h : GoodL s) : ∀ k, GoodL (s.take k) := by
  induction h with
  | nil => intro k; simpa using GoodL.nil
  | @snoc s e h1 h2 h3 h4 h5 h6 ih =>
    intro k
    by_cases hk : k ≤ s.length
    · rw [List.take_append_of_le_length hk]; exact ih k
    · rw [List.take_of_length_le (by simp; omega)]; exact .snoc h1 h2 h3 h4 h5 h6
theorem good_at {s : List EventM} (h : GoodL s) {i : Nat} (hi : i < s.length) : GoodL (s.take i ++ [s[i]]) := by
  have := good_take h (i + 1)
  rwa [← List.take_append_getElem hi] at this
theorem good_sorted {s : List EventM} (h : GoodL s) : s.Pairwise (fun x y => x.Tick < y.Tick) := by
  induction h with
  | nil => exact .nil
  | @snoc s e h1 h2 h3 h4 h5 h6 ih =>
    rw [List.pairwise_append]
    exact ⟨ih, by simp, by simpa using h2⟩
theorem findM_some {l : List EventM} {n : NameM} (h : ∃ x ∈ l, evName x = n) : 0 ≤ findM l n := by
  unfold findM
  rw [idxM_nonneg, List.any_eq_true]
  obtain ⟨x, hx, rfl⟩ := h
  exact ⟨x, hx, by simp [isName, sameName]⟩
theorem findM_none {l : List EventM} {n : NameM} (h : ∀ x ∈ l, evName x ≠ n) : ¬ 0 ≤ findM l n := by
  unfold findM
  rw [idxM_nonneg, List.any_eq_true]
  rintro ⟨x, hx, hs⟩
  refine h x hx ?_
  unfold isName sameName at hs
  cases hn : evName x; cases n
  rw [hn] at hs
  simpa using hs
theorem fault_good {s : List EventM} {e : EventM} (h : GoodL (s ++ [e])) : faultM s e = 0 := by
  obtain ⟨h1, h2, h3, h4, h5, h6⟩ := good_inv h
  have hr : ∀ i, i < e.Refs.length → 0 ≤ findM s (e.Refs.getD i default) := fun i hi => by
    refine findM_some (h6 _ ?_)
    rw [List.getD_eq_getElem?_getD, List.getElem?_eq_getElem hi]
    exact List.getElem_mem hi
  rw [faultM_end h3 (findM_none h4) h5 hr, if_neg]
  simp only [Bool.or_eq_true, List.any_eq_true, not_or, not_exists, not_and]
  refine ⟨fun x hx hl => ?_, fun n hn hl => ?_⟩
  · have := h2 x hx
    unfold isLate at hl
    simp at hl
    omega
  · unfold refLate at hl
    have hl' := of_decide_eq_true hl
    have h0 := findM_some (h6 n hn)
    rcases findM_range s n with h | ⟨_, h, _⟩
    · omega
    · have hm := h2 (s.getD (findM s n).toNat default) (by
        rw [List.getD_eq_getElem?_getD, List.getElem?_eq_getElem h]
        exact List.getElem_mem h)
      omega
/-- A list whose ticks grow is sorted already. -/
theorem posM_last {x : EventM} {out : List EventM} (h : ∀ y ∈ out, y.Tick < x.Tick) : posM x out out.length = out.length := by
  refine posM_stop fun hp => ?_
  have hm := h (out.getD (out.length - 1) default) (by
    rw [List.getD_eq_getElem?_getD, List.getElem?_eq_getElem (by omega)]
    exact List.getElem_mem _)
  unfold beforeM
  rw [if_pos (by omega), decide_eq_true_eq]
  omega
theorem rsN_take {l : List EventM} (h : l.Pairwise (fun x y => x.Tick < y.Tick)) : ∀ i, i ≤ l.length → rsN l i = l.take i
  | 0, _ => rfl
  | i + 1, hi => by
    have ht := take_step l hi
    rw [rsN, rsN_take h i (by omega), posM_last, insR, List.take_length, List.drop_length, List.append_nil, ht]
    intro y hy
    have h2 := h.sublist (List.take_sublist (i + 1) l)
    rw [ht, List.pairwise_append] at h2
    exact h2.2.2 y hy _ (by simp)
theorem sortM_id {l : List EventM} (h : l.Pairwise (fun x y => x.Tick < y.Tick)) : sortM l = l := by
  rw [← rs_sort, rsN_take h _ (Nat.le_refl _), List.take_length]
theorem closedG_good {n : Nat} {s : List EventM} (h : ∀ i, i < s.length → faultM (s.take i) (s.getD i default) = 0) : ∀ k, k ≤ s.length → closedG n s k = ((n : Int), 0)
  | 0, _ => rfl
  | k + 1, hk => by
    have h1 := h (s.length - (k + 1)) (by omega)
    rw [closedG, if_neg (by omega), closedG_good h k (by omega)]
theorem closed_good {s : List EventM} (h : GoodL s) (hl : s.length ≤ 384) : closedM s = ((s.length : Int), 0) := by
  unfold closedM
  rw [if_neg (by omega), sortM_id (good_sorted h)]
  refine closedG_good (fun i hi => ?_) _ (Nat.le_refl _)
  rw [List.getD_eq_getElem?_getD, List.getElem?_eq_getElem hi]
  exact fault_good (good_at h hi)
/-- Of two events of a person the later one has the greater number. -/
theorem good_cnt {s : List EventM} (h : GoodL s) : ∀ x ∈ s, x.Seq < ((s.countP (isBy x) : Nat) : Int) := by
  induction h with
  | nil => simp
  | @snoc s e h1 h2 h3 h4 h5 h6 ih =>
    intro x hx
    rw [List.mem_append, List.mem_singleton] at hx
    rw [List.countP_append]
    rcases hx with hx | rfl
    · have := ih x hx; omega
    · rw [← h5]
      simp [isBy]
      omega
theorem good_seq {s : List EventM} (h : GoodL s) : s.Pairwise (fun x e => x.By = e.By → x.Seq < e.Seq) := by
  induction h with
  | nil => exact .nil
  | @snoc s e h1 h2 h3 h4 h5 h6 ih =>
    rw [List.pairwise_append]
    refine ⟨ih, by simp, ?_⟩
    intro x hx y hy hb
    simp only [List.mem_singleton] at hy
    subst hy
    have h7 := good_cnt h1 x hx
    have : isBy x = isBy y := by funext z; unfold isBy; rw [hb]
    rw [this] at h7
    omega
end Go.Proofs.YtabjaaonfaejmaaGreatDoor

namespace Go.Proofs.YtabjaaonfaejmaaGreatDoor
open Go.Av

def LessP (a b : NameM) : Prop := lessM a b = true
theorem less_by {a b : NameM} (h : a.By < b.By) : LessP a b := by
  unfold LessP lessM
  rw [if_pos (by omega)]
  simpa using h
theorem less_seq {a b : NameM} (h : a.By = b.By) (h2 : a.Seq < b.Seq) : LessP a b := by
  unfold LessP lessM
  rw [if_neg (by omega)]
  simpa using h2
theorem lsRef_mem {out : List EventM} {n t : Int} {b : Nat} {x : NameM} : ∀ {k}, k ≤ out.length → x ∈ lsRef out n t b k → ∃ y ∈ out.take k, y.By = (b : Int) ∧ evName y = x
  | 0, _, h => by simp [lsRef] at h
  | k + 1, hk, h => by
    rw [lsRef, List.mem_append] at h
    rw [take_step out hk]
    rcases h with h | h
    · obtain ⟨y, hy, h1⟩ := lsRef_mem (by omega) h
      exact ⟨y, List.mem_append.2 (.inl hy), h1⟩
    · split at h
      · rename_i hc
        simp only [List.mem_singleton] at h
        exact ⟨_, List.mem_append.2 (.inr (List.mem_singleton.2 rfl)), hc.1, h.symm⟩
      · simp at h
theorem lsRef_sorted {out : List EventM} {n t : Int} {b : Nat} (hs : out.Pairwise (fun x e => x.By = e.By → x.Seq < e.Seq)) : ∀ {k}, k ≤ out.length → (lsRef out n t b k).Pairwise LessP
  | 0, _ => .nil
  | k + 1, hk => by
    rw [lsRef, List.pairwise_append]
    refine ⟨lsRef_sorted hs (by omega), by split <;> simp, ?_⟩
    intro x hx y hy
    split at hy
    · rename_i hc
      simp only [List.mem_singleton] at hy
      subst hy
      obtain ⟨z, hz, hb, rfl⟩ := lsRef_mem (by omega) hx
      have h2 := hs.sublist (List.take_sublist (k + 1) out)
      rw [take_step out hk, List.pairwise_append] at h2
      refine less_seq (hb.trans hc.1.symm) (h2.2.2 z hz _ (by simp) (hb.trans hc.1.symm))
    · simp at hy
theorem lsRef_cnt {out : List EventM} {n t : Int} {b : Nat} : ∀ {k}, k ≤ out.length → (lsRef out n t b k).length ≤ (out.take k).countP (fun x => x.By == (b : Int))
  | 0, _ => Nat.zero_le _
  | k + 1, hk => by
    have ih := lsRef_cnt (out := out) (n := n) (t := t) (b := b) (k := k) (by omega)
    rw [lsRef, take_step out hk, List.countP_append, List.length_append]
    split
    · rename_i hc
      have : List.countP (fun x : EventM => x.By == (b : Int)) [out.getD k default] = 1 := by
        rw [List.countP_singleton, if_pos (by rw [hc.1]; exact beq_self_eq_true _)]
      rw [this]
      simp
      omega
    · simp; omega
theorem three_cnt : ∀ out : List EventM, out.countP (fun x => x.By == ((0 : Nat) : Int)) + out.countP (fun x => x.By == ((1 : Nat) : Int)) + out.countP (fun x => x.By == ((2 : Nat) : Int)) ≤ out.length
  | [] => Nat.le_refl _
  | x :: l => by
    have := three_cnt l
    simp only [List.countP_cons, List.length_cons, beq_iff_eq]
    split <;> split <;> split <;> omega
theorem lsRefs3 (out : List EventM) (n t : Int) : lsRefs out n t 3 = lsRef out n t 0 out.length ++ lsRef out n t 1 out.length ++ lsRef out n t 2 out.length := by
  simp only [lsRefs, List.nil_append]
theorem lsRefs_cnt (out : List EventM) (n t : Int) : (lsRefs out n t 3).length ≤ out.length := by
  have h0 := lsRef_cnt (out := out) (n := n) (t := t) (b := 0) (Nat.le_refl _)
  have h1 := lsRef_cnt (out := out) (n := n) (t := t) (b := 1) (Nat.le_refl _)
  have h2 := lsRef_cnt (out := out) (n := n) (t := t) (b := 2) (Nat.le_refl _)
  have := three_cnt out
  rw [List.take_length] at h0 h1 h2
  rw [lsRefs3, List.length_append, List.length_append]
  omega
theorem lsRefs_mem {out : List EventM} {n t : Int} {x : NameM} (h : x ∈ lsRefs out n t 3) : ∃ y ∈ out, evName y = x := by
  rw [lsRefs3, List.mem_append, List.mem_append] at h
  have hl := Nat.le_refl out.length
  rcases h with (h | h) | h <;>
  · obtain ⟨y, hy, _, hx⟩ := lsRef_mem hl h
    exact ⟨y, List.mem_of_mem_take hy, hx⟩
theorem lsRefs_sorted {out : List EventM} {n t : Int} (hs : out.Pairwise (fun x e => x.By = e.By → x.Seq < e.Seq)) : (lsRefs out n t 3).Pairwise LessP := by
  have hl := Nat.le_refl out.length
  have key : ∀ {b c : Nat}, b < c → ∀ x ∈ lsRef out n t b out.length, ∀ y ∈ lsRef out n t c out.length, LessP x y := fun hbc x hx y hy => by
    obtain ⟨u, _, hu, rfl⟩ := lsRef_mem hl hx
    obtain ⟨v, _, hv, rfl⟩ := lsRef_mem hl hy
    refine less_by ?_
    show u.By < v.By
    omega
  rw [lsRefs3, List.pairwise_append, List.pairwise_append]
  refine ⟨⟨lsRef_sorted hs hl, lsRef_sorted hs hl, key (by omega)⟩, lsRef_sorted hs hl, ?_⟩
  intro x hx y hy
  rcases List.mem_append.1 hx with hx | hx
  · exact key (by omega) x hx y hy
  · exact key (by omega) x hx y hy
/-- What holds of the events of a list that grows. -/
structure LsOk (out : List EventM) (t : Int) : Prop where
  good : GoodL out
  tick : ∀ x ∈ out, x.Tick < t
  by_ : ∀ x ∈ out, 0 ≤ x.By ∧ x.By ≤ 2 ∧ 0 ≤ x.Seq ∧ x.Seq ≤ out.length
theorem sameOp_zero : sameOpM zOpG zOp = true := by decide +kernel
theorem sameTerm_zero : sameTermM zTermG zTerm = true := by decide +kernel
theorem badRef_no {e : EventM} (hp : ∀ r ∈ e.Refs, possibleM r = true ∧ r ≠ evName e) (hs : e.Refs.Pairwise LessP) : ∀ i, i < e.Refs.length → badRef e i = false := fun i hi => by
  have g : ∀ j (hj : j < e.Refs.length), e.Refs.getD j default = e.Refs[j] := fun j hj => by rw [List.getD_eq_getElem?_getD, List.getElem?_eq_getElem hj, Option.getD_some]
  have h1 := hp e.Refs[i] (List.getElem_mem hi)
  unfold badRef
  rw [g i hi, h1.1]
  have h2 : sameName e.Refs[i] (evName e) = false := by
    rw [Bool.eq_false_iff]
    intro hq
    apply h1.2
    unfold sameName at hq
    cases hx : e.Refs[i]; cases hy : evName e
    rw [hx, hy] at hq
    simpa using hq
  rw [h2]
  by_cases h0 : 0 < i
  · have h3 : lessM e.Refs[i - 1] e.Refs[i] = true := (List.pairwise_iff_getElem.1 hs) (i - 1) i (by omega) hi (by omega)
    rw [g (i - 1) (by omega), h3]
    simp
  · simp [h0]
theorem lsEv_valid {out : List EventM} {n t : Int} (h : LsOk out t) (hn : 0 ≤ n ∧ n ≤ 4096) (ht : 0 ≤ t ∧ t ≤ 1000) (ho : out.length ≤ 16) (hnew : ∀ x ∈ out, evName x ≠ evName (lsEv out n t)) : validM (lsEv out n t) = 0 := by
  have hrl : (lsEv out n t).Refs.length ≤ 16 := Nat.le_trans (lsRefs_cnt out n t) ho
  have hc : cntN (fun x : EventM => x.By == n.tmod 3) out out.length ≤ out.length := cntN_le _ _ _
  have hb := Int.tmod_nonneg (b := 3) (a := n) hn.1
  have hb2 := Int.tmod_lt_of_pos n (b := 3) (by omega)
  have hk : (lsEv out n t).Kind = 5 ∨ (lsEv out n t).Kind = 1 := by
    show (if _ then _ else _) = _ ∨ (if _ then _ else _) = _
    split <;> simp
  have hop : (ofM (lsEv out n t).Kind).op = false := by rw [of_op]; simp; omega
  have htm : (ofM (lsEv out n t).Kind).term = false := by rw [of_term]; simp; omega
  refine valid_all ?_ ⟨?_, ?_, ?_, ?_⟩ (badRef_no (fun r hr => ?_) (lsRefs_sorted (good_seq h.good))) ?_ ?_
  · unfold limM
    rw [hop]
    simp only [Bool.or_eq_false_iff, decide_eq_false_iff_not, Bool.false_and, and_true]
    exact ⟨⟨by omega, by show ¬ 16 < 0; omega⟩, by show ¬ 8 < 0; omega⟩
  · unfold bad1 possibleM withinM
    have e1 : (evName (lsEv out n t)).By = n.tmod 3 := rfl
    have e2 : (evName (lsEv out n t)).Seq = ((cntN (fun x : EventM => x.By == n.tmod 3) out out.length : Nat) : Int) := rfl
    have e3 : (lsEv out n t).Tick = t := rfl
    rw [e1, e2, e3]
    have : 0 ≤ (lsEv out n t).Kind ∧ (lsEv out n t).Kind ≤ 6 := by omega
    simp [this.1, this.2]
    omega
  · unfold bad2
    rw [show (lsEv out n t).Op = zOpG from rfl, show (lsEv out n t).Term = zTermG from rfl, sameOp_zero, sameTerm_zero]
    simp
  · unfold bad3
    rw [of_id, of_posts, of_n, show (lsEv out n t).Posts = [] from rfl]
    by_cases hq : (n.tdiv 12).tmod 2 = 0
    · have : (lsEv out n t).Kind = 5 := by show (if _ then _ else _) = _; rw [if_pos hq]
      rw [this]
      simp
    · have : (lsEv out n t).Kind = 1 := by show (if _ then _ else _) = _; rw [if_neg hq]
      rw [this]
      have e1 : (lsEv out n t).ID = idZ := by show (if _ then _ else _) = _; rw [if_neg hq]
      have e2 : (lsEv out n t).N = 0 := by show (if _ then _ else _) = _; rw [if_neg hq]
      rw [e1, e2]
      simp [sameID, idZ]
  · have : 0 ≤ (lsEv out n t).N ∧ (lsEv out n t).N ≤ 1048576 := by
      have e : (lsEv out n t).N = if (n.tdiv 12).tmod 2 = 0 then n.tdiv 24 else 0 := rfl
      rw [e]
      have h1 : 0 ≤ n.tdiv 24 := by rw [Int.tdiv_eq_ediv_of_nonneg hn.1]; omega
      have h2 : n.tdiv 24 ≤ 4096 := by rw [Int.tdiv_eq_ediv_of_nonneg hn.1]; omega
      split <;> omega
    unfold withinM
    simp [this.1, this.2]
  · obtain ⟨y, hy, rfl⟩ := lsRefs_mem hr
    refine ⟨?_, hnew y hy⟩
    have h1 := h.by_ y hy
    unfold possibleM
    show (decide (0 ≤ y.By) && decide (y.By < 6) && decide (0 ≤ y.Seq) && decide (y.Seq ≤ 63)) = true
    simp
    omega
  · unfold bad5
    rw [htm]; rfl
  · intro i hi
    exact absurd hi (Nat.not_lt_zero i)
theorem lsOk_next {out : List EventM} {n t : Int} (h : LsOk out t) (hn : 0 ≤ n ∧ n ≤ 4096) (ht : 0 ≤ t ∧ t ≤ 1000) (ho : out.length ≤ 16) : LsOk (out ++ [lsEv out n t]) (t + 1 + (n.tdiv 48).tmod 2) := by
  have hcf : ((cntN (fun x : EventM => x.By == n.tmod 3) out out.length : Nat) : Int) = (lsEv out n t).Seq := rfl
  have hcnt : ((out.countP (isBy (lsEv out n t)) : Nat) : Int) = (lsEv out n t).Seq := by
    rw [← hcf, count_full]
    rfl
  have hnew : ∀ x ∈ out, evName x ≠ evName (lsEv out n t) := fun x hx hq => by
    have hb : x.By = (lsEv out n t).By := congrArg NameM.By hq
    have hs : x.Seq = (lsEv out n t).Seq := congrArg NameM.Seq hq
    have h7 := good_cnt h.good x hx
    have : isBy x = isBy (lsEv out n t) := by funext z; unfold isBy; rw [hb]
    rw [this] at h7
    omega
  have hb := Int.tmod_nonneg (b := 3) (a := n) hn.1
  have hb2 := Int.tmod_lt_of_pos n (b := 3) (by omega)
  have h48 : 0 ≤ (n.tdiv 48).tmod 2 := Int.tmod_nonneg _ (by rw [Int.tdiv_eq_ediv_of_nonneg hn.1]; omega)
  refine ⟨.snoc h.good (fun x hx => h.tick x hx) (lsEv_valid h hn ht ho hnew) hnew hcnt (fun r hr => lsRefs_mem hr), ?_, ?_⟩
  · intro x hx
    rw [List.mem_append, List.mem_singleton] at hx
    rcases hx with hx | rfl
    · have := h.tick x hx; omega
    · show t < _; omega
  · intro x hx
    rw [List.length_append, List.length_singleton]
    rw [List.mem_append, List.mem_singleton] at hx
    rcases hx with hx | rfl
    · have := h.by_ x hx; omega
    · have hl := List.countP_le_length (p := isBy (lsEv out n t)) (l := out)
      have e1 : (lsEv out n t).By = n.tmod 3 := rfl
      rw [e1]
      omega
theorem lsSt_ok (l : List Int) : ∀ i, i ≤ 16 → LsOk (lsSt l i).1 (lsSt l i).2
  | 0, _ => ⟨.nil, by simp [lsSt_zero], by simp [lsSt_zero]⟩
  | i + 1, hi => by
    have h := lsSt_ok l i (by omega)
    have ht := lsSt_tick l i
    have hl := lsSt_len l i
    rw [lsSt]
    exact lsOk_next h (lsN_rng l i) (by omega) (by omega)
theorem listN_le (l : List Int) : (atM l 1 9).toNat ≤ 8 := by
  have := atM_range (l := l) (i := 1) (m := 9) (by omega)
  omega
theorem listG_st (l : List Int) : LsOk (listG l) (lsSt l (atM l 1 9).toNat).2 := lsSt_ok l _ (by have := listN_le l; omega)
theorem listG_good (l : List Int) : GoodL (listG l) := (listG_st l).good
theorem listG_len (l : List Int) : (listG l).length = (atM l 1 9).toNat := lsSt_len l _
theorem listG_closed (l : List Int) : closedM (listG l) = (((listG l).length : Int), 0) := closed_good (listG_good l) (by have := listN_le l; rw [listG_len]; omega)
theorem listG_sort (l : List Int) : sortM (listG l) = listG l := sortM_id (good_sorted (listG_good l))
end Go.Proofs.YtabjaaonfaejmaaGreatDoor

namespace Go.Proofs.YtabjaaonfaejmaaGreatDoor
open Go.Av

theorem valid_inv {e : EventM} (h : validM e = 0) : limM e = false ∧ (bad1 e = false ∧ bad2 e = false ∧ bad3 e = false ∧ withinM e.N 1048576 = true) ∧ (∀ i, i < e.Refs.length → badRef e i = false) ∧ bad5 e = false ∧ (∀ i, i < e.Posts.length → badPost e i = false) := by
  unfold validM at h
  split at h
  · cases h
  rename_i h0
  split at h
  · cases h
  rename_i h1
  split at h
  · cases h
  rename_i h2
  split at h
  · cases h
  rename_i h3
  split at h
  · cases h
  rename_i h4
  simp only [not_or, Bool.not_eq_true, Bool.not_eq_false, not_exists, not_and] at h0 h1 h2 h3 h4
  exact ⟨h0, h1, h2, h3, h4⟩
def shiftM (m : Int) (e : EventM) : EventM := { e with Tick := e.Tick + m }
theorem valid_shift {e : EventM} {m : Int} (h : validM e = 0) (hm : 0 ≤ m) (ht : e.Tick + m ≤ 1048576) : validM (shiftM m e) = 0 := by
  obtain ⟨h0, ⟨h1, h2, h3, h4⟩, hr, h5, hp⟩ := valid_inv h
  refine valid_all (e := shiftM m e) h0 ⟨?_, h2, h3, h4⟩ hr h5 hp
  unfold bad1 withinM at h1 ⊢
  have e1 : evName (shiftM m e) = evName e := rfl
  have e2 : (shiftM m e).Tick = e.Tick + m := rfl
  have e3 : (shiftM m e).Kind = e.Kind := rfl
  rw [e1, e2, e3]
  simp only [Bool.or_eq_false_iff, Bool.not_eq_false', Bool.and_eq_true, decide_eq_true_eq] at h1 ⊢
  refine ⟨⟨h1.1.1, ?_⟩, h1.2⟩
  omega
theorem valid_tick {e : EventM} (h : validM e = 0) : 0 ≤ e.Tick ∧ e.Tick ≤ 1048576 := by
  obtain ⟨h0, ⟨h1, h2, h3, h4⟩, hr, h5, hp⟩ := valid_inv h
  unfold bad1 withinM at h1
  simp only [Bool.or_eq_false_iff, Bool.not_eq_false', Bool.and_eq_true, decide_eq_true_eq] at h1
  exact h1.1.2
theorem good_shift {s : List EventM} (h : GoodL s) {m : Int} (hm : 0 ≤ m) : (∀ x ∈ s, x.Tick + m ≤ 1048576) → GoodL (s.map (shiftM m)) := by
  induction h with
  | nil => intro _; exact .nil
  | @snoc s e h1 h2 h3 h4 h5 h6 ih =>
    intro hx
    rw [List.map_append]
    refine .snoc (ih fun x h => hx x (List.mem_append.2 (.inl h))) ?_ (valid_shift h3 hm (hx e (by simp))) ?_ ?_ ?_
    · intro x hxm
      obtain ⟨y, hy, rfl⟩ := List.mem_map.1 hxm
      have := h2 y hy
      show y.Tick + m < e.Tick + m
      omega
    · intro x hxm
      obtain ⟨y, hy, rfl⟩ := List.mem_map.1 hxm
      exact h4 y hy
    · rw [List.countP_map]
      exact h5
    · intro n hn
      obtain ⟨y, hy, hq⟩ := h6 n hn
      exact ⟨shiftM m y, List.mem_map.2 ⟨y, hy, rfl⟩, hq⟩
theorem drop_getD {l : List EventM} {j : Nat} (h : j < l.length) : l = l.take j ++ l.getD j default :: l.drop (j + 1) := by
  rw [List.getD_eq_getElem?_getD, List.getElem?_eq_getElem h, Option.getD_some, ← List.drop_eq_getElem_cons h, List.take_append_drop]
theorem mem_less {l : List EventM} {j : Nat} {x : EventM} (h : x ∈ l.take j ++ l.drop (j + 1)) : x ∈ l := by
  rcases List.mem_append.1 h with h | h
  · exact List.mem_of_mem_take h
  · exact List.mem_of_mem_drop h
/-- The list without the last event of a person that no other one refers to. -/
theorem good_less {s : List EventM} (h : GoodL s) : ∀ j, j < s.length → (∀ x ∈ s.drop (j + 1), x.By ≠ (s.getD j default).By) → (∀ x ∈ s, ∀ n ∈ x.Refs, n ≠ evName (s.getD j default)) → GoodL (s.take j ++ s.drop (j + 1)) := by
  induction h with
  | nil => intro j hj; exact absurd hj (Nat.not_lt_zero j)
  | @snoc s e h1 h2 h3 h4 h5 h6 ih =>
    intro j hj hb hr
    by_cases hjs : j < s.length
    · have hg : (s ++ [e]).getD j default = s.getD j default := by
        rw [List.getD_eq_getElem?_getD, List.getElem?_append_left hjs, ← List.getD_eq_getElem?_getD]
      rw [hg] at hb hr
      rw [List.take_append_of_le_length (by omega), List.drop_append_of_le_length (by omega), ← List.append_assoc]
      rw [List.drop_append_of_le_length (by omega)] at hb
      have hd := drop_getD hjs
      refine .snoc (ih j hjs (fun x hx => hb x (List.mem_append.2 (.inl hx))) (fun x hx => hr x (List.mem_append.2 (.inl hx)))) (fun x hx => h2 x (mem_less hx)) h3 (fun x hx => h4 x (mem_less hx)) ?_ ?_
      · have hbe := hb e (by simp)
        have hno : isBy e (s.getD j default) = false := by
          unfold isBy
          rw [beq_eq_false_iff_ne]
          exact fun hq => hbe hq.symm
        rw [← h5]
        conv => rhs; rw [hd]
        rw [List.countP_append, List.countP_append, List.countP_cons, if_neg (by rw [hno]; exact Bool.false_ne_true)]
        rfl
      · intro n hn
        obtain ⟨x, hx, hq⟩ := h6 n hn
        refine ⟨x, ?_, hq⟩
        rw [hd, List.mem_append, List.mem_cons] at hx
        rw [List.mem_append]
        rcases hx with hx | rfl | hx
        · exact .inl hx
        · exact absurd hq.symm (hr e (by simp) n hn)
        · exact .inr hx
    · have hl : j = s.length := by simp at hj; omega
      subst hl
      rw [List.take_append_of_le_length (Nat.le_refl _), List.take_length, List.drop_of_length_le (by simp), List.append_nil]
      exact h1
end Go.Proofs.YtabjaaonfaejmaaGreatDoor

namespace Go.Proofs.YtabjaaonfaejmaaGreatDoor
open Go.Av

theorem good_valid {s : List EventM} (h : GoodL s) : ∀ x ∈ s, validM x = 0 := by
  induction h with
  | nil => simp
  | @snoc s e h1 h2 h3 h4 h5 h6 ih =>
    intro x hx
    rcases List.mem_append.1 hx with hx | hx
    · exact ih x hx
    · rw [List.mem_singleton.1 hx]; exact h3
theorem i64_small {n : Int} (h1 : -1000000000 ≤ n) (h2 : n ≤ 1000000000) : I64 n := by unfold I64; omega
theorem idM_ok (n : Int) : idOK (idM n) := by
  have h1 := Int.tmod_lt_of_pos n (b := 4) (by omega)
  have h2 := Int.lt_tmod_of_pos n (b := 4) (by omega)
  have h3 := Int.tmod_lt_of_pos (n.tdiv 4) (b := 8) (by omega)
  have h4 := Int.lt_tmod_of_pos (n.tdiv 4) (b := 8) (by omega)
  have h5 := Int.tmod_lt_of_pos (n.tdiv 32) (b := 3) (by omega)
  have h6 := Int.lt_tmod_of_pos (n.tdiv 32) (b := 3) (by omega)
  unfold idM
  exact ⟨i64_small (by dsimp only; omega) (by dsimp only; omega), i64_small (by dsimp only; omega) (by dsimp only; omega), i64_small (by dsimp only; omega) (by dsimp only; omega)⟩
theorem lsEv_ok {out : List EventM} {n t : Int} (h : LsOk out t) (hn : 0 ≤ n ∧ n ≤ 4096) (ht : 0 ≤ t ∧ t ≤ 1000) (ho : out.length ≤ 16) : OkEv (lsEv out n t) where
  by_ := by
    have hb := Int.tmod_nonneg (b := 3) (a := n) hn.1
    have hb2 := Int.tmod_lt_of_pos n (b := 3) (by omega)
    exact i64_small (by show _ ≤ n.tmod 3; omega) (by show n.tmod 3 ≤ _; omega)
  seq := by
    have hc : cntN (fun x : EventM => x.By == n.tmod 3) out out.length ≤ out.length := cntN_le _ _ _
    exact i64_small (by show _ ≤ ((cntN (fun x : EventM => x.By == n.tmod 3) out out.length : Nat) : Int); omega) (by show ((cntN (fun x : EventM => x.By == n.tmod 3) out out.length : Nat) : Int) ≤ _; omega)
  tick := i64_small (by show _ ≤ t; omega) (by show t ≤ _; omega)
  kind := by
    have e : (lsEv out n t).Kind = if (n.tdiv 12).tmod 2 = 0 then 5 else 1 := rfl
    rw [e]
    split <;> exact i64_small (by omega) (by omega)
  n := by
    have e : (lsEv out n t).N = if (n.tdiv 12).tmod 2 = 0 then n.tdiv 24 else 0 := rfl
    have h1 : 0 ≤ n.tdiv 24 := by rw [Int.tdiv_eq_ediv_of_nonneg hn.1]; omega
    have h2 : n.tdiv 24 ≤ 4096 := by rw [Int.tdiv_eq_ediv_of_nonneg hn.1]; omega
    rw [e]
    split <;> exact i64_small (by omega) (by omega)
  id := by
    have e : (lsEv out n t).ID = if (n.tdiv 12).tmod 2 = 0 then idM n else idZ := rfl
    rw [e]
    split
    · exact idM_ok n
    · exact ⟨i64z, i64z, i64z⟩
  tk := i64z
  tl := i64z
  refs := fun r hr => by
    obtain ⟨y, hy, rfl⟩ := lsRefs_mem hr
    have h1 := h.by_ y hy
    exact ⟨i64_small (by show _ ≤ y.By; omega) (by show y.By ≤ _; omega), i64_small (by show _ ≤ y.Seq; omega) (by show y.Seq ≤ _; omega)⟩
  nrefs := by
    have := lsRefs_cnt out n t
    show (lsRefs out n t 3).length ≤ _
    omega
  op := okZ
  name := by show (0 : Nat) ≤ 900000; omega
  see := by show (0 : Nat) ≤ 900000; omega
  broader := by simp [lsEv, zTermG]
  nbroader := by show (0 : Nat) ≤ 100000; omega
  posts := by simp [lsEv]
  nposts := by show (0 : Nat) ≤ 1000; omega
theorem lsSt_okev (l : List Int) : ∀ i, i ≤ 16 → ∀ x ∈ (lsSt l i).1, OkEv x
  | 0, _ => by simp [lsSt_zero]
  | i + 1, hi => by
    have h := lsSt_ok l i (by omega)
    have ht := lsSt_tick l i
    have hl := lsSt_len l i
    intro x hx
    rw [lsSt] at hx
    rcases List.mem_append.1 hx with hx | hx
    · exact lsSt_okev l i (by omega) x hx
    · rw [List.mem_singleton.1 hx]
      exact lsEv_ok h (lsN_rng l i) (by omega) (by omega)
theorem listG_okev (l : List Int) : ∀ x ∈ listG l, OkEv x := lsSt_okev l _ (by have := listN_le l; omega)
theorem listG_le (l : List Int) : (listG l).length ≤ 8 := by have := listN_le l; rw [listG_len]; omega
theorem listG_tick (l : List Int) : ∀ x ∈ listG l, 0 ≤ x.Tick ∧ x.Tick ≤ 1000 := fun x hx => by
  have h1 := valid_tick (good_valid (listG_good l) x hx)
  have h2 := (listG_st l).tick x hx
  have h3 := lsSt_tick l (atM l 1 9).toNat
  have h4 := listN_le l
  omega
theorem ok_shift {e : EventM} {m : Int} (h : OkEv e) (ht : I64 (e.Tick + m)) : OkEv (shiftM m e) where
  by_ := h.by_
  seq := h.seq
  tick := ht
  kind := h.kind
  n := h.n
  id := h.id
  tk := h.tk
  tl := h.tl
  refs := h.refs
  nrefs := h.nrefs
  op := h.op
  name := h.name
  see := h.see
  broader := h.broader
  nbroader := h.nbroader
  posts := h.posts
  nposts := h.nposts
/-- The first i ticks are moved. -/
def mvN (l : List EventM) (m : Int) (i : Nat) : List EventM := (l.take i).map (shiftM m) ++ l.drop i
theorem mvN_zero (l : List EventM) (m : Int) : mvN l m 0 = l := by simp [mvN]
theorem mvN_len (l : List EventM) (m : Int) (i : Nat) : (mvN l m i).length = l.length := by simp [mvN]; omega
theorem mvN_all (l : List EventM) (m : Int) : mvN l m l.length = l.map (shiftM m) := by simp [mvN]
theorem mvN_get {l : List EventM} {m : Int} {i : Nat} (h : i < l.length) : (mvN l m i).getD i default = l.getD i default := by
  rw [List.getD_eq_getElem?_getD, List.getD_eq_getElem?_getD, mvN, List.getElem?_append_right (by simp; omega)]
  congr 1
  simp only [List.length_map, List.length_take, List.getElem?_drop]
  congr 1
  omega
theorem mvN_set {l : List EventM} {m : Int} {i : Nat} (h : i < l.length) : (mvN l m i).set i (shiftM m (l.getD i default)) = mvN l m (i + 1) := by
  have hl : ((l.take i).map (shiftM m)).length = i := by simp; omega
  rw [mvN, List.set_append_right _ _ (by omega), hl, Nat.sub_self, mvN, take_step l h, List.map_append, List.append_assoc]
  congr 1
  rw [List.getD_eq_getElem?_getD, List.getElem?_eq_getElem h, Option.getD_some, List.drop_eq_getElem_cons h]
  rfl
/-- The last of the first i events of a person; -1: there is none. -/
def lastN (l : List EventM) (w : Int) : Nat → Int
  | 0 => -1
  | i + 1 => if (l.getD i default).By = w then (i : Int) else lastN l w i
theorem lastN_rng (l : List EventM) (w : Int) : ∀ i, -1 ≤ lastN l w i ∧ lastN l w i < i ∨ lastN l w i = -1
  | 0 => .inr rfl
  | i + 1 => by
    rw [lastN]
    have := lastN_rng l w i
    split <;> omega
theorem lastN_is (l : List EventM) (w : Int) : ∀ (i : Nat) {j : Nat}, lastN l w i = (j : Int) → j < i ∧ (l.getD j default).By = w ∧ ∀ k, j < k → k < i → (l.getD k default).By ≠ w
  | 0, j, h => by rw [lastN] at h; omega
  | i + 1, j, h => by
    rw [lastN] at h
    split at h
    · rename_i hb
      have : j = i := by omega
      subst this
      exact ⟨by omega, hb, fun k h1 h2 => by omega⟩
    · rename_i hb
      obtain ⟨h1, h2, h3⟩ := lastN_is l w i h
      refine ⟨by omega, h2, fun k hk hk2 => ?_⟩
      by_cases hki : k = i
      · rw [hki]; exact hb
      · exact h3 k hk (by omega)
/-- The list without element j. -/
def lessN (l : List EventM) (j : Nat) : List EventM := l.take j ++ l.drop (j + 1)
theorem less_len {l : List EventM} {j : Nat} (h : j < l.length) : (l.take j ++ l.drop (j + 1)).length = l.length - 1 := by simp; omega
/-- The list without that event is closed. -/
theorem less_closed {l : List EventM} (hg : GoodL l) (hl : l.length ≤ 384) {w : Int} {j : Nat} (hj : lastN l w l.length = (j : Int)) (hr : ∀ i, i < l.length → ∀ k, k < (l.getD i default).Refs.length → (l.getD i default).Refs.getD k default ≠ evName (l.getD j default)) : closedM (l.take j ++ l.drop (j + 1)) = (((l.length - 1 : Nat) : Int), 0) := by
  obtain ⟨h1, h2, h3⟩ := lastN_is l w l.length hj
  have := closed_good (good_less hg j h1 (fun x hx => by
      obtain ⟨i, hi, rfl⟩ := List.getElem_of_mem hx
      have hi' : j + 1 + i < l.length := by simp at hi; omega
      have := h3 (j + 1 + i) (by omega) hi'
      rw [h2, List.getElem_drop]
      rwa [List.getD_eq_getElem?_getD, List.getElem?_eq_getElem hi', Option.getD_some] at this) (fun x hx n hn => by
      obtain ⟨i, hi, rfl⟩ := List.getElem_of_mem hx
      obtain ⟨k, hk, rfl⟩ := List.getElem_of_mem hn
      have hgi : l.getD i default = l[i] := by rw [List.getD_eq_getElem?_getD, List.getElem?_eq_getElem hi, Option.getD_some]
      have := hr i hi k (by rw [hgi]; exact hk)
      rw [hgi, List.getD_eq_getElem?_getD (l := l[i].Refs), List.getElem?_eq_getElem hk, Option.getD_some] at this
      exact this)) (by rw [less_len h1]; omega)
  rw [this, less_len h1]
theorem take_closed {l : List EventM} (hg : GoodL l) (hl : l.length ≤ 384) {k : Nat} (hk : k ≤ l.length) : closedM (l.take k) = ((k : Int), 0) := by
  rw [closed_good (good_take hg k) (by simp; omega), List.length_take, Nat.min_eq_left hk]
end Go.Proofs.YtabjaaonfaejmaaGreatDoor

namespace Go.Proofs.YtabjaaonfaejmaaGreatDoor
open Go.Av

/-- The references up to i of them, the new ones made. -/
def fillN (l : List NameM) (b : Int) (i : Nat) : List NameM := l ++ (List.range (i - l.length)).map fun j => ⟨b, ((l.length + j : Nat) : Int)⟩
def fillR (l : List NameM) (b : Int) : List NameM := fillN l b (max 17 l.length)
theorem fillN_len {l : List NameM} {b : Int} {i : Nat} (h : l.length ≤ i) : (fillN l b i).length = i := by simp [fillN]; omega
theorem fillN_zero (l : List NameM) (b : Int) : fillN l b l.length = l := by simp [fillN]
theorem fillN_succ {l : List NameM} {b : Int} {i : Nat} (h : l.length ≤ i) : fillN l b (i + 1) = fillN l b i ++ [⟨b, (i : Int)⟩] := by
  have e : i + 1 - l.length = (i - l.length) + 1 := by omega
  rw [fillN, e, List.range_succ, List.map_append, fillN, List.append_assoc]
  congr 2
  simp only [List.map_cons, List.map_nil]
  rw [show l.length + (i - l.length) = i by omega]
def sufL : List ByteArray := [⟨#[]⟩, ⟨#[64]⟩, ⟨#[32]⟩, ⟨#[32, 32, 120]⟩, ⟨#[32, 111, 102, 32, 116, 104, 101, 32, 108, 121, 114, 101, 32, 111, 102, 32, 114, 111, 109, 101]⟩]
def seeL : List ByteArray := [⟨#[]⟩, ⟨#[97, 110, 110, 97]⟩, ⟨#[64]⟩, ⟨#[32]⟩]
def sp7 (l : List NameM) (b : Int) : List NameM := if 0 < l.length then l.set (aroundM b l.length).toNat (l.getD 0 default) else l
def sp13 (l : List PostM) (b : Int) : List PostM := match l with
  | [] => []
  | p :: ps => { ID := ⟨IntKind.i64.wrap (p.ID.By + (b.tdiv 5).tmod 2), p.ID.Seq, p.ID.K⟩, Path := p.Path.take (aroundM b (p.Path.length + 1)).toNat, Main := p.Main } :: ps
def spM (c : Int) (e : EventM) (b : Int) : EventM :=
  if c = 0 then { e with By := b } else if c = 1 then { e with Seq := b } else if c = 2 then { e with Tick := b } else if c = 3 then { e with Kind := b } else if c = 4 then { e with N := b }
  else if c = 5 then { e with ID := { e.ID with K := b } }
  else if c = 6 then { e with Refs := e.Refs ++ [⟨b, b.tdiv 7⟩] }
  else if c = 7 then { e with Refs := sp7 e.Refs b }
  else if c = 8 then { e with Term := { e.Term with Name := wordM b ++ sufL.getD (aroundM (b.tdiv 8) 5).toNat default } }
  else if c = 9 then { e with Term := { e.Term with See := seeL.getD (aroundM b 4).toNat default } }
  else if c = 10 then { e with Term := { e.Term with Broader := e.Term.Broader ++ [wordM b, ⟨#[]⟩, wordM b] } }
  else if c = 11 then { e with Term := { e.Term with Lang := b } }
  else if c = 12 then { e with Posts := e.Posts ++ [{ ID := e.ID, Path := [wordM b], Main := false }] }
  else if c = 13 then { e with Posts := sp13 e.Posts b }
  else if c = 14 then { e with Op := { e.Op with N := b } }
  else { e with Refs := fillR e.Refs b }
def spoiltM (e : EventM) (how b : Int) : EventM := spM (aroundM how 16) e b

theorem wordM_size (n : Int) : (wordM n).size ≤ 12 := by
  have h := aroundM_range (n := n) (m := 8) (by omega)
  have key : ∀ i : Fin 8, (wordsL.getD i.val default).size ≤ 12 := by decide
  have := key ⟨(aroundM n 8).toNat, by omega⟩
  exact this
theorem sufL_size {i : Nat} (h : i < 5) : (sufL.getD i default).size ≤ 20 := by
  have key : ∀ i : Fin 5, (sufL.getD i.val default).size ≤ 20 := by decide
  exact key ⟨i, h⟩
theorem seeL_size {i : Nat} (h : i < 4) : (seeL.getD i default).size ≤ 20 := by
  have key : ∀ i : Fin 4, (seeL.getD i.val default).size ≤ 20 := by decide
  exact key ⟨i, h⟩
/-- A small operation. -/
structure SmOp (o : OpM) : Prop where
  head : ∀ x ∈ headL o, I64 x
  pairs : ∀ p ∈ o.Pairs, I64 p.1 ∧ I64 p.2
  refs : ∀ r ∈ o.Refs, idOK r
  text : o.Text.size ≤ 100
  texts : ∀ s ∈ o.Texts, s.size ≤ 100
  ntexts : o.Texts.length ≤ 10
  npairs : o.Pairs.length ≤ 10
  nrefs : o.Refs.length ≤ 10
theorem bytesM_sz {s : ByteArray} {c : Nat} (h : s.size ≤ c) (hc : c ≤ 1000000) : (bytesM s).length ≤ 9 + c := by
  have h1 := intM_le (n := (s.size : Int)) (by unfold I64; omega)
  rw [bytesM, List.length_append, strB_len]
  omega
theorem intsM_flat {α : Type} {f : α → List Int} {l : List α} {c : Nat} (hf : ∀ x ∈ l, (f x).length ≤ c ∧ ∀ y ∈ f x, I64 y) (hl : c * l.length ≤ 1000000) : (intsM (l.flatMap f)).length ≤ 9 + 9 * (c * l.length) := by
  have h1 := flat_le f c l fun x hx => (hf x hx).1
  have h2 := intsM_le (l := l.flatMap f) (fun y hy => by
    obtain ⟨x, hx, hy⟩ := List.mem_flatMap.1 hy
    exact (hf x hx).2 y hy) (by omega)
  omega
theorem sm_op {o : OpM} (h : SmOp o) : OkOp o where
  head := h.head
  pairs := h.pairs
  refs := h.refs
  text := by have := h.text; omega
  texts := fun s hs => by have := h.texts s hs; omega
  ntexts := by have := h.ntexts; omega
  npairs := by have := h.npairs; omega
  nrefs := by have := h.nrefs; omega
  all := by
    have h0 := intsM_le h.head (by simp [headL])
    have e0 : (headL o).length = 13 := rfl
    have h1 := bytesM_sz h.text (by omega)
    have h2 : (strsM o.Texts).length ≤ 9 + 109 * o.Texts.length := by
      rw [strsM, strsN, preM_all, List.length_append]
      have ha := flat_le bytesM 109 o.Texts fun s hs => bytesM_sz (h.texts s hs) (by omega)
      have hb := intM_le (n := (o.Texts.length : Int)) (by have := h.ntexts; unfold I64; omega)
      omega
    have n1 := h.ntexts
    have n2 := h.npairs
    have n3 := h.nrefs
    have h3 := intsM_flat (f := pairI) (l := o.Pairs) (c := 2) (fun p hp => ⟨Nat.le_refl _, fun y hy => by
      have := h.pairs p hp
      simp only [pairI, List.mem_cons, List.not_mem_nil, or_false] at hy
      rcases hy with rfl | rfl
      · exact this.1
      · exact this.2⟩) (by omega)
    have h4 := intsM_flat (f := idI) (l := o.Refs) (c := 3) (fun p hp => ⟨Nat.le_refl _, fun y hy => by
      have := h.refs p hp
      simp only [idI, List.mem_cons, List.not_mem_nil, or_false] at hy
      rcases hy with rfl | rfl | rfl
      · exact this.1
      · exact this.2.1
      · exact this.2.2⟩) (by omega)
    rw [opB, List.length_append, List.length_append, List.length_append, List.length_append]
    omega
/-- A small event; k says how often a thing was changed. -/
structure SmEv (k : Nat) (e : EventM) : Prop where
  by_ : I64 e.By
  seq : I64 e.Seq
  tick : I64 e.Tick
  kind : I64 e.Kind
  n : I64 e.N
  id : idOK e.ID
  tk : I64 e.Term.Kind
  tl : I64 e.Term.Lang
  refs : ∀ r ∈ e.Refs, I64 r.By ∧ I64 r.Seq
  nrefs : e.Refs.length ≤ 20 * (k + 1)
  op : SmOp e.Op
  name : e.Term.Name.size ≤ 100
  see : e.Term.See.size ≤ 100
  broader : ∀ s ∈ e.Term.Broader, s.size ≤ 100
  nbroader : e.Term.Broader.length ≤ 10 * (k + 1)
  posts : ∀ p ∈ e.Posts, idOK p.ID ∧ p.Path.length ≤ 10 ∧ ∀ s ∈ p.Path, s.size ≤ 100
  nposts : e.Posts.length ≤ 10 * (k + 1)
theorem sm_ev {k : Nat} {e : EventM} (h : SmEv k e) (hk : k ≤ 20) : OkEv e where
  by_ := h.by_
  seq := h.seq
  tick := h.tick
  kind := h.kind
  n := h.n
  id := h.id
  tk := h.tk
  tl := h.tl
  refs := h.refs
  nrefs := by have := h.nrefs; omega
  op := sm_op h.op
  name := by have := h.name; omega
  see := by have := h.see; omega
  broader := fun s hs => by have := h.broader s hs; omega
  nbroader := by have := h.nbroader; omega
  posts := fun p hp => by
    have := h.posts p hp
    exact ⟨this.1, by omega, fun s hs => by have := this.2.2 s hs; omega⟩
  nposts := by have := h.nposts; omega
theorem sm_up {k : Nat} {e : EventM} (h : SmEv k e) : SmEv (k + 1) e := { h with
  nrefs := by have := h.nrefs; omega
  nbroader := by have := h.nbroader; omega
  nposts := by have := h.nposts; omega }
theorem i64_wrap (n : Int) : I64 (IntKind.i64.wrap n) := by
  rw [IntKind.wrap_i64]
  unfold I64
  omega
theorem i64_tdiv {n c : Int} (h : I64 n) (hc : 1 < c) : I64 (n.tdiv c) := by
  unfold I64 at *
  by_cases h0 : 0 ≤ n
  · rw [Int.tdiv_eq_ediv_of_nonneg h0]
    have h1 := Int.ediv_nonneg h0 (by omega : 0 ≤ c)
    have h2 := Int.ediv_le_self c h0
    omega
  · have e : n.tdiv c = -((-n).tdiv c) := by rw [Int.neg_tdiv]; omega
    rw [e, Int.tdiv_eq_ediv_of_nonneg (by omega)]
    have h1 := Int.ediv_nonneg (by omega : 0 ≤ -n) (by omega : 0 ≤ c)
    have h2 := Int.ediv_le_self c (by omega : 0 ≤ -n)
    have h3 : (-n) / c < 9223372036854775808 := by
      by_cases h4 : -n ≤ 9223372036854775807
      · omega
      · have : -n = 9223372036854775808 := by omega
        rw [this]
        exact Int.ediv_lt_self_of_pos_of_ne_one (by omega) (by omega)
    omega
theorem fillR_mem {l : List NameM} {b : Int} (hb : I64 b) (hl : l.length ≤ 100000) (h : ∀ r ∈ l, I64 r.By ∧ I64 r.Seq) : ∀ r ∈ fillR l b, I64 r.By ∧ I64 r.Seq := by
  intro r hr
  unfold fillR fillN at hr
  rcases List.mem_append.1 hr with hr | hr
  · exact h r hr
  · obtain ⟨j, hj, rfl⟩ := List.mem_map.1 hr
    have := List.mem_range.1 hj
    exact ⟨hb, i64_small (by dsimp only; omega) (by dsimp only; omega)⟩
theorem sm_sp {k : Nat} {e : EventM} {b : Int} (h : SmEv k e) (hk : k ≤ 20) (hb : I64 b) (c : Int) : SmEv (k + 1) (spM c e b) := by
  have h' := sm_up h
  unfold spM
  by_cases c0 : c = 0
  · rw [if_pos c0]
    exact { h' with by_ := hb }
  rw [if_neg c0]
  by_cases c1 : c = 1
  · rw [if_pos c1]
    exact { h' with seq := hb }
  rw [if_neg c1]
  by_cases c2 : c = 2
  · rw [if_pos c2]
    exact { h' with tick := hb }
  rw [if_neg c2]
  by_cases c3 : c = 3
  · rw [if_pos c3]
    exact { h' with kind := hb }
  rw [if_neg c3]
  by_cases c4 : c = 4
  · rw [if_pos c4]
    exact { h' with n := hb }
  rw [if_neg c4]
  by_cases c5 : c = 5
  · rw [if_pos c5]
    exact { h' with id := ⟨h'.id.1, h'.id.2.1, hb⟩ }
  rw [if_neg c5]
  by_cases c6 : c = 6
  · rw [if_pos c6]
    refine { h' with refs := fun r hr => ?_, nrefs := ?_ }
    · rcases List.mem_append.1 hr with hr | hr
      · exact h'.refs r hr
      · rw [List.mem_singleton.1 hr]; exact ⟨hb, i64_tdiv hb (by omega)⟩
    · have := h.nrefs
      show (e.Refs ++ [_]).length ≤ _
      rw [List.length_append, List.length_singleton]
      omega
  rw [if_neg c6]
  by_cases c7 : c = 7
  · rw [if_pos c7]
    refine { h' with refs := fun r hr => ?_, nrefs := ?_ }
    · have hr : r ∈ sp7 e.Refs b := hr
      unfold sp7 at hr
      split at hr
      · rename_i h0
        rcases List.mem_or_eq_of_mem_set hr with hr | hr
        · exact h'.refs r hr
        · rw [hr]; exact getD_all h'.refs h0
      · exact h'.refs r hr
    · have := h'.nrefs
      show (sp7 e.Refs b).length ≤ _
      unfold sp7
      split
      · rw [List.length_set]; exact this
      · exact this
  rw [if_neg c7]
  by_cases c8 : c = 8
  · rw [if_pos c8]
    refine { h' with name := ?_ }
    have h1 := wordM_size b
    have h2 := sufL_size (i := (aroundM (b.tdiv 8) 5).toNat) (by have := aroundM_range (n := b.tdiv 8) (m := 5) (by omega); omega)
    show (wordM b ++ sufL.getD _ default).size ≤ 100
    rw [ByteArray.size_append]
    omega
  rw [if_neg c8]
  by_cases c9 : c = 9
  · rw [if_pos c9]
    refine { h' with see := ?_ }
    have h2 := seeL_size (i := (aroundM b 4).toNat) (by have := aroundM_range (n := b) (m := 4) (by omega); omega)
    show (seeL.getD _ default).size ≤ 100
    omega
  rw [if_neg c9]
  by_cases c10 : c = 10
  · rw [if_pos c10]
    have h1 := wordM_size b
    refine { h' with broader := fun s hs => ?_, nbroader := ?_ }
    · rcases List.mem_append.1 hs with hs | hs
      · exact h'.broader s hs
      · simp only [List.mem_cons, List.not_mem_nil, or_false] at hs
        rcases hs with rfl | rfl | rfl
        · omega
        · decide
        · omega
    · have := h.nbroader
      show (e.Term.Broader ++ [_, _, _]).length ≤ _
      rw [List.length_append]
      simp only [List.length_cons, List.length_nil]
      omega
  rw [if_neg c10]
  by_cases c11 : c = 11
  · rw [if_pos c11]
    exact { h' with tl := hb }
  rw [if_neg c11]
  by_cases c12 : c = 12
  · rw [if_pos c12]
    have h1 := wordM_size b
    refine { h' with posts := fun p hp => ?_, nposts := ?_ }
    · rcases List.mem_append.1 hp with hp | hp
      · exact h'.posts p hp
      · rw [List.mem_singleton.1 hp]
        refine ⟨h'.id, by show ([wordM b]).length ≤ 10; simp, fun s hs => ?_⟩
        rw [List.mem_singleton.1 hs]
        omega
    · have := h.nposts
      show (e.Posts ++ [_]).length ≤ _
      rw [List.length_append, List.length_singleton]
      omega
  rw [if_neg c12]
  by_cases c13 : c = 13
  · rw [if_pos c13]
    have hps := h'.posts
    have hnp := h'.nposts
    refine { h' with posts := fun p hp => ?_, nposts := ?_ }
    · have hp : p ∈ sp13 e.Posts b := hp
      cases hq : e.Posts with
      | nil => rw [hq] at hp; simp [sp13] at hp
      | cons p0 ps =>
        rw [hq] at hp hps
        rcases List.mem_cons.1 hp with hp | hp
        · have h0 := hps p0 (by simp)
          rw [hp]
          refine ⟨⟨i64_wrap _, h0.1.2.1, h0.1.2.2⟩, ?_, fun s hs => h0.2.2 s (List.mem_of_mem_take hs)⟩
          show (p0.Path.take _).length ≤ 10
          rw [List.length_take]
          omega
        · exact hps p (List.mem_cons.2 (.inr hp))
    · show (sp13 e.Posts b).length ≤ _
      cases hq : e.Posts with
      | nil => simp [sp13]
      | cons p0 ps => rw [hq] at hnp; exact hnp
  rw [if_neg c13]
  by_cases c14 : c = 14
  · rw [if_pos c14]
    refine { h' with op := { h'.op with head := fun x hx => ?_ } }
    have hh := h'.op.head
    simp only [headL, List.mem_cons, List.not_mem_nil, or_false] at hx hh
    rcases hx with rfl | rfl | rfl | rfl | rfl | rfl | rfl | rfl | rfl | rfl | rfl | rfl | rfl
    · exact hh _ (by simp)
    · exact hh _ (by simp)
    · exact hh _ (by simp)
    · exact hh _ (by simp)
    · exact hh _ (by simp)
    · exact hh _ (by simp)
    · exact hh _ (by simp)
    · exact hh _ (by simp)
    · exact hh _ (by simp)
    · exact hh _ (by simp)
    · exact hb
    · exact hh _ (by simp)
    · exact hh _ (by simp)
  rw [if_neg c14]
  · have hn := h.nrefs
    refine { h' with refs := fillR_mem hb (by omega) h'.refs, nrefs := ?_ }
    show (fillR e.Refs b).length ≤ _
    rw [fillR, fillN_len (by omega)]
    omega
theorem smZ : SmOp zOpG where
  head := okZ.head
  pairs := by simp [zOpG]
  refs := by simp [zOpG]
  text := by decide
  texts := by simp [zOpG]
  ntexts := by decide
  npairs := by decide
  nrefs := by decide
end Go.Proofs.YtabjaaonfaejmaaGreatDoor

namespace Go.Proofs.YtabjaaonfaejmaaGreatDoor
open Go.Av

theorem evB_sm {k : Nat} {e : EventM} (h : SmEv k e) (hk : k ≤ 20) : (evB e).length ≤ 10000000000 := by
  have ho := sm_ev h hk
  have hop := ho.op.all
  have hr : (intsM (e.Refs.flatMap nameI)).length ≤ 9 + 9 * (2 * e.Refs.length) := by
    have hl := flatN_len (f := nameI) (k := 2) (fun _ => rfl) e.Refs e.Refs.length (Nat.le_refl _)
    rw [flatN_all] at hl
    have h1 := intsM_le (nameI_ok ho) (by have := h.nrefs; omega)
    rw [hl] at h1
    exact h1
  have hhd : ∀ x ∈ [e.By, e.Seq, e.Tick, e.Kind], I64 x := by
    simp only [List.forall_mem_cons]
    exact ⟨h.by_, h.seq, h.tick, h.kind, by simp⟩
  have h1 := intsM_le hhd (by simp)
  have hid : ∀ x ∈ idI e.ID ++ [e.N], I64 x := by
    simp only [idI, List.cons_append, List.nil_append, List.forall_mem_cons]
    exact ⟨h.id.1, h.id.2.1, h.id.2.2, h.n, by simp⟩
  have hi2 : ∀ x ∈ idI e.ID, I64 x := fun x hx => hid x (List.mem_append_left _ hx)
  have htk : ∀ x ∈ [e.Term.Kind, e.Term.Lang], I64 x := by
    simp only [List.forall_mem_cons]
    exact ⟨h.tk, h.tl, by simp⟩
  have h2 := intsM_le hid (by simp [idI])
  have h3 := intsM_le hi2 (by simp [idI])
  have h4 := intsM_le htk (by simp)
  have h5 : (strsM (e.Term.Name :: e.Term.See :: e.Term.Broader)).length ≤ 9 + 1000009 * (e.Term.Name :: e.Term.See :: e.Term.Broader).length := strsM_le (by
    simp only [List.forall_mem_cons]
    have := h.name
    have := h.see
    exact ⟨by omega, by omega, fun s hs => by have := h.broader s hs; omega⟩) (by have := h.nbroader; simp only [List.length_cons]; omega)
  have h6 : (e.Posts.flatMap postB).length ≤ 10000200 * e.Posts.length := flat_le postB 10000200 e.Posts fun p hp => by
    have hp' := h.posts p hp
    have q1 := strsM_le (l := p.Path) (fun s hs => by have := hp'.2.2 s hs; omega) (by omega)
    have q2 : (intM (if p.Main = true then 1 else 0)).length ≤ 9 := intM_le (by split <;> (unfold I64; omega))
    simp only [postB, List.length_append]
    omega
  have h7 : (intM (e.Posts.length : Int)).length ≤ 9 := intM_le (by have := h.nposts; unfold I64; omega)
  have n1 := h.nrefs
  have n2 := h.nbroader
  have n3 := h.nposts
  simp only [List.length_cons, List.length_nil, idI, List.length_append] at h1 h2 h3 h4 h5
  unfold evB headB tailB
  simp only [List.length_append]
  split
  · omega
  · split
    · simp only [List.length_append, idI]; omega
    · split
      · simp only [List.length_append, idI]; omega
      · split
        · simp only [idI]; omega
        · simp only [List.length_nil]; omega
end Go.Proofs.YtabjaaonfaejmaaGreatDoor

namespace Go.Proofs.YtabjaaonfaejmaaGreatDoor
open Go.Av

theorem macS_size (s t : ByteArray) : (macS s t).size = 32 := by unfold macS; rw [bstr_len, sumM_len]
def sealM (e : EventM) (key : ByteArray) : ByteArray := if validM e = 0 then macS key (bstr (evB e)) else ⟨#[]⟩
def opensM (e : EventM) (key s : ByteArray) : Int := if validM e = 0 then (if sealM e key = s then 0 else 9) else validM e
theorem sealM_size (e : EventM) (key : ByteArray) : (sealM e key).size ≤ 32 := by
  unfold sealM
  split
  · rw [macS_size]; omega
  · show (0 : Nat) ≤ 32; omega

theorem seal_ok (G) (hgk : G.lookup 1 = some (wsD kH)) (e : EventM) (key : ByteArray) (h : OkEv e) (hl : (evB e).length ≤ 549755813888) (hk : key.size ≤ 549755813888) : Gives Tryz.prog G 8 [eventD e, .str key] [.str (sealM e key), iD (validM e)] := by
  refine gives_intro [] [] [] Tryz.func8 rfl (by rfl) (by simp [Tryz.ntmps8]) fun F hP hG hN hR => ?_
  rw [Tryz.ntmps8] at hN
  have hA := And.intro hN (And.intro hP (And.intro hG (And.intro hR.1 (And.intro hR.2.1 hR.2.2.1))))
  have hE := @Tryz.results8
  refine WS [1, 2] [2] ?_
  apply aw_seq
  have hc := gvF hP hG (valid_ok G e h)
  refine WSc [1, 2, 6] [2] ?_
  refine WS [1, 2, 6, 10] [2] ?_
  refine WI (fun hb => ?_) (fun hb => ?_)
  · skip
    have hv : sealM e key = ⟨#[]⟩ := if_neg (by omega)
    have hE := And.intro hE hv
    refine WS [4, 5] [] ?_
    apply aw_ret
    apply q_ret_seq
    simp only [QRet, QRetM, QRetX, retsX_nil, retsX_cons, objsAre, resA, mapO_nil, mapO_cons, vD_dat, vD_nils, vD_rp, vD_osl, vD_ptr, vD_agg, vD_fn, vD_isl, vL_dat, vL_app, viewL, avA, datsOf, fillA, seval, ↓List.forall_mem_cons, Op.operands, hP, hG, tiA, hE]
    all_goals try (first | done | rfl | trivial)
  · skip
    have hv0 : validM e = 0 := by omega
    have hv : sealM e key = macS key (bstr (evB e)) := if_pos hv0
    have hE := And.intro hE (And.intro hv hv0)
    apply aw_skip
    apply q_seq
    apply aw_regs [4, 5] []
    · simp (maxSteps := 2000000) (disch := omega) only [avR2, avA, datsOf, fillA, seval, ↓List.forall_mem_cons, Op.operands, hA, tiA, hE]
      (repeat' refine And.intro ?_ ?_) <;> try exact SD
      refine CallC.use (gvF hP hG (wev_ok G e h)) rfl ?_
      try simp (maxSteps := 2000000) (disch := omega) only [avR2, avA, datsOf, fillA, seval, ↓List.forall_mem_cons, Op.operands, hA, tiA, hE]
      (repeat' refine And.intro ?_ ?_) <;> try exact SD
      refine CallC.use (gvF hP hG (mac_ok G hgk key (bstr (evB e)) hk (by rw [bstr_len]; exact hl))) rfl ?_
      try simp (maxSteps := 2000000) (disch := omega) only [avR2, avA, datsOf, fillA, seval, ↓List.forall_mem_cons, Op.operands, hA, tiA, hE]
      exact SC
    apply aw_ret
    simp only [QRet, QRetM, QRetX, retsX_nil, retsX_cons, objsAre, resA, mapO_nil, mapO_cons, vD_dat, vD_nils, vD_rp, vD_osl, vD_ptr, vD_agg, vD_fn, vD_isl, vL_dat, vL_app, viewL, avA, datsOf, fillA, seval, ↓List.forall_mem_cons, Op.operands, hP, hG, tiA, hE]
    all_goals try (first | done | rfl | trivial)

theorem rseal_ok (G) (hgk : G.lookup 0 = some (wsD kH)) (e : EventM) (key : ByteArray) (h : OkEv e) (hl : (evB e).length ≤ 549755813888) (hk : key.size ≤ 549755813888) : Gives Tryz.prog G 9 [eventD e, .str key] [.str (sealM e key), iD (validM e)] := by
  refine gives_intro [] [] [] Tryz.func9 rfl (by rfl) (by simp [Tryz.ntmps9]) fun F hP hG hN hR => ?_
  rw [Tryz.ntmps9] at hN
  have hA := And.intro hN (And.intro hP (And.intro hG (And.intro hR.1 (And.intro hR.2.1 hR.2.2.1))))
  have hE := @Tryz.results9
  refine WS [1, 2] [2] ?_
  have hc := gvF hP hG (rvalid_ok G e h)
  refine WSc [1, 2, 6] [2] ?_
  apply aw_seq
  refine WS [1, 2, 6, 10] [2] ?_
  refine WI (fun hb => ?_) (fun hb => ?_)
  · skip
    have hv : sealM e key = ⟨#[]⟩ := if_neg (by omega)
    have hE := And.intro hE hv
    refine WS [4, 5] [] ?_
    apply aw_ret
    apply q_ret_seq
    simp only [QRet, QRetM, QRetX, retsX_nil, retsX_cons, objsAre, resA, mapO_nil, mapO_cons, vD_dat, vD_nils, vD_rp, vD_osl, vD_ptr, vD_agg, vD_fn, vD_isl, vL_dat, vL_app, viewL, avA, datsOf, fillA, seval, ↓List.forall_mem_cons, Op.operands, hP, hG, tiA, hE]
    all_goals try (first | done | rfl | trivial)
  · skip
    have hv0 : validM e = 0 := by omega
    have hv : sealM e key = macS key (bstr (evB e)) := if_pos hv0
    have hE := And.intro hE (And.intro hv hv0)
    apply aw_skip
    apply q_seq
    apply aw_regs [4, 5] []
    · simp (maxSteps := 2000000) (disch := omega) only [avR2, avA, datsOf, fillA, seval, ↓List.forall_mem_cons, Op.operands, hA, tiA, hE]
      (repeat' refine And.intro ?_ ?_) <;> try exact SD
      refine CallC.use (gvF hP hG (renc_ok G e h)) rfl ?_
      try simp (maxSteps := 2000000) (disch := omega) only [avR2, avA, datsOf, fillA, seval, ↓List.forall_mem_cons, Op.operands, hA, tiA, hE]
      (repeat' refine And.intro ?_ ?_) <;> try exact SD
      refine CallC.use (gvF hP hG (rmac_ok G hgk key (bstr (evB e)) (by omega) (by rw [bstr_len]; exact hl))) rfl ?_
      try simp (maxSteps := 2000000) (disch := omega) only [avR2, avA, datsOf, fillA, seval, ↓List.forall_mem_cons, Op.operands, hA, tiA, hE]
      exact SC
    apply aw_ret
    simp only [QRet, QRetM, QRetX, retsX_nil, retsX_cons, objsAre, resA, mapO_nil, mapO_cons, vD_dat, vD_nils, vD_rp, vD_osl, vD_ptr, vD_agg, vD_fn, vD_isl, vL_dat, vL_app, viewL, avA, datsOf, fillA, seval, ↓List.forall_mem_cons, Op.operands, hP, hG, tiA, hE]
    all_goals try (first | done | rfl | trivial)

theorem opens_ok (G) (hgk : G.lookup 1 = some (wsD kH)) (e : EventM) (key s : ByteArray) (h : OkEv e) (hl : (evB e).length ≤ 549755813888) (hk : key.size ≤ 549755813888) : Gives Tryz.prog G 10 [eventD e, .str key, .str s] [iD (opensM e key s)] := by
  have hsz := sealM_size e key
  refine gives_intro [] [] [] Tryz.func10 rfl (by rfl) (by simp [Tryz.ntmps10]) fun F hP hG hN hR => ?_
  rw [Tryz.ntmps10] at hN
  have hA := And.intro hN (And.intro hP (And.intro hG (And.intro hR.1 (And.intro hR.2.1 hR.2.2.1))))
  have hE := @Tryz.results10
  refine WS [1, 2, 3] [3] ?_
  have hc := gvF hP hG (seal_ok G hgk e key h hl hk)
  refine WSc [2, 7, 8] [] ?_
  apply aw_seq
  apply aw_regs [8, 22] []
  · simp (maxSteps := 2000000) (disch := omega) only [avR2, avA, datsOf, fillA, seval, ↓List.forall_mem_cons, Op.operands, hA, tiA, hE]
    (repeat' refine And.intro ?_ ?_) <;> try exact SD
    refine CallGC.use rfl (fun hg => ⟨by first | trivial | (simp only [gdAll, AV.gd, avA, seval]; (repeat' apply And.intro) <;> first | trivial | rfl | exact hg) | simp_all [gdAll], gvF hP hG (equal_ok G (sealM e key) s (by omega))⟩) ?_
    try simp (maxSteps := 2000000) (disch := omega) only [avR2, avA, datsOf, fillA, seval, ↓List.forall_mem_cons, Op.operands, hA, tiA, hE]
    exact SC
  refine WI (fun hb => ?_) (fun hb => ?_)
  · skip
    have hv : opensM e key s = 9 := by unfold opensM; grind
    have hE := And.intro hE hv
    refine WS [6] [] ?_
    apply aw_ret
    apply q_ret_seq
    simp only [QRet, QRetM, QRetX, retsX_nil, retsX_cons, objsAre, resA, mapO_nil, mapO_cons, vD_dat, vD_nils, vD_rp, vD_osl, vD_ptr, vD_agg, vD_fn, vD_isl, vL_dat, vL_app, viewL, avA, datsOf, fillA, seval, ↓List.forall_mem_cons, Op.operands, hP, hG, tiA, hE]
    all_goals try (first | done | rfl | trivial)
  · skip
    have hv : opensM e key s = validM e := by unfold opensM; grind
    have hE := And.intro hE hv
    apply aw_skip
    apply q_seq
    refine WS [6] [] ?_
    apply aw_ret
    simp only [QRet, QRetM, QRetX, retsX_nil, retsX_cons, objsAre, resA, mapO_nil, mapO_cons, vD_dat, vD_nils, vD_rp, vD_osl, vD_ptr, vD_agg, vD_fn, vD_isl, vL_dat, vL_app, viewL, avA, datsOf, fillA, seval, ↓List.forall_mem_cons, Op.operands, hP, hG, tiA, hE]
    all_goals try (first | done | rfl | trivial)

end Go.Proofs.YtabjaaonfaejmaaGreatDoor

namespace Go.Proofs.YtabjaaonfaejmaaGreatDoor
open Go.Av

theorem down_go {cur : List EventM} {j : Nat} (hj : 0 < j) (h : beforeM (cur.getD j default) (cur.getD (j - 1) default) = true) : downM cur j = downM (swapM cur j) (j - 1) := by
  obtain ⟨k, rfl⟩ : ∃ k, j = k + 1 := ⟨j - 1, by omega⟩
  rw [downM, if_pos (by simpa using h)]
  rfl
theorem down_stop {cur : List EventM} {j : Nat} (h : 0 < j → ¬ beforeM (cur.getD j default) (cur.getD (j - 1) default) = true) : downM cur j = cur := by
  cases j with
  | zero => rfl
  | succ k => rw [downM, if_neg (by simpa using h (by omega))]


theorem cmp_ok (G) (a b : EventM) : Gives Tryz.prog G 118 [eventD a, eventD b] [iD (cmpM a b)] := by
  refine gives_intro [] [] [] Tryz.func118 rfl (by rfl) (by simp [Tryz.ntmps118]) fun F hP hG hN hR => ?_
  rw [Tryz.ntmps118] at hN
  have hA := And.intro hN (And.intro hP (And.intro hG (And.intro hR.1 (And.intro hR.2.1 hR.2.2.1))))
  have hE := @Tryz.results118
  refine WS [2, 3] [2, 3] ?_
  apply aw_seq
  apply aw_block
  have hc := gvF hP hG (before_ok G a b)
  refine WSc [2, 3, 5] [2, 3] ?_
  refine WI (fun hb => ?_) (fun hb => ?_)
  · skip
    have hv : cmpM a b = -1 := by unfold cmpM; rw [if_pos hb]
    have hE := And.intro hE hv
    refine WS [4] [] ?_
    apply aw_ret
    apply q_ret_block
    apply q_ret_seq
    simp only [QRet, QRetM, QRetX, retsX_nil, retsX_cons, objsAre, resA, mapO_nil, mapO_cons, vD_dat, vD_nils, vD_rp, vD_osl, vD_ptr, vD_agg, vD_fn, vD_isl, vL_dat, vL_app, viewL, avA, datsOf, fillA, seval, ↓List.forall_mem_cons, Op.operands, hP, hG, tiA, hE]
    all_goals try (first | done | rfl | trivial)
  · skip
    have h0 : ¬ beforeM a b = true := by rw [hb]; exact Bool.false_ne_true
    have hc := gvF hP hG (before_ok G b a)
    refine WSc [9] [] ?_
    refine WI (fun hb => ?_) (fun hb => ?_)
    · skip
      have hv : cmpM a b = 1 := by unfold cmpM; rw [if_neg h0, if_pos hb]
      have hE := And.intro hE hv
      refine WS [4] [] ?_
      apply aw_ret
      apply q_ret_block
      apply q_ret_seq
      simp only [QRet, QRetM, QRetX, retsX_nil, retsX_cons, objsAre, resA, mapO_nil, mapO_cons, vD_dat, vD_nils, vD_rp, vD_osl, vD_ptr, vD_agg, vD_fn, vD_isl, vL_dat, vL_app, viewL, avA, datsOf, fillA, seval, ↓List.forall_mem_cons, Op.operands, hP, hG, tiA, hE]
      all_goals try (first | done | rfl | trivial)
    · skip
      have hv : cmpM a b = 0 := by unfold cmpM; rw [if_neg h0, if_neg (by rw [hb]; exact Bool.false_ne_true)]
      have hE := And.intro hE hv
      apply aw_skip
      apply q_block
      apply q_seq
      refine WS [4] [] ?_
      apply aw_ret
      simp only [QRet, QRetM, QRetX, retsX_nil, retsX_cons, objsAre, resA, mapO_nil, mapO_cons, vD_dat, vD_nils, vD_rp, vD_osl, vD_ptr, vD_agg, vD_fn, vD_isl, vL_dat, vL_app, viewL, avA, datsOf, fillA, seval, ↓List.forall_mem_cons, Op.operands, hP, hG, tiA, hE]
      all_goals try (first | done | rfl | trivial)

theorem isort_ok (G) (l : List EventM) (hn : l.length ≤ 1000) : GivesX Tryz.prog G 139 [.osl 1000 32 0 l.length, .dat (iD 0), .dat (iD l.length), .fn 118 []] [(1000, ⟨32, (l.map eventD).map .dat⟩)] [] [(1000, ⟨32, ((sortM l).map eventD).map .dat⟩)] := by
  skip
  skip
  refine gives_introX' [] [] [] Tryz.func139 rfl (by rfl) (by simp [Tryz.ntmps139]) (by kernel_rfl) (by simp [onlyL_nil, onlyL_cons, AV.only, inIds]) (by simp only [onlyOs, onlyL_nil, onlyL_cons, onlyL_append, onlyL_dats, onlyL_row, AV.only, Bool.and_true] <;> simp [inIds]) fun F hP hG hN hR => ?_
  rw [Tryz.ntmps139] at hN
  have hA := And.intro hN (And.intro hP (And.intro hG (And.intro hR.1 (And.intro hR.2.1 hR.2.2.1))))
  have hE := And.intro @Tryz.results139 (And.intro @set_row (And.intro @List.length_set.{0} (@swapM.eq_1)))
  refine WS [0, 1, 2, 3, 8] [1000] ?_
  apply aw_block
  have h1 : insM l 1 = l := rfl
  have hE := And.intro hE h1
  refine WL (ι := {i : Nat // 1 ≤ i ∧ (i ≤ l.length ∨ i = 1)}) [0, 1, 2, 3] [] (fun ⟨i, hi⟩ => [(8, .dat (iD i))]) (fun ⟨i, hi⟩ => [(1000, ⟨32, ((insM l i).map eventD).map .dat⟩)]) (fun ⟨i, hi⟩ => l.length - i) (⟨1, by omega⟩) ?_
  rintro ⟨i, hi⟩
  dsimp only [List.cons_append, List.nil_append]
  obtain ⟨hi1, hi2⟩ := hi
  have hil := insM_len l i
  apply aw_seq
  refine WS [0, 1, 2, 3, 8, 14] [1000] ?_
  refine WI (fun hb => ?_) (fun hb => ?_)
  · skip
    apply aw_skip
    apply q_seq
    apply aw_seq
    apply aw_block
    refine WS [0, 1, 2, 3, 8, 9] [1000] ?_
    apply aw_block
    refine WL (ι := {p : Nat × List EventM // p.1 ≤ i ∧ p.2.length = l.length ∧ downM p.2 p.1 = downM (insM l i) i}) [0, 1, 2, 3, 8] [] (fun ⟨⟨j, cur⟩, hp⟩ => [(9, .dat (iD j))]) (fun ⟨⟨j, cur⟩, hp⟩ => [(1000, ⟨32, (cur.map eventD).map .dat⟩)]) (fun ⟨⟨j, cur⟩, hp⟩ => j) (⟨(i, insM l i), by simp [hil]⟩) ?_
    rintro ⟨⟨j, cur⟩, hp⟩
    dsimp only [List.cons_append, List.nil_append]
    obtain ⟨hp1, hp2, hp3⟩ := hp
    dsimp only at hp1 hp2 hp3
    have hj1 : ((j : Int) - 1).toNat = j - 1 := by omega
    have hE := And.intro hE hj1
    have hcn := cmpM_neg (cur.getD j default) (cur.getD (j - 1) default)
    apply aw_seq
    apply aw_rgds [0, 1, 2, 3, 8, 9, 34] [1000] [0, 1, 2, 3, 4, 5, 6, 7, 8, 9, 10, 11, 12, 13, 14, 15, 16] []
    · rw [hP]; kernel_rfl
    · exact hR
    · kernel_rfl
    · (repeat (apply PickL.cons; exact rfl)); exact PickL.nil _
    · simp (maxSteps := 2000000) (disch := omega) only [avR2, avA, datsOf, fillA, seval, ↓List.forall_mem_cons, Op.operands, hA, tiA, hE]
      (repeat' refine And.intro ?_ ?_) <;> try exact SD
      refine CallGC.use rfl (fun hg => ⟨by first | trivial | (simp only [gdAll, AV.gd, avA, seval]; (repeat' apply And.intro) <;> first | trivial | rfl | exact hg) | simp_all [gdAll], gvF hP hG (cmp_ok G (cur.getD j default) (cur.getD (j - 1) default))⟩) ?_
      try simp (maxSteps := 2000000) (disch := omega) only [avR2, avA, datsOf, fillA, seval, ↓List.forall_mem_cons, Op.operands, hA, tiA, hE]
      exact SC
    refine WI (fun hb => ?_) (fun hb => ?_)
    · skip
      have hbf := hcn.1 hb.2
      have hdn := down_go (cur := cur) (j := j) (by omega) hbf
      have hls : (cur.set j (cur.getD (j - 1) default)).length = cur.length := by simp
      apply aw_skip
      apply q_seq
      apply aw_seq
      apply aw_block
      refine WDQ [0, 1, 2, 3, 8, 9] [1000] [0, 1, 5, 6, 7, 8, 9, 10, 11, 12, 13, 14, 15, 2, 3, 4, 16, 17] [] ?_
      apply q_block
      apply q_seq
      refine WQ [0, 1, 2, 3, 8, 9] [1000] ?_
      refine WN (⟨(j - 1, swapM cur j), by dsimp only; exact ⟨by omega, by rw [swapM_len]; exact hp2, by rw [← hdn]; exact hp3⟩⟩)
    · skip
      have hdn : downM cur j = cur := down_stop fun h => mt hcn.2 (by grind)
      apply aw_exit
      apply q_exit_seq
      have hcur : cur = insM l (i + 1) := by rw [insM, ← hp3, hdn]
      subst hcur
      apply q_exit_loop
      apply q_exit
      apply q_block
      apply q_seq
      refine WQ [0, 1, 2, 3, 8] [1000] ?_
      refine WN (⟨i + 1, by omega⟩)
  · skip
    apply aw_exit
    apply q_exit_seq
    have hlast : insM l i = sortM l := by
      unfold sortM
      rcases hi2 with h | h
      · rw [show i = l.length by omega]
      · subst h
        rcases Nat.eq_zero_or_pos l.length with h0 | h0
        · rw [h0]; rfl
        · rw [show l.length = 1 by omega]
    have hE := And.intro hE hlast
    apply q_exit_loop
    apply q_exit
    simp only [QRet, QRetM, QRetX, retsX_nil, retsX_cons, objsAre, resA, mapO_nil, mapO_cons, vD_dat, vD_nils, vD_rp, vD_osl, vD_ptr, vD_agg, vD_fn, vD_isl, vL_dat, vL_app, viewL, avA, datsOf, fillA, seval, ↓List.forall_mem_cons, Op.operands, hP, hG, tiA, hE]
    all_goals try (first | done | rfl | trivial)

theorem stable_ok (G) (l : List EventM) (hn : l.length < 20) : GivesX Tryz.prog G 131 [.osl 1000 32 0 l.length, .dat (iD l.length), .fn 118 []] [(1000, ⟨32, (l.map eventD).map .dat⟩)] [] [(1000, ⟨32, ((sortM l).map eventD).map .dat⟩)] := by
  skip
  refine gives_introX' [] [27] [] Tryz.func131 rfl (by rfl) (by simp [Tryz.ntmps131]) (by kernel_rfl) (by simp [onlyL_nil, onlyL_cons, AV.only, inIds]) (by simp only [onlyOs, onlyL_nil, onlyL_cons, onlyL_append, onlyL_dats, onlyL_row, AV.only, Bool.and_true] <;> simp [inIds]) fun F hP hG hN hR => ?_
  rw [Tryz.ntmps131] at hN
  have hA := And.intro hN (And.intro hP (And.intro hG (And.intro hR.1 (And.intro hR.2.1 hR.2.2.1))))
  have hE := @Tryz.results131
  refine WS [0, 1, 2, 6] [1000] ?_
  refine WS [0, 1, 2, 6, 7, 8] [1000] ?_
  apply aw_seq
  apply aw_block
  refine WL (ι := Unit) [0, 1, 2, 6] [1000] (fun _u => [(7, .dat (iD 0)), (8, .dat (iD 20))]) (fun _u => []) (fun _u => 0) (()) ?_
  rintro _u
  dsimp only [List.cons_append, List.nil_append]
  apply aw_seq
  refine WS [0, 1, 2, 6, 7, 8, 13] [1000] ?_
  refine WI (fun hb => ?_) (fun hb => ?_)
  · skip
    exfalso
    omega --STOP
  · skip
    apply aw_exit
    apply q_exit_seq
    apply q_exit_loop
    apply q_exit
    apply q_seq
    apply aw_regs [0, 1, 2, 6] [1000]
    · simp (maxSteps := 2000000) (disch := omega) only [avR2, avA, datsOf, fillA, seval, ↓List.forall_mem_cons, Op.operands, hA, tiA, hE]
      (repeat' refine And.intro ?_ ?_) <;> try exact SD
      refine CallC.useX (fun _ => 1000) [] (by simp [LitD, hR.2.1]) (gvFX hP hG (isort_ok G l (by omega))) rfl (lentX_of hN (by first | trivial | ((try simp only [haveL, AObj.ren, AV.ren, renL, ren_row, List.map_cons, List.map_nil, objL_cons, objL_nil]) <;> ((repeat' apply And.intro) <;> first | trivial | rfl))) (by rfl)) ?_
      try simp (maxSteps := 2000000) (disch := omega) only [avR2, avA, datsOf, fillA, seval, ↓List.forall_mem_cons, Op.operands, hA, tiA, hE, avX]
      exact SC
    apply aw_block
    refine WL (ι := Unit) [0, 1, 2] [1000] (fun _u => [(6, .dat (iD 20))]) (fun _u => []) (fun _u => 0) (()) ?_
    rintro _u
    dsimp only [List.cons_append, List.nil_append]
    apply aw_seq
    refine WS [0, 1, 2, 6, 30] [1000] ?_
    refine WI (fun hb => ?_) (fun hb => ?_)
    · skip
      exfalso
      omega --STOP
    · skip
      apply aw_exit
      apply q_exit_seq
      apply q_exit_loop
      apply q_exit
      simp only [QRet, QRetM, QRetX, retsX_nil, retsX_cons, objsAre, resA, mapO_nil, mapO_cons, vD_dat, vD_nils, vD_rp, vD_osl, vD_ptr, vD_agg, vD_fn, vD_isl, vL_dat, vL_app, viewL, avA, datsOf, fillA, seval, ↓List.forall_mem_cons, Op.operands, hP, hG, tiA, hE]
      all_goals try (first | done | rfl | trivial)

theorem sortStable_ok (G) (l : List EventM) (hn : l.length < 20) : GivesX Tryz.prog G 117 [.osl 1000 32 0 l.length, .fn 118 []] [(1000, ⟨32, (l.map eventD).map .dat⟩)] [] [(1000, ⟨32, ((sortM l).map eventD).map .dat⟩)] := by
  skip
  refine gives_introX' [] [8] [] Tryz.func117 rfl (by rfl) (by simp [Tryz.ntmps117]) (by kernel_rfl) (by simp [onlyL_nil, onlyL_cons, AV.only, inIds]) (by simp only [onlyOs, onlyL_nil, onlyL_cons, onlyL_append, onlyL_dats, onlyL_row, AV.only, Bool.and_true] <;> simp [inIds]) fun F hP hG hN hR => ?_
  rw [Tryz.ntmps117] at hN
  have hA := And.intro hN (And.intro hP (And.intro hG (And.intro hR.1 (And.intro hR.2.1 hR.2.2.1))))
  have hE := @Tryz.results117
  apply aw_reg [] [1000]
  · simp (maxSteps := 2000000) (disch := omega) only [avR2, avA, datsOf, fillA, seval, ↓List.forall_mem_cons, Op.operands, hA, tiA, hE]
    (repeat' refine And.intro ?_ ?_) <;> try exact SD
    refine CallC.useX (fun _ => 1000) [] (by simp [LitD, hR.2.1]) (gvFX hP hG (stable_ok G l hn)) rfl (lentX_of hN (by first | trivial | ((try simp only [haveL, AObj.ren, AV.ren, renL, ren_row, List.map_cons, List.map_nil, objL_cons, objL_nil]) <;> ((repeat' apply And.intro) <;> first | trivial | rfl))) (by rfl)) ?_
    try simp (maxSteps := 2000000) (disch := omega) only [avR2, avA, datsOf, fillA, seval, ↓List.forall_mem_cons, Op.operands, hA, tiA, hE, avX]
    exact SC
  simp only [QRet, QRetM, QRetX, retsX_nil, retsX_cons, objsAre, resA, mapO_nil, mapO_cons, vD_dat, vD_nils, vD_rp, vD_osl, vD_ptr, vD_agg, vD_fn, vD_isl, vL_dat, vL_app, viewL, avA, datsOf, fillA, seval, ↓List.forall_mem_cons, Op.operands, hP, hG, tiA, hE]
  all_goals try (first | done | rfl | trivial)

theorem clone_okX (G) (l : List EventM) (hn : l.length ≤ 1000) : GivesX Tryz.prog G 116 [.dat (eventsD l)] [] [.osl 7 32 0 l.length] [(7, ⟨32, (l.map eventD).map .dat⟩)] := by
  refine gives_introX' [] [] [] Tryz.func116 rfl (by rfl) (by simp [Tryz.ntmps116]) (by kernel_rfl) (by simp [onlyL_nil, onlyL_cons, AV.only, inIds]) (by simp only [onlyOs, onlyL_nil, onlyL_cons, onlyL_append, onlyL_dats, onlyL_row, AV.only, Bool.and_true] <;> simp [inIds]) fun F hP hG hN hR => ?_
  rw [Tryz.ntmps116] at hN
  have hA := And.intro hN (And.intro hP (And.intro hG (And.intro hR.1 (And.intro hR.2.1 hR.2.2.1))))
  have hE := @Tryz.results116
  refine WS [0] [] ?_
  apply aw_seq
  refine aw_lists ?_
  apply al_seg
  · (iterate 1 apply Seg.cons); exact Seg.nil _
  · simp (maxSteps := 2000000) (disch := omega) only [avR2, avA, datsOf, fillA, seval, ↓List.forall_mem_cons, Op.operands, hA, tiA, hE, KeptS]
    exact SC
  refine al_eqnil rfl rfl rfl (by rw [hN]; omega) (by rw [hP]; exact ti41) rfl rfl fun b hb0 => ?_
  rw [of_put]
  apply al_last [0, 4] []
  · simp (maxSteps := 2000000) (disch := omega) only [avR2, avA, datsOf, fillA, seval, ↓List.forall_mem_cons, Op.operands, hA, tiA, hE]
    exact SC
  refine WI (fun hb => ?_) (fun hb => ?_)
  · skip
    have hl0 : l = [] := by
      cases l with
      | nil => rfl
      | cons x l =>
        rw [hb0 (by simp)] at hb
        cases hb
    subst hl0
    refine WS [2] [5, 7] ?_
    refine aw_new0 7 32 (by omega) ?_
    refine aw_nilE 2 7 32 rfl rfl ?_
    apply aw_ret
    apply q_ret_seq
    simp only [QRet, QRetM, QRetX, retsX_nil, retsX_cons, objsAre, resA, mapO_nil, mapO_cons, vD_dat, vD_nils, vD_rp, vD_osl, vD_ptr, vD_agg, vD_fn, vD_isl, vL_dat, vL_app, viewL, avA, datsOf, fillA, seval, ↓List.forall_mem_cons, Op.operands, hP, hG, tiA, hE]
    all_goals try (first | done | rfl | trivial)
  · skip
    apply aw_skip
    apply q_seq
    refine WS [2] [5, 7] ?_
    apply aw_ret
    simp only [QRet, QRetM, QRetX, retsX_nil, retsX_cons, objsAre, resA, mapO_nil, mapO_cons, vD_dat, vD_nils, vD_rp, vD_osl, vD_ptr, vD_agg, vD_fn, vD_isl, vL_dat, vL_app, viewL, avA, datsOf, fillA, seval, ↓List.forall_mem_cons, Op.operands, hP, hG, tiA, hE]
    all_goals try (first | done | rfl | trivial)

theorem sort_ok (G) (l : List EventM) (hn : l.length < 20) : Gives Tryz.prog G 84 [eventsD l] [eventsD (sortM l)] := by
  have hsl : (sortM l).length = l.length := insM_len l _
  skip
  skip
  refine gives_intro [] [5, 7] [] Tryz.func84 rfl (by rfl) (by simp [Tryz.ntmps84]) fun F hP hG hN hR => ?_
  rw [Tryz.ntmps84] at hN
  have hA := And.intro hN (And.intro hP (And.intro hG (And.intro hR.1 (And.intro hR.2.1 hR.2.2.1))))
  have hE := And.intro @Tryz.results84 (@hsl)
  refine WS [0] [5] ?_
  apply aw_regs [3] [5]
  · simp (maxSteps := 2000000) (disch := omega) only [avR2, avA, datsOf, fillA, seval, ↓List.forall_mem_cons, Op.operands, hA, tiA, hE]
    (repeat' refine And.intro ?_ ?_) <;> try exact SD
    refine CallC.useX (fun _ => 5) [7] (by simp [LitD, hR.2.1]) (gvFX hP hG (clone_okX G l (by omega))) rfl (lentX_of hN (by first | trivial | ((try simp only [haveL, AObj.ren, AV.ren, renL, ren_row, List.map_cons, List.map_nil, objL_cons, objL_nil]) <;> ((repeat' apply And.intro) <;> first | trivial | rfl))) (by rfl)) ?_
    try simp (maxSteps := 2000000) (disch := omega) only [avR2, avA, datsOf, fillA, seval, ↓List.forall_mem_cons, Op.operands, hA, tiA, hE, avX]
    exact SC
  apply aw_regs [3] [5]
  · simp (maxSteps := 2000000) (disch := omega) only [avR2, avA, datsOf, fillA, seval, ↓List.forall_mem_cons, Op.operands, hA, tiA, hE]
    (repeat' refine And.intro ?_ ?_) <;> try exact SD
    refine CallC.useX (fun _ => 5) [] (by simp [LitD, hR.2.1]) (gvFX hP hG (sortStable_ok G l hn)) rfl (lentX_of hN (by first | trivial | ((try simp only [haveL, AObj.ren, AV.ren, renL, ren_row, List.map_cons, List.map_nil, objL_cons, objL_nil]) <;> ((repeat' apply And.intro) <;> first | trivial | rfl))) (by rfl)) ?_
    try simp (maxSteps := 2000000) (disch := omega) only [avR2, avA, datsOf, fillA, seval, ↓List.forall_mem_cons, Op.operands, hA, tiA, hE, avX]
    exact SC
  refine WS [2] [5] ?_
  apply aw_ret
  simp only [QRet, QRetM, QRetX, retsX_nil, retsX_cons, objsAre, resA, mapO_nil, mapO_cons, vD_dat, vD_nils, vD_rp, vD_osl, vD_ptr, vD_agg, vD_fn, vD_isl, vL_dat, vL_app, viewL, avA, datsOf, fillA, seval, ↓List.forall_mem_cons, Op.operands, hP, hG, tiA, hE]
  all_goals try (first | done | rfl | trivial)

end Go.Proofs.YtabjaaonfaejmaaGreatDoor

namespace Go.Proofs.YtabjaaonfaejmaaGreatDoor
open Go.Av
theorem eqS2_55 : eqS2 Tryz.prog 65 := by unfold eqS2; kernel_rfl
theorem under3 : Tryz.prog.underlying 3 = some (.int .i64) := by kernel_rfl
theorem zero3 : (Tryz.prog.info? 3).bind (·.zero) = some (.int .i64 0) := by kernel_rfl
theorem lkA_t (z : Dat) (r : Option Dat) : lkA true z r = .tup [.dat (r.getD z), .dat (.bool r.isSome)] := rfl
theorem lkA_f (z : Dat) (r : Option Dat) : lkA false z r = .dat (r.getD z) := rfl
/-- The region that enters an event: what its operations leave. -/
def entL (e : EventM) (n : Nat) : List (Nat × Nat × AV) := [(0, 94, .mp 20), (1, 95, .dat (eventD e)), (2, 96, .dat (nameD (evName e))), (3, 97, .mp 22), (4, 98, .rp (eventD e) 0), (5, 99, .dat (iD e.By)), (6, 100, .rp (eventD e) 2), (7, 101, .dat (iD e.Tick)), (8, 102, .rp (eventD e) 2), (9, 103, .dat (iD e.Tick)), (10, 104, .tup [.dat (iD 0), .dat (iD n)]), (11, 105, .dat (iD n))]
theorem entL_slots (e : EventM) (n : Nat) : (entL e n).map (·.2.1) = [94, 95, 96, 97, 98, 99, 100, 101, 102, 103, 104, 105] := rfl
theorem entL_ops (e : EventM) (n : Nat) : (entL e n).map (·.1) = [0, 1, 2, 3, 4, 5, 6, 7, 8, 9, 10, 11] := rfl
def ent1 (e : EventM) (k1 v1 : List Dat) (D : Nat → Bool) : AObj := if D 12 = true then mapO' (k1 ++ [nameD (evName e)]) (v1 ++ [iD e.Tick]) else if D 10 = true then mapO' (k1 ++ [nameD (evName e)]) (v1 ++ [iD 0]) else mapO' k1 v1
def ent3 (e : EventM) (k3 v3 : List Dat) (D : Nat → Bool) : AObj := if D 13 = true then mapO' (putK k3 (iD e.By)) (putV k3 v3 (iD e.By) (iD e.Tick)) else mapO' k3 v3
def entI (st : ASt) (e : EventM) (k1 v1 k3 v3 : List Dat) (D : Nat → Bool) : ASt := { env := envD D st.env (entL e k1.length), objs := fun id => if id = 20 then some (ent1 e k1 v1 D) else if id = 22 then some (ent3 e k3 v3 D) else st.objs id }
theorem entI_off {st : ASt} {e : EventM} {k1 v1 k3 v3 : List Dat} {D : Nat → Bool} {n : Nat} (h : n < 94) : (entI st e k1 v1 k3 v3 D).env n = st.env n :=
  envD_off fun p hp => by
    have : p.2.1 ∈ (entL e k1.length).map (·.2.1) := List.mem_map.2 ⟨p, hp, rfl⟩
    rw [entL_slots] at this
    intro hn
    rw [hn] at this
    simp at this
    omega
theorem entI_get {st : ASt} {e : EventM} {k1 v1 k3 v3 : List Dat} {D : Nat → Bool} {i d : Nat} {v : AV} (hD : D i = true) (h : (entL e k1.length)[i]? = some (i, d, v)) : (entI st e k1 v1 k3 v3 D).env d = v :=
  envD_get hD (List.mem_of_getElem? h) (by rw [entL_slots]; decide)
theorem entI_put {st : ASt} {e : EventM} {k1 v1 k3 v3 : List Dat} {D : Nat → Bool} {i d : Nat} {v : AV} (h : (entL e k1.length)[i]? = some (i, d, v)) (hi : i ≠ 10 ∧ i ≠ 12 ∧ i ≠ 13) : (entI st e k1 v1 k3 v3 D).put (some d) v = entI st e k1 v1 k3 v3 (addD D i) := by
  have h1 : ent1 e k1 v1 (addD D i) = ent1 e k1 v1 D := by simp [ent1, addD, Ne.symm hi.1, Ne.symm hi.2.1]
  have h3 : ent3 e k3 v3 (addD D i) = ent3 e k3 v3 D := by simp [ent3, addD, Ne.symm hi.2.2]
  unfold entI
  rw [h1, h3]
  simp only [ASt.put]
  rw [envD_add (List.mem_of_getElem? h) (by rw [entL_slots]; decide) (by rw [entL_ops]; decide)]
theorem entI_10 {st : ASt} {e : EventM} {k1 v1 k3 v3 : List Dat} {D : Nat → Bool} (hD : D 12 = false) :
    ((entI st e k1 v1 k3 v3 D).obj 20 (mapO' (k1 ++ [nameD (evName e)]) (v1 ++ [iD 0]))).put (some 104) (.tup [.dat (iD 0), .dat (iD k1.length)]) = entI st e k1 v1 k3 v3 (addD D 10) := by
  have h1 : ent1 e k1 v1 (addD D 10) = mapO' (k1 ++ [nameD (evName e)]) (v1 ++ [iD 0]) := by simp [ent1, addD, hD]
  have h3 : ent3 e k3 v3 (addD D 10) = ent3 e k3 v3 D := by simp [ent3, addD]
  unfold entI
  rw [h1, h3]
  simp only [ASt.put, ASt.obj]
  rw [envD_add (i := 10) (List.mem_of_getElem? (i := 10) rfl) (by rw [entL_slots]; decide) (by rw [entL_ops]; decide)]
  congr 1
  funext id
  simp only [upd_apply]
  split <;> rfl
theorem envD_no {D : Nat → Bool} {base : Nat → AV} {i : Nat} {l : List (Nat × Nat × AV)} (h : i ∉ l.map (·.1)) : envD (addD D i) base l = envD D base l := envD_add.envD_same h
theorem entI_12 {st : ASt} {e : EventM} {k1 v1 k3 v3 : List Dat} {D : Nat → Bool} :
    (entI st e k1 v1 k3 v3 D).obj 20 (mapO' (k1 ++ [nameD (evName e)]) (v1 ++ [iD e.Tick])) = entI st e k1 v1 k3 v3 (addD D 12) := by
  have h1 : ent1 e k1 v1 (addD D 12) = mapO' (k1 ++ [nameD (evName e)]) (v1 ++ [iD e.Tick]) := by simp [ent1, addD]
  have h3 : ent3 e k3 v3 (addD D 12) = ent3 e k3 v3 D := by simp [ent3, addD]
  unfold entI
  rw [h1, h3, envD_no (by rw [entL_ops]; decide)]
  simp only [ASt.obj]
  congr 1
  funext id
  simp only [upd_apply]
  split <;> rfl
theorem entI_13 {st : ASt} {e : EventM} {k1 v1 k3 v3 : List Dat} {D : Nat → Bool} :
    (entI st e k1 v1 k3 v3 D).obj 22 (mapO' (putK k3 (iD e.By)) (putV k3 v3 (iD e.By) (iD e.Tick))) = entI st e k1 v1 k3 v3 (addD D 13) := by
  have h1 : ent1 e k1 v1 (addD D 13) = ent1 e k1 v1 D := by simp [ent1, addD]
  have h3 : ent3 e k3 v3 (addD D 13) = mapO' (putK k3 (iD e.By)) (putV k3 v3 (iD e.By) (iD e.Tick)) := by simp [ent3, addD]
  unfold entI
  rw [h1, h3, envD_no (by rw [entL_ops]; decide)]
  simp only [ASt.obj]
  congr 1
  funext id
  simp only [upd_apply]
  by_cases h : id = 22
  · subst h; rfl
  · simp [h]

theorem entI_none {st : ASt} {e : EventM} {k1 v1 k3 v3 : List Dat} {D : Nat → Bool} (h : ∀ i, i < 14 → D i = false) (h1 : st.objs 20 = some (mapO' k1 v1)) (h3 : st.objs 22 = some (mapO' k3 v3)) : entI st e k1 v1 k3 v3 D = st := by
  unfold entI
  rw [envD_none fun p hp => h p.1 (by
    have : p.1 ∈ (entL e k1.length).map (·.1) := List.mem_map.2 ⟨p, hp, rfl⟩
    rw [entL_ops] at this
    simp at this
    omega)]
  have e1 : ent1 e k1 v1 D = mapO' k1 v1 := by simp [ent1, h]
  have e3 : ent3 e k3 v3 D = mapO' k3 v3 := by simp [ent3, h]
  rw [e1, e3, ← h1, ← h3]
  cases st
  congr 1
  funext id
  simp only
  split
  · rename_i hh; rw [hh]
  · split
    · rename_i hh; rw [hh]
    · rfl


set_option maxRecDepth 100000 in
set_option maxHeartbeats 4000000 in
theorem closed_ok (G) (l : List EventM) (hl : l.length < 20 ∨ 384 < l.length) (h : ∀ e ∈ sortM l, OkEv e) : Gives Tryz.prog G 45 [eventsD l] [iD (closedM l).1, iD (closedM l).2] := by
  have hsl : (sortM l).length = l.length := insM_len l _
  skip
  skip
  refine gives_intro [] [] [] Tryz.func45 rfl (by rfl) (by simp [Tryz.ntmps45]) fun F hP hG hN hR => ?_
  rw [Tryz.ntmps45] at hN
  have hA := And.intro hN (And.intro hP (And.intro hG (And.intro hR.1 (And.intro hR.2.1 hR.2.2.1))))
  have hE := And.intro @Tryz.results45 (And.intro @hsl (And.intro @mp_kill (@mp_frz)))
  refine WS [0] [20, 21, 22] ?_
  apply aw_seq
  refine WS [0, 19] [20, 21, 22] ?_
  refine WI (fun hb => ?_) (fun hb => ?_)
  · skip
    have hv : closedM l = (0, 4) := by unfold closedM; rw [if_pos (by omega)]
    have hE := And.intro hE hv
    refine WS [2, 3] [20, 21, 22] ?_
    apply aw_ret
    apply q_ret_seq
    simp only [QRet, QRetM, QRetX, retsX_nil, retsX_cons, objsAre, resA, mapO_nil, mapO_cons, vD_dat, vD_nils, vD_rp, vD_osl, vD_ptr, vD_agg, vD_fn, vD_isl, vL_dat, vL_app, viewL, avA, datsOf, fillA, seval, ↓List.forall_mem_cons, Op.operands, hP, hG, tiA, hE]
    all_goals try (first | done | rfl | trivial)
  · skip
    have hl20 : l.length < 20 := by omega
    have hv : closedM l = closedG l.length (sortM l) ((sortM l).length - 0) := by unfold closedM; rw [if_neg (by omega)]; rfl
    apply aw_skip
    apply q_seq
    refine aw_lists ?_
    refine al_step rfl (makeMap_ok rfl rfl (by rw [hN]; omega)) ?_
    simp only [avA, seval]
    apply al_last [0, 4] [20, 21, 22]
    · simp (maxSteps := 2000000) (disch := omega) only [avR2, avA, datsOf, fillA, seval, ↓List.forall_mem_cons, Op.operands, hA, tiA, hE]
      exact SC
    refine aw_lists ?_
    refine al_step rfl (makeMap_ok rfl rfl (by rw [hN]; omega)) ?_
    simp only [avA, seval]
    refine al_step rfl (makeMap_ok rfl rfl (by rw [hN]; omega)) ?_
    simp only [avA, seval]
    apply al_last [0, 4, 5, 6] [20, 21, 22]
    · simp (maxSteps := 2000000) (disch := omega) only [avR2, avA, datsOf, fillA, seval, ↓List.forall_mem_cons, Op.operands, hA, tiA, hE]
      exact SC
    apply aw_seq
    have hc := gvF hP hG (sort_ok G l hl20)
    refine WSc [0, 4, 5, 6, 24, 25, 26] [20, 21, 22] ?_
    apply aw_block
    refine WL (ι := {p : Nat × (List Dat × List Dat) × (List Dat × List Dat) × (List Dat × List Dat) // p.1 ≤ (sortM l).length ∧ ClInv ((sortM l).take p.1) p.2.1.1 p.2.1.2 p.2.2.1.1 p.2.2.1.2 p.2.2.2.1 p.2.2.2.2 ∧ closedM l = closedG l.length (sortM l) ((sortM l).length - p.1)}) [0, 4, 5, 6, 24, 25] [] (fun ⟨⟨i, ⟨k1, v1⟩, ⟨k2, v2⟩, ⟨k3, v3⟩⟩, hic⟩ => [(26, .dat (iD i))]) (fun ⟨⟨i, ⟨k1, v1⟩, ⟨k2, v2⟩, ⟨k3, v3⟩⟩, hic⟩ => [(20, ⟨0, [.tup [], .dat (.sl k1), .dat (.sl v1)]⟩), (21, ⟨0, [.tup [], .dat (.sl k2), .dat (.sl v2)]⟩), (22, ⟨0, [.tup [], .dat (.sl k3), .dat (.sl v3)]⟩)]) (fun ⟨⟨i, ⟨k1, v1⟩, ⟨k2, v2⟩, ⟨k3, v3⟩⟩, hic⟩ => (sortM l).length - i) (⟨⟨0, ⟨[], []⟩, ⟨[], []⟩, ⟨[], []⟩⟩, by dsimp only; exact ⟨by omega, clInv_nil, hv⟩⟩) ?_
    rintro ⟨⟨i, ⟨k1, v1⟩, ⟨k2, v2⟩, ⟨k3, v3⟩⟩, hic⟩
    dsimp only [List.cons_append, List.nil_append]
    dsimp only at hic
    obtain ⟨hi, hinv, hcl⟩ := id hic
    have htl : (List.take i (sortM l)).length = i := by rw [List.length_take]; omega
    refine WS [0, 4, 5, 6, 24, 25, 26, 27] [20, 21, 22] ?_
    apply aw_seq
    refine WI (fun hb => ?_) (fun hb => ?_)
    · skip
      apply aw_skip
      apply q_seq
      apply aw_seq
      apply aw_block
      refine WS [0, 4, 5, 6, 7, 8, 24, 25, 26] [8, 20, 21, 22] ?_
      apply aw_seq
      refine aw_frz 8 hR.2.2.2 rfl rfl ?_
      have hc := gvF hP hG (valid_ok G ((sortM l).getD i default) (getD_all h (by omega)))
      refine WSc [0, 4, 5, 6, 7, 8, 9, 24, 25, 26] [8, 20, 21, 22] ?_
      refine WS [0, 4, 5, 6, 7, 8, 9, 24, 25, 26, 34] [8, 20, 21, 22] ?_
      refine WI (fun hb => ?_) (fun hb => ?_)
      · skip
        have hf : faultM ((sortM l).take i) ((sortM l).getD i default) = validM ((sortM l).getD i default) := by unfold faultM; rw [if_pos (by omega)]
        have hv : closedM l = ((i : Int), validM ((sortM l).getD i default)) := by rw [hcl, closedG_at (by omega) (by omega), hf]
        have hE := And.intro hE hv
        refine WS [2, 3] [20, 21, 22] ?_
        apply aw_ret
        apply q_ret_seq
        apply q_ret_block
        apply q_ret_seq
        apply q_ret_loop
        apply q_ret_block
        apply q_ret_seq
        simp only [QRet, QRetM, QRetX, retsX_nil, retsX_cons, objsAre, resA, mapO_nil, mapO_cons, vD_dat, vD_nils, vD_rp, vD_osl, vD_ptr, vD_agg, vD_fn, vD_isl, vL_dat, vL_app, viewL, avA, datsOf, fillA, seval, ↓List.forall_mem_cons, Op.operands, hP, hG, tiA, hE]
        all_goals try (first | done | rfl | trivial)
      · skip
        have hv0 : validM ((sortM l).getD i default) = 0 := by omega
        apply aw_skip
        apply q_seq
        apply aw_seq
        refine aw_lists ?_
        apply al_seg
        · (iterate 3 apply Seg.cons); exact Seg.nil _
        · simp (maxSteps := 2000000) (disch := omega) only [avR2, avA, datsOf, fillA, seval, ↓List.forall_mem_cons, Op.operands, hA, tiA, hE, KeptS]
          (repeat' refine And.intro ?_ ?_) <;> try exact SD
          refine CallC.use (gvF hP hG (name_ok G ((sortM l).getD i default))) rfl ?_
          try simp (maxSteps := 2000000) (disch := omega) only [avR2, avA, datsOf, fillA, seval, ↓List.forall_mem_cons, Op.operands, hA, tiA, hE]
          exact SC
        refine al_step rfl (lookup_ok (kt := 65) (et := 3) (isK := isKN) (id := 20) (ks := k1) (vs := v1) rfl rfl (by rw [hN]; omega) ⟨⟨_, by rw [hP]; exact ti132, rfl⟩, by rw [hP]; exact keyRun_two .i64 .i64 eqS2_55, rfl, rfl, hinv.q1⟩ rfl ⟨_, _, rfl⟩ (by rw [hP]; exact zero3)) ?_
        rw [of_put, lkA_t]
        apply al_last [0, 4, 5, 6, 7, 8, 11, 24, 25, 26] [8, 20, 21, 22]
        · simp (maxSteps := 2000000) (disch := omega) only [avR2, avA, datsOf, fillA, seval, ↓List.forall_mem_cons, Op.operands, hA, tiA, hE]
          exact SC
        refine WS [0, 4, 5, 6, 7, 8, 24, 25, 26, 44] [8, 20, 21, 22] ?_
        refine WI (fun hb => ?_) (fun hb => ?_)
        · skip
          have hfd : 0 ≤ findM ((sortM l).take i) (evName ((sortM l).getD i default)) := by
            rcases hinv.tick (evName ((sortM l).getD i default)) with ⟨_, h2⟩ | ⟨h1, _⟩
            · rw [h2] at hb; cases hb
            · exact h1
          have hf : faultM ((sortM l).take i) ((sortM l).getD i default) = 7 := by unfold faultM; rw [if_neg (by omega), if_pos hfd]
          have hv : closedM l = ((i : Int), 7) := by rw [hcl, closedG_at (by omega) (by omega), hf]
          have hE := And.intro hE hv
          refine WS [2, 3] [20, 21, 22] ?_
          apply aw_ret
          apply q_ret_seq
          apply q_ret_block
          apply q_ret_seq
          apply q_ret_loop
          apply q_ret_block
          apply q_ret_seq
          simp only [QRet, QRetM, QRetX, retsX_nil, retsX_cons, objsAre, resA, mapO_nil, mapO_cons, vD_dat, vD_nils, vD_rp, vD_osl, vD_ptr, vD_agg, vD_fn, vD_isl, vL_dat, vL_app, viewL, avA, datsOf, fillA, seval, ↓List.forall_mem_cons, Op.operands, hP, hG, tiA, hE]
          all_goals try (first | done | rfl | trivial)
        · skip
          have hfd : findM ((sortM l).take i) (evName ((sortM l).getD i default)) = -1 ∧ lkp k1 v1 (nameD (evName ((sortM l).getD i default))) = none := by
            rcases hinv.tick (evName ((sortM l).getD i default)) with h1 | ⟨_, h2⟩
            · exact h1
            · rw [h2] at hb; cases hb
          have hcn := hinv.count ((sortM l).getD i default).By
          have hcl2 : ((sortM l).take i).countP (fun x => x.By == ((sortM l).getD i default).By) ≤ 20 := Nat.le_trans List.countP_le_length (by omega)
          apply aw_skip
          apply q_seq
          apply aw_seq
          refine aw_lists ?_
          apply al_seg
          · (iterate 5 apply Seg.cons); exact Seg.nil _
          · simp (maxSteps := 2000000) (disch := omega) only [avR2, avA, datsOf, fillA, seval, ↓List.forall_mem_cons, Op.operands, hA, tiA, hE, KeptS]
            exact SC
          refine al_step rfl (lookup_ok (kt := 3) (et := 3) (isK := isKI) (id := 21) (ks := k2) (vs := v2) rfl rfl (by rw [hN]; omega) ⟨⟨_, by rw [hP]; exact ti133, rfl⟩, by rw [hP]; exact keyRun_int under3, rfl, rfl, hinv.q2⟩ rfl ⟨_, rfl⟩ (by rw [hP]; exact zero3)) ?_
          rw [of_put, lkA_f, hcn]
          apply al_last [0, 4, 5, 6, 7, 8, 24, 25, 26, 52] [8, 20, 21, 22]
          · simp (maxSteps := 2000000) (disch := omega) only [avR2, avA, datsOf, fillA, seval, ↓List.forall_mem_cons, Op.operands, hA, tiA, hE]
            exact SC
          refine WI (fun hb => ?_) (fun hb => ?_)
          · skip
            have hf : faultM ((sortM l).take i) ((sortM l).getD i default) = 10 := by
              unfold faultM
              rw [if_neg (by omega), if_neg (by omega), if_pos (fun hq => hb (by show ((sortM l).getD i default).Seq = _; rw [← hq]; rfl))]
            have hv : closedM l = ((i : Int), 10) := by rw [hcl, closedG_at (by omega) (by omega), hf]
            have hE := And.intro hE hv
            refine WS [2, 3] [20, 21, 22] ?_
            apply aw_ret
            apply q_ret_seq
            apply q_ret_block
            apply q_ret_seq
            apply q_ret_loop
            apply q_ret_block
            apply q_ret_seq
            simp only [QRet, QRetM, QRetX, retsX_nil, retsX_cons, objsAre, resA, mapO_nil, mapO_cons, vD_dat, vD_nils, vD_rp, vD_osl, vD_ptr, vD_agg, vD_fn, vD_isl, vL_dat, vL_app, viewL, avA, datsOf, fillA, seval, ↓List.forall_mem_cons, Op.operands, hP, hG, tiA, hE]
            all_goals try (first | done | rfl | trivial)
          · skip
            have hq : (((sortM l).take i).countP (isBy ((sortM l).getD i default)) : Int) = ((sortM l).getD i default).Seq := by
              have : (((sortM l).take i).countP (isBy ((sortM l).getD i default))) = ((sortM l).take i).countP (fun x => x.By == ((sortM l).getD i default).By) := rfl
              omega
            apply aw_skip
            apply q_seq
            have hlate := clInv_late hinv ((sortM l).getD i default)
            refine aw_mid (.of [(0, .dat (eventsD l)), (4, .mp 20), (5, .mp 21), (6, .mp 22), (7, .dat (iD i)), (8, .rp (eventD ((sortM l).getD i default)) 0), (12, .dat (bD (((sortM l).take i).any (isLate ((sortM l).getD i default))))), (24, .dat (eventsD (sortM l))), (25, .dat (iD (sortM l).length)), (26, .dat (iD i))] [(20, ⟨0, [.tup [], .dat (.sl k1), .dat (.sl v1)]⟩), (21, ⟨0, [.tup [], .dat (.sl k2), .dat (.sl v2)]⟩), (22, ⟨0, [.tup [], .dat (.sl k3), .dat (.sl v3)]⟩)]) ?_ ?_
            · rcases hlate with ⟨h0, h1, h2⟩ | ⟨h0, t, h1, h2⟩
              · refine aw_list ?_
                apply al_seg
                · (iterate 3 apply Seg.cons); exact Seg.nil _
                · simp (maxSteps := 2000000) (disch := omega) only [avR2, avA, datsOf, fillA, seval, ↓List.forall_mem_cons, Op.operands, hA, tiA, hE, KeptS]
                  exact SC
                refine al_step rfl (lookup_ok (kt := 3) (et := 3) (isK := isKI) (id := 21) (ks := k2) (vs := v2) rfl rfl (by rw [hN]; omega) ⟨⟨_, by rw [hP]; exact ti133, rfl⟩, by rw [hP]; exact keyRun_int under3, rfl, rfl, hinv.q2⟩ rfl ⟨_, rfl⟩ (by rw [hP]; exact zero3)) ?_
                rw [of_put, lkA_f, hcn, h0]
                apply al_seg
                · (iterate 5 apply Seg.cons); exact Seg.nil _
                · simp (maxSteps := 2000000) (disch := omega) only [avR2, avA, datsOf, fillA, seval, ↓List.forall_mem_cons, Op.operands, hA, tiA, hE, KeptS]
                  exact SC
                refine al_off (.dat (iD 0)) rfl rfl (by rw [hN]; omega) rfl ?_
                rw [of_put]
                apply al_last [0, 4, 5, 6, 7, 8, 12, 24, 25, 26] [20, 21, 22]
                · simp (maxSteps := 2000000) (disch := omega) only [avR2, avA, datsOf, fillA, seval, ↓List.forall_mem_cons, Op.operands, hA, tiA, hE]
                  exact SC
                exact ⟨rfl, by rw [h1, hsl]; rfl⟩
              · have hd : decide ((0 : Int) < (((sortM l).take i).countP (fun x => x.By == ((sortM l).getD i default).By) : Int)) = true := decide_eq_true (by omega)
                have hE := And.intro hE hd
                refine aw_list ?_
                apply al_seg
                · (iterate 3 apply Seg.cons); exact Seg.nil _
                · simp (maxSteps := 2000000) (disch := omega) only [avR2, avA, datsOf, fillA, seval, ↓List.forall_mem_cons, Op.operands, hA, tiA, hE, KeptS]
                  exact SC
                refine al_step rfl (lookup_ok (kt := 3) (et := 3) (isK := isKI) (id := 21) (ks := k2) (vs := v2) rfl rfl (by rw [hN]; omega) ⟨⟨_, by rw [hP]; exact ti133, rfl⟩, by rw [hP]; exact keyRun_int under3, rfl, rfl, hinv.q2⟩ rfl ⟨_, rfl⟩ (by rw [hP]; exact zero3)) ?_
                rw [of_put, lkA_f, hcn]
                apply al_seg
                · (iterate 2 apply Seg.cons); exact Seg.nil _
                · simp (maxSteps := 2000000) (disch := omega) only [avR2, avA, datsOf, fillA, seval, ↓List.forall_mem_cons, Op.operands, hA, tiA, hE, KeptS]
                  exact SC
                apply al_true
                · rfl
                · simp (maxSteps := 2000000) (disch := omega) only [avR2, avA, datsOf, fillA, seval, ↓List.forall_mem_cons, Op.operands, hA, tiA, hE, KeptS]
                  exact SC
                apply al_true
                · rfl
                · simp (maxSteps := 2000000) (disch := omega) only [avR2, avA, datsOf, fillA, seval, ↓List.forall_mem_cons, Op.operands, hA, tiA, hE, KeptS]
                  exact SC
                apply al_true
                · rfl
                · simp (maxSteps := 2000000) (disch := omega) only [avR2, avA, datsOf, fillA, seval, ↓List.forall_mem_cons, Op.operands, hA, tiA, hE, KeptS]
                  exact SC
                refine al_on rfl rfl (lookup_ok (kt := 3) (et := 3) (isK := isKI) (id := 22) (ks := k3) (vs := v3) rfl rfl (by rw [hN]; omega) ⟨⟨_, by rw [hP]; exact ti133, rfl⟩, by rw [hP]; exact keyRun_int under3, rfl, rfl, hinv.q3⟩ rfl ⟨_, rfl⟩ (by rw [hP]; exact zero3)) ?_
                rw [of_put, lkA_f, h1, Option.getD_some]
                apply al_last [0, 4, 5, 6, 7, 8, 12, 24, 25, 26] [20, 21, 22]
                · simp (maxSteps := 2000000) (disch := omega) only [avR2, avA, datsOf, fillA, seval, ↓List.forall_mem_cons, Op.operands, hA, tiA, hE]
                  exact SC
                exact ⟨rfl, by rw [h2, hsl]⟩
            apply aw_seq
            refine WS [0, 4, 5, 6, 7, 8, 12, 24, 25, 26, 69, 70, 71] [8, 20, 21, 22] ?_
            apply aw_block
            have hz0 : (((sortM l).take i).any (isLate ((sortM l).getD i default)) || anyN (refLate ((sortM l).take i) ((sortM l).getD i default)) ((sortM l).getD i default).Refs 0) = ((sortM l).take i).any (isLate ((sortM l).getD i default)) := by rw [anyN_zero, Bool.or_false]
            have hE := And.intro hE hz0
            have hre := (getD_all h (show i < (sortM l).length by omega)).nrefs
            refine WL (ι := {j : Nat // j ≤ ((sortM l).getD i default).Refs.length ∧ ∀ k, k < j → 0 ≤ findM ((sortM l).take i) (((sortM l).getD i default).Refs.getD k default)}) [0, 4, 5, 6, 7, 8, 24, 25, 26, 69, 70] [8, 20, 21, 22] (fun ⟨j, hjc⟩ => [(12, .dat (bD (((sortM l).take i).any (isLate ((sortM l).getD i default)) || anyN (refLate ((sortM l).take i) ((sortM l).getD i default)) ((sortM l).getD i default).Refs j))), (71, .dat (iD j))]) (fun ⟨j, hjc⟩ => []) (fun ⟨j, hjc⟩ => ((sortM l).getD i default).Refs.length - j) (⟨0, by omega, by omega⟩) ?_
            rintro ⟨j, hjc⟩
            dsimp only [List.cons_append, List.nil_append]
            obtain ⟨hj, hall⟩ := id hjc
            refine WS [0, 4, 5, 6, 7, 8, 12, 24, 25, 26, 69, 70, 71, 72] [8, 20, 21, 22] ?_
            apply aw_seq
            refine WI (fun hb => ?_) (fun hb => ?_)
            · skip
              apply aw_skip
              apply q_seq
              apply aw_seq
              apply aw_block
              refine WS [0, 4, 5, 6, 7, 8, 12, 14, 24, 25, 26, 69, 70, 71] [8, 14, 20, 21, 22] ?_
              refine aw_lists ?_
              apply al_seg
              · (iterate 2 apply Seg.cons); exact Seg.nil _
              · simp (maxSteps := 2000000) (disch := omega) only [avR2, avA, datsOf, fillA, seval, ↓List.forall_mem_cons, Op.operands, hA, tiA, hE, KeptS]
                exact SC
              refine al_step rfl (lookup_ok (kt := 65) (et := 3) (isK := isKN) (id := 20) (ks := k1) (vs := v1) rfl rfl (by rw [hN]; omega) ⟨⟨_, by rw [hP]; exact ti132, rfl⟩, by rw [hP]; exact keyRun_two .i64 .i64 eqS2_55, rfl, rfl, hinv.q1⟩ rfl ⟨_, _, rfl⟩ (by rw [hP]; exact zero3)) ?_
              rw [of_put, lkA_t]
              apply al_last [0, 4, 5, 6, 7, 8, 12, 15, 16, 24, 25, 26, 69, 70, 71] [8, 20, 21, 22]
              · simp (maxSteps := 2000000) (disch := omega) only [avR2, avA, datsOf, fillA, seval, ↓List.forall_mem_cons, Op.operands, hA, tiA, hE]
                exact SC
              apply aw_seq
              refine WS [0, 4, 5, 6, 7, 8, 12, 15, 24, 25, 26, 69, 70, 71, 82] [8, 20, 21, 22] ?_
              refine WI (fun hb => ?_) (fun hb => ?_)
              · skip
                have hfd : findM ((sortM l).take i) (((sortM l).getD i default).Refs.getD j default) = -1 := by
                  rcases hinv.tick (((sortM l).getD i default).Refs.getD j default) with ⟨h1, _⟩ | ⟨_, h2⟩
                  · exact h1
                  · rw [h2] at hb; cases hb
                have hf : faultM ((sortM l).take i) ((sortM l).getD i default) = 10 := faultM_ref hv0 (by omega) hq (show j < ((sortM l).getD i default).Refs.length by omega) (by omega)
                have hv : closedM l = ((i : Int), 10) := by rw [hcl, closedG_at (by omega) (by omega), hf]
                have hE := And.intro hE hv
                refine WS [2, 3] [20, 21, 22] ?_
                apply aw_ret
                apply q_ret_seq
                apply q_ret_block
                apply q_ret_seq
                apply q_ret_loop
                apply q_ret_block
                apply q_ret_seq
                apply q_ret_block
                apply q_ret_seq
                apply q_ret_loop
                apply q_ret_block
                apply q_ret_seq
                simp only [QRet, QRetM, QRetX, retsX_nil, retsX_cons, objsAre, resA, mapO_nil, mapO_cons, vD_dat, vD_nils, vD_rp, vD_osl, vD_ptr, vD_agg, vD_fn, vD_isl, vL_dat, vL_app, viewL, avA, datsOf, fillA, seval, ↓List.forall_mem_cons, Op.operands, hP, hG, tiA, hE]
                all_goals try (first | done | rfl | trivial)
              · skip
                have hfd2 : 0 ≤ findM ((sortM l).take i) (((sortM l).getD i default).Refs.getD j default) ∧ lkp k1 v1 (nameD (((sortM l).getD i default).Refs.getD j default)) = some (iD (((sortM l).take i).getD (findM ((sortM l).take i) (((sortM l).getD i default).Refs.getD j default)).toNat default).Tick) := by
                  rcases hinv.tick (((sortM l).getD i default).Refs.getD j default) with ⟨_, h2⟩ | h1
                  · rw [h2] at hb; cases hb
                  · exact h1
                have hge := hfd2.1
                have hr1 : (((sortM l).take i).any (isLate ((sortM l).getD i default)) || anyN (refLate ((sortM l).take i) ((sortM l).getD i default)) ((sortM l).getD i default).Refs (j + 1)) = (((sortM l).take i).any (isLate ((sortM l).getD i default)) || anyN (refLate ((sortM l).take i) ((sortM l).getD i default)) ((sortM l).getD i default).Refs j || decide (((sortM l).getD i default).Tick ≤ (((sortM l).take i).getD (findM ((sortM l).take i) (((sortM l).getD i default).Refs.getD j default)).toNat default).Tick)) := by rw [anyN_succ _ _ (show j < ((sortM l).getD i default).Refs.length by omega), ← Bool.or_assoc]; rfl
                have hE := And.intro hE (And.intro hfd2.2 (@Option.getD_some Dat))
                apply aw_skip
                apply q_seq
                refine WQ [0, 4, 5, 6, 7, 8, 12, 24, 25, 26, 69, 70, 71] [8, 20, 21, 22] ?_
                apply q_block
                apply q_seq
                have hE := And.intro hE hr1
                refine WQ [0, 4, 5, 6, 7, 8, 12, 24, 25, 26, 69, 70, 71] [8, 20, 21, 22] ?_
                refine WN (⟨j + 1, by omega, allstep hjc.2 hge⟩)
            · skip
              apply aw_exit
              apply q_exit_seq
              obtain rfl : j = ((sortM l).getD i default).Refs.length := by omega
              have hf := faultM_end hv0 (show ¬ 0 ≤ findM ((sortM l).take i) (evName ((sortM l).getD i default)) by omega) hq hall
              have hw := any_full (refLate ((sortM l).take i) ((sortM l).getD i default)) ((sortM l).getD i default).Refs
              rw [hw] at *
              apply q_exit_loop
              apply q_exit
              apply q_seq
              apply aw_seq
              refine WS [0, 4, 5, 6, 7, 8, 24, 25, 26, 92] [8, 20, 21, 22] ?_
              refine WI (fun hb => ?_) (fun hb => ?_)
              · skip
                rw [if_pos (by grind)] at hf
                have hv : closedM l = ((i : Int), 5) := by rw [hcl, closedG_at (by omega) (by omega), hf]
                have hE := And.intro hE hv
                refine WS [2, 3] [20, 21, 22] ?_
                apply aw_ret
                apply q_ret_seq
                apply q_ret_block
                apply q_ret_seq
                apply q_ret_loop
                apply q_ret_block
                apply q_ret_seq
                simp only [QRet, QRetM, QRetX, retsX_nil, retsX_cons, objsAre, resA, mapO_nil, mapO_cons, vD_dat, vD_nils, vD_rp, vD_osl, vD_ptr, vD_agg, vD_fn, vD_isl, vL_dat, vL_app, viewL, avA, datsOf, fillA, seval, ↓List.forall_mem_cons, Op.operands, hP, hG, tiA, hE]
                all_goals try (first | done | rfl | trivial)
              · skip
                rw [if_neg (by grind)] at hf
                apply aw_skip
                apply q_seq
                refine aw_invs [0, 4, 5, 6, 8, 24, 25, 26] [20, 21, 22] (fun s => entI s ((sortM l).getD i default) k1 v1 k3 v3) (e := [(0, .dat (eventsD l)), (4, .mp 20), (5, .mp 21), (6, .mp 22), (8, .rp (eventD ((sortM l).getD i default)) 0), (24, .dat (eventsD (sortM l))), (25, .dat (iD l.length)), (26, .dat (iD i))]) (o := [(20, mapO' (k1 ++ [nameD (evName ((sortM l).getD i default))]) (v1 ++ [iD ((sortM l).getD i default).Tick])), (21, mapO' k2 v2), (22, mapO' (putK k3 (iD ((sortM l).getD i default).By)) (putV k3 v3 (iD ((sortM l).getD i default).By) (iD ((sortM l).getD i default).Tick)))]) (by rw [hP]; kernel_rfl) (by kernel_rfl) (by kernel_rfl) ?_ (fun D hD => entI_none (fun i hi => hD i hi) rfl rfl) ⟨rfl, rfl⟩ ?_
                · intro D i' o ho hD hdep hcd
                  generalize hst : ASt.of _ _ = st0
                  have s4 : st0.env 4 = .mp 20 := by rw [← hst]; rfl
                  have s6 : st0.env 6 = .mp 22 := by rw [← hst]; rfl
                  have s8 : st0.env 8 = .rp (eventD ((sortM l).getD i default)) 0 := by rw [← hst]; rfl
                  clear hst
                  have hi14 : i' < 14 := (List.getElem?_eq_some_iff.1 ho).1
                  have hcs : i' = 0 ∨ i' = 1 ∨ i' = 2 ∨ i' = 3 ∨ i' = 4 ∨ i' = 5 ∨ i' = 6 ∨ i' = 7 ∨ i' = 8 ∨ i' = 9 ∨ i' = 10 ∨ i' = 11 ∨ i' = 12 ∨ i' = 13 := by omega
                  rcases hcs with rfl | rfl | rfl | rfl | rfl | rfl | rfl | rfl | rfl | rfl | rfl | rfl | rfl | rfl
                  · simp only [List.getElem?_cons_zero, List.getElem?_cons_succ, Option.some.injEq] at ho
                    subst ho
                    have f := entI_off (st := st0) (e := ((sortM l).getD i default)) (k1 := k1) (v1 := v1) (k3 := k3) (v3 := v3) (D := D) (n := 4) (by omega)
                    rw [s4] at f
                    rw [← entI_put (i := 0) (d := 94) (v := (.mp 20)) rfl (by decide)]
                    generalize entI st0 ((sortM l).getD i default) k1 v1 k3 v3 D = st1 at f ⊢
                    refine step_run (ops := #[]) rfl ?_
                    simp (maxSteps := 2000000) (disch := omega) only [avR2, avA, datsOf, fillA, seval, ↓List.forall_mem_cons, Op.operands, hA, tiA, hE, f]
                    all_goals exact SC
                  · simp only [List.getElem?_cons_zero, List.getElem?_cons_succ, Option.some.injEq] at ho
                    subst ho
                    have f := entI_off (st := st0) (e := ((sortM l).getD i default)) (k1 := k1) (v1 := v1) (k3 := k3) (v3 := v3) (D := D) (n := 8) (by omega)
                    rw [s8] at f
                    rw [← entI_put (i := 1) (d := 95) (v := (.dat (eventD ((sortM l).getD i default)))) rfl (by decide)]
                    generalize entI st0 ((sortM l).getD i default) k1 v1 k3 v3 D = st1 at f ⊢
                    refine step_run (ops := #[]) rfl ?_
                    simp (maxSteps := 2000000) (disch := omega) only [avR2, avA, datsOf, fillA, seval, ↓List.forall_mem_cons, Op.operands, hA, tiA, hE, f]
                    all_goals exact SC
                  · simp only [List.getElem?_cons_zero, List.getElem?_cons_succ, Option.some.injEq] at ho
                    subst ho
                    have f := entI_get (st := st0) (e := ((sortM l).getD i default)) (k1 := k1) (v1 := v1) (k3 := k3) (v3 := v3) (D := D) (i := 1) (d := 95) (v := (.dat (eventD ((sortM l).getD i default)))) (hdep ⟨1, .data⟩ (by simp) rfl) rfl
                    rw [← entI_put (i := 2) (d := 96) (v := (.dat (nameD (evName ((sortM l).getD i default))))) rfl (by decide)]
                    generalize entI st0 ((sortM l).getD i default) k1 v1 k3 v3 D = st1 at f ⊢
                    refine step_run (ops := #[]) rfl ?_
                    simp (maxSteps := 2000000) (disch := omega) only [avR2, avA, datsOf, fillA, seval, ↓List.forall_mem_cons, Op.operands, hA, tiA, hE, f]
                    (repeat' refine And.intro ?_ ?_) <;> try exact SD
                    refine CallC.use (gvF hP hG (name_ok G ((sortM l).getD i default))) rfl ?_
                    try simp (maxSteps := 2000000) (disch := omega) only [avR2, avA, datsOf, fillA, seval, ↓List.forall_mem_cons, Op.operands, hA, tiA, hE, f]
                    all_goals exact SC
                  · simp only [List.getElem?_cons_zero, List.getElem?_cons_succ, Option.some.injEq] at ho
                    subst ho
                    have f := entI_off (st := st0) (e := ((sortM l).getD i default)) (k1 := k1) (v1 := v1) (k3 := k3) (v3 := v3) (D := D) (n := 6) (by omega)
                    rw [s6] at f
                    rw [← entI_put (i := 3) (d := 97) (v := (.mp 22)) rfl (by decide)]
                    generalize entI st0 ((sortM l).getD i default) k1 v1 k3 v3 D = st1 at f ⊢
                    refine step_run (ops := #[]) rfl ?_
                    simp (maxSteps := 2000000) (disch := omega) only [avR2, avA, datsOf, fillA, seval, ↓List.forall_mem_cons, Op.operands, hA, tiA, hE, f]
                    all_goals exact SC
                  · simp only [List.getElem?_cons_zero, List.getElem?_cons_succ, Option.some.injEq] at ho
                    subst ho
                    have f := entI_off (st := st0) (e := ((sortM l).getD i default)) (k1 := k1) (v1 := v1) (k3 := k3) (v3 := v3) (D := D) (n := 8) (by omega)
                    rw [s8] at f
                    rw [← entI_put (i := 4) (d := 98) (v := (.rp (eventD ((sortM l).getD i default)) 0)) rfl (by decide)]
                    generalize entI st0 ((sortM l).getD i default) k1 v1 k3 v3 D = st1 at f ⊢
                    refine step_run (ops := #[]) rfl ?_
                    simp (maxSteps := 2000000) (disch := omega) only [avR2, avA, datsOf, fillA, seval, ↓List.forall_mem_cons, Op.operands, hA, tiA, hE, f]
                    all_goals exact SC
                  · simp only [List.getElem?_cons_zero, List.getElem?_cons_succ, Option.some.injEq] at ho
                    subst ho
                    have f := entI_get (st := st0) (e := ((sortM l).getD i default)) (k1 := k1) (v1 := v1) (k3 := k3) (v3 := v3) (D := D) (i := 4) (d := 98) (v := (.rp (eventD ((sortM l).getD i default)) 0)) (hdep ⟨4, .data⟩ (by simp) rfl) rfl
                    rw [← entI_put (i := 5) (d := 99) (v := (.dat (iD ((sortM l).getD i default).By))) rfl (by decide)]
                    generalize entI st0 ((sortM l).getD i default) k1 v1 k3 v3 D = st1 at f ⊢
                    refine step_run (ops := #[]) rfl ?_
                    simp (maxSteps := 2000000) (disch := omega) only [avR2, avA, datsOf, fillA, seval, ↓List.forall_mem_cons, Op.operands, hA, tiA, hE, f]
                    all_goals exact SC
                  · simp only [List.getElem?_cons_zero, List.getElem?_cons_succ, Option.some.injEq] at ho
                    subst ho
                    have f := entI_off (st := st0) (e := ((sortM l).getD i default)) (k1 := k1) (v1 := v1) (k3 := k3) (v3 := v3) (D := D) (n := 8) (by omega)
                    rw [s8] at f
                    rw [← entI_put (i := 6) (d := 100) (v := (.rp (eventD ((sortM l).getD i default)) 2)) rfl (by decide)]
                    generalize entI st0 ((sortM l).getD i default) k1 v1 k3 v3 D = st1 at f ⊢
                    refine step_run (ops := #[]) rfl ?_
                    simp (maxSteps := 2000000) (disch := omega) only [avR2, avA, datsOf, fillA, seval, ↓List.forall_mem_cons, Op.operands, hA, tiA, hE, f]
                    all_goals exact SC
                  · simp only [List.getElem?_cons_zero, List.getElem?_cons_succ, Option.some.injEq] at ho
                    subst ho
                    have f := entI_get (st := st0) (e := ((sortM l).getD i default)) (k1 := k1) (v1 := v1) (k3 := k3) (v3 := v3) (D := D) (i := 6) (d := 100) (v := (.rp (eventD ((sortM l).getD i default)) 2)) (hdep ⟨6, .data⟩ (by simp) rfl) rfl
                    rw [← entI_put (i := 7) (d := 101) (v := (.dat (iD ((sortM l).getD i default).Tick))) rfl (by decide)]
                    generalize entI st0 ((sortM l).getD i default) k1 v1 k3 v3 D = st1 at f ⊢
                    refine step_run (ops := #[]) rfl ?_
                    simp (maxSteps := 2000000) (disch := omega) only [avR2, avA, datsOf, fillA, seval, ↓List.forall_mem_cons, Op.operands, hA, tiA, hE, f]
                    all_goals exact SC
                  · simp only [List.getElem?_cons_zero, List.getElem?_cons_succ, Option.some.injEq] at ho
                    subst ho
                    have f := entI_off (st := st0) (e := ((sortM l).getD i default)) (k1 := k1) (v1 := v1) (k3 := k3) (v3 := v3) (D := D) (n := 8) (by omega)
                    rw [s8] at f
                    rw [← entI_put (i := 8) (d := 102) (v := (.rp (eventD ((sortM l).getD i default)) 2)) rfl (by decide)]
                    generalize entI st0 ((sortM l).getD i default) k1 v1 k3 v3 D = st1 at f ⊢
                    refine step_run (ops := #[]) rfl ?_
                    simp (maxSteps := 2000000) (disch := omega) only [avR2, avA, datsOf, fillA, seval, ↓List.forall_mem_cons, Op.operands, hA, tiA, hE, f]
                    all_goals exact SC
                  · simp only [List.getElem?_cons_zero, List.getElem?_cons_succ, Option.some.injEq] at ho
                    subst ho
                    have f := entI_get (st := st0) (e := ((sortM l).getD i default)) (k1 := k1) (v1 := v1) (k3 := k3) (v3 := v3) (D := D) (i := 8) (d := 102) (v := (.rp (eventD ((sortM l).getD i default)) 2)) (hdep ⟨8, .data⟩ (by simp) rfl) rfl
                    rw [← entI_put (i := 9) (d := 103) (v := (.dat (iD ((sortM l).getD i default).Tick))) rfl (by decide)]
                    generalize entI st0 ((sortM l).getD i default) k1 v1 k3 v3 D = st1 at f ⊢
                    refine step_run (ops := #[]) rfl ?_
                    simp (maxSteps := 2000000) (disch := omega) only [avR2, avA, datsOf, fillA, seval, ↓List.forall_mem_cons, Op.operands, hA, tiA, hE, f]
                    all_goals exact SC
                  · simp only [List.getElem?_cons_zero, List.getElem?_cons_succ, Option.some.injEq] at ho
                    subst ho
                    have f0 := entI_get (st := st0) (e := ((sortM l).getD i default)) (k1 := k1) (v1 := v1) (k3 := k3) (v3 := v3) (D := D) (i := 0) (d := 94) (v := (.mp 20)) (hdep ⟨0, .data⟩ (by simp) rfl) rfl
                    have f2 := entI_get (st := st0) (e := ((sortM l).getD i default)) (k1 := k1) (v1 := v1) (k3 := k3) (v3 := v3) (D := D) (i := 2) (d := 96) (v := (.dat (nameD (evName ((sortM l).getD i default))))) (hdep ⟨2, .data⟩ (by simp) rfl) rfl
                    have d12 : D 12 = false := by
                      cases h12 : D 12
                      · rfl
                      · have := hcd 12 _ rfl h12 ⟨10, .chain⟩ (by simp) rfl
                        rw [hD] at this; cases this
                    rw [← entI_10 d12]
                    exact mapEntry_ok (kt := 65) (et := 3) (isK := isKN) (id := 20) (ks := k1) (vs := v1) rfl rfl (by rw [hN]; omega) ⟨⟨_, by rw [hP]; exact ti132, rfl⟩, by rw [hP]; exact keyRun_two .i64 .i64 eqS2_55, f0, by simp [entI, ent1, d12, hD], hinv.q1⟩ f2 ⟨_, _, rfl⟩ hfd.2 (by rw [hP]; exact zero3)
                  · simp only [List.getElem?_cons_zero, List.getElem?_cons_succ, Option.some.injEq] at ho
                    subst ho
                    have f := entI_get (st := st0) (e := ((sortM l).getD i default)) (k1 := k1) (v1 := v1) (k3 := k3) (v3 := v3) (D := D) (i := 10) (d := 104) (v := (.tup [.dat (iD 0), .dat (iD k1.length)])) (hdep ⟨10, .data⟩ (by simp) rfl) rfl
                    rw [← entI_put (i := 11) (d := 105) (v := (.dat (iD k1.length))) rfl (by decide)]
                    generalize entI st0 ((sortM l).getD i default) k1 v1 k3 v3 D = st1 at f ⊢
                    refine step_run (ops := #[]) rfl ?_
                    simp (maxSteps := 2000000) (disch := omega) only [avR2, avA, datsOf, fillA, seval, ↓List.forall_mem_cons, Op.operands, hA, tiA, hE, f]
                    all_goals exact SC
                  · simp only [List.getElem?_cons_zero, List.getElem?_cons_succ, Option.some.injEq] at ho
                    subst ho
                    have f0 := entI_get (st := st0) (e := ((sortM l).getD i default)) (k1 := k1) (v1 := v1) (k3 := k3) (v3 := v3) (D := D) (i := 0) (d := 94) (v := (.mp 20)) (hdep ⟨0, .data⟩ (by simp) rfl) rfl
                    have f11 := entI_get (st := st0) (e := ((sortM l).getD i default)) (k1 := k1) (v1 := v1) (k3 := k3) (v3 := v3) (D := D) (i := 11) (d := 105) (v := (.dat (iD k1.length))) (hdep ⟨11, .data⟩ (by simp) rfl) rfl
                    have f7 := entI_get (st := st0) (e := ((sortM l).getD i default)) (k1 := k1) (v1 := v1) (k3 := k3) (v3 := v3) (D := D) (i := 7) (d := 101) (v := (.dat (iD ((sortM l).getD i default).Tick))) (hdep ⟨7, .data⟩ (by simp) rfl) rfl
                    have d10 := hdep ⟨10, .chain⟩ (by simp) rfl
                    have hset : (v1 ++ [iD 0]).set k1.length (iD ((sortM l).getD i default).Tick) = v1 ++ [iD ((sortM l).getD i default).Tick] := by rw [hinv.l1]; simp
                    rw [← entI_12, ← hset]
                    exact entryStore_ok (id := 20) (n := k1.length) (ks := k1 ++ [nameD (evName ((sortM l).getD i default))]) (vs := v1 ++ [iD 0]) rfl rfl f0 (by simp [entI, ent1, d10, hD]) f11 (by rw [hinv.l1]; simp) f7
                  · simp only [List.getElem?_cons_zero, List.getElem?_cons_succ, Option.some.injEq] at ho
                    subst ho
                    have f3 := entI_get (st := st0) (e := ((sortM l).getD i default)) (k1 := k1) (v1 := v1) (k3 := k3) (v3 := v3) (D := D) (i := 3) (d := 97) (v := (.mp 22)) (hdep ⟨3, .data⟩ (by simp) rfl) rfl
                    have f5 := entI_get (st := st0) (e := ((sortM l).getD i default)) (k1 := k1) (v1 := v1) (k3 := k3) (v3 := v3) (D := D) (i := 5) (d := 99) (v := (.dat (iD ((sortM l).getD i default).By))) (hdep ⟨5, .data⟩ (by simp) rfl) rfl
                    have f9 := entI_get (st := st0) (e := ((sortM l).getD i default)) (k1 := k1) (v1 := v1) (k3 := k3) (v3 := v3) (D := D) (i := 9) (d := 103) (v := (.dat (iD ((sortM l).getD i default).Tick))) (hdep ⟨9, .data⟩ (by simp) rfl) rfl
                    rw [← entI_13]
                    exact mapUpdate_ok (kt := 3) (et := 3) (isK := isKI) (id := 22) (ks := k3) (vs := v3) rfl rfl ⟨⟨_, by rw [hP]; exact ti133, rfl⟩, by rw [hP]; exact keyRun_int under3, f3, by simp [entI, ent3, hD], hinv.q3⟩ f5 ⟨_, rfl⟩ f9
                have hlt : ∀ x ∈ ((sortM l).take i), x.By = ((sortM l).getD i default).By → x.Tick < ((sortM l).getD i default).Tick := by
                  intro x hx hby
                  have hno : (((sortM l).take i).any (isLate ((sortM l).getD i default))) = false := by grind
                  have hnx1 := List.any_eq_false.1 hno x hx
                  simp [isLate, hby] at hnx1
                  exact hnx1
                have hnx : i + 1 ≤ (sortM l).length ∧ ClInv ((sortM l).take (i + 1)) (k1 ++ [nameD (evName ((sortM l).getD i default))]) (v1 ++ [iD ((sortM l).getD i default).Tick]) (putK k2 (iD ((sortM l).getD i default).By)) (putV k2 v2 (iD ((sortM l).getD i default).By) (iD ((((sortM l).take i).countP (fun x => x.By == ((sortM l).getD i default).By) : Int) + 1))) (putK k3 (iD ((sortM l).getD i default).By)) (putV k3 v3 (iD ((sortM l).getD i default).By) (iD ((sortM l).getD i default).Tick)) ∧ closedM l = closedG l.length (sortM l) ((sortM l).length - (i + 1)) := by
                  have hp := lkp_no hinv.l1 hfd.2
                  refine ⟨by omega, ?_, by rw [hcl, closedG_go (by omega) hf]⟩
                  rw [take_step _ (show i < (sortM l).length by omega), ← hp.1, ← hp.2]
                  exact clInv_add hinv ((sortM l).getD i default) hfd.1 hlt
                refine aw_list ?_
                apply al_seg
                · (iterate 3 apply Seg.cons); exact Seg.nil _
                · simp (maxSteps := 2000000) (disch := omega) only [avR2, avA, datsOf, fillA, seval, ↓List.forall_mem_cons, Op.operands, hA, tiA, hE, KeptS]
                  exact SC
                refine al_step rfl (lookup_ok (kt := 3) (et := 3) (isK := isKI) (id := 21) (ks := k2) (vs := v2) rfl rfl (by rw [hN]; omega) ⟨⟨_, by rw [hP]; exact ti133, rfl⟩, by rw [hP]; exact keyRun_int under3, rfl, rfl, hinv.q2⟩ rfl ⟨_, rfl⟩ (by rw [hP]; exact zero3)) ?_
                rw [of_put, lkA_f, hcn]
                apply al_seg
                · (iterate 1 apply Seg.cons); exact Seg.nil _
                · simp (maxSteps := 2000000) (disch := omega) only [avR2, avA, datsOf, fillA, seval, ↓List.forall_mem_cons, Op.operands, hA, tiA, hE, KeptS]
                  exact SC
                refine al_step rfl (mapUpdate_ok (kt := 3) (et := 3) (isK := isKI) (id := 21) (ks := k2) (vs := v2) rfl rfl ⟨⟨_, by rw [hP]; exact ti133, rfl⟩, by rw [hP]; exact keyRun_int under3, rfl, rfl, hinv.q2⟩ rfl ⟨_, rfl⟩ rfl) ?_
                simp only [avA, seval]
                apply al_last [0, 4, 5, 6, 24, 25, 26] [20, 21, 22]
                · simp (maxSteps := 2000000) (disch := omega) only [avR2, avA, datsOf, fillA, seval, ↓List.forall_mem_cons, Op.operands, hA, tiA, hE]
                  exact SC
                apply q_block
                apply q_seq
                refine WQ [0, 4, 5, 6, 24, 25, 26] [20, 21, 22] ?_
                refine WN (⟨⟨i + 1, ⟨_, _⟩, ⟨_, _⟩, ⟨_, _⟩⟩, hnx⟩)
    · skip
      apply aw_exit
      apply q_exit_seq
      have hend : i = (sortM l).length := by omega
      have hv2 : closedM l = ((l.length : Int), 0) := by rw [hcl, hend, Nat.sub_self]; rfl
      have hE := And.intro hE hv2
      apply q_exit_loop
      apply q_exit
      apply q_seq
      refine WS [2, 3] [20, 21, 22] ?_
      apply aw_ret
      simp only [QRet, QRetM, QRetX, retsX_nil, retsX_cons, objsAre, resA, mapO_nil, mapO_cons, vD_dat, vD_nils, vD_rp, vD_osl, vD_ptr, vD_agg, vD_fn, vD_isl, vL_dat, vL_app, viewL, avA, datsOf, fillA, seval, ↓List.forall_mem_cons, Op.operands, hP, hG, tiA, hE]
      all_goals try (first | done | rfl | trivial)

end Go.Proofs.YtabjaaonfaejmaaGreatDoor

namespace Go.Proofs.YtabjaaonfaejmaaGreatDoor
open Go.Av

abbrev exA : EventM := exE 0 3 1 [] 0
abbrev exB : EventM := exE 1 4 1 [⟨0, 0⟩] 0
abbrev exC : EventM := exE 1 3 1 [⟨0, 0⟩] 0
abbrev exD : EventM := exE 2 1 5 [] (-1)
theorem okA : OkEv exA := okEx (by unfold I64; omega) (by unfold I64; omega) (by unfold I64; omega) (by unfold I64; omega) (by decide) (by simp)
theorem okB : OkEv exB := okEx (by unfold I64; omega) (by unfold I64; omega) (by unfold I64; omega) (by unfold I64; omega) (by decide) (by intro x hx; simp at hx; subst hx; exact ⟨i64z, i64z⟩)
theorem okC : OkEv exC := okEx (by unfold I64; omega) (by unfold I64; omega) (by unfold I64; omega) (by unfold I64; omega) (by decide) (by intro x hx; simp at hx; subst hx; exact ⟨i64z, i64z⟩)
theorem okD : OkEv exD := okEx (by unfold I64; omega) (by unfold I64; omega) (by unfold I64; omega) (by unfold I64; omega) (by decide) (by simp)
theorem closedX (G) (l : List EventM) (hl : l.length < 20) (h : ∀ e ∈ l, OkEv e) (a b : Int) (hc : closedM l = (a, b)) : Gives Tryz.prog G 45 [eventsD l] [iD a, iD b] := by
  have := closed_ok G l (.inl hl) (fun e he => h e (sortM_mem he))
  rw [hc] at this
  exact this
theorem cl1 (G) : Gives Tryz.prog G 45 [eventsD [exB, exA]] [iD 2, iD 0] := closedX G _ (by decide) (by simp [okA, okB]) 2 0 ex1
theorem cl2 (G) : Gives Tryz.prog G 45 [eventsD [exA, exC]] [iD 1, iD 5] := closedX G _ (by decide) (by simp [okA, okC]) 1 5 ex2
theorem cl3 (G) : Gives Tryz.prog G 45 [eventsD [exB]] [iD 0, iD 10] := closedX G _ (by decide) (by simp [okB]) 0 10 ex3
theorem cl4 (G) : Gives Tryz.prog G 45 [eventsD [exA, exA]] [iD 1, iD 7] := closedX G _ (by decide) (by simp [okA]) 1 7 ex4
theorem cl5 (G) : Gives Tryz.prog G 45 [eventsD [exD]] [iD 0, iD 1] := closedX G _ (by decide) (by simp [okD]) 0 1 ex5
theorem vL_two (f : AV → Option Dat) (A B : List Dat) : viewL f (A.map .dat ++ B.map .dat) = some (A ++ B) := by rw [← List.map_append]; exact vL_dat _ _
theorem exBytes : evB exA = intsM [0, 0, 3, 1] ++ intsM [] := by decide +kernel

set_option maxRecDepth 100000 in
set_option maxHeartbeats 2000000 in
theorem lives_ok (G) : Gives Tryz.prog G 13 [] [bD true] := by
  have hx1 : (intsM [0, 0, 3, 1]).length ≤ 1000 := by decide +kernel
  have hx2 : (intsM []).length ≤ 1000 := by decide +kernel
  have hs1 : sameL (fun x y : Int => x == y) (evB exA) (intsM [0, 0, 3, 1] ++ intsM []) = true := by decide +kernel
  have hs2 : beforeM exA exB = true := by decide +kernel
  have hs3 : beforeM exB exA = false := by decide +kernel
  skip
  skip
  refine gives_intro [49] [94] [] Tryz.func13 rfl (by rfl) (by simp [Tryz.ntmps13]) fun F hP hG hN hR => ?_
  rw [Tryz.ntmps13] at hN
  have hA := And.intro hN (And.intro hP (And.intro hG (And.intro hR.1 (And.intro hR.2.1 hR.2.2.1))))
  have hE := And.intro @Tryz.results13 (And.intro @hs1 (And.intro @hs2 (@hs3)))
  refine WS [] [49] ?_
  refine WS [1] [1, 49] ?_
  refine WS [1, 2] [1, 2, 16, 49] ?_
  refine WS [1, 2, 3] [1, 2, 3, 16, 49] ?_
  refine WS [1, 2, 3] [1, 2, 3, 16, 49] ?_
  refine aw_aggD 1 rfl rfl ?_
  refine aw_aggD 2 rfl rfl ?_
  refine aw_aggD 3 rfl rfl ?_
  have hc := gvF hP hG (cl1 G)
  refine WSc [1, 2, 3, 4, 5] [1, 2, 3, 16, 49] ?_
  have hc := gvF hP hG (cl2 G)
  refine WSc [1, 2, 4, 5, 6, 7] [1, 2, 16, 49] ?_
  have hc := gvF hP hG (cl3 G)
  refine WSc [1, 2, 4, 5, 6, 7, 8, 9] [1, 2, 16, 49] ?_
  have hc := gvF hP hG (cl4 G)
  refine WSc [1, 2, 4, 5, 6, 7, 8, 9, 10, 11] [1, 2, 16, 49] ?_
  apply aw_regs [1, 2, 4, 5, 6, 7, 8, 9, 10, 11, 12, 13] [1, 2, 16, 49]
  · simp (maxSteps := 2000000) (disch := omega) only [avR2, avA, datsOf, fillA, seval, ↓List.forall_mem_cons, Op.operands, hA, tiA, hE]
    (repeat' refine And.intro ?_ ?_) <;> try exact SD
    refine CallC.use (gvF hP hG (cl5 G)) (by simp only [callArgs, mapO_nil, mapO_cons, vD_dat, vD_nils, vD_rp, vD_osl, vD_ptr, vD_agg, vD_fn, vD_isl, vL_dat, vL_app, avA, datsOf, fillA, seval, ↓List.forall_mem_cons, Op.operands, hE, viewL] <;> rfl) ?_
    try simp (maxSteps := 2000000) (disch := omega) only [avR2, avA, datsOf, fillA, seval, ↓List.forall_mem_cons, Op.operands, hA, tiA, hE]
    exact SC
  apply aw_seq
  refine WS [1, 2, 90] [1, 2, 16, 49] ?_
  refine WI (fun hb => ?_) (fun hb => ?_)
  · skip
    refine WS [0] [49] ?_
    apply aw_ret
    apply q_ret_seq
    simp only [QRet, QRetM, QRetX, retsX_nil, retsX_cons, objsAre, resA, mapO_nil, mapO_cons, vD_dat, vD_nils, vD_rp, vD_osl, vD_ptr, vD_agg, vD_fn, vD_isl, vL_dat, vL_app, viewL, avA, datsOf, fillA, seval, ↓List.forall_mem_cons, Op.operands, hP, hG, tiA, hE]
    all_goals try (first | done | rfl | trivial)
  · skip
    apply aw_skip
    apply q_seq
    apply aw_regs [0] [49]
    · simp (maxSteps := 2000000) (disch := omega) only [avR2, avA, datsOf, fillA, seval, ↓List.forall_mem_cons, Op.operands, hA, tiA, hE]
      (repeat' refine And.intro ?_ ?_) <;> try exact SD
      refine CallC.use (gvF hP hG (wev_ok G exA okA)) rfl ?_
      try simp (maxSteps := 2000000) (disch := omega) only [avR2, avA, datsOf, fillA, seval, ↓List.forall_mem_cons, Op.operands, hA, tiA, hE]
      (repeat' refine And.intro ?_ ?_) <;> try exact SD
      refine CallC.useX (fun _ => 94) [18] (by simp [LitD, hR.2.1]) (gvFX hP hG (wints_okX G [0, 0, 3, 1] (by intro x hx; simp at hx; unfold I64; omega) (by decide))) rfl (lentX_of hN (by first | trivial | ((try simp only [haveL, AObj.ren, AV.ren, renL, ren_row, List.map_cons, List.map_nil, objL_cons, objL_nil]) <;> ((repeat' apply And.intro) <;> first | trivial | rfl))) (by rfl)) ?_
      try simp (maxSteps := 2000000) (disch := omega) only [avR2, avA, datsOf, fillA, seval, ↓List.forall_mem_cons, Op.operands, hA, tiA, hE, avX]
      (repeat' refine And.intro ?_ ?_) <;> try exact SD
      refine CallC.use (gvF hP hG (wints_ok G [] (by simp) (by decide))) rfl ?_
      try simp (maxSteps := 2000000) (disch := omega) only [avR2, avA, datsOf, fillA, seval, ↓List.forall_mem_cons, Op.operands, hA, tiA, hE]
      (repeat' refine And.intro ?_ ?_) <;> try exact SD
      refine CallC.use (gvF hP hG (rsame_ok G (evB exA) (intsM [0, 0, 3, 1] ++ intsM []) (by decide +kernel))) (by simp only [callArgs, mapO_nil, mapO_cons, vD_dat, vD_nils, vD_rp, vD_osl, vD_ptr, vD_agg, vD_fn, vD_isl, vL_dat, vL_app, avA, datsOf, fillA, seval, ↓List.forall_mem_cons, Op.operands, hE, vL_two] <;> rfl) ?_
      try simp (maxSteps := 2000000) (disch := omega) only [avR2, avA, datsOf, fillA, seval, ↓List.forall_mem_cons, Op.operands, hA, tiA, hE]
      (repeat' refine And.intro ?_ ?_) <;> try exact SD
      refine CallGC.use rfl (fun hg => ⟨by first | trivial | (simp only [gdAll, AV.gd, avA, seval]; (repeat' apply And.intro) <;> first | trivial | rfl | exact hg) | simp_all [gdAll], gvF hP hG (before_ok G exA exB)⟩) ?_
      try simp (maxSteps := 2000000) (disch := omega) only [avR2, avA, datsOf, fillA, seval, ↓List.forall_mem_cons, Op.operands, hA, tiA, hE]
      (repeat' refine And.intro ?_ ?_) <;> try exact SD
      refine CallGC.use rfl (fun hg => ⟨by first | trivial | (simp only [gdAll, AV.gd, avA, seval]; (repeat' apply And.intro) <;> first | trivial | rfl | exact hg) | simp_all [gdAll], gvF hP hG (before_ok G exB exA)⟩) ?_
      try simp (maxSteps := 2000000) (disch := omega) only [avR2, avA, datsOf, fillA, seval, ↓List.forall_mem_cons, Op.operands, hA, tiA, hE]
      exact SC
    apply aw_ret
    simp only [QRet, QRetM, QRetX, retsX_nil, retsX_cons, objsAre, resA, mapO_nil, mapO_cons, vD_dat, vD_nils, vD_rp, vD_osl, vD_ptr, vD_agg, vD_fn, vD_isl, vL_dat, vL_app, viewL, avA, datsOf, fillA, seval, ↓List.forall_mem_cons, Op.operands, hP, hG, tiA, hE]
    all_goals try (first | done | rfl | trivial)

end Go.Proofs.YtabjaaonfaejmaaGreatDoor

namespace Go.Proofs.YtabjaaonfaejmaaGreatDoor
open Go.Av

theorem listM_len (l : List Int) (a : Int) (i : Nat) : (listM l a i).length = i := by simp [listM]
theorem listM_zero (l : List Int) (a : Int) : listM l a 0 = [] := rfl
theorem listM_succ (l : List Int) (a : Int) (i : Nat) : listM l a (i + 1) = listM l a i ++ [wordM (atM l (a + (i : Int)) 64)] := by simp [listM, List.range_succ]

theorem listM_take (l : List Int) (a : Int) (i : Nat) : (listM l a i).take i = listM l a i := List.take_of_length_le (by rw [listM_len]; exact Nat.le_refl _)
theorem tdiv_rng {n c m : Int} (hn : 0 ≤ n ∧ n ≤ m) (hc : 0 < c) : 0 ≤ n.tdiv c ∧ n.tdiv c ≤ m := by
  rw [Int.tdiv_eq_ediv_of_nonneg hn.1]
  exact ⟨Int.ediv_nonneg hn.1 (Int.le_of_lt hc), Int.le_trans (Int.ediv_le_self _ hn.1) hn.2⟩
theorem tmod_rng {n c : Int} (hn : 0 ≤ n) (hc : 0 < c) : 0 ≤ n.tmod c ∧ n.tmod c < c := ⟨Int.tmod_nonneg _ hn, Int.tmod_lt_of_pos _ hc⟩
theorem wrap_rng {n : Int} (hn : 0 ≤ n ∧ n ≤ 1000000000000000) : IntKind.i64.wrap n = n := IntWalk.i64_in _ (by omega)


theorem id_ok (G) (n : Int) (hn : 0 ≤ n ∧ n ≤ 1000000) : Gives Tryz.prog G 29 [iD n] [idD (idM n)] := by
  have w4 := wrap_rng (n := n.tdiv 4) (by have := tdiv_rng (c := 4) hn (by omega); omega)
  have w32 := wrap_rng (n := n.tdiv 32) (by have := tdiv_rng (c := 32) hn (by omega); omega)
  skip
  refine gives_intro [] [] [] Tryz.func29 rfl (by rfl) (by simp [Tryz.ntmps29]) fun F hP hG hN hR => ?_
  rw [Tryz.ntmps29] at hN
  have hA := And.intro hN (And.intro hP (And.intro hG (And.intro hR.1 (And.intro hR.2.1 hR.2.2.1))))
  have hE := And.intro @Tryz.results29 (And.intro @idM.eq_1 (And.intro @w4 (@w32)))
  refine WS [0, 2] [2] ?_
  refine WS [2] [2] ?_
  apply aw_ret
  simp only [QRet, QRetM, QRetX, retsX_nil, retsX_cons, objsAre, resA, mapO_nil, mapO_cons, vD_dat, vD_nils, vD_rp, vD_osl, vD_ptr, vD_agg, vD_fn, vD_isl, vL_dat, vL_app, viewL, avA, datsOf, fillA, seval, ↓List.forall_mem_cons, Op.operands, hP, hG, tiA, hE]
  all_goals try (first | done | rfl | trivial)

theorem list_ok (G) (l : List Int) (a m : Int) (hl : ∀ n ∈ l, I64 n) (ha : 0 ≤ a ∧ a ≤ 1000) (hm : m ≤ 1000) : Gives Tryz.prog G 28 [isD l, iD a, iD m] [ssD (listM l a m.toNat)] := by
  skip
  refine gives_intro [] [] [] Tryz.func28 rfl (by rfl) (by simp [Tryz.ntmps28]) fun F hP hG hN hR => ?_
  rw [Tryz.ntmps28] at hN
  have hA := And.intro hN (And.intro hP (And.intro hG (And.intro hR.1 (And.intro hR.2.1 hR.2.2.1))))
  have hE := And.intro @Tryz.results28 (And.intro @listM_len (And.intro @listM_zero (And.intro @listM_take (@Nat.min_self))))
  refine WS [0, 1, 2] [] ?_
  refine WS [0, 1, 2, 7] [21, 22] ?_
  apply aw_seq
  refine WS [0, 1, 2, 7, 8] [21, 22] ?_
  apply aw_block
  refine aw_new0 22 1 (by omega) ?_
  refine aw_nilE 7 22 1 rfl rfl ?_
  refine WL (ι := {i : Nat // i ≤ m.toNat}) [0, 1, 2] [21] (fun ⟨i, hi⟩ => [(7, .osl 22 1 0 i), (8, .dat (iD i))]) (fun ⟨i, hi⟩ => [(22, ⟨1, ((listM l a i).map Dat.str).map .dat⟩)]) (fun ⟨i, hi⟩ => m.toNat - i) (⟨0, by omega⟩) ?_
  rintro ⟨i, hi⟩
  dsimp only [List.cons_append, List.nil_append]
  have hat := atM_range (l := l) (i := a + (i : Int)) (m := 64) (by omega)
  apply aw_seq
  refine WS [0, 1, 2, 7, 8, 11] [21, 22] ?_
  refine WI (fun hb => ?_) (fun hb => ?_)
  · skip
    apply aw_skip
    apply q_seq
    apply aw_seq
    apply aw_block
    apply aw_reg [0, 1, 2, 7, 8] [21, 22]
    · simp (maxSteps := 2000000) (disch := omega) only [avR2, avA, datsOf, fillA, seval, ↓List.forall_mem_cons, Op.operands, hA, tiA, hE]
      (repeat' refine And.intro ?_ ?_) <;> try exact SD
      refine CallC.use (gvF hP hG (at_ok G l (a + (i : Int)) 64 hl (by omega) (by unfold I64; omega))) rfl ?_
      try simp (maxSteps := 2000000) (disch := omega) only [avR2, avA, datsOf, fillA, seval, ↓List.forall_mem_cons, Op.operands, hA, tiA, hE]
      (repeat' refine And.intro ?_ ?_) <;> try exact SD
      refine CallC.use (gvF hP hG (word_ok G (atM l (a + (i : Int)) 64) (by unfold I64; omega))) rfl ?_
      try simp (maxSteps := 2000000) (disch := omega) only [avR2, avA, datsOf, fillA, seval, ↓List.forall_mem_cons, Op.operands, hA, tiA, hE]
      exact SC
    apply q_block
    apply q_seq
    have hs := listM_succ l a i
    have hE := And.intro hE hs
    refine WQ [0, 1, 2, 7, 8] [21, 22] ?_
    refine WN (⟨i + 1, by omega⟩)
  · skip
    apply aw_exit
    apply q_exit_seq
    have hend : i = m.toNat := by omega
    subst hend
    apply q_exit_loop
    apply q_exit
    apply q_seq
    refine WS [6] [21, 22] ?_
    apply aw_ret
    simp only [QRet, QRetM, QRetX, retsX_nil, retsX_cons, objsAre, resA, mapO_nil, mapO_cons, vD_dat, vD_nils, vD_rp, vD_osl, vD_ptr, vD_agg, vD_fn, vD_isl, vL_dat, vL_app, viewL, avA, datsOf, fillA, seval, ↓List.forall_mem_cons, Op.operands, hP, hG, tiA, hE]
    all_goals try (first | done | rfl | trivial)

end Go.Proofs.YtabjaaonfaejmaaGreatDoor

namespace Go.Proofs.YtabjaaonfaejmaaGreatDoor
open Go.Av


set_option maxRecDepth 100000 in
set_option maxHeartbeats 2000000 in
theorem op_ok (G) (l : List Int) (a : Int) (hl : ∀ n ∈ l, I64 n) (ha : 0 ≤ a ∧ a ≤ 900) : Gives Tryz.prog G 26 [isD l, iD a] [opD (opM l a)] := by
  have hr : 0 ≤ opN l a ∧ opN l a ≤ 65536 := by have := atM_range (l := l) (i := a) (m := 65536) (by omega); unfold opN; omega
  have q := fun c (hc : 0 < c) => wrap_rng (n := (opN l a).tdiv c) (by have := tdiv_rng (c := c) hr hc; omega)
  have q2 := q 2 (by omega)
  have q3 := q 3 (by omega)
  have q4 := q 4 (by omega)
  have q5 := q 5 (by omega)
  have q7 := q 7 (by omega)
  have q8 := q 8 (by omega)
  have q10 := q 10 (by omega)
  have q16 := q 16 (by omega)
  have q100 := q 100 (by omega)
  have t10 := tdiv_rng (c := 10) hr (by omega)
  have t7 := tdiv_rng (c := 7) hr (by omega)
  have t5 := tdiv_rng (c := 5) hr (by omega)
  have t3 := tmod_rng (n := (opN l a).tdiv 3) (c := 3) (tdiv_rng hr (by omega)).1 (by omega)
  have hn : atM l a 65536 = opN l a := rfl
  skip
  skip
  refine gives_intro [39, 58] [] [] Tryz.func26 rfl (by rfl) (by simp [Tryz.ntmps26]) fun F hP hG hN hR => ?_
  rw [Tryz.ntmps26] at hN
  have hA := And.intro hN (And.intro hP (And.intro hG (And.intro hR.1 (And.intro hR.2.1 hR.2.2.1))))
  have hE := And.intro @Tryz.results26 (And.intro (And.intro hn (And.intro q2 (And.intro q3 (And.intro q4 (And.intro q5 (And.intro q7 (And.intro q8 (And.intro q10 (And.intro q16 q100))))))))) (And.intro @opM.eq_1 (@idM.eq_1)))
  refine WS [0, 1, 4] [4, 39, 58] ?_
  have hc := gvF hP hG (at_ok G l a 65536 hl (by omega) (by unfold I64; omega))
  refine WSc [0, 1, 4, 5] [4, 39, 58] ?_
  apply aw_regs [0, 1, 4, 5, 6] [4, 6, 39, 58]
  · simp (maxSteps := 2000000) (disch := omega) only [avR2, avA, datsOf, fillA, seval, ↓List.forall_mem_cons, Op.operands, hA, tiA, hE]
    (repeat' refine And.intro ?_ ?_) <;> try exact SD
    refine CallC.use (gvF hP hG (id_ok G ((opN l a).tdiv 10) (by omega))) rfl ?_
    try simp (maxSteps := 2000000) (disch := omega) only [avR2, avA, datsOf, fillA, seval, ↓List.forall_mem_cons, Op.operands, hA, tiA, hE]
    (repeat' refine And.intro ?_ ?_) <;> try exact SD
    refine CallC.use (gvF hP hG (word_ok G ((opN l a).tdiv 7) (by unfold I64; omega))) rfl ?_
    try simp (maxSteps := 2000000) (disch := omega) only [avR2, avA, datsOf, fillA, seval, ↓List.forall_mem_cons, Op.operands, hA, tiA, hE]
    exact SC
  apply aw_seq
  refine WS [0, 1, 4, 5, 6, 24] [4, 6, 39, 58] ?_
  refine WI (fun hb => ?_) (fun hb => ?_)
  · skip
    have hs : opT l a = listM l (a + 1) (((opN l a).tdiv 3).tmod 3).toNat ∧ opP l a = [((opN l a).tmod 2, ((opN l a).tdiv 2).tmod 3)] := by unfold opT opP; rw [if_pos hb, if_pos hb]; exact ⟨rfl, rfl⟩
    have hE := And.intro hE hs
    have hc := gvF hP hG (list_ok G l (a + 1) (((opN l a).tdiv 3).tmod 3) hl (by omega) (by omega))
    refine WSc [4, 5, 6] [4, 6, 39, 58] ?_
    refine WQ [4, 5, 6] [4, 6, 39, 58] ?_
    apply q_seq
    apply aw_seq
    refine WS [4, 5, 6, 43] [4, 6, 39, 58] ?_
    refine WI (fun hb => ?_) (fun hb => ?_)
    · skip
      have hs2 : opS l a = ⟨((opN l a).tdiv 4).tmod 2, ((opN l a).tdiv 8).tmod 3, ((opN l a).tdiv 16).tmod 4⟩ ∧ opR l a = [idM ((opN l a).tdiv 5)] := by unfold opS opR; rw [if_pos hb, if_pos hb]; exact ⟨rfl, rfl⟩
      have hE := And.intro hE hs2
      refine WS [4, 5, 6] [4, 6, 39, 58] ?_
      have hc := gvF hP hG (id_ok G ((opN l a).tdiv 5) (by omega))
      refine WQc [4, 6] [4, 6, 39, 58] ?_
      apply q_seq
      refine WS [4] [4, 39, 58] ?_
      apply aw_ret
      simp only [QRet, QRetM, QRetX, retsX_nil, retsX_cons, objsAre, resA, mapO_nil, mapO_cons, vD_dat, vD_nils, vD_rp, vD_osl, vD_ptr, vD_agg, vD_fn, vD_isl, vL_dat, vL_app, viewL, avA, datsOf, fillA, seval, ↓List.forall_mem_cons, Op.operands, hP, hG, tiA, hE]
      all_goals try (first | done | rfl | trivial)
    · skip
      have hs2 : opS l a = ⟨0, 0, 0⟩ ∧ opR l a = [] := by unfold opS opR; rw [if_neg hb, if_neg hb]; exact ⟨rfl, rfl⟩
      have hE := And.intro hE hs2
      apply aw_skip
      apply q_seq
      refine WS [4] [4, 39, 58] ?_
      apply aw_ret
      simp only [QRet, QRetM, QRetX, retsX_nil, retsX_cons, objsAre, resA, mapO_nil, mapO_cons, vD_dat, vD_nils, vD_rp, vD_osl, vD_ptr, vD_agg, vD_fn, vD_isl, vL_dat, vL_app, viewL, avA, datsOf, fillA, seval, ↓List.forall_mem_cons, Op.operands, hP, hG, tiA, hE]
      all_goals try (first | done | rfl | trivial)
  · skip
    have hs : opT l a = [] ∧ opP l a = [] := by unfold opT opP; rw [if_neg hb, if_neg hb]; exact ⟨rfl, rfl⟩
    have hE := And.intro hE hs
    apply aw_skip
    apply q_seq
    apply aw_seq
    refine WS [4, 5, 6, 43] [4, 6, 39, 58] ?_
    refine WI (fun hb => ?_) (fun hb => ?_)
    · skip
      have hs2 : opS l a = ⟨((opN l a).tdiv 4).tmod 2, ((opN l a).tdiv 8).tmod 3, ((opN l a).tdiv 16).tmod 4⟩ ∧ opR l a = [idM ((opN l a).tdiv 5)] := by unfold opS opR; rw [if_pos hb, if_pos hb]; exact ⟨rfl, rfl⟩
      have hE := And.intro hE hs2
      refine WS [4, 5, 6] [4, 6, 39, 58] ?_
      have hc := gvF hP hG (id_ok G ((opN l a).tdiv 5) (by omega))
      refine WQc [4, 6] [4, 6, 39, 58] ?_
      apply q_seq
      refine WS [4] [4, 39, 58] ?_
      apply aw_ret
      simp only [QRet, QRetM, QRetX, retsX_nil, retsX_cons, objsAre, resA, mapO_nil, mapO_cons, vD_dat, vD_nils, vD_rp, vD_osl, vD_ptr, vD_agg, vD_fn, vD_isl, vL_dat, vL_app, viewL, avA, datsOf, fillA, seval, ↓List.forall_mem_cons, Op.operands, hP, hG, tiA, hE]
      all_goals try (first | done | rfl | trivial)
    · skip
      have hs2 : opS l a = ⟨0, 0, 0⟩ ∧ opR l a = [] := by unfold opS opR; rw [if_neg hb, if_neg hb]; exact ⟨rfl, rfl⟩
      have hE := And.intro hE hs2
      apply aw_skip
      apply q_seq
      refine WS [4] [4, 39, 58] ?_
      apply aw_ret
      simp only [QRet, QRetM, QRetX, retsX_nil, retsX_cons, objsAre, resA, mapO_nil, mapO_cons, vD_dat, vD_nils, vD_rp, vD_osl, vD_ptr, vD_agg, vD_fn, vD_isl, vL_dat, vL_app, viewL, avA, datsOf, fillA, seval, ↓List.forall_mem_cons, Op.operands, hP, hG, tiA, hE]
      all_goals try (first | done | rfl | trivial)

end Go.Proofs.YtabjaaonfaejmaaGreatDoor

namespace Go.Proofs.YtabjaaonfaejmaaGreatDoor
open Go.Av

theorem postsG_len (l : List Int) (i : Nat) : (postsG l i).length = i := by simp [postsG]
theorem postsG_zero (l : List Int) : postsG l 0 = [] := rfl
theorem postsG_succ (l : List Int) (i : Nat) : postsG l (i + 1) = postsG l i ++ [postG l i] := by simp [postsG, List.range_succ]
theorem postsG_take (l : List Int) (i : Nat) : (postsG l i).take i = postsG l i := List.take_of_length_le (by rw [postsG_len]; exact Nat.le_refl _)


set_option maxRecDepth 100000 in
set_option maxHeartbeats 2000000 in
theorem event_ok (G) (l : List Int) (hl : ∀ n ∈ l, I64 n) : Gives Tryz.prog G 5 [isD l] [eventD (evG l)] := by
  have hk : atM l 3 7 = kindG l := rfl
  have hn11 : atM l 11 4096 = numG l := rfl
  have a0 := atM_range (l := l) (i := 0) (m := 6) (by omega)
  have a1 := atM_range (l := l) (i := 1) (m := 64) (by omega)
  have a2 := atM_range (l := l) (i := 2) (m := 1048577) (by omega)
  have a3 := atM_range (l := l) (i := 3) (m := 7) (by omega)
  have a4 := atM_range (l := l) (i := 4) (m := 64) (by omega)
  have rn : 0 ≤ numG l ∧ numG l ≤ 4096 := by have := atM_range (l := l) (i := 11) (m := 4096) (by omega); unfold numG; omega
  have q := fun c (hc : 0 < c) => wrap_rng (n := (numG l).tdiv c) (by have := tdiv_rng (c := c) rn hc; omega)
  have q3 := q 3 (by omega)
  have q5 := q 5 (by omega)
  have q12 := q 12 (by omega)
  have t5 := tdiv_rng (c := 5) rn (by omega)
  have t12 := tmod_rng (n := (numG l).tdiv 12) (c := 3) (tdiv_rng rn (by omega)).1 (by omega)
  have t4 := tmod_rng (n := numG l) (c := 4) rn.1 (by omega)
  skip
  skip
  refine gives_intro [113] [] [] Tryz.func5 rfl (by rfl) (by simp [Tryz.ntmps5]) fun F hP hG hN hR => ?_
  rw [Tryz.ntmps5] at hN
  have hA := And.intro hN (And.intro hP (And.intro hG (And.intro hR.1 (And.intro hR.2.1 hR.2.2.1))))
  have hE := And.intro @Tryz.results5 (And.intro (And.intro q3 (And.intro q5 q12)) (And.intro @postsG_len (And.intro @postsG_zero (And.intro @postsG_take (And.intro @hk (And.intro @hn11 (And.intro @eqName (And.intro @refsG.eq_1 (@Nat.min_self)))))))))
  refine WS [0, 2] [2, 44, 45, 112, 113, 7] ?_
  apply aw_regs [0, 2, 3] [2, 3, 44, 45, 112, 113, 7]
  · simp (maxSteps := 2000000) (disch := omega) only [avR2, avA, datsOf, fillA, seval, ↓List.forall_mem_cons, Op.operands, hA, tiA, hE]
    (repeat' refine And.intro ?_ ?_) <;> try exact SD
    refine CallC.use (gvF hP hG (at_ok G l 0 6 hl (by omega) (by unfold I64; omega))) rfl ?_
    try simp (maxSteps := 2000000) (disch := omega) only [avR2, avA, datsOf, fillA, seval, ↓List.forall_mem_cons, Op.operands, hA, tiA, hE]
    (repeat' refine And.intro ?_ ?_) <;> try exact SD
    refine CallC.use (gvF hP hG (at_ok G l 1 64 hl (by omega) (by unfold I64; omega))) rfl ?_
    try simp (maxSteps := 2000000) (disch := omega) only [avR2, avA, datsOf, fillA, seval, ↓List.forall_mem_cons, Op.operands, hA, tiA, hE]
    (repeat' refine And.intro ?_ ?_) <;> try exact SD
    refine CallC.use (gvF hP hG (at_ok G l 2 1048577 hl (by omega) (by unfold I64; omega))) rfl ?_
    try simp (maxSteps := 2000000) (disch := omega) only [avR2, avA, datsOf, fillA, seval, ↓List.forall_mem_cons, Op.operands, hA, tiA, hE]
    (repeat' refine And.intro ?_ ?_) <;> try exact SD
    refine CallC.use (gvF hP hG (at_ok G l 3 7 hl (by omega) (by unfold I64; omega))) rfl ?_
    try simp (maxSteps := 2000000) (disch := omega) only [avR2, avA, datsOf, fillA, seval, ↓List.forall_mem_cons, Op.operands, hA, tiA, hE]
    exact SC
  have hc := gvF hP hG (at_ok G l 4 64 hl (by omega) (by unfold I64; omega))
  refine WSc [0, 2, 3, 4] [2, 3, 44, 45, 112, 113, 7] ?_
  apply aw_seq
  refine WS [0, 2, 3, 4, 5] [2, 3, 44, 45, 112, 113, 7] ?_
  apply aw_block
  refine aw_new0 45 2 (by omega) ?_
  refine aw_nilO 3 45 2 4 rfl rfl rfl rfl ?_
  refine WL (ι := {i : Nat // i ≤ 6}) [0, 2, 3, 4] [2, 44, 112, 113, 7] (fun ⟨i, hi⟩ => [(5, .dat (iD i))]) (fun ⟨i, hi⟩ => [(3, ⟨32, [.agg [.dat (iD (atM l 0 6)), .dat (iD (atM l 1 64)), .dat (iD (atM l 2 1048577)), .dat (iD (kindG l)), .osl 45 2 0 (refsG l i).length, .dat (iD 0), .dat (iD 0), .dat (iD 0), .dat (iD 0), .dat (iD 0), .dat (iD 0), .dat (iD 0), .dat (iD 0), .dat (iD 0), .dat (iD 0), .dat (iD 0), .dat (iD 0), .dat (iD 0), .dat (sD ⟨#[]⟩), .nils, .nils, .nils, .dat (sD ⟨#[]⟩), .dat (iD 0), .dat (iD 0), .dat (sD ⟨#[]⟩), .nils, .dat (iD 0), .dat (iD 0), .dat (iD 0), .nils, .dat (iD 0)]]⟩), (45, ⟨2, ((refsG l i).map nameD).map .dat⟩)]) (fun ⟨i, hi⟩ => 6 - i) (⟨0, by omega⟩) ?_
  rintro ⟨i, hi⟩
  dsimp only [List.cons_append, List.nil_append]
  have hrl := refsG_len l i
  apply aw_seq
  refine WS [0, 2, 3, 4, 5, 21] [2, 3, 44, 45, 112, 113, 7] ?_
  refine WI (fun hb => ?_) (fun hb => ?_)
  · skip
    apply aw_skip
    apply q_seq
    apply aw_seq
    apply aw_block
    have hc := gvF hP hG (at_ok G l (5 + (i : Int)) 64 hl (by omega) (by unfold I64; omega))
    refine WSc [0, 2, 3, 4, 5, 6] [2, 3, 6, 44, 45, 112, 113, 7] ?_
    apply aw_rgds [0, 2, 3, 4, 5, 6, 40] [2, 3, 6, 44, 45, 112, 113, 7] [0, 1, 2, 3, 4, 5, 6, 7, 8, 9, 10] []
    · rw [hP]; kernel_rfl
    · exact hR
    · kernel_rfl
    · (repeat (apply PickL.cons; exact rfl)); exact PickL.nil _
    · simp (maxSteps := 2000000) (disch := omega) only [avR2, avA, datsOf, fillA, seval, ↓List.forall_mem_cons, Op.operands, hA, tiA, hE]
      (repeat' refine And.intro ?_ ?_) <;> try exact SD
      refine CallGC.use (by simp only [callArgs, mapO_nil, mapO_cons, vD_dat, vD_nils, vD_rp, vD_osl, vD_ptr, vD_agg, vD_fn, vD_isl, vL_dat, vL_app, avA, datsOf, fillA, seval, ↓List.forall_mem_cons, Op.operands, hE, viewL, evI.eq_1, evName.eq_1, List.length_map.{0,0}] <;> rfl) (fun hg => ⟨by first | trivial | (simp only [gdAll, AV.gd, avA, seval]; (repeat' apply And.intro) <;> first | trivial | rfl | exact hg) | simp_all [gdAll], gvF hP hG (rname_ok G (evI l i))⟩) ?_
      try simp (maxSteps := 2000000) (disch := omega) only [avR2, avA, datsOf, fillA, seval, ↓List.forall_mem_cons, Op.operands, hA, tiA, hE]
      exact SC
    refine WI (fun hb => ?_) (fun hb => ?_)
    · skip
      have hr1 : refsG l (i + 1) = refsG l i ++ [nmG l i] := by rw [refsG, if_pos (show shrG (atM l 4 64) i = 1 ∧ ((i : Int) = atM l 0 6 → ¬ atM l (5 + (i : Int)) 64 = atM l 1 64) from hb)]
      refine WQ [0, 2, 3, 4, 5] [2, 3, 44, 45, 112, 113, 7] ?_
      apply q_block
      apply q_seq
      have hE := And.intro hE (And.intro hr1 (nmG.eq_1 l i))
      refine WQ [0, 2, 3, 4, 5] [2, 3, 44, 45, 112, 113, 7] ?_
      refine WN (⟨i + 1, by omega⟩)
    · skip
      have hr1 : refsG l (i + 1) = refsG l i := by rw [refsG, if_neg (by have e1 : (evName (evI l i)).By = atM l 0 6 := rfl; have e2 : (evName (evI l i)).Seq = atM l 1 64 := rfl; (try rw [e1, e2] at hb); unfold shrG; intro hh; grind), List.append_nil]
      apply aw_skip
      apply q_block
      apply q_seq
      have hE := And.intro hE (And.intro hr1 (nmG.eq_1 l i))
      refine WQ [0, 2, 3, 4, 5] [2, 3, 44, 45, 112, 113, 7] ?_
      refine WN (⟨i + 1, by omega⟩)
  · skip
    apply aw_exit
    apply q_exit_seq
    have hend : i = 6 := by omega
    subst hend
    apply q_exit_loop
    apply q_exit
    apply q_seq
    refine aw_frz 45 hR.2.2.2 rfl (datE_map _) ?_
    have hc := gvF hP hG (at_ok G l 11 4096 hl (by omega) (by unfold I64; omega))
    refine WSc [0, 2, 3, 7] [2, 3, 44, 45, 112, 113, 7] ?_
    apply aw_seq
    refine WS [0, 2, 3, 7, 50] [2, 3, 44, 45, 112, 113, 7] ?_
    apply aw_block
    refine WS [0, 2, 3, 7, 50, 51] [2, 3, 44, 45, 112, 113, 7] ?_
    refine WI (fun hb => ?_) (fun hb => ?_)
    · skip
      have hv : evG l = { evI l 6 with Op := opM l 12 } := by unfold evG; rw [if_pos hb]
      have hE := And.intro hE hv
      have hc := gvF hP hG (op_ok G l 12 hl (by omega))
      refine WQc [2, 3] [2, 3, 44, 45, 112, 113, 7] ?_
      apply q_block
      apply q_seq
      refine WS [2] [2, 44, 45, 112, 113, 7] ?_
      apply aw_ret
      simp only [QRet, QRetM, QRetX, retsX_nil, retsX_cons, objsAre, resA, mapO_nil, mapO_cons, vD_dat, vD_nils, vD_rp, vD_osl, vD_ptr, vD_agg, vD_fn, vD_isl, vL_dat, vL_app, viewL, avA, datsOf, fillA, seval, ↓List.forall_mem_cons, Op.operands, hP, hG, tiA, hE]
      all_goals try (first | done | rfl | trivial)
      all_goals first
        | rfl
        | (have hv : evG l = evI l 6 := by unfold evG; rw [if_neg (by omega), if_neg (by omega), if_neg (by omega), if_neg (by omega)]
           rw [hv]; rfl)
        | (have hv : evG l = { evI l 6 with ID := idM (numG l), N := atM l 12 1048577 } := by unfold evG; rw [if_neg (by omega), if_neg (by omega), if_neg (by omega), if_pos (by omega)]
           rw [hv]; rfl)
    · skip
      have hk0 := hb
      refine WS [0, 2, 3, 7, 50, 56] [2, 3, 44, 45, 112, 113, 7] ?_
      refine WI (fun hb => ?_) (fun hb => ?_)
      · skip
        have hv : evG l = { evI l 6 with Term := termG l } := by unfold evG; rw [if_neg hk0, if_pos hb]
        have hE := And.intro hE hv
        apply aw_regs [2, 3, 7] [2, 3, 44, 45, 112, 113, 7]
        · simp (maxSteps := 2000000) (disch := omega) only [avR2, avA, datsOf, fillA, seval, ↓List.forall_mem_cons, Op.operands, hA, tiA, hE]
          (repeat' refine And.intro ?_ ?_) <;> try exact SD
          refine CallC.use (gvF hP hG (word_ok G (numG l) (by unfold I64; omega))) rfl ?_
          try simp (maxSteps := 2000000) (disch := omega) only [avR2, avA, datsOf, fillA, seval, ↓List.forall_mem_cons, Op.operands, hA, tiA, hE]
          (repeat' refine And.intro ?_ ?_) <;> try exact SD
          refine CallC.use (gvF hP hG (list_ok G l 12 (((numG l).tdiv 12).tmod 3) hl (by omega) (by omega))) rfl ?_
          try simp (maxSteps := 2000000) (disch := omega) only [avR2, avA, datsOf, fillA, seval, ↓List.forall_mem_cons, Op.operands, hA, tiA, hE]
          exact SC
        refine WS [2, 3, 7, 74] [2, 3, 44, 45, 112, 113, 7] ?_
        refine WI (fun hb => ?_) (fun hb => ?_)
        · skip
          have ht : termG l = { Name := wordM (numG l), Kind := (numG l).tmod 3, Lang := ((numG l).tdiv 3).tmod 4, See := wordM ((numG l).tdiv 5), Broader := listM l 12 (((numG l).tdiv 12).tmod 3).toNat } := by unfold termG; rw [if_pos hb]
          have hE := And.intro hE ht
          have hc := gvF hP hG (word_ok G ((numG l).tdiv 5) (by unfold I64; omega))
          refine WQc [2, 3] [2, 3, 44, 45, 112, 113, 7] ?_
          apply q_block
          apply q_seq
          refine WS [2] [2, 44, 45, 112, 113, 7] ?_
          apply aw_ret
          simp only [QRet, QRetM, QRetX, retsX_nil, retsX_cons, objsAre, resA, mapO_nil, mapO_cons, vD_dat, vD_nils, vD_rp, vD_osl, vD_ptr, vD_agg, vD_fn, vD_isl, vL_dat, vL_app, viewL, avA, datsOf, fillA, seval, ↓List.forall_mem_cons, Op.operands, hP, hG, tiA, hE]
          all_goals try (first | done | rfl | trivial)
          all_goals first
            | rfl
            | (have hv : evG l = evI l 6 := by unfold evG; rw [if_neg (by omega), if_neg (by omega), if_neg (by omega), if_neg (by omega)]
               rw [hv]; rfl)
            | (have hv : evG l = { evI l 6 with ID := idM (numG l), N := atM l 12 1048577 } := by unfold evG; rw [if_neg (by omega), if_neg (by omega), if_neg (by omega), if_pos (by omega)]
               rw [hv]; rfl)
        · skip
          have ht : termG l = { Name := wordM (numG l), Kind := (numG l).tmod 3, Lang := ((numG l).tdiv 3).tmod 4, See := ⟨#[]⟩, Broader := listM l 12 (((numG l).tdiv 12).tmod 3).toNat } := by unfold termG; rw [if_neg hb]
          have hE := And.intro hE ht
          apply aw_skip
          apply q_block
          apply q_seq
          refine WS [2] [2, 44, 45, 112, 113, 7] ?_
          apply aw_ret
          simp only [QRet, QRetM, QRetX, retsX_nil, retsX_cons, objsAre, resA, mapO_nil, mapO_cons, vD_dat, vD_nils, vD_rp, vD_osl, vD_ptr, vD_agg, vD_fn, vD_isl, vL_dat, vL_app, viewL, avA, datsOf, fillA, seval, ↓List.forall_mem_cons, Op.operands, hP, hG, tiA, hE]
          all_goals try (first | done | rfl | trivial)
          all_goals first
            | rfl
            | (have hv : evG l = evI l 6 := by unfold evG; rw [if_neg (by omega), if_neg (by omega), if_neg (by omega), if_neg (by omega)]
               rw [hv]; rfl)
            | (have hv : evG l = { evI l 6 with ID := idM (numG l), N := atM l 12 1048577 } := by unfold evG; rw [if_neg (by omega), if_neg (by omega), if_neg (by omega), if_pos (by omega)]
               rw [hv]; rfl)
      · skip
        have hk2 := hb
        apply aw_seq
        refine WS [0, 2, 3, 7, 50, 80] [2, 3, 44, 45, 112, 113, 7] ?_
        refine WI (fun hb => ?_) (fun hb => ?_)
        · skip
          apply aw_skip
          apply q_seq
          refine aw_ift (by first | exact rfl | (simp only [evA_tmp, of_env, envL_cons, envL_nil]; simp [*])) ?_
          have hc := gvF hP hG (id_ok G (numG l) (by omega))
          refine WSc [0, 2, 3, 7] [2, 3, 44, 45, 112, 113, 7] ?_
          refine WS [0, 2, 3, 7, 8] [2, 3, 44, 45, 112, 113, 7] ?_
          apply aw_block
          have hv : evG l = { evI l 6 with ID := idM (numG l), Posts := postsG l ((numG l).tmod 4).toNat } := by unfold evG; rw [if_neg hk0, if_neg hk2, if_pos (by omega)]
          have hE := And.intro hE hv
          refine aw_new0 7 5 (by omega) ?_
          refine aw_nilO 3 7 5 30 rfl rfl rfl rfl ?_
          refine WL (ι := {j : Nat // j ≤ ((numG l).tmod 4).toNat}) [0, 2, 3, 7] [2, 44, 45, 112, 113] (fun ⟨j, hj⟩ => [(8, .dat (iD j))]) (fun ⟨j, hj⟩ => [(3, ⟨32, [.agg [.dat (iD (atM l 0 6)), .dat (iD (atM l 1 64)), .dat (iD (atM l 2 1048577)), .dat (iD (kindG l)), .dat (namesD (refsG l 6)), .dat (iD 0), .dat (iD 0), .dat (iD 0), .dat (iD 0), .dat (iD 0), .dat (iD 0), .dat (iD 0), .dat (iD 0), .dat (iD 0), .dat (iD 0), .dat (iD 0), .dat (iD 0), .dat (iD 0), .dat (sD ⟨#[]⟩), .nils, .nils, .nils, .dat (sD ⟨#[]⟩), .dat (iD 0), .dat (iD 0), .dat (sD ⟨#[]⟩), .nils, .dat (iD (idM (numG l)).By), .dat (iD (idM (numG l)).Seq), .dat (iD (idM (numG l)).K), .osl 7 5 0 j, .dat (iD 0)]]⟩), (7, ⟨5, ((postsG l j).map postD).map .dat⟩)]) (fun ⟨j, hj⟩ => ((numG l).tmod 4).toNat - j) (⟨0, by omega⟩) ?_
          rintro ⟨j, hj⟩
          dsimp only [List.cons_append, List.nil_append]
          have ja := atM_range (l := l) (i := 30 + (j : Int)) (m := 4) (by omega)
          apply aw_seq
          refine WS [0, 2, 3, 7, 8, 89] [2, 3, 44, 45, 112, 113, 7] ?_
          refine WI (fun hb => ?_) (fun hb => ?_)
          · skip
            apply aw_skip
            apply q_seq
            apply aw_seq
            apply aw_block
            apply aw_rgd [0, 2, 3, 7, 8] [2, 3, 44, 45, 112, 113, 7] [0, 1, 2, 3, 4, 5, 6, 7, 8, 9, 10, 11, 12, 13, 14, 15, 16, 17, 18, 19, 20, 21, 22, 23] [113]
            · rw [hP]; kernel_rfl
            · exact hR
            · kernel_rfl
            · (repeat (apply PickL.cons; exact rfl)); exact PickL.nil _
            · simp (maxSteps := 2000000) (disch := omega) only [avR2, avA, datsOf, fillA, seval, ↓List.forall_mem_cons, Op.operands, hA, tiA, hE]
              (repeat' refine And.intro ?_ ?_) <;> try exact SD
              refine CallC.use (gvF hP hG (at_ok G l (30 + (j : Int)) 4 hl (by omega) (by unfold I64; omega))) rfl ?_
              try simp (maxSteps := 2000000) (disch := omega) only [avR2, avA, datsOf, fillA, seval, ↓List.forall_mem_cons, Op.operands, hA, tiA, hE]
              (repeat' refine And.intro ?_ ?_) <;> try exact SD
              refine CallC.use (gvF hP hG (list_ok G l (12 + 4 * (j : Int)) (1 + atM l (30 + (j : Int)) 4) hl (by omega) (by omega))) rfl ?_
              try simp (maxSteps := 2000000) (disch := omega) only [avR2, avA, datsOf, fillA, seval, ↓List.forall_mem_cons, Op.operands, hA, tiA, hE]
              exact SC
            apply q_block
            apply q_seq
            refine aw_swap 113 7 (by omega) (by omega) ?_
            have hps := postsG_succ l j
            have hE := And.intro hE (And.intro hps (postG.eq_1 l j))
            refine WQ [0, 2, 3, 7, 8] [2, 3, 44, 45, 112, 113, 7] ?_
            refine WN (⟨j + 1, by omega⟩)
          · skip
            apply aw_exit
            apply q_exit_seq
            have hend : j = ((numG l).tmod 4).toNat := by omega
            subst hend
            apply q_exit_loop
            apply q_exit
            apply q_block
            apply q_seq
            refine WS [2] [2, 44, 45, 112, 113, 7] ?_
            apply aw_ret
            simp only [QRet, QRetM, QRetX, retsX_nil, retsX_cons, objsAre, resA, mapO_nil, mapO_cons, vD_dat, vD_nils, vD_rp, vD_osl, vD_ptr, vD_agg, vD_fn, vD_isl, vL_dat, vL_app, viewL, avA, datsOf, fillA, seval, ↓List.forall_mem_cons, Op.operands, hP, hG, tiA, hE]
            all_goals try (first | done | rfl | trivial)
            all_goals first
              | rfl
              | (have hv : evG l = evI l 6 := by unfold evG; rw [if_neg (by omega), if_neg (by omega), if_neg (by omega), if_neg (by omega)]
                 rw [hv]; rfl)
              | (have hv : evG l = { evI l 6 with ID := idM (numG l), N := atM l 12 1048577 } := by unfold evG; rw [if_neg (by omega), if_neg (by omega), if_neg (by omega), if_pos (by omega)]
                 rw [hv]; rfl)
        · skip
          refine WQ [0, 2, 3, 7, 50, 80] [2, 3, 44, 45, 112, 113, 7] ?_
          apply q_seq
          refine WI (fun hb => ?_) (fun hb => ?_)
          · skip
            have hc := gvF hP hG (id_ok G (numG l) (by omega))
            refine WSc [0, 2, 3, 7] [2, 3, 44, 45, 112, 113, 7] ?_
            refine WS [0, 2, 3, 7, 8] [2, 3, 44, 45, 112, 113, 7] ?_
            apply aw_block
            have hv : evG l = { evI l 6 with ID := idM (numG l), Posts := postsG l ((numG l).tmod 4).toNat } := by unfold evG; rw [if_neg hk0, if_neg hk2, if_pos (by omega)]
            have hE := And.intro hE hv
            refine aw_new0 7 5 (by omega) ?_
            refine aw_nilO 3 7 5 30 rfl rfl rfl rfl ?_
            refine WL (ι := {j : Nat // j ≤ ((numG l).tmod 4).toNat}) [0, 2, 3, 7] [2, 44, 45, 112, 113] (fun ⟨j, hj⟩ => [(8, .dat (iD j))]) (fun ⟨j, hj⟩ => [(3, ⟨32, [.agg [.dat (iD (atM l 0 6)), .dat (iD (atM l 1 64)), .dat (iD (atM l 2 1048577)), .dat (iD (kindG l)), .dat (namesD (refsG l 6)), .dat (iD 0), .dat (iD 0), .dat (iD 0), .dat (iD 0), .dat (iD 0), .dat (iD 0), .dat (iD 0), .dat (iD 0), .dat (iD 0), .dat (iD 0), .dat (iD 0), .dat (iD 0), .dat (iD 0), .dat (sD ⟨#[]⟩), .nils, .nils, .nils, .dat (sD ⟨#[]⟩), .dat (iD 0), .dat (iD 0), .dat (sD ⟨#[]⟩), .nils, .dat (iD (idM (numG l)).By), .dat (iD (idM (numG l)).Seq), .dat (iD (idM (numG l)).K), .osl 7 5 0 j, .dat (iD 0)]]⟩), (7, ⟨5, ((postsG l j).map postD).map .dat⟩)]) (fun ⟨j, hj⟩ => ((numG l).tmod 4).toNat - j) (⟨0, by omega⟩) ?_
            rintro ⟨j, hj⟩
            dsimp only [List.cons_append, List.nil_append]
            have ja := atM_range (l := l) (i := 30 + (j : Int)) (m := 4) (by omega)
            apply aw_seq
            refine WS [0, 2, 3, 7, 8, 89] [2, 3, 44, 45, 112, 113, 7] ?_
            refine WI (fun hb => ?_) (fun hb => ?_)
            · skip
              apply aw_skip
              apply q_seq
              apply aw_seq
              apply aw_block
              apply aw_rgd [0, 2, 3, 7, 8] [2, 3, 44, 45, 112, 113, 7] [0, 1, 2, 3, 4, 5, 6, 7, 8, 9, 10, 11, 12, 13, 14, 15, 16, 17, 18, 19, 20, 21, 22, 23] [113]
              · rw [hP]; kernel_rfl
              · exact hR
              · kernel_rfl
              · (repeat (apply PickL.cons; exact rfl)); exact PickL.nil _
              · simp (maxSteps := 2000000) (disch := omega) only [avR2, avA, datsOf, fillA, seval, ↓List.forall_mem_cons, Op.operands, hA, tiA, hE]
                (repeat' refine And.intro ?_ ?_) <;> try exact SD
                refine CallC.use (gvF hP hG (at_ok G l (30 + (j : Int)) 4 hl (by omega) (by unfold I64; omega))) rfl ?_
                try simp (maxSteps := 2000000) (disch := omega) only [avR2, avA, datsOf, fillA, seval, ↓List.forall_mem_cons, Op.operands, hA, tiA, hE]
                (repeat' refine And.intro ?_ ?_) <;> try exact SD
                refine CallC.use (gvF hP hG (list_ok G l (12 + 4 * (j : Int)) (1 + atM l (30 + (j : Int)) 4) hl (by omega) (by omega))) rfl ?_
                try simp (maxSteps := 2000000) (disch := omega) only [avR2, avA, datsOf, fillA, seval, ↓List.forall_mem_cons, Op.operands, hA, tiA, hE]
                exact SC
              apply q_block
              apply q_seq
              refine aw_swap 113 7 (by omega) (by omega) ?_
              have hps := postsG_succ l j
              have hE := And.intro hE (And.intro hps (postG.eq_1 l j))
              refine WQ [0, 2, 3, 7, 8] [2, 3, 44, 45, 112, 113, 7] ?_
              refine WN (⟨j + 1, by omega⟩)
            · skip
              apply aw_exit
              apply q_exit_seq
              have hend : j = ((numG l).tmod 4).toNat := by omega
              subst hend
              apply q_exit_loop
              apply q_exit
              apply q_block
              apply q_seq
              refine WS [2] [2, 44, 45, 112, 113, 7] ?_
              apply aw_ret
              simp only [QRet, QRetM, QRetX, retsX_nil, retsX_cons, objsAre, resA, mapO_nil, mapO_cons, vD_dat, vD_nils, vD_rp, vD_osl, vD_ptr, vD_agg, vD_fn, vD_isl, vL_dat, vL_app, viewL, avA, datsOf, fillA, seval, ↓List.forall_mem_cons, Op.operands, hP, hG, tiA, hE]
              all_goals try (first | done | rfl | trivial)
              all_goals first
                | rfl
                | (have hv : evG l = evI l 6 := by unfold evG; rw [if_neg (by omega), if_neg (by omega), if_neg (by omega), if_neg (by omega)]
                   rw [hv]; rfl)
                | (have hv : evG l = { evI l 6 with ID := idM (numG l), N := atM l 12 1048577 } := by unfold evG; rw [if_neg (by omega), if_neg (by omega), if_neg (by omega), if_pos (by omega)]
                   rw [hv]; rfl)
          · skip
            apply aw_seq
            refine WS [0, 2, 3, 7, 50, 115] [2, 3, 44, 45, 112, 113, 7] ?_
            refine WI (fun hb => ?_) (fun hb => ?_)
            · skip
              apply aw_skip
              apply q_seq
              refine aw_ift (by first | exact rfl | (simp only [evA_tmp, of_env, envL_cons, envL_nil]; simp [*])) ?_
              have hc := gvF hP hG (id_ok G (numG l) (by omega))
              refine WSc [0, 2, 3] [2, 3, 44, 45, 112, 113, 7] ?_
              have hc := gvF hP hG (at_ok G l 12 1048577 hl (by omega) (by unfold I64; omega))
              refine WQc [2, 3] [2, 3, 44, 45, 112, 113, 7] ?_
              apply q_block
              apply q_seq
              refine WS [2] [2, 44, 45, 112, 113, 7] ?_
              apply aw_ret
              simp only [QRet, QRetM, QRetX, retsX_nil, retsX_cons, objsAre, resA, mapO_nil, mapO_cons, vD_dat, vD_nils, vD_rp, vD_osl, vD_ptr, vD_agg, vD_fn, vD_isl, vL_dat, vL_app, viewL, avA, datsOf, fillA, seval, ↓List.forall_mem_cons, Op.operands, hP, hG, tiA, hE]
              all_goals try (first | done | rfl | trivial)
              all_goals first
                | rfl
                | (have hv : evG l = evI l 6 := by unfold evG; rw [if_neg (by omega), if_neg (by omega), if_neg (by omega), if_neg (by omega)]
                   rw [hv]; rfl)
                | (have hv : evG l = { evI l 6 with ID := idM (numG l), N := atM l 12 1048577 } := by unfold evG; rw [if_neg (by omega), if_neg (by omega), if_neg (by omega), if_pos (by omega)]
                   rw [hv]; rfl)
            · skip
              refine WQ [0, 2, 3, 7, 115] [2, 3, 44, 45, 112, 113, 7] ?_
              apply q_seq
              refine WI (fun hb => ?_) (fun hb => ?_)
              · skip
                have hc := gvF hP hG (id_ok G (numG l) (by omega))
                refine WSc [0, 2, 3] [2, 3, 44, 45, 112, 113, 7] ?_
                have hc := gvF hP hG (at_ok G l 12 1048577 hl (by omega) (by unfold I64; omega))
                refine WQc [2, 3] [2, 3, 44, 45, 112, 113, 7] ?_
                apply q_block
                apply q_seq
                refine WS [2] [2, 44, 45, 112, 113, 7] ?_
                apply aw_ret
                simp only [QRet, QRetM, QRetX, retsX_nil, retsX_cons, objsAre, resA, mapO_nil, mapO_cons, vD_dat, vD_nils, vD_rp, vD_osl, vD_ptr, vD_agg, vD_fn, vD_isl, vL_dat, vL_app, viewL, avA, datsOf, fillA, seval, ↓List.forall_mem_cons, Op.operands, hP, hG, tiA, hE]
                all_goals try (first | done | rfl | trivial)
                all_goals first
                  | rfl
                  | (have hv : evG l = evI l 6 := by unfold evG; rw [if_neg (by omega), if_neg (by omega), if_neg (by omega), if_neg (by omega)]
                     rw [hv]; rfl)
                  | (have hv : evG l = { evI l 6 with ID := idM (numG l), N := atM l 12 1048577 } := by unfold evG; rw [if_neg (by omega), if_neg (by omega), if_neg (by omega), if_pos (by omega)]
                     rw [hv]; rfl)
              · skip
                apply aw_skip
                apply q_block
                apply q_seq
                refine WS [2] [2, 44, 45, 112, 113, 7] ?_
                apply aw_ret
                simp only [QRet, QRetM, QRetX, retsX_nil, retsX_cons, objsAre, resA, mapO_nil, mapO_cons, vD_dat, vD_nils, vD_rp, vD_osl, vD_ptr, vD_agg, vD_fn, vD_isl, vL_dat, vL_app, viewL, avA, datsOf, fillA, seval, ↓List.forall_mem_cons, Op.operands, hP, hG, tiA, hE]
                all_goals try (first | done | rfl | trivial)
                all_goals first
                  | rfl
                  | (have hv : evG l = evI l 6 := by unfold evG; rw [if_neg (by omega), if_neg (by omega), if_neg (by omega), if_neg (by omega)]
                     rw [hv]; rfl)
                  | (have hv : evG l = { evI l 6 with ID := idM (numG l), N := atM l 12 1048577 } := by unfold evG; rw [if_neg (by omega), if_neg (by omega), if_neg (by omega), if_pos (by omega)]
                     rw [hv]; rfl)

end Go.Proofs.YtabjaaonfaejmaaGreatDoor

