/- Contracts: events with one thing changed. -/
import Derived.Test.YtabjaaonfaejmaaGreatDoorHP44
set_option linter.all false
namespace Go.Proofs.YtabjaaonfaejmaaGreatDoor
open Go.Av


set_option maxRecDepth 100000 in
set_option maxHeartbeats 4000000 in
theorem spoilt_ok (G) (e : EventM) (how b : Int) (hs : OkEv e) (hh : I64 how) (hbb : I64 b) : Gives Tryz.prog G 6 [eventD e, iD how, iD b] [eventD (spoiltM e how b)] := by
  have hnr := hs.nrefs
  have hnp := hs.nposts
  have hnb := hs.nbroader
  have q := fun c (hc : 1 ≤ c) => IntWalk.i64_quo' b c (by unfold I64 at hbb; omega)
  have q5 := q 5 (by omega)
  have q7 := q 7 (by omega)
  have q8 := q 8 (by omega)
  have hc16 := aroundM_range (n := how) (m := 16) (by omega)
  have w1 := wordM_size b
  have hi8 := i64_tdiv hbb (c := 8) (by omega)
  have r8 := aroundM_range (n := b.tdiv 8) (m := 5) (by omega)
  have r4 := aroundM_range (n := b) (m := 4) (by omega)
  have w2 := sufL_size (i := (aroundM (b.tdiv 8) 5).toNat) (by omega)
  have hw1 : ([.str ⟨#[]⟩, .str ⟨#[64]⟩, .str ⟨#[32]⟩, .str ⟨#[32, 32, 120]⟩, .str ⟨#[32, 111, 102, 32, 116, 104, 101, 32, 108, 121, 114, 101, 32, 111, 102, 32, 114, 111, 109, 101]⟩] : List Dat) = sufL.map Dat.str := rfl
  have hw2 : ([.str ⟨#[]⟩, .str ⟨#[97, 110, 110, 97]⟩, .str ⟨#[64]⟩, .str ⟨#[32]⟩] : List Dat) = seeL.map Dat.str := rfl
  have hw3 : sufL.length = 5 := rfl
  have hw4 : seeL.length = 4 := rfl
  skip
  refine gives_intro [134] [] [156] Tryz.func6 rfl (by rfl) (by simp [Tryz.ntmps6]) fun F hP hG hN hR => ?_
  rw [Tryz.ntmps6] at hN
  have hA := And.intro hN (And.intro hP (And.intro hG (And.intro hR.1 (And.intro hR.2.1 hR.2.2.1))))
  have hE := And.intro @Tryz.results6 (And.intro (And.intro q5 (And.intro q7 (And.intro q8 (And.intro hw1 (And.intro hw2 (And.intro hw3 hw4)))))) (@nth_row))
  refine WS [1, 2, 3, 6] [3, 6, 9, 12, 13, 16, 27, 28, 63, 64, 106, 110, 115, 116, 131, 133, 134, 142, 156] ?_
  refine WS [1, 2, 3, 6, 7] [3, 6, 9, 12, 13, 16, 27, 28, 63, 64, 106, 110, 115, 116, 131, 133, 134, 142, 156] ?_
  refine WS [1, 2, 3, 6, 7, 8] [3, 6, 9, 12, 13, 16, 27, 28, 63, 64, 106, 110, 115, 116, 131, 133, 134, 142, 156] ?_
  apply aw_seq
  have hc := gvF hP hG (around_ok G how 16 hh (by omega) (by unfold I64; omega))
  refine WSc [2, 3, 6, 7, 8, 18] [3, 6, 9, 12, 13, 16, 27, 28, 63, 64, 106, 110, 115, 116, 131, 133, 134, 142, 156] ?_
  apply aw_block
  refine WS [2, 3, 6, 7, 8, 18, 31] [3, 6, 9, 12, 13, 16, 27, 28, 63, 64, 106, 110, 115, 116, 131, 133, 134, 142, 156] ?_
  refine WI (fun hb => ?_) (fun hb => ?_)
  · skip
    have hv : spoiltM e how b = { e with By := b } := by
      unfold spoiltM spM
      rw [if_pos hb]
    have hE := And.intro hE hv
    refine WQ [3, 6] [3, 6, 9, 12, 13, 16, 27, 28, 63, 64, 106, 110, 115, 116, 131, 133, 134, 142, 156] ?_
    apply q_block
    apply q_seq
    refine WS [6] [6, 9, 12, 13, 16, 27, 28, 63, 64, 106, 110, 115, 116, 131, 133, 134, 142, 156] ?_
    apply aw_ret
    simp only [QRet, QRetM, QRetX, retsX_nil, retsX_cons, objsAre, resA, mapO_nil, mapO_cons, vD_dat, vD_nils, vD_rp, vD_osl, vD_ptr, vD_agg, vD_fn, vD_isl, vL_dat, vL_app, viewL, avA, datsOf, fillA, seval, ↓List.forall_mem_cons, Op.operands, hP, hG, tiA, hE]
    all_goals try (first | done | rfl | trivial)
    all_goals first | done | rfl | (simp only [eventD, namesD, postsD, ssD, List.map_append, List.map_cons, List.map_nil]; done) | (simp only [eventD, namesD, postsD, ssD, List.map_append, List.map_cons, List.map_nil]; rfl) | skip
  · skip
    refine WS [2, 3, 6, 7, 8, 18, 35] [3, 6, 9, 12, 13, 16, 27, 28, 63, 64, 106, 110, 115, 116, 131, 133, 134, 142, 156] ?_
    refine WI (fun hb => ?_) (fun hb => ?_)
    · skip
      have hv : spoiltM e how b = { e with Seq := b } := by
        unfold spoiltM spM
        rw [if_neg (by omega), if_pos hb]
      have hE := And.intro hE hv
      refine WQ [3, 6] [3, 6, 9, 12, 13, 16, 27, 28, 63, 64, 106, 110, 115, 116, 131, 133, 134, 142, 156] ?_
      apply q_block
      apply q_seq
      refine WS [6] [6, 9, 12, 13, 16, 27, 28, 63, 64, 106, 110, 115, 116, 131, 133, 134, 142, 156] ?_
      apply aw_ret
      simp only [QRet, QRetM, QRetX, retsX_nil, retsX_cons, objsAre, resA, mapO_nil, mapO_cons, vD_dat, vD_nils, vD_rp, vD_osl, vD_ptr, vD_agg, vD_fn, vD_isl, vL_dat, vL_app, viewL, avA, datsOf, fillA, seval, ↓List.forall_mem_cons, Op.operands, hP, hG, tiA, hE]
      all_goals try (first | done | rfl | trivial)
      all_goals first | done | rfl | (simp only [eventD, namesD, postsD, ssD, List.map_append, List.map_cons, List.map_nil]; done) | (simp only [eventD, namesD, postsD, ssD, List.map_append, List.map_cons, List.map_nil]; rfl) | skip
    · skip
      refine WS [2, 3, 6, 7, 8, 18, 39] [3, 6, 9, 12, 13, 16, 27, 28, 63, 64, 106, 110, 115, 116, 131, 133, 134, 142, 156] ?_
      refine WI (fun hb => ?_) (fun hb => ?_)
      · skip
        have hv : spoiltM e how b = { e with Tick := b } := by
          unfold spoiltM spM
          rw [if_neg (by omega), if_neg (by omega), if_pos hb]
        have hE := And.intro hE hv
        refine WQ [3, 6] [3, 6, 9, 12, 13, 16, 27, 28, 63, 64, 106, 110, 115, 116, 131, 133, 134, 142, 156] ?_
        apply q_block
        apply q_seq
        refine WS [6] [6, 9, 12, 13, 16, 27, 28, 63, 64, 106, 110, 115, 116, 131, 133, 134, 142, 156] ?_
        apply aw_ret
        simp only [QRet, QRetM, QRetX, retsX_nil, retsX_cons, objsAre, resA, mapO_nil, mapO_cons, vD_dat, vD_nils, vD_rp, vD_osl, vD_ptr, vD_agg, vD_fn, vD_isl, vL_dat, vL_app, viewL, avA, datsOf, fillA, seval, ↓List.forall_mem_cons, Op.operands, hP, hG, tiA, hE]
        all_goals try (first | done | rfl | trivial)
        all_goals first | done | rfl | (simp only [eventD, namesD, postsD, ssD, List.map_append, List.map_cons, List.map_nil]; done) | (simp only [eventD, namesD, postsD, ssD, List.map_append, List.map_cons, List.map_nil]; rfl) | skip
      · skip
        refine WS [2, 3, 6, 7, 8, 18, 43] [3, 6, 9, 12, 13, 16, 27, 28, 63, 64, 106, 110, 115, 116, 131, 133, 134, 142, 156] ?_
        refine WI (fun hb => ?_) (fun hb => ?_)
        · skip
          have hv : spoiltM e how b = { e with Kind := b } := by
            unfold spoiltM spM
            rw [if_neg (by omega), if_neg (by omega), if_neg (by omega), if_pos hb]
          have hE := And.intro hE hv
          refine WQ [3, 6] [3, 6, 9, 12, 13, 16, 27, 28, 63, 64, 106, 110, 115, 116, 131, 133, 134, 142, 156] ?_
          apply q_block
          apply q_seq
          refine WS [6] [6, 9, 12, 13, 16, 27, 28, 63, 64, 106, 110, 115, 116, 131, 133, 134, 142, 156] ?_
          apply aw_ret
          simp only [QRet, QRetM, QRetX, retsX_nil, retsX_cons, objsAre, resA, mapO_nil, mapO_cons, vD_dat, vD_nils, vD_rp, vD_osl, vD_ptr, vD_agg, vD_fn, vD_isl, vL_dat, vL_app, viewL, avA, datsOf, fillA, seval, ↓List.forall_mem_cons, Op.operands, hP, hG, tiA, hE]
          all_goals try (first | done | rfl | trivial)
          all_goals first | done | rfl | (simp only [eventD, namesD, postsD, ssD, List.map_append, List.map_cons, List.map_nil]; done) | (simp only [eventD, namesD, postsD, ssD, List.map_append, List.map_cons, List.map_nil]; rfl) | skip
        · skip
          refine WS [2, 3, 6, 7, 8, 18, 47] [3, 6, 9, 12, 13, 16, 27, 28, 63, 64, 106, 110, 115, 116, 131, 133, 134, 142, 156] ?_
          refine WI (fun hb => ?_) (fun hb => ?_)
          · skip
            have hv : spoiltM e how b = { e with N := b } := by
              unfold spoiltM spM
              rw [if_neg (by omega), if_neg (by omega), if_neg (by omega), if_neg (by omega), if_pos hb]
            have hE := And.intro hE hv
            refine WQ [3, 6] [3, 6, 9, 12, 13, 16, 27, 28, 63, 64, 106, 110, 115, 116, 131, 133, 134, 142, 156] ?_
            apply q_block
            apply q_seq
            refine WS [6] [6, 9, 12, 13, 16, 27, 28, 63, 64, 106, 110, 115, 116, 131, 133, 134, 142, 156] ?_
            apply aw_ret
            simp only [QRet, QRetM, QRetX, retsX_nil, retsX_cons, objsAre, resA, mapO_nil, mapO_cons, vD_dat, vD_nils, vD_rp, vD_osl, vD_ptr, vD_agg, vD_fn, vD_isl, vL_dat, vL_app, viewL, avA, datsOf, fillA, seval, ↓List.forall_mem_cons, Op.operands, hP, hG, tiA, hE]
            all_goals try (first | done | rfl | trivial)
            all_goals first | done | rfl | (simp only [eventD, namesD, postsD, ssD, List.map_append, List.map_cons, List.map_nil]; done) | (simp only [eventD, namesD, postsD, ssD, List.map_append, List.map_cons, List.map_nil]; rfl) | skip
          · skip
            refine WS [2, 3, 6, 7, 8, 18, 51] [3, 6, 9, 12, 13, 16, 27, 28, 63, 64, 106, 110, 115, 116, 131, 133, 134, 142, 156] ?_
            refine WI (fun hb => ?_) (fun hb => ?_)
            · skip
              have hv : spoiltM e how b = { e with ID := { e.ID with K := b } } := by
                unfold spoiltM spM
                rw [if_neg (by omega), if_neg (by omega), if_neg (by omega), if_neg (by omega), if_neg (by omega), if_pos hb]
              have hE := And.intro hE hv
              refine WQ [3, 6] [3, 6, 9, 12, 13, 16, 27, 28, 63, 64, 106, 110, 115, 116, 131, 133, 134, 142, 156] ?_
              apply q_block
              apply q_seq
              refine WS [6] [6, 9, 12, 13, 16, 27, 28, 63, 64, 106, 110, 115, 116, 131, 133, 134, 142, 156] ?_
              apply aw_ret
              simp only [QRet, QRetM, QRetX, retsX_nil, retsX_cons, objsAre, resA, mapO_nil, mapO_cons, vD_dat, vD_nils, vD_rp, vD_osl, vD_ptr, vD_agg, vD_fn, vD_isl, vL_dat, vL_app, viewL, avA, datsOf, fillA, seval, ↓List.forall_mem_cons, Op.operands, hP, hG, tiA, hE]
              all_goals try (first | done | rfl | trivial)
              all_goals first | done | rfl | (simp only [eventD, namesD, postsD, ssD, List.map_append, List.map_cons, List.map_nil]; done) | (simp only [eventD, namesD, postsD, ssD, List.map_append, List.map_cons, List.map_nil]; rfl) | skip
            · skip
              refine WS [2, 3, 6, 7, 8, 18, 56] [3, 6, 9, 12, 13, 16, 27, 28, 63, 64, 106, 110, 115, 116, 131, 133, 134, 142, 156] ?_
              refine WI (fun hb => ?_) (fun hb => ?_)
              · skip
                have hv : spoiltM e how b = { e with Refs := e.Refs ++ [⟨b, b.tdiv 7⟩] } := by
                  unfold spoiltM spM
                  rw [if_neg (by omega), if_neg (by omega), if_neg (by omega), if_neg (by omega), if_neg (by omega), if_neg (by omega), if_pos hb]
                have hE := And.intro hE hv
                refine WQ [3, 6] [3, 6, 9, 12, 13, 16, 27, 28, 63, 64, 106, 110, 115, 116, 131, 133, 134, 142, 156] ?_
                apply q_block
                apply q_seq
                refine WS [6] [6, 9, 12, 13, 16, 27, 28, 63, 64, 106, 110, 115, 116, 131, 133, 134, 142, 156] ?_
                apply aw_ret
                simp only [QRet, QRetM, QRetX, retsX_nil, retsX_cons, objsAre, resA, mapO_nil, mapO_cons, vD_dat, vD_nils, vD_rp, vD_osl, vD_ptr, vD_agg, vD_fn, vD_isl, vL_dat, vL_app, viewL, avA, datsOf, fillA, seval, ↓List.forall_mem_cons, Op.operands, hP, hG, tiA, hE]
                all_goals try (first | done | rfl | trivial)
                all_goals first | done | rfl | (simp only [eventD, namesD, postsD, ssD, List.map_append, List.map_cons, List.map_nil]; done) | (simp only [eventD, namesD, postsD, ssD, List.map_append, List.map_cons, List.map_nil]; rfl) | skip
              · skip
                refine WS [2, 3, 6, 7, 8, 18, 66] [3, 6, 9, 12, 13, 16, 27, 28, 63, 64, 106, 110, 115, 116, 131, 133, 134, 142, 156] ?_
                refine WI (fun hb => ?_) (fun hb => ?_)
                · skip
                  have hv : spoiltM e how b = { e with Refs := sp7 e.Refs b } := by
                    unfold spoiltM spM
                    rw [if_neg (by omega), if_neg (by omega), if_neg (by omega), if_neg (by omega), if_neg (by omega), if_neg (by omega), if_neg (by omega), if_pos hb]
                  apply aw_seq
                  refine WS [2, 3, 6, 7, 70] [3, 6, 9, 12, 13, 16, 27, 28, 63, 64, 106, 110, 115, 116, 131, 133, 134, 142, 156] ?_
                  refine WI (fun hb => ?_) (fun hb => ?_)
                  · skip
                    have r7 := aroundM_range (n := b) (m := (e.Refs.length : Int)) (by omega)
                    have hv7 : spoiltM e how b = { e with Refs := e.Refs.set (aroundM b e.Refs.length).toNat (e.Refs.getD 0 default) } := by
                      rw [hv]
                      unfold sp7
                      rw [if_pos (by omega)]
                    have hset := set_row nameD e.Refs (aroundM b e.Refs.length).toNat (e.Refs.getD 0 default)
                    dsimp only [nameD] at hset
                    have hsl : (e.Refs.set (aroundM b e.Refs.length).toNat (e.Refs.getD 0 default)).length = e.Refs.length := List.length_set
                    have hst : List.take e.Refs.length (e.Refs.set (aroundM b e.Refs.length).toNat (e.Refs.getD 0 default)) = e.Refs.set (aroundM b e.Refs.length).toNat (e.Refs.getD 0 default) := List.take_of_length_le (by omega)
                    have hE := And.intro hE (And.intro hv7 (And.intro hset (And.intro hsl hst)))
                    apply aw_rgd [3, 6, 7] [3, 6, 9, 12, 13, 16, 27, 28, 63, 64, 106, 110, 115, 116, 131, 133, 134, 142, 156] [0, 1, 2, 3, 4, 5, 6, 7, 8, 9] []
                    · rw [hP]; kernel_rfl
                    · exact hR
                    · kernel_rfl
                    · (repeat (apply PickL.cons; exact rfl)); exact PickL.nil _
                    · simp (maxSteps := 2000000) (disch := omega) only [avR2, avA, datsOf, fillA, seval, ↓List.forall_mem_cons, Op.operands, hA, tiA, hE]
                      (repeat' refine And.intro ?_ ?_) <;> try exact SD
                      refine CallC.use (gvF hP hG (around_ok G b e.Refs.length hbb (by omega) (by unfold I64; omega))) rfl ?_
                      try simp (maxSteps := 2000000) (disch := omega) only [avR2, avA, datsOf, fillA, seval, ↓List.forall_mem_cons, Op.operands, hA, tiA, hE]
                      exact SC
                    apply q_seq
                    refine WQ [3, 6] [3, 6, 9, 12, 13, 16, 27, 28, 63, 64, 106, 110, 115, 116, 131, 133, 134, 142, 156] ?_
                    apply q_block
                    apply q_seq
                    refine WS [6] [6, 9, 12, 13, 16, 27, 28, 63, 64, 106, 110, 115, 116, 131, 133, 134, 142, 156] ?_
                    apply aw_ret
                    simp only [QRet, QRetM, QRetX, retsX_nil, retsX_cons, objsAre, resA, mapO_nil, mapO_cons, vD_dat, vD_nils, vD_rp, vD_osl, vD_ptr, vD_agg, vD_fn, vD_isl, vL_dat, vL_app, viewL, avA, datsOf, fillA, seval, ↓List.forall_mem_cons, Op.operands, hP, hG, tiA, hE]
                    all_goals try (first | done | rfl | trivial)
                    all_goals first | done | rfl | (simp only [eventD, namesD, postsD, ssD, List.map_append, List.map_cons, List.map_nil]; done) | (simp only [eventD, namesD, postsD, ssD, List.map_append, List.map_cons, List.map_nil]; rfl) | skip
                  · skip
                    have hv7 : spoiltM e how b = e := by
                      rw [hv]
                      unfold sp7
                      rw [if_neg (by omega)]
                    have hE := And.intro hE hv7
                    apply aw_skip
                    apply q_seq
                    refine WQ [3, 6] [3, 6, 9, 12, 13, 16, 27, 28, 63, 64, 106, 110, 115, 116, 131, 133, 134, 142, 156] ?_
                    apply q_block
                    apply q_seq
                    refine WS [6] [6, 9, 12, 13, 16, 27, 28, 63, 64, 106, 110, 115, 116, 131, 133, 134, 142, 156] ?_
                    apply aw_ret
                    simp only [QRet, QRetM, QRetX, retsX_nil, retsX_cons, objsAre, resA, mapO_nil, mapO_cons, vD_dat, vD_nils, vD_rp, vD_osl, vD_ptr, vD_agg, vD_fn, vD_isl, vL_dat, vL_app, viewL, avA, datsOf, fillA, seval, ↓List.forall_mem_cons, Op.operands, hP, hG, tiA, hE]
                    all_goals try (first | done | rfl | trivial)
                    all_goals first | done | rfl | (simp only [eventD, namesD, postsD, ssD, List.map_append, List.map_cons, List.map_nil]; done) | (simp only [eventD, namesD, postsD, ssD, List.map_append, List.map_cons, List.map_nil]; rfl) | skip
                · skip
                  refine WS [2, 3, 6, 7, 8, 18, 82] [3, 6, 9, 12, 13, 16, 27, 28, 63, 64, 106, 110, 115, 116, 131, 133, 134, 142, 156] ?_
                  refine WI (fun hb => ?_) (fun hb => ?_)
                  · skip
                    have hv : spoiltM e how b = { e with Term := { e.Term with Name := wordM b ++ sufL.getD (aroundM (b.tdiv 8) 5).toNat default } } := by
                      unfold spoiltM spM
                      rw [if_neg (by omega), if_neg (by omega), if_neg (by omega), if_neg (by omega), if_neg (by omega), if_neg (by omega), if_neg (by omega), if_neg (by omega), if_pos hb]
                    have hE := And.intro hE hv
                    apply aw_reg [3, 6] [3, 6, 9, 12, 13, 16, 27, 28, 63, 64, 106, 110, 115, 116, 131, 133, 134, 142, 156]
                    · simp (maxSteps := 2000000) (disch := omega) only [avR2, avA, datsOf, fillA, seval, ↓List.forall_mem_cons, Op.operands, hA, tiA, hE]
                      (repeat' refine And.intro ?_ ?_) <;> try exact SD
                      refine CallC.use (gvF hP hG (word_ok G b hbb)) rfl ?_
                      try simp (maxSteps := 2000000) (disch := omega) only [avR2, avA, datsOf, fillA, seval, ↓List.forall_mem_cons, Op.operands, hA, tiA, hE]
                      (repeat' refine And.intro ?_ ?_) <;> try exact SD
                      refine CallC.use (gvF hP hG (around_ok G (b.tdiv 8) 5 hi8 (by omega) (by unfold I64; omega))) rfl ?_
                      try simp (maxSteps := 2000000) (disch := omega) only [avR2, avA, datsOf, fillA, seval, ↓List.forall_mem_cons, Op.operands, hA, tiA, hE]
                      exact SC
                    apply q_block
                    apply q_seq
                    refine WS [6] [6, 9, 12, 13, 16, 27, 28, 63, 64, 106, 110, 115, 116, 131, 133, 134, 142, 156] ?_
                    apply aw_ret
                    simp only [QRet, QRetM, QRetX, retsX_nil, retsX_cons, objsAre, resA, mapO_nil, mapO_cons, vD_dat, vD_nils, vD_rp, vD_osl, vD_ptr, vD_agg, vD_fn, vD_isl, vL_dat, vL_app, viewL, avA, datsOf, fillA, seval, ↓List.forall_mem_cons, Op.operands, hP, hG, tiA, hE]
                    all_goals try (first | done | rfl | trivial)
                    all_goals first | done | rfl | (simp only [eventD, namesD, postsD, ssD, List.map_append, List.map_cons, List.map_nil]; done) | (simp only [eventD, namesD, postsD, ssD, List.map_append, List.map_cons, List.map_nil]; rfl) | skip
                  · skip
                    refine WS [2, 3, 6, 7, 8, 18, 95] [3, 6, 9, 12, 13, 16, 27, 28, 63, 64, 106, 110, 115, 116, 131, 133, 134, 142, 156] ?_
                    refine WI (fun hb => ?_) (fun hb => ?_)
                    · skip
                      have hv : spoiltM e how b = { e with Term := { e.Term with See := seeL.getD (aroundM b 4).toNat default } } := by
                        unfold spoiltM spM
                        rw [if_neg (by omega), if_neg (by omega), if_neg (by omega), if_neg (by omega), if_neg (by omega), if_neg (by omega), if_neg (by omega), if_neg (by omega), if_neg (by omega), if_pos hb]
                      have hE := And.intro hE hv
                      have hc := gvF hP hG (around_ok G b 4 hbb (by omega) (by unfold I64; omega))
                      refine WQc [3, 6] [3, 6, 9, 12, 13, 16, 27, 28, 63, 64, 106, 110, 115, 116, 131, 133, 134, 142, 156] ?_
                      apply q_block
                      apply q_seq
                      refine WS [6] [6, 9, 12, 13, 16, 27, 28, 63, 64, 106, 110, 115, 116, 131, 133, 134, 142, 156] ?_
                      apply aw_ret
                      simp only [QRet, QRetM, QRetX, retsX_nil, retsX_cons, objsAre, resA, mapO_nil, mapO_cons, vD_dat, vD_nils, vD_rp, vD_osl, vD_ptr, vD_agg, vD_fn, vD_isl, vL_dat, vL_app, viewL, avA, datsOf, fillA, seval, ↓List.forall_mem_cons, Op.operands, hP, hG, tiA, hE]
                      all_goals try (first | done | rfl | trivial)
                      all_goals first | done | rfl | (simp only [eventD, namesD, postsD, ssD, List.map_append, List.map_cons, List.map_nil]; done) | (simp only [eventD, namesD, postsD, ssD, List.map_append, List.map_cons, List.map_nil]; rfl) | skip
                    · skip
                      refine WS [2, 3, 6, 7, 8, 18, 104] [3, 6, 9, 12, 13, 16, 27, 28, 63, 64, 106, 110, 115, 116, 131, 133, 134, 142, 156] ?_
                      refine WI (fun hb => ?_) (fun hb => ?_)
                      · skip
                        have hv : spoiltM e how b = { e with Term := { e.Term with Broader := e.Term.Broader ++ [wordM b, ⟨#[]⟩, wordM b] } } := by
                          unfold spoiltM spM
                          rw [if_neg (by omega), if_neg (by omega), if_neg (by omega), if_neg (by omega), if_neg (by omega), if_neg (by omega), if_neg (by omega), if_neg (by omega), if_neg (by omega), if_neg (by omega), if_pos hb]
                        have hE := And.intro hE hv
                        apply aw_reg [3, 6] [3, 6, 9, 12, 13, 16, 27, 28, 63, 64, 106, 110, 115, 116, 131, 133, 134, 142, 156]
                        · simp (maxSteps := 2000000) (disch := omega) only [avR2, avA, datsOf, fillA, seval, ↓List.forall_mem_cons, Op.operands, hA, tiA, hE]
                          (repeat' refine And.intro ?_ ?_) <;> try exact SD
                          refine CallC.use (gvF hP hG (word_ok G b hbb)) rfl ?_
                          try simp (maxSteps := 2000000) (disch := omega) only [avR2, avA, datsOf, fillA, seval, ↓List.forall_mem_cons, Op.operands, hA, tiA, hE]
                          (repeat' refine And.intro ?_ ?_) <;> try exact SD
                          refine CallC.use (gvF hP hG (word_ok G b hbb)) rfl ?_
                          try simp (maxSteps := 2000000) (disch := omega) only [avR2, avA, datsOf, fillA, seval, ↓List.forall_mem_cons, Op.operands, hA, tiA, hE]
                          exact SC
                        apply q_block
                        apply q_seq
                        refine WS [6] [6, 9, 12, 13, 16, 27, 28, 63, 64, 106, 110, 115, 116, 131, 133, 134, 142, 156] ?_
                        apply aw_ret
                        simp only [QRet, QRetM, QRetX, retsX_nil, retsX_cons, objsAre, resA, mapO_nil, mapO_cons, vD_dat, vD_nils, vD_rp, vD_osl, vD_ptr, vD_agg, vD_fn, vD_isl, vL_dat, vL_app, viewL, avA, datsOf, fillA, seval, ↓List.forall_mem_cons, Op.operands, hP, hG, tiA, hE]
                        all_goals try (first | done | rfl | trivial)
                        all_goals first | done | rfl | (simp only [eventD, namesD, postsD, ssD, List.map_append, List.map_cons, List.map_nil]; done) | (simp only [eventD, namesD, postsD, ssD, List.map_append, List.map_cons, List.map_nil]; rfl) | skip
                      · skip
                        refine WS [2, 3, 6, 7, 8, 18, 119] [3, 6, 9, 12, 13, 16, 27, 28, 63, 64, 106, 110, 115, 116, 131, 133, 134, 142, 156] ?_
                        refine WI (fun hb => ?_) (fun hb => ?_)
                        · skip
                          have hv : spoiltM e how b = { e with Term := { e.Term with Lang := b } } := by
                            unfold spoiltM spM
                            rw [if_neg (by omega), if_neg (by omega), if_neg (by omega), if_neg (by omega), if_neg (by omega), if_neg (by omega), if_neg (by omega), if_neg (by omega), if_neg (by omega), if_neg (by omega), if_neg (by omega), if_pos hb]
                          have hE := And.intro hE hv
                          refine WQ [3, 6] [3, 6, 9, 12, 13, 16, 27, 28, 63, 64, 106, 110, 115, 116, 131, 133, 134, 142, 156] ?_
                          apply q_block
                          apply q_seq
                          refine WS [6] [6, 9, 12, 13, 16, 27, 28, 63, 64, 106, 110, 115, 116, 131, 133, 134, 142, 156] ?_
                          apply aw_ret
                          simp only [QRet, QRetM, QRetX, retsX_nil, retsX_cons, objsAre, resA, mapO_nil, mapO_cons, vD_dat, vD_nils, vD_rp, vD_osl, vD_ptr, vD_agg, vD_fn, vD_isl, vL_dat, vL_app, viewL, avA, datsOf, fillA, seval, ↓List.forall_mem_cons, Op.operands, hP, hG, tiA, hE]
                          all_goals try (first | done | rfl | trivial)
                          all_goals first | done | rfl | (simp only [eventD, namesD, postsD, ssD, List.map_append, List.map_cons, List.map_nil]; done) | (simp only [eventD, namesD, postsD, ssD, List.map_append, List.map_cons, List.map_nil]; rfl) | skip
                        · skip
                          refine WS [2, 3, 6, 7, 8, 18, 124] [3, 6, 9, 12, 13, 16, 27, 28, 63, 64, 106, 110, 115, 116, 131, 133, 134, 142, 156] ?_
                          refine WI (fun hb => ?_) (fun hb => ?_)
                          · skip
                            have hv : spoiltM e how b = { e with Posts := e.Posts ++ [{ ID := e.ID, Path := [wordM b], Main := false }] } := by
                              unfold spoiltM spM
                              rw [if_neg (by omega), if_neg (by omega), if_neg (by omega), if_neg (by omega), if_neg (by omega), if_neg (by omega), if_neg (by omega), if_neg (by omega), if_neg (by omega), if_neg (by omega), if_neg (by omega), if_neg (by omega), if_pos hb]
                            have hE := And.intro hE hv
                            apply aw_rgd [3, 6] [3, 6, 9, 12, 13, 16, 27, 28, 63, 64, 106, 110, 115, 116, 131, 133, 134, 142, 156] [0, 1, 2, 3, 4, 5, 6, 7, 8, 9, 10] [134]
                            · rw [hP]; kernel_rfl
                            · exact hR
                            · kernel_rfl
                            · (repeat (apply PickL.cons; exact rfl)); exact PickL.nil _
                            · simp (maxSteps := 2000000) (disch := omega) only [avR2, avA, datsOf, fillA, seval, ↓List.forall_mem_cons, Op.operands, hA, tiA, hE]
                              (repeat' refine And.intro ?_ ?_) <;> try exact SD
                              refine CallC.use (gvF hP hG (word_ok G b hbb)) rfl ?_
                              try simp (maxSteps := 2000000) (disch := omega) only [avR2, avA, datsOf, fillA, seval, ↓List.forall_mem_cons, Op.operands, hA, tiA, hE]
                              exact SC
                            apply q_block
                            apply q_seq
                            refine WS [6] [6, 9, 12, 13, 16, 27, 28, 63, 64, 106, 110, 115, 116, 131, 133, 134, 142, 156] ?_
                            apply aw_ret
                            simp only [QRet, QRetM, QRetX, retsX_nil, retsX_cons, objsAre, resA, mapO_nil, mapO_cons, vD_dat, vD_nils, vD_rp, vD_osl, vD_ptr, vD_agg, vD_fn, vD_isl, vL_dat, vL_app, viewL, avA, datsOf, fillA, seval, ↓List.forall_mem_cons, Op.operands, hP, hG, tiA, hE]
                            all_goals try (first | done | rfl | trivial)
                            all_goals first | done | rfl | (simp only [eventD, namesD, postsD, ssD, List.map_append, List.map_cons, List.map_nil]; done) | (simp only [eventD, namesD, postsD, ssD, List.map_append, List.map_cons, List.map_nil]; rfl) | skip
                          · skip
                            refine WS [2, 3, 6, 7, 8, 18, 136] [3, 6, 9, 12, 13, 16, 27, 28, 63, 64, 106, 110, 115, 116, 131, 133, 134, 142, 156] ?_
                            refine WI (fun hb => ?_) (fun hb => ?_)
                            · skip
                              have hv : spoiltM e how b = { e with Posts := sp13 e.Posts b } := by
                                unfold spoiltM spM
                                rw [if_neg (by omega), if_neg (by omega), if_neg (by omega), if_neg (by omega), if_neg (by omega), if_neg (by omega), if_neg (by omega), if_neg (by omega), if_neg (by omega), if_neg (by omega), if_neg (by omega), if_neg (by omega), if_neg (by omega), if_pos hb]
                              apply aw_seq
                              refine WS [2, 3, 6, 8, 140] [3, 6, 9, 12, 13, 16, 27, 28, 63, 64, 106, 110, 115, 116, 131, 133, 134, 142, 156] ?_
                              refine WI (fun hb => ?_) (fun hb => ?_)
                              · skip
                                obtain ⟨p, ps, hps⟩ : ∃ p ps, e.Posts = p :: ps := by
                                  cases hq : e.Posts with
                                  | nil => rw [hq] at hb; simp at hb
                                  | cons p ps => exact ⟨p, ps, rfl⟩
                                have hpo := hs.posts p (by rw [hps]; simp)
                                have r13 := aroundM_range (n := b) (m := (p.Path.length : Int) + 1) (by omega)
                                have r52a := Int.tmod_lt_of_pos (b.tdiv 5) (b := 2) (by omega)
                                have r52b := Int.lt_tmod_of_pos (b.tdiv 5) (b := 2) (by omega)
                                have hv13 : spoiltM e how b = { e with Posts := { ID := ⟨IntKind.i64.wrap (p.ID.By + (b.tdiv 5).tmod 2), p.ID.Seq, p.ID.K⟩, Path := p.Path.take (aroundM b (p.Path.length + 1)).toNat, Main := p.Main } :: ps } := by
                                  rw [hv, hps]
                                  rfl
                                have hE := And.intro hE (And.intro hps hv13)
                                apply aw_rgds [2, 3, 6, 8] [3, 6, 9, 12, 13, 16, 27, 28, 63, 64, 106, 110, 115, 116, 131, 133, 134, 142, 156] [0, 1, 2, 3, 4, 5, 6, 7, 8, 9, 10, 11, 12, 13, 14, 15, 16, 17, 18] [156]
                                · rw [hP]; kernel_rfl
                                · exact hR
                                · kernel_rfl
                                · (repeat (apply PickL.cons; exact rfl)); exact PickL.nil _
                                · simp (maxSteps := 2000000) (disch := omega) only [avR2, avA, datsOf, fillA, seval, ↓List.forall_mem_cons, Op.operands, hA, tiA, hE]
                                  (repeat' refine And.intro ?_ ?_) <;> try exact SD
                                  refine CallC.use (gvF hP hG (around_ok G b ((p.Path.length : Int) + 1) hbb (by omega) (by unfold I64; omega))) rfl ?_
                                  try simp (maxSteps := 2000000) (disch := omega) only [avR2, avA, datsOf, fillA, seval, ↓List.forall_mem_cons, Op.operands, hA, tiA, hE]
                                  exact SC
                                refine aw_frz 156 hR.2.2.2 rfl (datE_map _) ?_
                                refine WQ [3, 6, 8] [3, 6, 9, 12, 13, 16, 27, 28, 63, 64, 106, 110, 115, 116, 131, 133, 134, 142, 156] ?_
                                apply q_seq
                                refine WQ [3, 6] [3, 6, 9, 12, 13, 16, 27, 28, 63, 64, 106, 110, 115, 116, 131, 133, 134, 142, 156] ?_
                                apply q_block
                                apply q_seq
                                refine WS [6] [6, 9, 12, 13, 16, 27, 28, 63, 64, 106, 110, 115, 116, 131, 133, 134, 142, 156] ?_
                                apply aw_ret
                                simp only [QRet, QRetM, QRetX, retsX_nil, retsX_cons, objsAre, resA, mapO_nil, mapO_cons, vD_dat, vD_nils, vD_rp, vD_osl, vD_ptr, vD_agg, vD_fn, vD_isl, vL_dat, vL_app, viewL, avA, datsOf, fillA, seval, ↓List.forall_mem_cons, Op.operands, hP, hG, tiA, hE]
                                all_goals try (first | done | rfl | trivial)
                                all_goals first | done | rfl | (simp only [eventD, namesD, postsD, ssD, List.map_append, List.map_cons, List.map_nil]; done) | (simp only [eventD, namesD, postsD, ssD, List.map_append, List.map_cons, List.map_nil]; rfl) | skip
                              · skip
                                have hps : e.Posts = [] := List.eq_nil_of_length_eq_zero (by omega)
                                have hv13 : spoiltM e how b = e := by
                                  rw [hv, hps]
                                  show ({ e with Posts := [] } : EventM) = e
                                  rw [← hps]
                                have hE := And.intro hE hv13
                                apply aw_skip
                                apply q_seq
                                refine WQ [3, 6] [3, 6, 9, 12, 13, 16, 27, 28, 63, 64, 106, 110, 115, 116, 131, 133, 134, 142, 156] ?_
                                apply q_block
                                apply q_seq
                                refine WS [6] [6, 9, 12, 13, 16, 27, 28, 63, 64, 106, 110, 115, 116, 131, 133, 134, 142, 156] ?_
                                apply aw_ret
                                simp only [QRet, QRetM, QRetX, retsX_nil, retsX_cons, objsAre, resA, mapO_nil, mapO_cons, vD_dat, vD_nils, vD_rp, vD_osl, vD_ptr, vD_agg, vD_fn, vD_isl, vL_dat, vL_app, viewL, avA, datsOf, fillA, seval, ↓List.forall_mem_cons, Op.operands, hP, hG, tiA, hE]
                                all_goals try (first | done | rfl | trivial)
                                all_goals first | done | rfl | (simp only [eventD, namesD, postsD, ssD, List.map_append, List.map_cons, List.map_nil]; done) | (simp only [eventD, namesD, postsD, ssD, List.map_append, List.map_cons, List.map_nil]; rfl) | skip
                            · skip
                              refine WS [2, 3, 6, 7, 174] [3, 6, 9, 12, 13, 16, 27, 28, 63, 64, 106, 110, 115, 116, 131, 133, 134, 142, 156] ?_
                              refine WI (fun hb => ?_) (fun hb => ?_)
                              · skip
                                have hv : spoiltM e how b = { e with Op := { e.Op with N := b } } := by
                                  unfold spoiltM spM
                                  rw [if_neg (by omega), if_neg (by omega), if_neg (by omega), if_neg (by omega), if_neg (by omega), if_neg (by omega), if_neg (by omega), if_neg (by omega), if_neg (by omega), if_neg (by omega), if_neg (by omega), if_neg (by omega), if_neg (by omega), if_neg (by omega), if_pos hb]
                                have hE := And.intro hE hv
                                refine WQ [3, 6] [3, 6, 9, 12, 13, 16, 27, 28, 63, 64, 106, 110, 115, 116, 131, 133, 134, 142, 156] ?_
                                apply q_block
                                apply q_seq
                                refine WS [6] [6, 9, 12, 13, 16, 27, 28, 63, 64, 106, 110, 115, 116, 131, 133, 134, 142, 156] ?_
                                apply aw_ret
                                simp only [QRet, QRetM, QRetX, retsX_nil, retsX_cons, objsAre, resA, mapO_nil, mapO_cons, vD_dat, vD_nils, vD_rp, vD_osl, vD_ptr, vD_agg, vD_fn, vD_isl, vL_dat, vL_app, viewL, avA, datsOf, fillA, seval, ↓List.forall_mem_cons, Op.operands, hP, hG, tiA, hE]
                                all_goals try (first | done | rfl | trivial)
                                all_goals first | done | rfl | (simp only [eventD, namesD, postsD, ssD, List.map_append, List.map_cons, List.map_nil]; done) | (simp only [eventD, namesD, postsD, ssD, List.map_append, List.map_cons, List.map_nil]; rfl) | skip
                              · skip
                                apply aw_seq
                                apply aw_block
                                have hv : spoiltM e how b = { e with Refs := fillR e.Refs b } := by
                                  unfold spoiltM spM
                                  rw [if_neg (by omega), if_neg (by omega), if_neg (by omega), if_neg (by omega), if_neg (by omega), if_neg (by omega), if_neg (by omega), if_neg (by omega), if_neg (by omega), if_neg (by omega), if_neg (by omega), if_neg (by omega), if_neg (by omega), if_neg (by omega), if_neg (by omega)]
                                have hE := And.intro hE (And.intro hv (fillN_zero e.Refs b))
                                refine aw_swap 12 28 (by omega) (by omega) ?_
                                refine WL (ι := {i : Nat // e.Refs.length ≤ i ∧ (i ≤ 17 ∨ i = e.Refs.length)}) [2, 3, 6] [3, 6, 9, 12, 13, 16, 27, 63, 64, 106, 110, 115, 116, 131, 133, 134, 142, 156] (fun ⟨i, hi2⟩ => [(7, .osl 28 2 0 i)]) (fun ⟨i, hi2⟩ => [(28, ⟨2, ((fillN e.Refs b i).map nameD).map .dat⟩)]) (fun ⟨i, hi2⟩ => 17 - i) (⟨e.Refs.length, by omega, by omega⟩) ?_
                                rintro ⟨i, hi2⟩
                                dsimp only [List.cons_append, List.nil_append]
                                obtain ⟨hi, hi3⟩ := id hi2
                                have hfl := fillN_len (b := b) hi
                                have hfs := fillN_succ (b := b) hi
                                have hE := And.intro hE (And.intro hfl (And.intro hfs (fillN_zero e.Refs b)))
                                apply aw_seq
                                refine WS [2, 3, 6, 7, 21] [3, 6, 9, 12, 13, 16, 27, 28, 63, 64, 106, 110, 115, 116, 131, 133, 134, 142, 156] ?_
                                refine WI (fun hb => ?_) (fun hb => ?_)
                                · skip
                                  apply aw_skip
                                  apply q_seq
                                  apply aw_block
                                  refine WQ [2, 3, 6, 7] [3, 6, 9, 12, 13, 16, 27, 28, 63, 64, 106, 110, 115, 116, 131, 133, 134, 142, 156] ?_
                                  apply q_block
                                  refine WN (⟨i + 1, by omega⟩)
                                · skip
                                  apply aw_exit
                                  apply q_exit_seq
                                  have hfr : fillR e.Refs b = fillN e.Refs b i := by unfold fillR; congr 1; omega
                                  have hE := And.intro hE hfr
                                  apply q_exit_loop
                                  apply q_exit
                                  apply q_seq
                                  refine WQ [3, 6] [3, 6, 9, 12, 13, 16, 27, 28, 63, 64, 106, 110, 115, 116, 131, 133, 134, 142, 156] ?_
                                  apply q_block
                                  apply q_seq
                                  refine WS [6] [6, 9, 12, 13, 16, 27, 28, 63, 64, 106, 110, 115, 116, 131, 133, 134, 142, 156] ?_
                                  apply aw_ret
                                  simp only [QRet, QRetM, QRetX, retsX_nil, retsX_cons, objsAre, resA, mapO_nil, mapO_cons, vD_dat, vD_nils, vD_rp, vD_osl, vD_ptr, vD_agg, vD_fn, vD_isl, vL_dat, vL_app, viewL, avA, datsOf, fillA, seval, ↓List.forall_mem_cons, Op.operands, hP, hG, tiA, hE]
                                  all_goals try (first | done | rfl | trivial)
                                  all_goals first | done | rfl | (simp only [eventD, namesD, postsD, ssD, List.map_append, List.map_cons, List.map_nil]; done) | (simp only [eventD, namesD, postsD, ssD, List.map_append, List.map_cons, List.map_nil]; rfl) | skip

end Go.Proofs.YtabjaaonfaejmaaGreatDoor

namespace Go.Proofs.YtabjaaonfaejmaaGreatDoor
open Go.Av

theorem word_ok8 (n : Int) : okWordM (wordM n) = true := by
  have h := aroundM_range (n := n) (m := 8) (by omega)
  have key : ∀ i : Fin 8, okWordM (wordsL.getD i.val default) = true := by decide +kernel
  exact key ⟨(aroundM n 8).toNat, by omega⟩
theorem listM_ok (l : List Int) (a : Int) (i : Nat) : (listM l a i).length = i ∧ (∀ s ∈ listM l a i, s.size ≤ 12) ∧ okWordsM (listM l a i) = true := by
  refine ⟨by simp [listM], fun s hs => ?_, ?_⟩
  · obtain ⟨j, _, rfl⟩ := List.mem_map.1 hs
    exact wordM_size _
  · unfold okWordsM
    rw [List.all_eq_true]
    intro s hs
    obtain ⟨j, _, rfl⟩ := List.mem_map.1 hs
    exact word_ok8 _
theorem tm_small {n c : Int} (hc : 0 < c) (h2 : c ≤ 1000) : I64 (n.tmod c) := by
  have h1 := Int.tmod_lt_of_pos n hc
  have h3 := Int.lt_tmod_of_pos n hc
  exact i64_small (by omega) (by omega)
theorem opM_sm (l : List Int) (a : Int) : SmOp (opM l a) where
  head := by
    have h0 := idM_ok ((opN l a).tdiv 10)
    have hs : I64 (opS l a).Volume ∧ I64 (opS l a).Article ∧ I64 (opS l a).Index := by
      unfold opS
      split
      · exact ⟨tm_small (by omega) (by omega), tm_small (by omega) (by omega), tm_small (by omega) (by omega)⟩
      · exact ⟨i64z, i64z, i64z⟩
    intro x hx
    simp only [headL, opM, List.mem_cons, List.not_mem_nil, or_false] at hx
    rcases hx with rfl | rfl | rfl | rfl | rfl | rfl | rfl | rfl | rfl | rfl | rfl | rfl | rfl
    · exact tm_small (by omega) (by omega)
    · exact h0.1
    · exact h0.2.1
    · exact h0.2.2
    · exact i64z
    · exact i64z
    · exact i64z
    · exact hs.1
    · exact hs.2.1
    · exact hs.2.2
    · exact tm_small (by omega) (by omega)
    · exact i64z
    · exact i64z
  pairs := by
    intro p hp
    have hp : p ∈ opP l a := hp
    unfold opP at hp
    split at hp
    · rw [List.mem_singleton.1 hp]
      exact ⟨tm_small (by omega) (by omega), tm_small (by omega) (by omega)⟩
    · simp at hp
  refs := by
    intro p hp
    have hp : p ∈ opR l a := hp
    unfold opR at hp
    split at hp
    · rw [List.mem_singleton.1 hp]
      exact idM_ok _
    · simp at hp
  text := by
    have := wordM_size ((opN l a).tdiv 7)
    show (wordM _).size ≤ 100
    omega
  texts := by
    intro s hs
    have hs : s ∈ opT l a := hs
    unfold opT at hs
    split at hs
    · have := (listM_ok l (a + 1) (((opN l a).tdiv 3).tmod 3).toNat).2.1 s hs
      omega
    · simp at hs
  ntexts := by
    show (opT l a).length ≤ 10
    unfold opT
    split
    · rw [(listM_ok l (a + 1) (((opN l a).tdiv 3).tmod 3).toNat).1]
      have := Int.tmod_lt_of_pos ((opN l a).tdiv 3) (b := 3) (by omega)
      omega
    · simp
  npairs := by
    show (opP l a).length ≤ 10
    unfold opP
    split <;> simp
  nrefs := by
    show (opR l a).length ≤ 10
    unfold opR
    split <;> simp
theorem refsG_mem (l : List Int) {r : NameM} : ∀ {i : Nat}, r ∈ refsG l i → (0 ≤ r.By ∧ r.By < i ∧ 0 ≤ r.Seq ∧ r.Seq ≤ 63) ∧ r ≠ ⟨atM l 0 6, atM l 1 64⟩
  | 0, h => by simp [refsG] at h
  | i + 1, h => by
    rw [refsG] at h
    rcases List.mem_append.1 h with h | h
    · have := refsG_mem l h
      exact ⟨by omega, this.2⟩
    · split at h
      · rename_i hc
        rw [List.mem_singleton.1 h]
        have := atM_range (l := l) (i := 5 + (i : Int)) (m := 64) (by omega)
        unfold nmG
        refine ⟨by dsimp only; omega, fun hq => ?_⟩
        simp only [NameM.mk.injEq] at hq
        exact hc.2 hq.1 hq.2
      · simp at h
theorem refsG_sorted (l : List Int) : ∀ i : Nat, (refsG l i).Pairwise LessP
  | 0 => .nil
  | i + 1 => by
    rw [refsG, List.pairwise_append]
    refine ⟨refsG_sorted l i, by split <;> simp, fun x hx y hy => ?_⟩
    split at hy
    · rw [List.mem_singleton.1 hy]
      have := (refsG_mem l hx).1
      refine less_by ?_
      show x.By < (i : Int)
      omega
    · simp at hy
theorem postsG_ok (l : List Int) (i : Nat) : (postsG l i).length = i ∧ ∀ p ∈ postsG l i, p.ID = idM (numG l) ∧ 1 ≤ p.Path.length ∧ p.Path.length ≤ 4 ∧ okWordsM p.Path = true ∧ ∀ s ∈ p.Path, s.size ≤ 12 := by
  refine ⟨by simp [postsG], fun p hp => ?_⟩
  obtain ⟨j, _, rfl⟩ := List.mem_map.1 hp
  have h := atM_range (l := l) (i := 30 + (j : Int)) (m := 4) (by omega)
  have hl := listM_ok l (12 + 4 * (j : Int)) (1 + atM l (30 + (j : Int)) 4).toNat
  unfold postG
  exact ⟨rfl, by dsimp only; rw [hl.1]; omega, by dsimp only; rw [hl.1]; omega, hl.2.2, hl.2.1⟩
theorem evI_sm (l : List Int) : SmEv 0 (evI l 6) := by
  have a0 := atM_range (l := l) (i := 0) (m := 6) (by omega)
  have a1 := atM_range (l := l) (i := 1) (m := 64) (by omega)
  have a2 := atM_range (l := l) (i := 2) (m := 1048577) (by omega)
  have a3 := atM_range (l := l) (i := 3) (m := 7) (by omega)
  have hrl := refsG_len l 6
  exact { by_ := i64_small (by show _ ≤ atM l 0 6; omega) (by show atM l 0 6 ≤ _; omega), seq := i64_small (by show _ ≤ atM l 1 64; omega) (by show atM l 1 64 ≤ _; omega)
          tick := i64_small (by show _ ≤ atM l 2 1048577; omega) (by show atM l 2 1048577 ≤ _; omega), kind := i64_small (by show _ ≤ atM l 3 7; omega) (by show atM l 3 7 ≤ _; omega)
          n := i64z, id := ⟨i64z, i64z, i64z⟩, tk := i64z, tl := i64z
          refs := fun r hr => by
            have := (refsG_mem l hr).1
            exact ⟨i64_small (by omega) (by omega), i64_small (by omega) (by omega)⟩
          nrefs := by show (refsG l 6).length ≤ _; omega
          op := smZ
          name := by show (0 : Nat) ≤ 100; omega
          see := by show (0 : Nat) ≤ 100; omega
          broader := by simp [evI, zTermG]
          nbroader := by show (0 : Nat) ≤ _; omega
          posts := by simp [evI]
          nposts := by show (0 : Nat) ≤ _; omega }
theorem num_rng (l : List Int) : 0 ≤ numG l ∧ numG l < 4096 := atM_range (l := l) (i := 11) (m := 4096) (by omega)
theorem evG_sm (l : List Int) : SmEv 0 (evG l) := by
  have h := evI_sm l
  have hn := num_rng l
  have t4 := Int.tmod_nonneg (b := 4) (a := numG l) hn.1
  have t4b := Int.tmod_lt_of_pos (numG l) (b := 4) (by omega)
  unfold evG
  split
  · exact { h with op := opM_sm l 12 }
  split
  · have hw := wordM_size (numG l)
    have hw2 := wordM_size ((numG l).tdiv 5)
    have hl := listM_ok l 12 (((numG l).tdiv 12).tmod 3).toNat
    have t3 := Int.tmod_lt_of_pos ((numG l).tdiv 12) (b := 3) (by omega)
    refine { h with tk := tm_small (by omega) (by omega), tl := tm_small (by omega) (by omega), name := ?_, see := ?_, broader := fun s hs => ?_, nbroader := ?_ }
    · show (wordM (numG l)).size ≤ 100; omega
    · show (if (numG l).tmod 5 = 0 then wordM ((numG l).tdiv 5) else ⟨#[]⟩ : ByteArray).size ≤ 100
      split
      · omega
      · decide
    · have := hl.2.1 s hs; omega
    · show (listM l 12 (((numG l).tdiv 12).tmod 3).toNat).length ≤ _
      rw [hl.1]; omega
  split
  · have hp := postsG_ok l ((numG l).tmod 4).toNat
    refine { h with id := idM_ok _, posts := fun p hpm => ?_, nposts := ?_ }
    · obtain ⟨h1, h2, h3, h4, h5⟩ := hp.2 p hpm
      refine ⟨by rw [h1]; exact idM_ok _, by omega, fun s hs => by have := h5 s hs; omega⟩
    · show (postsG l ((numG l).tmod 4).toNat).length ≤ _
      rw [hp.1]; omega
  split
  · have a12 := atM_range (l := l) (i := 12) (m := 1048577) (by omega)
    exact { h with id := idM_ok _, n := i64_small (by show _ ≤ atM l 12 1048577; omega) (by show atM l 12 1048577 ≤ _; omega) }
  · exact h
theorem sameOp_zz : sameOpM zOpG zOp = true := sameOp_zero
/-- The bytes of a small operation are few. -/
theorem sm_few {o : OpM} (h : SmOp o) : (opB o).length ≤ 65536 := by
  have h0 := intsM_le h.head (by simp [headL])
  have e0 : (headL o).length = 13 := rfl
  have h1 := bytesM_sz h.text (by omega)
  have h2 : (strsM o.Texts).length ≤ 9 + 109 * o.Texts.length := by
    rw [strsM, strsN, preM_all, List.length_append]
    have ha := flat_le bytesM 109 o.Texts fun s hs => bytesM_sz (h.texts s hs) (by omega)
    have hb := intM_le (n := (o.Texts.length : Int)) (by have := h.ntexts; unfold I64; omega)
    omega
  have n1 := h.ntexts
  have n2 := h.npairs
  have n3 := h.nrefs
  have h3 := intsM_flat (f := pairI) (l := o.Pairs) (c := 2) (fun p hp => ⟨Nat.le_refl _, fun y hy => by
    have := h.pairs p hp
    simp only [pairI, List.mem_cons, List.not_mem_nil, or_false] at hy
    rcases hy with rfl | rfl
    · exact this.1
    · exact this.2⟩) (by omega)
  have h4 := intsM_flat (f := idI) (l := o.Refs) (c := 3) (fun p hp => ⟨Nat.le_refl _, fun y hy => by
    have := h.refs p hp
    simp only [idI, List.mem_cons, List.not_mem_nil, or_false] at hy
    rcases hy with rfl | rfl | rfl
    · exact this.1
    · exact this.2.1
    · exact this.2.2⟩) (by omega)
  rw [opB, List.length_append, List.length_append, List.length_append, List.length_append]
  omega
theorem okWords_nil : okWordsM [] = true := rfl
/-- The generated events are valid. -/
theorem evG_valid (l : List Int) : validM (evG l) = 0 := by
  have a0 := atM_range (l := l) (i := 0) (m := 6) (by omega)
  have a1 := atM_range (l := l) (i := 1) (m := 64) (by omega)
  have a2 := atM_range (l := l) (i := 2) (m := 1048577) (by omega)
  have a3 := atM_range (l := l) (i := 3) (m := 7) (by omega)
  have a12 := atM_range (l := l) (i := 12) (m := 1048577) (by omega)
  have hn := num_rng l
  have t4 := Int.tmod_nonneg (b := 4) (a := numG l) hn.1
  have t4b := Int.tmod_lt_of_pos (numG l) (b := 4) (by omega)
  have hrl := refsG_len l 6
  have hk : (evG l).Kind = kindG l ∧ (evG l).Refs = refsG l 6 ∧ (evG l).By = atM l 0 6 ∧ (evG l).Seq = atM l 1 64 ∧ (evG l).Tick = atM l 2 1048577 := by
    unfold evG
    split
    · exact ⟨rfl, rfl, rfl, rfl, rfl⟩
    split
    · exact ⟨rfl, rfl, rfl, rfl, rfl⟩
    split
    · exact ⟨rfl, rfl, rfl, rfl, rfl⟩
    split
    · exact ⟨rfl, rfl, rfl, rfl, rfl⟩
    · exact ⟨rfl, rfl, rfl, rfl, rfl⟩
  obtain ⟨hk1, hk2, hk3, hk4, hk5⟩ := hk
  have hkr : 0 ≤ kindG l ∧ kindG l < 7 := a3
  have hname : evName (evG l) = ⟨atM l 0 6, atM l 1 64⟩ := by unfold evName; rw [hk3, hk4]
  have hb1 : bad1 (evG l) = false := by
    unfold bad1 possibleM withinM
    rw [hname, hk5, hk1]
    simp
    omega
  have href : ∀ i, i < (evG l).Refs.length → badRef (evG l) i = false := by
    refine badRef_no (fun r hr => ?_) (by rw [hk2]; exact refsG_sorted l 6)
    rw [hk2] at hr
    have := refsG_mem l hr
    rw [hname]
    refine ⟨?_, this.2⟩
    unfold possibleM
    simp
    omega
  have hrl2 : (evG l).Refs.length ≤ 6 := by rw [hk2]; exact hrl
  by_cases c0 : kindG l = 0
  · have e : evG l = { evI l 6 with Op := opM l 12 } := by unfold evG; rw [if_pos c0]
    have eo : (evG l).Op = opM l 12 := by rw [e]
    have et : (evG l).Term = zTermG := by rw [e]; rfl
    have ei : (evG l).ID = idZ := by rw [e]; rfl
    have ep : (evG l).Posts = [] := by rw [e]; rfl
    have en : (evG l).N = 0 := by rw [e]; rfl
    refine valid_all ?_ ⟨hb1, ?_, ?_, ?_⟩ href ?_ ?_
    · unfold limM
      rw [eo, et, ep]
      have := sm_few (opM_sm l 12)
      simp [zTermG]
      omega
    · unfold bad2
      rw [of_op, hk1, et, sameTerm_zero]
      simp [c0]
    · unfold bad3
      rw [of_id, of_posts, of_n, hk1, ei, ep, en, c0]
      simp [sameID, idZ]
    · unfold withinM; rw [en]; simp
    · unfold bad5; rw [of_term, hk1, c0]; rfl
    · rw [ep]; intro i hi; exact absurd hi (Nat.not_lt_zero i)
  by_cases c2 : kindG l = 2
  · have e : evG l = { evI l 6 with Term := termG l } := by unfold evG; rw [if_neg c0, if_pos c2]
    have eo : (evG l).Op = zOpG := by rw [e]; rfl
    have et : (evG l).Term = termG l := by rw [e]
    have ei : (evG l).ID = idZ := by rw [e]; rfl
    have ep : (evG l).Posts = [] := by rw [e]; rfl
    have en : (evG l).N = 0 := by rw [e]; rfl
    have hl := listM_ok l 12 (((numG l).tdiv 12).tmod 3).toNat
    have t3 := Int.tmod_lt_of_pos ((numG l).tdiv 12) (b := 3) (by omega)
    have k3 := Int.tmod_nonneg (b := 3) (a := numG l) hn.1
    have k3b := Int.tmod_lt_of_pos (numG l) (b := 3) (by omega)
    have d3 : 0 ≤ (numG l).tdiv 3 := by rw [Int.tdiv_eq_ediv_of_nonneg hn.1]; omega
    have l4 := Int.tmod_nonneg (b := 4) (a := (numG l).tdiv 3) d3
    have l4b := Int.tmod_lt_of_pos ((numG l).tdiv 3) (b := 4) (by omega)
    have tb : (termG l).Broader.length ≤ 2 := by show (listM l 12 _).length ≤ 2; rw [hl.1]; omega
    refine valid_all ?_ ⟨hb1, ?_, ?_, ?_⟩ href ?_ ?_
    · unfold limM
      rw [of_op, hk1, et, ep, c2]
      simp
      omega
    · unfold bad2
      rw [of_op, of_term, hk1, eo, sameOp_zero, c2]
      simp
    · unfold bad3
      rw [of_id, of_posts, of_n, hk1, ei, ep, en, c2]
      simp [sameID, idZ]
    · unfold withinM; rw [en]; simp
    · have hw1 : okWordM (termG l).Name = true := word_ok8 _
      have hw2 : (sameStr (termG l).See ⟨#[]⟩ || okWordM (termG l).See) = true := by
        show (sameStr (if (numG l).tmod 5 = 0 then wordM ((numG l).tdiv 5) else ⟨#[]⟩) ⟨#[]⟩ || okWordM (if (numG l).tmod 5 = 0 then wordM ((numG l).tdiv 5) else ⟨#[]⟩)) = true
        split
        · rw [word_ok8]; simp
        · simp [sameStr]
      have hw3 : okWordsM (termG l).Broader = true := hl.2.2
      have hw4 : withinM (termG l).Kind 2 = true := by unfold withinM; show (decide (0 ≤ (numG l).tmod 3) && decide ((numG l).tmod 3 ≤ 2)) = true; simp; omega
      have hw5 : withinM (termG l).Lang 3 = true := by unfold withinM; show (decide (0 ≤ ((numG l).tdiv 3).tmod 4) && decide (((numG l).tdiv 3).tmod 4 ≤ 3)) = true; simp; omega
      unfold bad5
      rw [et, hw1, hw3, hw4, hw5]
      cases hs : sameStr (termG l).See ⟨#[]⟩ <;> cases ho : okWordM (termG l).See <;> simp [hs, ho] at hw2 ⊢
    · rw [ep]; intro i hi; exact absurd hi (Nat.not_lt_zero i)
  have hop : (ofM (evG l).Kind).op = false := by rw [of_op, hk1]; simp [c0]
  have htm : (ofM (evG l).Kind).term = false := by rw [of_term, hk1]; simp [c2]
  have eo : (evG l).Op = zOpG := by
    unfold evG; rw [if_neg c0, if_neg c2]
    split
    · rfl
    split <;> rfl
  have et : (evG l).Term = zTermG := by
    unfold evG; rw [if_neg c0, if_neg c2]
    split
    · rfl
    split <;> rfl
  have hb2 : bad2 (evG l) = false := by
    unfold bad2
    rw [eo, et, sameOp_zero, sameTerm_zero]
    simp
  have hb5 : bad5 (evG l) = false := by unfold bad5; rw [htm]; rfl
  by_cases c34 : kindG l = 3 ∨ kindG l = 4
  · have e : evG l = { evI l 6 with ID := idM (numG l), Posts := postsG l ((numG l).tmod 4).toNat } := by unfold evG; rw [if_neg c0, if_neg c2, if_pos c34]
    have ei : (evG l).ID = idM (numG l) := by rw [e]
    have ep : (evG l).Posts = postsG l ((numG l).tmod 4).toNat := by rw [e]
    have en : (evG l).N = 0 := by rw [e]; rfl
    have hp := postsG_ok l ((numG l).tmod 4).toNat
    refine valid_all ?_ ⟨hb1, hb2, ?_, ?_⟩ href hb5 ?_
    · unfold limM
      rw [hop, et, ep, hp.1]
      simp [zTermG]
      omega
    · unfold bad3
      rw [of_id, of_posts, of_n, hk1, en]
      rcases c34 with c | c <;> rw [c] <;> simp
    · unfold withinM; rw [en]; simp
    · intro i hi
      have hm := getD_all hp.2 (i := i) (by rw [← ep]; exact hi)
      unfold badPost
      have hsi : sameID (idM (numG l)) (idM (numG l)) = true := by simp [sameID]
      rw [ep, ei, hm.1, hm.2.2.2.1, hsi, decide_eq_false (by omega), decide_eq_false (by omega)]
      rfl
  by_cases c56 : kindG l = 5 ∨ kindG l = 6
  · have e : evG l = { evI l 6 with ID := idM (numG l), N := atM l 12 1048577 } := by unfold evG; rw [if_neg c0, if_neg c2, if_neg c34, if_pos c56]
    have ep : (evG l).Posts = [] := by rw [e]; rfl
    have en : (evG l).N = atM l 12 1048577 := by rw [e]
    refine valid_all ?_ ⟨hb1, hb2, ?_, ?_⟩ href hb5 ?_
    · unfold limM
      rw [hop, et, ep]
      simp [zTermG]
      omega
    · unfold bad3
      rw [of_id, of_posts, of_n, hk1, ep]
      rcases c56 with c | c <;> rw [c] <;> simp
    · unfold withinM; rw [en]; simp; omega
    · rw [ep]; intro i hi; exact absurd hi (Nat.not_lt_zero i)
  · have e : evG l = evI l 6 := by unfold evG; rw [if_neg c0, if_neg c2, if_neg c34, if_neg c56]
    have ei : (evG l).ID = idZ := by rw [e]; rfl
    have ep : (evG l).Posts = [] := by rw [e]; rfl
    have en : (evG l).N = 0 := by rw [e]; rfl
    refine valid_all ?_ ⟨hb1, hb2, ?_, ?_⟩ href hb5 ?_
    · unfold limM
      rw [hop, et, ep]
      simp [zTermG]
      omega
    · unfold bad3
      rw [ei, ep, en]
      simp [sameID, idZ]
    · unfold withinM; rw [en]; simp
    · rw [ep]; intro i hi; exact absurd hi (Nat.not_lt_zero i)
end Go.Proofs.YtabjaaonfaejmaaGreatDoor

namespace Go.Proofs.YtabjaaonfaejmaaGreatDoor
open Go.Av

/-- The sum over the first i. -/
def szN {α : Type} (f : α → Nat) (l : List α) (i : Nat) : Nat := ((l.take i).map f).sum
theorem szN_zero {α : Type} (f : α → Nat) (l : List α) : szN f l 0 = 0 := rfl
theorem szN_succ {α : Type} [Inhabited α] (f : α → Nat) {l : List α} {i : Nat} (h : i < l.length) : szN f l (i + 1) = szN f l i + f (l.getD i default) := by
  have : l.take (i + 1) = l.take i ++ [l.getD i default] := by
    rw [List.getD_eq_getElem?_getD, List.getElem?_eq_getElem h, Option.getD_some, List.take_append_getElem]
  rw [szN, this, List.map_append, List.sum_append_nat]
  simp [szN]
theorem szN_le {α : Type} (f : α → Nat) (l : List α) (i : Nat) : szN f l i ≤ szN f l l.length := by
  have e : szN f l l.length = szN f l i + ((l.drop i).map f).sum := by
    rw [szN, List.take_length]
    conv => lhs; rw [← List.take_append_drop i l, List.map_append, List.sum_append_nat]
    rfl
  omega
theorem szN_mem {α : Type} [Inhabited α] (f : α → Nat) {l : List α} {x : α} (h : x ∈ l) : f x ≤ szN f l l.length := by
  obtain ⟨i, hi, rfl⟩ := List.getElem_of_mem h
  have h1 := szN_succ f hi
  have h2 := szN_le f l (i + 1)
  rw [List.getD_eq_getElem?_getD, List.getElem?_eq_getElem hi, Option.getD_some] at h1
  omega
def n0M (e : EventM) : Nat := e.Refs.length + e.Op.Texts.length + e.Op.Pairs.length + e.Op.Refs.length + e.Op.Text.size + e.Term.Name.size + e.Term.See.size + e.Term.Broader.length + e.Posts.length
def a1M (e : EventM) (i : Nat) : Nat := n0M e + szN ByteArray.size e.Op.Texts i
def a2M (e : EventM) (i : Nat) : Nat := a1M e e.Op.Texts.length + szN ByteArray.size e.Term.Broader i
def postN (p : PostM) : Nat := p.Path.length + szN ByteArray.size p.Path p.Path.length
def a3M (e : EventM) (i : Nat) : Nat := a2M e e.Term.Broader.length + szN postN e.Posts i
def a4M (e : EventM) (i k : Nat) : Nat := a3M e i + (e.Posts.getD i default).Path.length + szN ByteArray.size (e.Posts.getD i default).Path k
def totM (e : EventM) : Nat := a3M e e.Posts.length
def fewM (e : EventM) : Bool := decide (n0M e ≤ 400) && decide (totM e ≤ 2000)
theorem a1_zero (e : EventM) : a1M e 0 = n0M e := rfl
theorem a2_zero (e : EventM) : a2M e 0 = a1M e e.Op.Texts.length := rfl
theorem a3_zero (e : EventM) : a3M e 0 = a2M e e.Term.Broader.length := rfl
theorem a4_zero (e : EventM) (i : Nat) : a4M e i 0 = a3M e i + (e.Posts.getD i default).Path.length := rfl
theorem a1_succ {e : EventM} {i : Nat} (h : i < e.Op.Texts.length) : a1M e (i + 1) = a1M e i + (e.Op.Texts.getD i default).size := by rw [a1M, szN_succ _ h, a1M]; omega
theorem a2_succ {e : EventM} {i : Nat} (h : i < e.Term.Broader.length) : a2M e (i + 1) = a2M e i + (e.Term.Broader.getD i default).size := by rw [a2M, szN_succ _ h, a2M]; omega
theorem a4_succ {e : EventM} {i k : Nat} (h : k < (e.Posts.getD i default).Path.length) : a4M e i (k + 1) = a4M e i k + ((e.Posts.getD i default).Path.getD k default).size := by rw [a4M, szN_succ _ h, a4M]; omega
theorem a3_succ {e : EventM} {i : Nat} (h : i < e.Posts.length) : a3M e (i + 1) = a4M e i (e.Posts.getD i default).Path.length := by rw [a3M, szN_succ _ h, a4M, a3M, postN]; omega
theorem a3_le (e : EventM) (i : Nat) : a3M e i ≤ totM e := by have := szN_le postN e.Posts i; unfold totM a3M; omega
theorem a2_le (e : EventM) (i : Nat) : a2M e i ≤ totM e := by
  have h1 := szN_le ByteArray.size e.Term.Broader i
  have h2 := a3_le e 0
  rw [a3_zero] at h2
  have h3 : a2M e i ≤ a2M e e.Term.Broader.length := by unfold a2M; omega
  omega
theorem a1_le (e : EventM) (i : Nat) : a1M e i ≤ totM e := by
  have h1 := szN_le ByteArray.size e.Op.Texts i
  have h2 := a2_le e 0
  rw [a2_zero] at h2
  have h3 : a1M e i ≤ a1M e e.Op.Texts.length := by unfold a1M; omega
  omega
theorem n0_le (e : EventM) : n0M e ≤ totM e := a1_le e 0
theorem a4_le {e : EventM} {i : Nat} (h : i < e.Posts.length) (k : Nat) : a4M e i k ≤ totM e := by
  have h1 := szN_le ByteArray.size (e.Posts.getD i default).Path k
  have h2 := a3_succ h
  have h3 := a3_le e (i + 1)
  have h4 : a4M e i k ≤ a4M e i (e.Posts.getD i default).Path.length := by unfold a4M; omega
  omega
/-- An event of whatever size. -/
structure RawEv (e : EventM) : Prop where
  by_ : I64 e.By
  seq : I64 e.Seq
  tick : I64 e.Tick
  kind : I64 e.Kind
  n : I64 e.N
  id : idOK e.ID
  tk : I64 e.Term.Kind
  tl : I64 e.Term.Lang
  refs : ∀ r ∈ e.Refs, I64 r.By ∧ I64 r.Seq
  head : ∀ x ∈ headL e.Op, I64 x
  pairs : ∀ p ∈ e.Op.Pairs, I64 p.1 ∧ I64 p.2
  orefs : ∀ r ∈ e.Op.Refs, idOK r
  posts : ∀ p ∈ e.Posts, idOK p.ID
theorem strs_sum : ∀ l : List ByteArray, (∀ s ∈ l, s.size ≤ 1000000) → (l.flatMap bytesM).length ≤ 9 * l.length + (l.map ByteArray.size).sum
  | [], _ => by simp
  | s :: l, h => by
    have h1 := strs_sum l fun s hs => h s (List.mem_cons.2 (.inr hs))
    have h2 := bytesM_sz (s := s) (Nat.le_refl _) (h s (by simp))
    rw [List.flatMap_cons, List.length_append, List.map_cons, List.sum_cons, List.length_cons]
    omega
theorem few_ok_ev {e : EventM} (h : RawEv e) (hf : fewM e = true) : OkEv e := by
  unfold fewM at hf
  simp only [Bool.and_eq_true, decide_eq_true_eq] at hf
  have h0 := hf.1
  unfold n0M at h0
  have ht := hf.2
  have h1 := a1_le e e.Op.Texts.length
  have h2 := a2_le e e.Term.Broader.length
  have hts : szN ByteArray.size e.Op.Texts e.Op.Texts.length ≤ 2000 := by unfold a1M at h1; omega
  have hbs : szN ByteArray.size e.Term.Broader e.Term.Broader.length ≤ 2000 := by unfold a2M at h2; omega
  have hps : szN postN e.Posts e.Posts.length ≤ 2000 := by unfold totM a3M at ht; omega
  refine { by_ := h.by_, seq := h.seq, tick := h.tick, kind := h.kind, n := h.n, id := h.id, tk := h.tk, tl := h.tl, refs := h.refs, nrefs := by omega, op := ?_, name := by omega, see := by omega
           broader := fun s hs => by have := szN_mem ByteArray.size hs; omega, nbroader := by omega, posts := fun p hp => ?_, nposts := by omega }
  · have htx : ∀ s ∈ e.Op.Texts, s.size ≤ 2000 := fun s hs => by have := szN_mem ByteArray.size hs; omega
    refine { head := h.head, pairs := h.pairs, refs := h.orefs, text := by omega, texts := fun s hs => by have := htx s hs; omega, ntexts := by omega, npairs := by omega, nrefs := by omega, all := ?_ }
    have q0 := intsM_le h.head (by simp [headL])
    have e0 : (headL e.Op).length = 13 := rfl
    have q1 := bytesM_sz (s := e.Op.Text) (Nat.le_refl _) (by omega)
    have q2 : (strsM e.Op.Texts).length ≤ 9 + 9 * e.Op.Texts.length + 2000 := by
      rw [strsM, strsN, preM_all, List.length_append]
      have ha := strs_sum e.Op.Texts fun s hs => by have := htx s hs; omega
      have hb := intM_le (n := (e.Op.Texts.length : Int)) (by unfold I64; omega)
      rw [szN, List.take_length] at hts
      omega
    have q3 := intsM_flat (f := pairI) (l := e.Op.Pairs) (c := 2) (fun p hp => ⟨Nat.le_refl _, fun y hy => by
      have := h.pairs p hp
      simp only [pairI, List.mem_cons, List.not_mem_nil, or_false] at hy
      rcases hy with rfl | rfl
      · exact this.1
      · exact this.2⟩) (by omega)
    have q4 := intsM_flat (f := idI) (l := e.Op.Refs) (c := 3) (fun p hp => ⟨Nat.le_refl _, fun y hy => by
      have := h.orefs p hp
      simp only [idI, List.mem_cons, List.not_mem_nil, or_false] at hy
      rcases hy with rfl | rfl | rfl
      · exact this.1
      · exact this.2.1
      · exact this.2.2⟩) (by omega)
    rw [opB, List.length_append, List.length_append, List.length_append, List.length_append]
    omega
  · have hm := szN_mem postN hp
    have he : postN p = p.Path.length + szN ByteArray.size p.Path p.Path.length := rfl
    exact ⟨h.posts p hp, by omega, fun s hs => by have := szN_mem ByteArray.size hs; omega⟩
end Go.Proofs.YtabjaaonfaejmaaGreatDoor

namespace Go.Proofs.YtabjaaonfaejmaaGreatDoor
open Go.Av

abbrev zEv' : EventM := exE 0 0 0 [] 0
def val5 (e : EventM) (how b also : Int) : List EventM := [e, spoiltM e how b, spoiltM (spoiltM e how b) also how, spoiltM (spoiltM (spoiltM e how b) also how) b also, zEv']
def validL (e : EventM) (how b also : Int) (raw : EventM) : List EventM := val5 e how b also ++ if fewM raw = true then [raw] else []
theorem validL_ok {e : EventM} (h : SmEv 0 e) {how b also : Int} (hh : I64 how) (hb : I64 b) (ha : I64 also) {raw : EventM} (hr : RawEv raw) : ∀ x ∈ validL e how b also raw, OkEv x := by
  have h1 : SmEv 1 (spoiltM e how b) := sm_sp h (by omega) hb _
  have h2 : SmEv 2 (spoiltM (spoiltM e how b) also how) := sm_sp h1 (by omega) hh _
  have h3 : SmEv 3 (spoiltM (spoiltM (spoiltM e how b) also how) b also) := sm_sp h2 (by omega) ha _
  intro x hx
  rcases List.mem_append.1 hx with hx | hx
  · simp only [val5, List.mem_cons, List.not_mem_nil, or_false] at hx
    rcases hx with rfl | rfl | rfl | rfl | rfl
    · exact sm_ev h (by omega)
    · exact sm_ev h1 (by omega)
    · exact sm_ev h2 (by omega)
    · exact sm_ev h3 (by omega)
    · exact okEx i64z i64z i64z i64z (by decide) (by simp)
  · split at hx
    · rename_i hf
      rw [List.mem_singleton.1 hx]
      exact few_ok_ev hr hf
    · simp at hx
theorem validL_len (e : EventM) (how b also : Int) (raw : EventM) : (validL e how b also raw).length ≤ 6 := by
  unfold validL val5
  split <;> simp
end Go.Proofs.YtabjaaonfaejmaaGreatDoor

namespace Go.Proofs.YtabjaaonfaejmaaGreatDoor
open Go.Av

theorem opens_same {e : EventM} (key : ByteArray) (h : validM e = 0) : opensM e key (sealM e key) = 0 := by
  unfold opensM; rw [if_pos h, if_pos rfl]
theorem opens_other {e : EventM} {key s : ByteArray} (h : validM e = 0) (hs : sealM e key ≠ s) : opensM e key s = 9 := by
  unfold opensM; rw [if_pos h, if_neg hs]
theorem opens_bad {e : EventM} {key s : ByteArray} (h : validM e ≠ 0) : opensM e key s = validM e := by
  unfold opensM; rw [if_neg h]
theorem seal_mac {e : EventM} (key : ByteArray) (h : validM e = 0) : macS key (bstr (evB e)) = sealM e key := by
  unfold sealM; rw [if_pos h]

set_option maxRecDepth 100000 in
set_option maxHeartbeats 8000000 in
theorem seals_law (G) (g0 : G.lookup 0 = some (wsD kH)) (g1 : G.lookup 1 = some (wsD kH)) (q : List Int) (how b : Int) (key other : ByteArray) (hq : ∀ n ∈ q, I64 n) (hh : I64 how) (hbb : I64 b) : Gives Tryz.prog G 3 [isD q, iD how, iD b, .str key, .str other] [bD true] := by
  have hsm := evG_sm q
  have hq0 := event_ok G q hq
  generalize evG q = e at *
  have h1 : SmEv 1 (spoiltM e how b) := sm_sp hsm (by omega) hbb _
  obtain ⟨L, hL⟩ : ∃ L, L = [e, spoiltM e how b] := ⟨_, rfl⟩
  have hLl : L.length = 2 := by rw [hL]; rfl
  have hLs : ∀ x ∈ L, OkEv x ∧ (evB x).length ≤ 549755813888 := by
    rw [hL]
    simp only [List.forall_mem_cons]
    have q1 := evB_sm hsm (by omega)
    have q2 := evB_sm h1 (by omega)
    exact ⟨⟨sm_ev hsm (by omega), by omega⟩, ⟨sm_ev h1 (by omega), by omega⟩, by simp⟩
  have hko := shortS_le key 80
  obtain ⟨kk, hkk⟩ : ∃ kk, kk = shortS key 80 := ⟨_, rfl⟩
  rw [← hkk] at hko
  have hsh := short_ok G key 80
  rw [← hkk] at hsh
  skip
  refine gives_intro [] [] [] Tryz.func3 rfl (by rfl) (by simp [Tryz.ntmps3]) fun F hP hG hN hR => ?_
  rw [Tryz.ntmps3] at hN
  have hA := And.intro hN (And.intro hP (And.intro hG (And.intro hR.1 (And.intro hR.2.1 hR.2.2.1))))
  have hE := And.intro @Tryz.results3 (@hLl)
  refine WS [0, 1, 2, 3, 4] [] ?_
  have hc := gvF hP hG (hq0)
  refine WSc [1, 2, 3, 4, 11] [11] ?_
  have hc := gvF hP hG (spoilt_ok G e how b (sm_ev hsm (by omega)) hh hbb)
  refine WSc [3, 4, 11, 12] [11, 12] ?_
  have hc := gvF hP hG (hsh)
  refine WSc [3, 4, 11, 12] [11, 12] ?_
  refine WS [3, 4, 13] [29] ?_
  apply aw_seq
  rw [show (Dat.sl [eventD e, eventD (spoiltM e how b)]) = eventsD L from by rw [hL]; rfl]
  refine WS [3, 4, 13, 14] [29] ?_
  apply aw_block
  refine WL (ι := {i : Nat // i ≤ 2}) [3, 4, 13] [29] (fun ⟨i, hi⟩ => [(14, .dat (iD i))]) (fun ⟨i, hi⟩ => []) (fun ⟨i, hi⟩ => 2 - i) (⟨0, by omega⟩) ?_
  rintro ⟨i, hi⟩
  dsimp only [List.cons_append, List.nil_append]
  apply aw_seq
  refine WS [3, 4, 13, 14, 31] [29] ?_
  refine WI (fun hb => ?_) (fun hb => ?_)
  · skip
    have hx := getD_all hLs (i := i) (by omega)
    apply aw_skip
    apply q_seq
    apply aw_seq
    apply aw_block
    have hc := gvF hP hG (seal_ok G g1 (L.getD i default) kk hx.1 hx.2 (by omega))
    refine WSc [3, 4, 13, 14, 15, 16] [29] ?_
    have hc := gvF hP hG (rseal_ok G g0 (L.getD i default) kk hx.1 hx.2 (by omega))
    refine WSc [3, 4, 13, 14, 15, 16, 17, 18] [29] ?_
    apply aw_seq
    refine WS [3, 4, 13, 14, 15, 16, 59] [29] ?_
    refine WI (fun hb => ?_) (fun hb => ?_)
    · skip
      exact absurd hb (by simp)
      --STOP
    · skip
      apply aw_skip
      apply q_seq
      apply aw_seq
      refine WS [3, 4, 13, 14, 15, 16, 61] [29] ?_
      refine WI (fun hb => ?_) (fun hb => ?_)
      · skip
        have hE := And.intro hE (opens_bad (key := kk) (s := other) hb)
        apply aw_seq
        have hc := gvF hP hG (opens_ok G g1 (L.getD i default) kk other hx.1 hx.2 (by omega))
        refine WSc [3, 4, 13, 14, 70] [29] ?_
        refine WI (fun hb => ?_) (fun hb => ?_)
        · skip
          exact absurd hb (by simp)
          --STOP
        · skip
          apply aw_skip
          apply q_seq
          apply aw_exit
          apply q_exit_seq
          apply q_exit
          apply q_seq
          refine WQ [3, 4, 13, 14] [29] ?_
          refine WN (⟨i + 1, by omega⟩)
      · skip
        obtain ⟨sv, hsv⟩ : ∃ sv, sv = sealM (L.getD i default) kk := ⟨_, rfl⟩
        obtain ⟨sx, hsx⟩ : ∃ sx, sx = sv ++ ⟨#[120]⟩ := ⟨_, rfl⟩
        have hn2 : sealM (L.getD i default) kk ≠ sx := fun q => by
          have h := congrArg ByteArray.size q
          rw [hsx, hsv, ByteArray.size_append] at h
          have h1 : (⟨#[120]⟩ : ByteArray).size = 1 := rfl
          omega
        have hsz : sv.size ≤ 32 := by rw [hsv]; exact sealM_size _ _
        have h120 : (⟨#[120]⟩ : ByteArray).size = 1 := rfl
        have o1 := opens_same kk hb
        have o2 := opens_other hb hn2
        have o3 := seal_mac kk hb
        rw [← hsv] at o1 o3 ⊢
        have hE := And.intro hE (And.intro hb (And.intro hsx.symm (And.intro (beq_self_eq_true sv.toList) (And.intro o3 (And.intro o1 (And.intro o2 h120))))))
        apply aw_skip
        apply q_seq
        by_cases ho : other = sv
        · skip
          have hq : (other.toList == sv.toList) = true := by rw [ho]; exact beq_self_eq_true _
          have hE := And.intro hE hq
          apply aw_regs [3, 4, 13, 14, 116] [29]
          · simp (maxSteps := 2000000) (disch := omega) only [avR2, avA, datsOf, fillA, seval, ↓List.forall_mem_cons, Op.operands, hA, tiA, hE]
            (repeat' refine And.intro ?_ ?_) <;> try exact SD
            refine CallC.use (gvF hP hG (wev_ok G (L.getD i default) hx.1)) rfl ?_
            try simp (maxSteps := 2000000) (disch := omega) only [avR2, avA, datsOf, fillA, seval, ↓List.forall_mem_cons, Op.operands, hA, tiA, hE]
            (repeat' refine And.intro ?_ ?_) <;> try exact SD
            refine CallC.use (gvF hP hG (mac_ok G g1 kk (bstr (evB (L.getD i default))) (by omega) (by rw [bstr_len]; exact hx.2))) rfl ?_
            try simp (maxSteps := 2000000) (disch := omega) only [avR2, avA, datsOf, fillA, seval, ↓List.forall_mem_cons, Op.operands, hA, tiA, hE]
            (repeat' refine And.intro ?_ ?_) <;> try exact SD
            refine CallGC.use rfl (fun hg => ⟨by first | trivial | (simp only [gdAll, AV.gd, avA, seval]; (repeat' apply And.intro) <;> first | trivial | rfl | exact hg) | simp_all [gdAll], gvF hP hG (opens_ok G g1 (L.getD i default) kk sv hx.1 hx.2 (by omega))⟩) ?_
            try simp (maxSteps := 2000000) (disch := omega) only [avR2, avA, datsOf, fillA, seval, ↓List.forall_mem_cons, Op.operands, hA, tiA, hE]
            (repeat' refine And.intro ?_ ?_) <;> try exact SD
            refine CallGC.use rfl (fun hg => ⟨by first | trivial | (simp only [gdAll, AV.gd, avA, seval]; (repeat' apply And.intro) <;> first | trivial | rfl | exact hg) | simp_all [gdAll], gvF hP hG (opens_ok G g1 (L.getD i default) kk other hx.1 hx.2 (by omega))⟩) ?_
            try simp (maxSteps := 2000000) (disch := omega) only [avR2, avA, datsOf, fillA, seval, ↓List.forall_mem_cons, Op.operands, hA, tiA, hE]
            (repeat' refine And.intro ?_ ?_) <;> try exact SD
            refine CallGC.use rfl (fun hg => ⟨by first | trivial | (simp only [gdAll, AV.gd, avA, seval]; (repeat' apply And.intro) <;> first | trivial | rfl | exact hg) | simp_all [gdAll], gvF hP hG (opens_ok G g1 (L.getD i default) kk sx hx.1 hx.2 (by omega))⟩) ?_
            try simp (maxSteps := 2000000) (disch := omega) only [avR2, avA, datsOf, fillA, seval, ↓List.forall_mem_cons, Op.operands, hA, tiA, hE]
            exact SC
          refine WI (fun hb => ?_) (fun hb => ?_)
          · skip
            exact absurd hb (by simp)
            --STOP
          · skip
            apply aw_skip
            apply q_block
            apply q_seq
            refine WQ [3, 4, 13, 14] [29] ?_
            refine WN (⟨i + 1, by omega⟩)
        · skip
          have hq : (other.toList == sv.toList) = false := beq_eq_false_iff_ne.2 fun q => ho (str_inj q)
          have hE := And.intro hE (And.intro hq (opens_other hb (by rw [← hsv]; exact Ne.symm ho)))
          apply aw_regs [3, 4, 13, 14, 116] [29]
          · simp (maxSteps := 2000000) (disch := omega) only [avR2, avA, datsOf, fillA, seval, ↓List.forall_mem_cons, Op.operands, hA, tiA, hE]
            (repeat' refine And.intro ?_ ?_) <;> try exact SD
            refine CallC.use (gvF hP hG (wev_ok G (L.getD i default) hx.1)) rfl ?_
            try simp (maxSteps := 2000000) (disch := omega) only [avR2, avA, datsOf, fillA, seval, ↓List.forall_mem_cons, Op.operands, hA, tiA, hE]
            (repeat' refine And.intro ?_ ?_) <;> try exact SD
            refine CallC.use (gvF hP hG (mac_ok G g1 kk (bstr (evB (L.getD i default))) (by omega) (by rw [bstr_len]; exact hx.2))) rfl ?_
            try simp (maxSteps := 2000000) (disch := omega) only [avR2, avA, datsOf, fillA, seval, ↓List.forall_mem_cons, Op.operands, hA, tiA, hE]
            (repeat' refine And.intro ?_ ?_) <;> try exact SD
            refine CallGC.use rfl (fun hg => ⟨by first | trivial | (simp only [gdAll, AV.gd, avA, seval]; (repeat' apply And.intro) <;> first | trivial | rfl | exact hg) | simp_all [gdAll], gvF hP hG (opens_ok G g1 (L.getD i default) kk sv hx.1 hx.2 (by omega))⟩) ?_
            try simp (maxSteps := 2000000) (disch := omega) only [avR2, avA, datsOf, fillA, seval, ↓List.forall_mem_cons, Op.operands, hA, tiA, hE]
            (repeat' refine And.intro ?_ ?_) <;> try exact SD
            refine CallGC.use rfl (fun hg => ⟨by first | trivial | (simp only [gdAll, AV.gd, avA, seval]; (repeat' apply And.intro) <;> first | trivial | rfl | exact hg) | simp_all [gdAll], gvF hP hG (opens_ok G g1 (L.getD i default) kk other hx.1 hx.2 (by omega))⟩) ?_
            try simp (maxSteps := 2000000) (disch := omega) only [avR2, avA, datsOf, fillA, seval, ↓List.forall_mem_cons, Op.operands, hA, tiA, hE]
            (repeat' refine And.intro ?_ ?_) <;> try exact SD
            refine CallGC.use rfl (fun hg => ⟨by first | trivial | (simp only [gdAll, AV.gd, avA, seval]; (repeat' apply And.intro) <;> first | trivial | rfl | exact hg) | simp_all [gdAll], gvF hP hG (opens_ok G g1 (L.getD i default) kk sx hx.1 hx.2 (by omega))⟩) ?_
            try simp (maxSteps := 2000000) (disch := omega) only [avR2, avA, datsOf, fillA, seval, ↓List.forall_mem_cons, Op.operands, hA, tiA, hE]
            exact SC
          refine WI (fun hb => ?_) (fun hb => ?_)
          · skip
            exact absurd hb (by simp)
            --STOP
          · skip
            apply aw_skip
            apply q_block
            apply q_seq
            refine WQ [3, 4, 13, 14] [29] ?_
            refine WN (⟨i + 1, by omega⟩)
  · skip
    apply aw_exit
    apply q_exit_seq
    have hend : i = 2 := by omega
    subst hend
    apply q_exit_loop
    apply q_exit
    apply q_seq
    have hc := gvF hP hG (lives_ok G)
    refine WSc [10] [] ?_
    apply aw_ret
    simp only [QRet, QRetM, QRetX, retsX_nil, retsX_cons, objsAre, resA, mapO_nil, mapO_cons, vD_dat, vD_nils, vD_rp, vD_osl, vD_ptr, vD_agg, vD_fn, vD_isl, vL_dat, vL_app, viewL, avA, datsOf, fillA, seval, ↓List.forall_mem_cons, Op.operands, hP, hG, tiA, hE]
    all_goals try (first | done | rfl | trivial)

end Go.Proofs.YtabjaaonfaejmaaGreatDoor

