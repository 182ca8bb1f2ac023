/- Contracts: events with one thing changed. -/
import Derived.Test.YtabjaaonfaejmaaHP40
import Derived.Test.YtabjaaonfaejmaaHAv51
import Derived.Test.YtabjaaonfaejmaaHAv50
import Derived.Test.YtabjaaonfaejmaaRows
import Derived.WalkKit
import Derived.ProofKit
import Derived.OpenShut
import Derived.WideKeyArgs
import Derived.Deep.DeepHandedRow
import Derived.Lib.LaidTab
set_option linter.all false
namespace Go.Proofs.Ytabjaaonfaejmaa
open Go.Av


set_option maxRecDepth 100000 in
set_option maxHeartbeats 4000000 in
theorem spoilt_ok (G) (e : EventM) (how b : Int) (hs : OkEv e) (hh : I64 how) (hbb : I64 b) : Gives Try.prog G 9 [eventD e, iD how, iD b] [eventD (spoiltM e how b)] := by
  have hnr := hs.nrefs
  have hnp := hs.nposts
  have hnb := hs.nbroader
  have q := fun c (hc : 1 ≤ c) => IntWalk.i64_quo' b c (by unfold I64 at hbb; omega)
  have q5 := q 5 (by omega)
  have q7 := q 7 (by omega)
  have q8 := q 8 (by omega)
  have hc16 := aroundM_range (n := how) (m := 16) (by omega)
  have w1 := wordM_size b
  have hi8 := i64_tdiv hbb (c := 8) (by omega)
  have r8 := aroundM_range (n := b.tdiv 8) (m := 5) (by omega)
  have r4 := aroundM_range (n := b) (m := 4) (by omega)
  have w2 := sufL_size (i := (aroundM (b.tdiv 8) 5).toNat) (by omega)
  have hw1 : ([.str ⟨#[]⟩, .str ⟨#[64]⟩, .str ⟨#[32]⟩, .str ⟨#[32, 32, 120]⟩, .str ⟨#[32, 111, 102, 32, 116, 104, 101, 32, 108, 121, 114, 101, 32, 111, 102, 32, 114, 111, 109, 101]⟩] : List Dat) = sufL.map Dat.str := rfl
  have hw2 : ([.str ⟨#[]⟩, .str ⟨#[97, 110, 110, 97]⟩, .str ⟨#[64]⟩, .str ⟨#[32]⟩] : List Dat) = seeL.map Dat.str := rfl
  have hw3 : sufL.length = 5 := rfl
  have hw4 : seeL.length = 4 := rfl
  skip
  refine gives_intro [134] [] [156] Try.func9 rfl (by rfl) (by simp [Try.ntmps9]) fun F hP hG hN hR => ?_
  rw [Try.ntmps9] at hN
  have hA := And.intro hN (And.intro hP (And.intro hG (And.intro hR.1 (And.intro hR.2.1 hR.2.2.1))))
  have hE := And.intro @Try.results9 (And.intro (And.intro q5 (And.intro q7 (And.intro q8 (And.intro hw1 (And.intro hw2 (And.intro hw3 hw4)))))) (@nth_row))
  refine WS [1, 2, 3, 6] [3, 6, 9, 12, 13, 16, 27, 28, 63, 64, 106, 110, 115, 116, 131, 133, 134, 142, 156] ?_
  refine WS [1, 2, 3, 6, 7] [3, 6, 9, 12, 13, 16, 27, 28, 63, 64, 106, 110, 115, 116, 131, 133, 134, 142, 156] ?_
  refine WS [1, 2, 3, 6, 7, 8] [3, 6, 9, 12, 13, 16, 27, 28, 63, 64, 106, 110, 115, 116, 131, 133, 134, 142, 156] ?_
  apply aw_seq
  have hc := gvF hP hG (around_ok G how 16 hh (by omega) (by unfold I64; omega))
  refine WSc [2, 3, 6, 7, 8, 18] [3, 6, 9, 12, 13, 16, 27, 28, 63, 64, 106, 110, 115, 116, 131, 133, 134, 142, 156] ?_
  apply aw_block
  refine WS [2, 3, 6, 7, 8, 18, 31] [3, 6, 9, 12, 13, 16, 27, 28, 63, 64, 106, 110, 115, 116, 131, 133, 134, 142, 156] ?_
  refine WI (fun hb => ?_) (fun hb => ?_)
  · skip
    have hv : spoiltM e how b = { e with By := b } := by
      unfold spoiltM spM
      rw [if_pos hb]
    have hE := And.intro hE hv
    refine WQ [3, 6] [3, 6, 9, 12, 13, 16, 27, 28, 63, 64, 106, 110, 115, 116, 131, 133, 134, 142, 156] ?_
    apply q_block
    apply q_seq
    refine WS [6] [6, 9, 12, 13, 16, 27, 28, 63, 64, 106, 110, 115, 116, 131, 133, 134, 142, 156] ?_
    apply aw_ret
    simp only [QRet, QRetM, QRetX, retsX_nil, retsX_cons, objsAre, resA, mapO_nil, mapO_cons, vD_dat, vD_nils, vD_rp, vD_osl, vD_ptr, vD_agg, vD_fn, vL_dat, vL_app, viewL, avA, datsOf, fillA, seval, ↓List.forall_mem_cons, Op.operands, hP, hG, tiA, hE]
    all_goals try (first | done | rfl | trivial)
    all_goals first | done | rfl | (simp only [eventD, namesD, postsD, ssD, List.map_append, List.map_cons, List.map_nil]; done) | (simp only [eventD, namesD, postsD, ssD, List.map_append, List.map_cons, List.map_nil]; rfl) | skip
  · skip
    refine WS [2, 3, 6, 7, 8, 18, 35] [3, 6, 9, 12, 13, 16, 27, 28, 63, 64, 106, 110, 115, 116, 131, 133, 134, 142, 156] ?_
    refine WI (fun hb => ?_) (fun hb => ?_)
    · skip
      have hv : spoiltM e how b = { e with Seq := b } := by
        unfold spoiltM spM
        rw [if_neg (by omega), if_pos hb]
      have hE := And.intro hE hv
      refine WQ [3, 6] [3, 6, 9, 12, 13, 16, 27, 28, 63, 64, 106, 110, 115, 116, 131, 133, 134, 142, 156] ?_
      apply q_block
      apply q_seq
      refine WS [6] [6, 9, 12, 13, 16, 27, 28, 63, 64, 106, 110, 115, 116, 131, 133, 134, 142, 156] ?_
      apply aw_ret
      simp only [QRet, QRetM, QRetX, retsX_nil, retsX_cons, objsAre, resA, mapO_nil, mapO_cons, vD_dat, vD_nils, vD_rp, vD_osl, vD_ptr, vD_agg, vD_fn, vL_dat, vL_app, viewL, avA, datsOf, fillA, seval, ↓List.forall_mem_cons, Op.operands, hP, hG, tiA, hE]
      all_goals try (first | done | rfl | trivial)
      all_goals first | done | rfl | (simp only [eventD, namesD, postsD, ssD, List.map_append, List.map_cons, List.map_nil]; done) | (simp only [eventD, namesD, postsD, ssD, List.map_append, List.map_cons, List.map_nil]; rfl) | skip
    · skip
      refine WS [2, 3, 6, 7, 8, 18, 39] [3, 6, 9, 12, 13, 16, 27, 28, 63, 64, 106, 110, 115, 116, 131, 133, 134, 142, 156] ?_
      refine WI (fun hb => ?_) (fun hb => ?_)
      · skip
        have hv : spoiltM e how b = { e with Tick := b } := by
          unfold spoiltM spM
          rw [if_neg (by omega), if_neg (by omega), if_pos hb]
        have hE := And.intro hE hv
        refine WQ [3, 6] [3, 6, 9, 12, 13, 16, 27, 28, 63, 64, 106, 110, 115, 116, 131, 133, 134, 142, 156] ?_
        apply q_block
        apply q_seq
        refine WS [6] [6, 9, 12, 13, 16, 27, 28, 63, 64, 106, 110, 115, 116, 131, 133, 134, 142, 156] ?_
        apply aw_ret
        simp only [QRet, QRetM, QRetX, retsX_nil, retsX_cons, objsAre, resA, mapO_nil, mapO_cons, vD_dat, vD_nils, vD_rp, vD_osl, vD_ptr, vD_agg, vD_fn, vL_dat, vL_app, viewL, avA, datsOf, fillA, seval, ↓List.forall_mem_cons, Op.operands, hP, hG, tiA, hE]
        all_goals try (first | done | rfl | trivial)
        all_goals first | done | rfl | (simp only [eventD, namesD, postsD, ssD, List.map_append, List.map_cons, List.map_nil]; done) | (simp only [eventD, namesD, postsD, ssD, List.map_append, List.map_cons, List.map_nil]; rfl) | skip
      · skip
        refine WS [2, 3, 6, 7, 8, 18, 43] [3, 6, 9, 12, 13, 16, 27, 28, 63, 64, 106, 110, 115, 116, 131, 133, 134, 142, 156] ?_
        refine WI (fun hb => ?_) (fun hb => ?_)
        · skip
          have hv : spoiltM e how b = { e with Kind := b } := by
            unfold spoiltM spM
            rw [if_neg (by omega), if_neg (by omega), if_neg (by omega), if_pos hb]
          have hE := And.intro hE hv
          refine WQ [3, 6] [3, 6, 9, 12, 13, 16, 27, 28, 63, 64, 106, 110, 115, 116, 131, 133, 134, 142, 156] ?_
          apply q_block
          apply q_seq
          refine WS [6] [6, 9, 12, 13, 16, 27, 28, 63, 64, 106, 110, 115, 116, 131, 133, 134, 142, 156] ?_
          apply aw_ret
          simp only [QRet, QRetM, QRetX, retsX_nil, retsX_cons, objsAre, resA, mapO_nil, mapO_cons, vD_dat, vD_nils, vD_rp, vD_osl, vD_ptr, vD_agg, vD_fn, vL_dat, vL_app, viewL, avA, datsOf, fillA, seval, ↓List.forall_mem_cons, Op.operands, hP, hG, tiA, hE]
          all_goals try (first | done | rfl | trivial)
          all_goals first | done | rfl | (simp only [eventD, namesD, postsD, ssD, List.map_append, List.map_cons, List.map_nil]; done) | (simp only [eventD, namesD, postsD, ssD, List.map_append, List.map_cons, List.map_nil]; rfl) | skip
        · skip
          refine WS [2, 3, 6, 7, 8, 18, 47] [3, 6, 9, 12, 13, 16, 27, 28, 63, 64, 106, 110, 115, 116, 131, 133, 134, 142, 156] ?_
          refine WI (fun hb => ?_) (fun hb => ?_)
          · skip
            have hv : spoiltM e how b = { e with N := b } := by
              unfold spoiltM spM
              rw [if_neg (by omega), if_neg (by omega), if_neg (by omega), if_neg (by omega), if_pos hb]
            have hE := And.intro hE hv
            refine WQ [3, 6] [3, 6, 9, 12, 13, 16, 27, 28, 63, 64, 106, 110, 115, 116, 131, 133, 134, 142, 156] ?_
            apply q_block
            apply q_seq
            refine WS [6] [6, 9, 12, 13, 16, 27, 28, 63, 64, 106, 110, 115, 116, 131, 133, 134, 142, 156] ?_
            apply aw_ret
            simp only [QRet, QRetM, QRetX, retsX_nil, retsX_cons, objsAre, resA, mapO_nil, mapO_cons, vD_dat, vD_nils, vD_rp, vD_osl, vD_ptr, vD_agg, vD_fn, vL_dat, vL_app, viewL, avA, datsOf, fillA, seval, ↓List.forall_mem_cons, Op.operands, hP, hG, tiA, hE]
            all_goals try (first | done | rfl | trivial)
            all_goals first | done | rfl | (simp only [eventD, namesD, postsD, ssD, List.map_append, List.map_cons, List.map_nil]; done) | (simp only [eventD, namesD, postsD, ssD, List.map_append, List.map_cons, List.map_nil]; rfl) | skip
          · skip
            refine WS [2, 3, 6, 7, 8, 18, 51] [3, 6, 9, 12, 13, 16, 27, 28, 63, 64, 106, 110, 115, 116, 131, 133, 134, 142, 156] ?_
            refine WI (fun hb => ?_) (fun hb => ?_)
            · skip
              have hv : spoiltM e how b = { e with ID := { e.ID with K := b } } := by
                unfold spoiltM spM
                rw [if_neg (by omega), if_neg (by omega), if_neg (by omega), if_neg (by omega), if_neg (by omega), if_pos hb]
              have hE := And.intro hE hv
              refine WQ [3, 6] [3, 6, 9, 12, 13, 16, 27, 28, 63, 64, 106, 110, 115, 116, 131, 133, 134, 142, 156] ?_
              apply q_block
              apply q_seq
              refine WS [6] [6, 9, 12, 13, 16, 27, 28, 63, 64, 106, 110, 115, 116, 131, 133, 134, 142, 156] ?_
              apply aw_ret
              simp only [QRet, QRetM, QRetX, retsX_nil, retsX_cons, objsAre, resA, mapO_nil, mapO_cons, vD_dat, vD_nils, vD_rp, vD_osl, vD_ptr, vD_agg, vD_fn, vL_dat, vL_app, viewL, avA, datsOf, fillA, seval, ↓List.forall_mem_cons, Op.operands, hP, hG, tiA, hE]
              all_goals try (first | done | rfl | trivial)
              all_goals first | done | rfl | (simp only [eventD, namesD, postsD, ssD, List.map_append, List.map_cons, List.map_nil]; done) | (simp only [eventD, namesD, postsD, ssD, List.map_append, List.map_cons, List.map_nil]; rfl) | skip
            · skip
              refine WS [2, 3, 6, 7, 8, 18, 56] [3, 6, 9, 12, 13, 16, 27, 28, 63, 64, 106, 110, 115, 116, 131, 133, 134, 142, 156] ?_
              refine WI (fun hb => ?_) (fun hb => ?_)
              · skip
                have hv : spoiltM e how b = { e with Refs := e.Refs ++ [⟨b, b.tdiv 7⟩] } := by
                  unfold spoiltM spM
                  rw [if_neg (by omega), if_neg (by omega), if_neg (by omega), if_neg (by omega), if_neg (by omega), if_neg (by omega), if_pos hb]
                have hE := And.intro hE hv
                refine WQ [3, 6] [3, 6, 9, 12, 13, 16, 27, 28, 63, 64, 106, 110, 115, 116, 131, 133, 134, 142, 156] ?_
                apply q_block
                apply q_seq
                refine WS [6] [6, 9, 12, 13, 16, 27, 28, 63, 64, 106, 110, 115, 116, 131, 133, 134, 142, 156] ?_
                apply aw_ret
                simp only [QRet, QRetM, QRetX, retsX_nil, retsX_cons, objsAre, resA, mapO_nil, mapO_cons, vD_dat, vD_nils, vD_rp, vD_osl, vD_ptr, vD_agg, vD_fn, vL_dat, vL_app, viewL, avA, datsOf, fillA, seval, ↓List.forall_mem_cons, Op.operands, hP, hG, tiA, hE]
                all_goals try (first | done | rfl | trivial)
                all_goals first | done | rfl | (simp only [eventD, namesD, postsD, ssD, List.map_append, List.map_cons, List.map_nil]; done) | (simp only [eventD, namesD, postsD, ssD, List.map_append, List.map_cons, List.map_nil]; rfl) | skip
              · skip
                refine WS [2, 3, 6, 7, 8, 18, 66] [3, 6, 9, 12, 13, 16, 27, 28, 63, 64, 106, 110, 115, 116, 131, 133, 134, 142, 156] ?_
                refine WI (fun hb => ?_) (fun hb => ?_)
                · skip
                  have hv : spoiltM e how b = { e with Refs := sp7 e.Refs b } := by
                    unfold spoiltM spM
                    rw [if_neg (by omega), if_neg (by omega), if_neg (by omega), if_neg (by omega), if_neg (by omega), if_neg (by omega), if_neg (by omega), if_pos hb]
                  apply aw_seq
                  refine WS [2, 3, 6, 7, 70] [3, 6, 9, 12, 13, 16, 27, 28, 63, 64, 106, 110, 115, 116, 131, 133, 134, 142, 156] ?_
                  refine WI (fun hb => ?_) (fun hb => ?_)
                  · skip
                    have r7 := aroundM_range (n := b) (m := (e.Refs.length : Int)) (by omega)
                    have hv7 : spoiltM e how b = { e with Refs := e.Refs.set (aroundM b e.Refs.length).toNat (e.Refs.getD 0 default) } := by
                      rw [hv]
                      unfold sp7
                      rw [if_pos (by omega)]
                    have hset := set_row nameD e.Refs (aroundM b e.Refs.length).toNat (e.Refs.getD 0 default)
                    dsimp only [nameD] at hset
                    have hsl : (e.Refs.set (aroundM b e.Refs.length).toNat (e.Refs.getD 0 default)).length = e.Refs.length := List.length_set
                    have hst : List.take e.Refs.length (e.Refs.set (aroundM b e.Refs.length).toNat (e.Refs.getD 0 default)) = e.Refs.set (aroundM b e.Refs.length).toNat (e.Refs.getD 0 default) := List.take_of_length_le (by omega)
                    have hE := And.intro hE (And.intro hv7 (And.intro hset (And.intro hsl hst)))
                    apply aw_rgd [3, 6, 7] [3, 6, 9, 12, 13, 16, 27, 28, 63, 64, 106, 110, 115, 116, 131, 133, 134, 142, 156] [0, 1, 2, 3, 4, 5, 6, 7, 8, 9] []
                    · rw [hP]; kernel_rfl
                    · exact hR
                    · kernel_rfl
                    · (repeat (apply PickL.cons; exact rfl)); exact PickL.nil _
                    · simp (maxSteps := 2000000) (disch := omega) only [avR2, avA, datsOf, fillA, seval, ↓List.forall_mem_cons, Op.operands, hA, tiA, hE]
                      (repeat' refine And.intro ?_ ?_) <;> try exact SD
                      refine CallC.use (gvF hP hG (around_ok G b e.Refs.length hbb (by omega) (by unfold I64; omega))) rfl ?_
                      try simp (maxSteps := 2000000) (disch := omega) only [avR2, avA, datsOf, fillA, seval, ↓List.forall_mem_cons, Op.operands, hA, tiA, hE]
                      exact SC
                    apply q_seq
                    refine WQ [3, 6] [3, 6, 9, 12, 13, 16, 27, 28, 63, 64, 106, 110, 115, 116, 131, 133, 134, 142, 156] ?_
                    apply q_block
                    apply q_seq
                    refine WS [6] [6, 9, 12, 13, 16, 27, 28, 63, 64, 106, 110, 115, 116, 131, 133, 134, 142, 156] ?_
                    apply aw_ret
                    simp only [QRet, QRetM, QRetX, retsX_nil, retsX_cons, objsAre, resA, mapO_nil, mapO_cons, vD_dat, vD_nils, vD_rp, vD_osl, vD_ptr, vD_agg, vD_fn, vL_dat, vL_app, viewL, avA, datsOf, fillA, seval, ↓List.forall_mem_cons, Op.operands, hP, hG, tiA, hE]
                    all_goals try (first | done | rfl | trivial)
                    all_goals first | done | rfl | (simp only [eventD, namesD, postsD, ssD, List.map_append, List.map_cons, List.map_nil]; done) | (simp only [eventD, namesD, postsD, ssD, List.map_append, List.map_cons, List.map_nil]; rfl) | skip
                  · skip
                    have hv7 : spoiltM e how b = e := by
                      rw [hv]
                      unfold sp7
                      rw [if_neg (by omega)]
                    have hE := And.intro hE hv7
                    apply aw_skip
                    apply q_seq
                    refine WQ [3, 6] [3, 6, 9, 12, 13, 16, 27, 28, 63, 64, 106, 110, 115, 116, 131, 133, 134, 142, 156] ?_
                    apply q_block
                    apply q_seq
                    refine WS [6] [6, 9, 12, 13, 16, 27, 28, 63, 64, 106, 110, 115, 116, 131, 133, 134, 142, 156] ?_
                    apply aw_ret
                    simp only [QRet, QRetM, QRetX, retsX_nil, retsX_cons, objsAre, resA, mapO_nil, mapO_cons, vD_dat, vD_nils, vD_rp, vD_osl, vD_ptr, vD_agg, vD_fn, vL_dat, vL_app, viewL, avA, datsOf, fillA, seval, ↓List.forall_mem_cons, Op.operands, hP, hG, tiA, hE]
                    all_goals try (first | done | rfl | trivial)
                    all_goals first | done | rfl | (simp only [eventD, namesD, postsD, ssD, List.map_append, List.map_cons, List.map_nil]; done) | (simp only [eventD, namesD, postsD, ssD, List.map_append, List.map_cons, List.map_nil]; rfl) | skip
                · skip
                  refine WS [2, 3, 6, 7, 8, 18, 82] [3, 6, 9, 12, 13, 16, 27, 28, 63, 64, 106, 110, 115, 116, 131, 133, 134, 142, 156] ?_
                  refine WI (fun hb => ?_) (fun hb => ?_)
                  · skip
                    have hv : spoiltM e how b = { e with Term := { e.Term with Name := wordM b ++ sufL.getD (aroundM (b.tdiv 8) 5).toNat default } } := by
                      unfold spoiltM spM
                      rw [if_neg (by omega), if_neg (by omega), if_neg (by omega), if_neg (by omega), if_neg (by omega), if_neg (by omega), if_neg (by omega), if_neg (by omega), if_pos hb]
                    have hE := And.intro hE hv
                    apply aw_reg [3, 6] [3, 6, 9, 12, 13, 16, 27, 28, 63, 64, 106, 110, 115, 116, 131, 133, 134, 142, 156]
                    · simp (maxSteps := 2000000) (disch := omega) only [avR2, avA, datsOf, fillA, seval, ↓List.forall_mem_cons, Op.operands, hA, tiA, hE]
                      (repeat' refine And.intro ?_ ?_) <;> try exact SD
                      refine CallC.use (gvF hP hG (word_ok G b hbb)) rfl ?_
                      try simp (maxSteps := 2000000) (disch := omega) only [avR2, avA, datsOf, fillA, seval, ↓List.forall_mem_cons, Op.operands, hA, tiA, hE]
                      (repeat' refine And.intro ?_ ?_) <;> try exact SD
                      refine CallC.use (gvF hP hG (around_ok G (b.tdiv 8) 5 hi8 (by omega) (by unfold I64; omega))) rfl ?_
                      try simp (maxSteps := 2000000) (disch := omega) only [avR2, avA, datsOf, fillA, seval, ↓List.forall_mem_cons, Op.operands, hA, tiA, hE]
                      exact SC
                    apply q_block
                    apply q_seq
                    refine WS [6] [6, 9, 12, 13, 16, 27, 28, 63, 64, 106, 110, 115, 116, 131, 133, 134, 142, 156] ?_
                    apply aw_ret
                    simp only [QRet, QRetM, QRetX, retsX_nil, retsX_cons, objsAre, resA, mapO_nil, mapO_cons, vD_dat, vD_nils, vD_rp, vD_osl, vD_ptr, vD_agg, vD_fn, vL_dat, vL_app, viewL, avA, datsOf, fillA, seval, ↓List.forall_mem_cons, Op.operands, hP, hG, tiA, hE]
                    all_goals try (first | done | rfl | trivial)
                    all_goals first | done | rfl | (simp only [eventD, namesD, postsD, ssD, List.map_append, List.map_cons, List.map_nil]; done) | (simp only [eventD, namesD, postsD, ssD, List.map_append, List.map_cons, List.map_nil]; rfl) | skip
                  · skip
                    refine WS [2, 3, 6, 7, 8, 18, 95] [3, 6, 9, 12, 13, 16, 27, 28, 63, 64, 106, 110, 115, 116, 131, 133, 134, 142, 156] ?_
                    refine WI (fun hb => ?_) (fun hb => ?_)
                    · skip
                      have hv : spoiltM e how b = { e with Term := { e.Term with See := seeL.getD (aroundM b 4).toNat default } } := by
                        unfold spoiltM spM
                        rw [if_neg (by omega), if_neg (by omega), if_neg (by omega), if_neg (by omega), if_neg (by omega), if_neg (by omega), if_neg (by omega), if_neg (by omega), if_neg (by omega), if_pos hb]
                      have hE := And.intro hE hv
                      have hc := gvF hP hG (around_ok G b 4 hbb (by omega) (by unfold I64; omega))
                      refine WQc [3, 6] [3, 6, 9, 12, 13, 16, 27, 28, 63, 64, 106, 110, 115, 116, 131, 133, 134, 142, 156] ?_
                      apply q_block
                      apply q_seq
                      refine WS [6] [6, 9, 12, 13, 16, 27, 28, 63, 64, 106, 110, 115, 116, 131, 133, 134, 142, 156] ?_
                      apply aw_ret
                      simp only [QRet, QRetM, QRetX, retsX_nil, retsX_cons, objsAre, resA, mapO_nil, mapO_cons, vD_dat, vD_nils, vD_rp, vD_osl, vD_ptr, vD_agg, vD_fn, vL_dat, vL_app, viewL, avA, datsOf, fillA, seval, ↓List.forall_mem_cons, Op.operands, hP, hG, tiA, hE]
                      all_goals try (first | done | rfl | trivial)
                      all_goals first | done | rfl | (simp only [eventD, namesD, postsD, ssD, List.map_append, List.map_cons, List.map_nil]; done) | (simp only [eventD, namesD, postsD, ssD, List.map_append, List.map_cons, List.map_nil]; rfl) | skip
                    · skip
                      refine WS [2, 3, 6, 7, 8, 18, 104] [3, 6, 9, 12, 13, 16, 27, 28, 63, 64, 106, 110, 115, 116, 131, 133, 134, 142, 156] ?_
                      refine WI (fun hb => ?_) (fun hb => ?_)
                      · skip
                        have hv : spoiltM e how b = { e with Term := { e.Term with Broader := e.Term.Broader ++ [wordM b, ⟨#[]⟩, wordM b] } } := by
                          unfold spoiltM spM
                          rw [if_neg (by omega), if_neg (by omega), if_neg (by omega), if_neg (by omega), if_neg (by omega), if_neg (by omega), if_neg (by omega), if_neg (by omega), if_neg (by omega), if_neg (by omega), if_pos hb]
                        have hE := And.intro hE hv
                        apply aw_reg [3, 6] [3, 6, 9, 12, 13, 16, 27, 28, 63, 64, 106, 110, 115, 116, 131, 133, 134, 142, 156]
                        · simp (maxSteps := 2000000) (disch := omega) only [avR2, avA, datsOf, fillA, seval, ↓List.forall_mem_cons, Op.operands, hA, tiA, hE]
                          (repeat' refine And.intro ?_ ?_) <;> try exact SD
                          refine CallC.use (gvF hP hG (word_ok G b hbb)) rfl ?_
                          try simp (maxSteps := 2000000) (disch := omega) only [avR2, avA, datsOf, fillA, seval, ↓List.forall_mem_cons, Op.operands, hA, tiA, hE]
                          (repeat' refine And.intro ?_ ?_) <;> try exact SD
                          refine CallC.use (gvF hP hG (word_ok G b hbb)) rfl ?_
                          try simp (maxSteps := 2000000) (disch := omega) only [avR2, avA, datsOf, fillA, seval, ↓List.forall_mem_cons, Op.operands, hA, tiA, hE]
                          exact SC
                        apply q_block
                        apply q_seq
                        refine WS [6] [6, 9, 12, 13, 16, 27, 28, 63, 64, 106, 110, 115, 116, 131, 133, 134, 142, 156] ?_
                        apply aw_ret
                        simp only [QRet, QRetM, QRetX, retsX_nil, retsX_cons, objsAre, resA, mapO_nil, mapO_cons, vD_dat, vD_nils, vD_rp, vD_osl, vD_ptr, vD_agg, vD_fn, vL_dat, vL_app, viewL, avA, datsOf, fillA, seval, ↓List.forall_mem_cons, Op.operands, hP, hG, tiA, hE]
                        all_goals try (first | done | rfl | trivial)
                        all_goals first | done | rfl | (simp only [eventD, namesD, postsD, ssD, List.map_append, List.map_cons, List.map_nil]; done) | (simp only [eventD, namesD, postsD, ssD, List.map_append, List.map_cons, List.map_nil]; rfl) | skip
                      · skip
                        refine WS [2, 3, 6, 7, 8, 18, 119] [3, 6, 9, 12, 13, 16, 27, 28, 63, 64, 106, 110, 115, 116, 131, 133, 134, 142, 156] ?_
                        refine WI (fun hb => ?_) (fun hb => ?_)
                        · skip
                          have hv : spoiltM e how b = { e with Term := { e.Term with Lang := b } } := by
                            unfold spoiltM spM
                            rw [if_neg (by omega), if_neg (by omega), if_neg (by omega), if_neg (by omega), if_neg (by omega), if_neg (by omega), if_neg (by omega), if_neg (by omega), if_neg (by omega), if_neg (by omega), if_neg (by omega), if_pos hb]
                          have hE := And.intro hE hv
                          refine WQ [3, 6] [3, 6, 9, 12, 13, 16, 27, 28, 63, 64, 106, 110, 115, 116, 131, 133, 134, 142, 156] ?_
                          apply q_block
                          apply q_seq
                          refine WS [6] [6, 9, 12, 13, 16, 27, 28, 63, 64, 106, 110, 115, 116, 131, 133, 134, 142, 156] ?_
                          apply aw_ret
                          simp only [QRet, QRetM, QRetX, retsX_nil, retsX_cons, objsAre, resA, mapO_nil, mapO_cons, vD_dat, vD_nils, vD_rp, vD_osl, vD_ptr, vD_agg, vD_fn, vL_dat, vL_app, viewL, avA, datsOf, fillA, seval, ↓List.forall_mem_cons, Op.operands, hP, hG, tiA, hE]
                          all_goals try (first | done | rfl | trivial)
                          all_goals first | done | rfl | (simp only [eventD, namesD, postsD, ssD, List.map_append, List.map_cons, List.map_nil]; done) | (simp only [eventD, namesD, postsD, ssD, List.map_append, List.map_cons, List.map_nil]; rfl) | skip
                        · skip
                          refine WS [2, 3, 6, 7, 8, 18, 124] [3, 6, 9, 12, 13, 16, 27, 28, 63, 64, 106, 110, 115, 116, 131, 133, 134, 142, 156] ?_
                          refine WI (fun hb => ?_) (fun hb => ?_)
                          · skip
                            have hv : spoiltM e how b = { e with Posts := e.Posts ++ [{ ID := e.ID, Path := [wordM b], Main := false }] } := by
                              unfold spoiltM spM
                              rw [if_neg (by omega), if_neg (by omega), if_neg (by omega), if_neg (by omega), if_neg (by omega), if_neg (by omega), if_neg (by omega), if_neg (by omega), if_neg (by omega), if_neg (by omega), if_neg (by omega), if_neg (by omega), if_pos hb]
                            have hE := And.intro hE hv
                            apply aw_rgd [3, 6] [3, 6, 9, 12, 13, 16, 27, 28, 63, 64, 106, 110, 115, 116, 131, 133, 134, 142, 156] [0, 1, 2, 3, 4, 5, 6, 7, 8, 9, 10] [134]
                            · rw [hP]; kernel_rfl
                            · exact hR
                            · kernel_rfl
                            · (repeat (apply PickL.cons; exact rfl)); exact PickL.nil _
                            · simp (maxSteps := 2000000) (disch := omega) only [avR2, avA, datsOf, fillA, seval, ↓List.forall_mem_cons, Op.operands, hA, tiA, hE]
                              (repeat' refine And.intro ?_ ?_) <;> try exact SD
                              refine CallC.use (gvF hP hG (word_ok G b hbb)) rfl ?_
                              try simp (maxSteps := 2000000) (disch := omega) only [avR2, avA, datsOf, fillA, seval, ↓List.forall_mem_cons, Op.operands, hA, tiA, hE]
                              exact SC
                            apply q_block
                            apply q_seq
                            refine WS [6] [6, 9, 12, 13, 16, 27, 28, 63, 64, 106, 110, 115, 116, 131, 133, 134, 142, 156] ?_
                            apply aw_ret
                            simp only [QRet, QRetM, QRetX, retsX_nil, retsX_cons, objsAre, resA, mapO_nil, mapO_cons, vD_dat, vD_nils, vD_rp, vD_osl, vD_ptr, vD_agg, vD_fn, vL_dat, vL_app, viewL, avA, datsOf, fillA, seval, ↓List.forall_mem_cons, Op.operands, hP, hG, tiA, hE]
                            all_goals try (first | done | rfl | trivial)
                            all_goals first | done | rfl | (simp only [eventD, namesD, postsD, ssD, List.map_append, List.map_cons, List.map_nil]; done) | (simp only [eventD, namesD, postsD, ssD, List.map_append, List.map_cons, List.map_nil]; rfl) | skip
                          · skip
                            refine WS [2, 3, 6, 7, 8, 18, 136] [3, 6, 9, 12, 13, 16, 27, 28, 63, 64, 106, 110, 115, 116, 131, 133, 134, 142, 156] ?_
                            refine WI (fun hb => ?_) (fun hb => ?_)
                            · skip
                              have hv : spoiltM e how b = { e with Posts := sp13 e.Posts b } := by
                                unfold spoiltM spM
                                rw [if_neg (by omega), if_neg (by omega), if_neg (by omega), if_neg (by omega), if_neg (by omega), if_neg (by omega), if_neg (by omega), if_neg (by omega), if_neg (by omega), if_neg (by omega), if_neg (by omega), if_neg (by omega), if_neg (by omega), if_pos hb]
                              apply aw_seq
                              refine WS [2, 3, 6, 8, 140] [3, 6, 9, 12, 13, 16, 27, 28, 63, 64, 106, 110, 115, 116, 131, 133, 134, 142, 156] ?_
                              refine WI (fun hb => ?_) (fun hb => ?_)
                              · skip
                                obtain ⟨p, ps, hps⟩ : ∃ p ps, e.Posts = p :: ps := by
                                  cases hq : e.Posts with
                                  | nil => rw [hq] at hb; simp at hb
                                  | cons p ps => exact ⟨p, ps, rfl⟩
                                have hpo := hs.posts p (by rw [hps]; simp)
                                have r13 := aroundM_range (n := b) (m := (p.Path.length : Int) + 1) (by omega)
                                have r52a := Int.tmod_lt_of_pos (b.tdiv 5) (b := 2) (by omega)
                                have r52b := Int.lt_tmod_of_pos (b.tdiv 5) (b := 2) (by omega)
                                have hv13 : spoiltM e how b = { e with Posts := { ID := ⟨IntKind.i64.wrap (p.ID.By + (b.tdiv 5).tmod 2), p.ID.Seq, p.ID.K⟩, Path := p.Path.take (aroundM b (p.Path.length + 1)).toNat, Main := p.Main } :: ps } := by
                                  rw [hv, hps]
                                  rfl
                                have hE := And.intro hE (And.intro hps hv13)
                                apply aw_rgds [2, 3, 6, 8] [3, 6, 9, 12, 13, 16, 27, 28, 63, 64, 106, 110, 115, 116, 131, 133, 134, 142, 156] [0, 1, 2, 3, 4, 5, 6, 7, 8, 9, 10, 11, 12, 13, 14, 15, 16, 17, 18] [156]
                                · rw [hP]; kernel_rfl
                                · exact hR
                                · kernel_rfl
                                · (repeat (apply PickL.cons; exact rfl)); exact PickL.nil _
                                · simp (maxSteps := 2000000) (disch := omega) only [avR2, avA, datsOf, fillA, seval, ↓List.forall_mem_cons, Op.operands, hA, tiA, hE]
                                  (repeat' refine And.intro ?_ ?_) <;> try exact SD
                                  refine CallC.use (gvF hP hG (around_ok G b ((p.Path.length : Int) + 1) hbb (by omega) (by unfold I64; omega))) rfl ?_
                                  try simp (maxSteps := 2000000) (disch := omega) only [avR2, avA, datsOf, fillA, seval, ↓List.forall_mem_cons, Op.operands, hA, tiA, hE]
                                  exact SC
                                refine aw_frz 156 hR.2.2.2 rfl (datE_map _) ?_
                                refine WQ [3, 6, 8] [3, 6, 9, 12, 13, 16, 27, 28, 63, 64, 106, 110, 115, 116, 131, 133, 134, 142, 156] ?_
                                apply q_seq
                                refine WQ [3, 6] [3, 6, 9, 12, 13, 16, 27, 28, 63, 64, 106, 110, 115, 116, 131, 133, 134, 142, 156] ?_
                                apply q_block
                                apply q_seq
                                refine WS [6] [6, 9, 12, 13, 16, 27, 28, 63, 64, 106, 110, 115, 116, 131, 133, 134, 142, 156] ?_
                                apply aw_ret
                                simp only [QRet, QRetM, QRetX, retsX_nil, retsX_cons, objsAre, resA, mapO_nil, mapO_cons, vD_dat, vD_nils, vD_rp, vD_osl, vD_ptr, vD_agg, vD_fn, vL_dat, vL_app, viewL, avA, datsOf, fillA, seval, ↓List.forall_mem_cons, Op.operands, hP, hG, tiA, hE]
                                all_goals try (first | done | rfl | trivial)
                                all_goals first | done | rfl | (simp only [eventD, namesD, postsD, ssD, List.map_append, List.map_cons, List.map_nil]; done) | (simp only [eventD, namesD, postsD, ssD, List.map_append, List.map_cons, List.map_nil]; rfl) | skip
                              · skip
                                have hps : e.Posts = [] := List.eq_nil_of_length_eq_zero (by omega)
                                have hv13 : spoiltM e how b = e := by
                                  rw [hv, hps]
                                  show ({ e with Posts := [] } : EventM) = e
                                  rw [← hps]
                                have hE := And.intro hE hv13
                                apply aw_skip
                                apply q_seq
                                refine WQ [3, 6] [3, 6, 9, 12, 13, 16, 27, 28, 63, 64, 106, 110, 115, 116, 131, 133, 134, 142, 156] ?_
                                apply q_block
                                apply q_seq
                                refine WS [6] [6, 9, 12, 13, 16, 27, 28, 63, 64, 106, 110, 115, 116, 131, 133, 134, 142, 156] ?_
                                apply aw_ret
                                simp only [QRet, QRetM, QRetX, retsX_nil, retsX_cons, objsAre, resA, mapO_nil, mapO_cons, vD_dat, vD_nils, vD_rp, vD_osl, vD_ptr, vD_agg, vD_fn, vL_dat, vL_app, viewL, avA, datsOf, fillA, seval, ↓List.forall_mem_cons, Op.operands, hP, hG, tiA, hE]
                                all_goals try (first | done | rfl | trivial)
                                all_goals first | done | rfl | (simp only [eventD, namesD, postsD, ssD, List.map_append, List.map_cons, List.map_nil]; done) | (simp only [eventD, namesD, postsD, ssD, List.map_append, List.map_cons, List.map_nil]; rfl) | skip
                            · skip
                              refine WS [2, 3, 6, 7, 174] [3, 6, 9, 12, 13, 16, 27, 28, 63, 64, 106, 110, 115, 116, 131, 133, 134, 142, 156] ?_
                              refine WI (fun hb => ?_) (fun hb => ?_)
                              · skip
                                have hv : spoiltM e how b = { e with Op := { e.Op with N := b } } := by
                                  unfold spoiltM spM
                                  rw [if_neg (by omega), if_neg (by omega), if_neg (by omega), if_neg (by omega), if_neg (by omega), if_neg (by omega), if_neg (by omega), if_neg (by omega), if_neg (by omega), if_neg (by omega), if_neg (by omega), if_neg (by omega), if_neg (by omega), if_neg (by omega), if_pos hb]
                                have hE := And.intro hE hv
                                refine WQ [3, 6] [3, 6, 9, 12, 13, 16, 27, 28, 63, 64, 106, 110, 115, 116, 131, 133, 134, 142, 156] ?_
                                apply q_block
                                apply q_seq
                                refine WS [6] [6, 9, 12, 13, 16, 27, 28, 63, 64, 106, 110, 115, 116, 131, 133, 134, 142, 156] ?_
                                apply aw_ret
                                simp only [QRet, QRetM, QRetX, retsX_nil, retsX_cons, objsAre, resA, mapO_nil, mapO_cons, vD_dat, vD_nils, vD_rp, vD_osl, vD_ptr, vD_agg, vD_fn, vL_dat, vL_app, viewL, avA, datsOf, fillA, seval, ↓List.forall_mem_cons, Op.operands, hP, hG, tiA, hE]
                                all_goals try (first | done | rfl | trivial)
                                all_goals first | done | rfl | (simp only [eventD, namesD, postsD, ssD, List.map_append, List.map_cons, List.map_nil]; done) | (simp only [eventD, namesD, postsD, ssD, List.map_append, List.map_cons, List.map_nil]; rfl) | skip
                              · skip
                                apply aw_seq
                                apply aw_block
                                have hv : spoiltM e how b = { e with Refs := fillR e.Refs b } := by
                                  unfold spoiltM spM
                                  rw [if_neg (by omega), if_neg (by omega), if_neg (by omega), if_neg (by omega), if_neg (by omega), if_neg (by omega), if_neg (by omega), if_neg (by omega), if_neg (by omega), if_neg (by omega), if_neg (by omega), if_neg (by omega), if_neg (by omega), if_neg (by omega), if_neg (by omega)]
                                have hE := And.intro hE (And.intro hv (fillN_zero e.Refs b))
                                refine aw_swap 12 28 (by omega) (by omega) ?_
                                refine WL (ι := {i : Nat // e.Refs.length ≤ i ∧ (i ≤ 17 ∨ i = e.Refs.length)}) [2, 3, 6] [3, 6, 9, 12, 13, 16, 27, 63, 64, 106, 110, 115, 116, 131, 133, 134, 142, 156] (fun ⟨i, hi2⟩ => [(7, .osl 28 2 0 i)]) (fun ⟨i, hi2⟩ => [(28, ⟨2, ((fillN e.Refs b i).map nameD).map .dat⟩)]) (fun ⟨i, hi2⟩ => 17 - i) (⟨e.Refs.length, by omega, by omega⟩) ?_
                                rintro ⟨i, hi2⟩
                                dsimp only [List.cons_append, List.nil_append]
                                obtain ⟨hi, hi3⟩ := id hi2
                                have hfl := fillN_len (b := b) hi
                                have hfs := fillN_succ (b := b) hi
                                have hE := And.intro hE (And.intro hfl (And.intro hfs (fillN_zero e.Refs b)))
                                apply aw_seq
                                refine WS [2, 3, 6, 7, 21] [3, 6, 9, 12, 13, 16, 27, 28, 63, 64, 106, 110, 115, 116, 131, 133, 134, 142, 156] ?_
                                refine WI (fun hb => ?_) (fun hb => ?_)
                                · skip
                                  apply aw_skip
                                  apply q_seq
                                  apply aw_block
                                  refine WQ [2, 3, 6, 7] [3, 6, 9, 12, 13, 16, 27, 28, 63, 64, 106, 110, 115, 116, 131, 133, 134, 142, 156] ?_
                                  apply q_block
                                  refine WN (⟨i + 1, by omega⟩)
                                · skip
                                  apply aw_exit
                                  apply q_exit_seq
                                  have hfr : fillR e.Refs b = fillN e.Refs b i := by unfold fillR; congr 1; omega
                                  have hE := And.intro hE hfr
                                  apply q_exit_loop
                                  apply q_exit
                                  apply q_seq
                                  refine WQ [3, 6] [3, 6, 9, 12, 13, 16, 27, 28, 63, 64, 106, 110, 115, 116, 131, 133, 134, 142, 156] ?_
                                  apply q_block
                                  apply q_seq
                                  refine WS [6] [6, 9, 12, 13, 16, 27, 28, 63, 64, 106, 110, 115, 116, 131, 133, 134, 142, 156] ?_
                                  apply aw_ret
                                  simp only [QRet, QRetM, QRetX, retsX_nil, retsX_cons, objsAre, resA, mapO_nil, mapO_cons, vD_dat, vD_nils, vD_rp, vD_osl, vD_ptr, vD_agg, vD_fn, vL_dat, vL_app, viewL, avA, datsOf, fillA, seval, ↓List.forall_mem_cons, Op.operands, hP, hG, tiA, hE]
                                  all_goals try (first | done | rfl | trivial)
                                  all_goals first | done | rfl | (simp only [eventD, namesD, postsD, ssD, List.map_append, List.map_cons, List.map_nil]; done) | (simp only [eventD, namesD, postsD, ssD, List.map_append, List.map_cons, List.map_nil]; rfl) | skip

end Go.Proofs.Ytabjaaonfaejmaa

namespace Go.Proofs.Ytabjaaonfaejmaa
open Go.Av

def turnX (len : Nat) (b : Int) (i : Nat) : Int := ((i : Int) + aroundM b ((len : Int) + 1)).tmod len
def turnI (len : Nat) (b : Int) (i : Nat) : Nat := (if b.tmod 2 = 0 then turnX len b i else (len : Int) - 1 - turnX len b i).toNat
def turnN (l : List EventM) (b : Int) (i : Nat) : List EventM := (List.range i).map fun j => l.getD (turnI l.length b j) default
def turnM (l : List EventM) (b : Int) : List EventM := turnN l b l.length
theorem turnN_len (l : List EventM) (b : Int) (i : Nat) : (turnN l b i).length = i := by simp [turnN]
theorem turnN_zero (l : List EventM) (b : Int) : turnN l b 0 = [] := rfl
theorem turnN_succ (l : List EventM) (b : Int) (i : Nat) : turnN l b (i + 1) = turnN l b i ++ [l.getD (turnI l.length b i) default] := by simp [turnN, List.range_succ]
theorem turnN_take (l : List EventM) (b : Int) (i : Nat) : (turnN l b i).take i = turnN l b i := List.take_of_length_le (by rw [turnN_len]; exact Nat.le_refl _)


theorem turned_ok (G) (l : List EventM) (b : Int) (hb : I64 b) (hl : l.length ≤ 1000) : Gives Try.prog G 15 [eventsD l, iD b] [eventsD (turnM l b)] := by
  have hbI := hb
  skip
  refine gives_intro [] [] [] Try.func15 rfl (by rfl) (by simp [Try.ntmps15]) fun F hP hG hN hR => ?_
  rw [Try.ntmps15] at hN
  have hA := And.intro hN (And.intro hP (And.intro hG (And.intro hR.1 (And.intro hR.2.1 hR.2.2.1))))
  have hE := And.intro @Try.results15 (And.intro @turnN_len (And.intro @turnN_zero (And.intro @turnN_take (And.intro @Nat.min_self (@turnM.eq_1)))))
  refine WS [0, 1] [] ?_
  have hc := gvF hP hG (around_ok G b ((l.length : Int) + 1) hbI (by omega) (by unfold I64; omega))
  refine WSc [0, 1, 5] [] ?_
  refine WS [0, 1, 5, 6] [39, 40] ?_
  apply aw_seq
  refine WS [0, 1, 5, 6, 7] [39, 40] ?_
  apply aw_block
  refine aw_new0 40 32 (by omega) ?_
  refine aw_nilE 6 40 32 rfl rfl ?_
  have har := aroundM_range (n := b) (m := (l.length : Int) + 1) (by omega)
  refine WL (ι := {i : Nat // i ≤ l.length}) [0, 1, 5] [39] (fun ⟨i, hi⟩ => [(6, .osl 40 32 0 i), (7, .dat (iD i))]) (fun ⟨i, hi⟩ => [(40, ⟨32, ((turnN l b i).map eventD).map .dat⟩)]) (fun ⟨i, hi⟩ => l.length - i) (⟨0, by omega⟩) ?_
  rintro ⟨i, hi⟩
  dsimp only [List.cons_append, List.nil_append]
  have hx : 0 < l.length → 0 ≤ turnX l.length b i ∧ turnX l.length b i < l.length := fun h0 => tmod_rng (by omega) (by omega)
  have hxe : ((i : Int) + aroundM b ((l.length : Int) + 1)).tmod l.length = turnX l.length b i := rfl
  have hE := And.intro hE hxe
  have hts := turnN_succ l b i
  apply aw_seq
  refine WS [0, 1, 5, 6, 7, 17] [39, 40] ?_
  refine WI (fun hb => ?_) (fun hb => ?_)
  · skip
    apply aw_skip
    apply q_seq
    apply aw_seq
    apply aw_block
    refine WS [0, 1, 5, 6, 7, 8] [39, 40] ?_
    apply aw_seq
    refine WS [0, 1, 5, 6, 7, 8, 28] [39, 40] ?_
    refine WI (fun hb => ?_) (fun hb => ?_)
    · skip
      have hti : turnI l.length b i = ((l.length : Int) - 1 - turnX l.length b i).toNat := by unfold turnI; rw [if_neg (by omega)]
      refine WQ [0, 1, 5, 6, 7, 8] [39, 40] ?_
      apply q_seq
      refine WQ [0, 1, 5, 6, 7] [39, 40] ?_
      apply q_block
      apply q_seq
      have hE := And.intro hE (And.intro hts hti)
      refine WQ [0, 1, 5, 6, 7] [39, 40] ?_
      refine WN (⟨i + 1, by omega⟩)
    · skip
      have hti : turnI l.length b i = (turnX l.length b i).toNat := by unfold turnI; rw [if_pos (by omega)]
      apply aw_skip
      apply q_seq
      refine WQ [0, 1, 5, 6, 7] [39, 40] ?_
      apply q_block
      apply q_seq
      have hE := And.intro hE (And.intro hts hti)
      refine WQ [0, 1, 5, 6, 7] [39, 40] ?_
      refine WN (⟨i + 1, by omega⟩)
  · skip
    apply aw_exit
    apply q_exit_seq
    have hend : i = l.length := by omega
    subst hend
    apply q_exit_loop
    apply q_exit
    apply q_seq
    refine WS [4] [39, 40] ?_
    apply aw_ret
    simp only [QRet, QRetM, QRetX, retsX_nil, retsX_cons, objsAre, resA, mapO_nil, mapO_cons, vD_dat, vD_nils, vD_rp, vD_osl, vD_ptr, vD_agg, vD_fn, vL_dat, vL_app, viewL, avA, datsOf, fillA, seval, ↓List.forall_mem_cons, Op.operands, hP, hG, tiA, hE]
    all_goals try (first | done | rfl | trivial)

end Go.Proofs.Ytabjaaonfaejmaa

namespace Go.Proofs.Ytabjaaonfaejmaa
open Go.Av

/-- One event does not stand behind another one. -/
def leE (a b : EventM) : Prop := beforeM b a = false
theorem before_iff (a b : EventM) : beforeM a b = true ↔ a.Tick < b.Tick ∨ (a.Tick = b.Tick ∧ (a.By < b.By ∨ (a.By = b.By ∧ a.Seq < b.Seq))) := by
  unfold beforeM lessM evName
  dsimp only
  split
  · rw [decide_eq_true_eq]; omega
  · split
    · rw [decide_eq_true_eq]; omega
    · rw [decide_eq_true_eq]; omega
theorem leE_iff (a b : EventM) : leE a b ↔ a.Tick < b.Tick ∨ (a.Tick = b.Tick ∧ (a.By < b.By ∨ (a.By = b.By ∧ a.Seq ≤ b.Seq))) := by
  unfold leE
  rw [Bool.eq_false_iff, ne_eq, before_iff]
  omega
theorem leE_trans {a b c : EventM} (h1 : leE a b) (h2 : leE b c) : leE a c := by
  rw [leE_iff] at *
  omega
theorem before_asymm {a b : EventM} (h : beforeM a b = true) : beforeM b a = false := by
  rw [Bool.eq_false_iff, ne_eq, before_iff]
  rw [before_iff] at h
  omega
theorem before_total {a b : EventM} (h1 : beforeM a b = false) (h2 : beforeM b a = false) : evName a = evName b := by
  rw [Bool.eq_false_iff, ne_eq, before_iff] at h1 h2
  unfold evName
  rw [NameM.mk.injEq]
  omega
/-- Where an element goes: behind none that is later, ahead of none that is earlier. -/
theorem pos_after {x : EventM} {out : List EventM} : ∀ {k}, k ≤ out.length → ∀ j, posM x out k ≤ j → j < k → beforeM x (out.getD j default) = true
  | 0, _, j, _, h => absurd h (Nat.not_lt_zero j)
  | k + 1, hk, j, h1, h2 => by
    rw [posM] at h1
    split at h1
    · rename_i hb
      by_cases hj : j = k
      · rw [hj]; exact hb
      · exact pos_after (by omega) j h1 (by omega)
    · omega
theorem pos_stop {x : EventM} {out : List EventM} : ∀ {k}, 0 < posM x out k → beforeM x (out.getD (posM x out k - 1) default) = false
  | 0, h => absurd h (Nat.lt_irrefl 0)
  | k + 1, h => by
    rw [posM] at h ⊢
    split
    · rename_i hb
      rw [if_pos hb] at h
      exact pos_stop h
    · rename_i hb
      simpa using hb
theorem insR_perm (x : EventM) (out : List EventM) (p : Nat) : (insR x out p).Perm (x :: out) := by
  unfold insR
  rw [List.append_assoc]
  refine List.perm_middle.trans ?_
  show (x :: (List.take p out ++ List.drop p out)).Perm (x :: out)
  rw [List.take_append_drop]
theorem insR_sorted {x : EventM} {out : List EventM} (h : out.Pairwise leE) : (insR x out (posM x out out.length)).Pairwise leE := by
  have hp := posM_le x out out.length
  generalize hq : posM x out out.length = p at *
  have hg : ∀ j, p ≤ j → j < out.length → leE x (out.getD j default) := fun j h1 h2 => before_asymm (pos_after (Nat.le_refl _) j (by omega) h2)
  have hl : ∀ j, j < p → leE (out.getD j default) x := fun j h1 => by
    have h0 : leE (out.getD (p - 1) default) x := by
      have := pos_stop (x := x) (out := out) (k := out.length) (by omega)
      rw [hq] at this
      exact this
    by_cases hj : j = p - 1
    · rw [hj]; exact h0
    · refine leE_trans ?_ h0
      rw [List.getD_eq_getElem?_getD, List.getElem?_eq_getElem (by omega), List.getD_eq_getElem?_getD, List.getElem?_eq_getElem (by omega)]
      exact List.pairwise_iff_getElem.1 h j (p - 1) (by omega) (by omega) (by omega)
  have hm1 : ∀ y ∈ out.take p, leE y x := fun y hy => by
    obtain ⟨j, hj, rfl⟩ := List.getElem_of_mem hy
    have hj' : j < p := by simp at hj; omega
    have := hl j hj'
    rw [List.getD_eq_getElem?_getD, List.getElem?_eq_getElem (by omega)] at this
    simpa using this
  have hm2 : ∀ y ∈ out.drop p, leE x y := fun y hy => by
    obtain ⟨j, hj, rfl⟩ := List.getElem_of_mem hy
    have hj' : p + j < out.length := by simp at hj; omega
    have := hg (p + j) (by omega) hj'
    rw [List.getD_eq_getElem?_getD, List.getElem?_eq_getElem (by omega)] at this
    simpa using this
  unfold insR
  have h2 := h
  rw [← List.take_append_drop p out, List.pairwise_append] at h2
  rw [List.pairwise_append, List.pairwise_append]
  refine ⟨⟨h2.1, by simp, by simpa using hm1⟩, h2.2.1, ?_⟩
  intro a ha b hb
  rcases List.mem_append.1 ha with ha | ha
  · exact h2.2.2 a ha b hb
  · rw [List.mem_singleton.1 ha]; exact hm2 b hb
theorem rsN_perm (l : List EventM) : ∀ i, i ≤ l.length → (rsN l i).Perm (l.take i)
  | 0, _ => by rw [rsN, List.take_zero]
  | i + 1, h => by
    rw [rsN, take_step l h]
    refine (insR_perm _ _ _).trans (((rsN_perm l i (by omega)).cons _).trans ?_)
    exact List.perm_append_comm (l₁ := [_])
theorem rsN_sorted (l : List EventM) : ∀ i, (rsN l i).Pairwise leE
  | 0 => .nil
  | i + 1 => insR_sorted (rsN_sorted l i)
theorem sortM_perm (l : List EventM) : (sortM l).Perm l := by
  have := rsN_perm l l.length (Nat.le_refl _)
  rwa [rs_sort, List.take_length] at this
theorem sortM_sorted (l : List EventM) : (sortM l).Pairwise leE := by
  rw [← rs_sort]; exact rsN_sorted l _
/-- All orders of a list with different ticks are sorted to the same one. -/
theorem sort_perm {l s : List EventM} (h : l.Perm s) (hs : s.Pairwise (fun x y => x.Tick < y.Tick)) : sortM l = s := by
  have hd : ∀ a ∈ s, ∀ b ∈ s, a.Tick = b.Tick → a = b := by
    intro a ha b hb hq
    obtain ⟨i, hi, rfl⟩ := List.getElem_of_mem ha
    obtain ⟨j, hj, rfl⟩ := List.getElem_of_mem hb
    rcases Nat.lt_trichotomy i j with h | h | h
    · have := List.pairwise_iff_getElem.1 hs i j hi hj h; omega
    · subst h; rfl
    · have := List.pairwise_iff_getElem.1 hs j i hj hi h; omega
  refine List.Perm.eq_of_pairwise (le := leE) ?_ (sortM_sorted l) (hs.imp fun {a b} h => (leE_iff a b).2 (.inl h)) ((sortM_perm l).trans h)
  intro a b ha hb h1 h2
  refine hd a (((sortM_perm l).trans h).subset ha) b hb ?_
  rw [leE_iff] at h1 h2
  omega
theorem getD_lt {l : List EventM} {i : Nat} (h : i < l.length) : l.getD i default = l[i] := by
  rw [List.getD_eq_getElem?_getD, List.getElem?_eq_getElem h, Option.getD_some]
theorem rot_get {l : List EventM} {k j : Nat} (hk : k ≤ l.length) (hj : j < l.length) : (l.drop k ++ l.take k)[j]'(by simp; omega) = l.getD ((j + k) % l.length) default := by
  have hm : (j + k) % l.length < l.length := Nat.mod_lt _ (by omega)
  rw [getD_lt hm]
  by_cases h : j < l.length - k
  · rw [List.getElem_append_left (by simp; omega), List.getElem_drop]
    congr 1
    rw [Nat.mod_eq_of_lt (by omega)]; omega
  · rw [List.getElem_append_right (by simp; omega), List.getElem_take]
    congr 1
    rw [Nat.mod_eq_sub_mod (by omega), Nat.mod_eq_of_lt (by omega)]
    simp; omega
theorem turnM_perm (l : List EventM) (b : Int) : (turnM l b).Perm l := by
  by_cases h0 : l.length = 0
  · have : l = [] := List.eq_nil_of_length_eq_zero h0
    subst this
    exact .refl _
  have har := aroundM_range (n := b) (m := (l.length : Int) + 1) (by omega)
  obtain ⟨k, hk⟩ : ∃ k : Nat, aroundM b ((l.length : Int) + 1) = (k : Int) := ⟨(aroundM b ((l.length : Int) + 1)).toNat, by omega⟩
  have hx : ∀ j : Nat, turnX l.length b j = (((j + k) % l.length : Nat) : Int) := fun j => by
    unfold turnX
    rw [hk, Int.tmod_eq_emod_of_nonneg (by omega)]
    push_cast
    rfl
  have hperm : ∀ m : List EventM, (m.drop k ++ m.take k).Perm m := fun m => by
    refine List.perm_append_comm.trans ?_
    rw [List.take_append_drop]
  by_cases hb : b.tmod 2 = 0
  · have : turnM l b = l.drop k ++ l.take k := by
      refine List.ext_getElem (by simp [turnM, turnN]; omega) fun j h1 h2 => ?_
      have hj : j < l.length := by simp [turnM, turnN] at h1; omega
      rw [rot_get (by omega) hj]
      simp only [turnM, turnN, List.getElem_map, List.getElem_range, turnI]
      rw [if_pos hb, hx, Int.toNat_natCast]
    rw [this]
    exact hperm l
  · have : turnM l b = l.reverse.drop k ++ l.reverse.take k := by
      refine List.ext_getElem (by simp [turnM, turnN]; omega) fun j h1 h2 => ?_
      have hj : j < l.length := by simp [turnM, turnN] at h1; omega
      have hm : (j + k) % l.length < l.length := Nat.mod_lt _ (by omega)
      rw [rot_get (by simp; omega) (by simpa using hj)]
      rw [List.length_reverse, getD_lt (by simpa using hm), List.getElem_reverse]
      simp only [turnM, turnN, List.getElem_map, List.getElem_range, turnI]
      rw [if_neg hb, hx, getD_lt (by omega)]
      congr 1
      omega
    rw [this]
    exact (hperm _).trans (List.reverse_perm l)
theorem sort_turn (l : List Int) (b : Int) : sortM (turnM (listG l) b) = listG l := sort_perm (turnM_perm _ _) (good_sorted (listG_good l))
end Go.Proofs.Ytabjaaonfaejmaa

namespace Go.Proofs.Ytabjaaonfaejmaa
open Go.Av

abbrev zEv : EventM := exE 0 0 0 [] 0
theorem zEv_ok : OkEv zEv := okEx i64z i64z i64z i64z (by decide) (by simp)
def z385 : List EventM := List.replicate 385 zEv
theorem z385_len : z385.length = 385 := List.length_replicate
def tkM (e : EventM) (b : Int) : EventM := { e with Tick := IntKind.i64.wrap (IntKind.i64.wrap (e.Tick + b.tmod 5) - 2) }
def bentM (l : List EventM) (k : Nat) (how b : Int) : List EventM := l.set k (spoiltM (l.getD k default) how b)
def tickM (l : List EventM) (j : Nat) (b : Int) : List EventM := l.set j (tkM (l.getD j default) b)
def alsoM (l : List EventM) (how b also turn : Int) : List EventM := tickM (bentM l (aroundM b l.length).toNat how also) (aroundM turn l.length).toNat b
def listsM (l : List EventM) (how b also turn : Int) : List (List EventM) :=
  [l, turnM l turn, [], z385] ++
    if 0 < l.length then [bentM l (aroundM b l.length).toNat how also, alsoM l how b also turn, lessN l (aroundM b l.length).toNat, l ++ [l.getD (aroundM b l.length).toNat default], turnM (alsoM l how b also turn) how] else []
theorem bentM_len (l : List EventM) (k : Nat) (how b : Int) : (bentM l k how b).length = l.length := List.length_set
theorem tickM_len (l : List EventM) (j : Nat) (b : Int) : (tickM l j b).length = l.length := List.length_set
theorem alsoM_len (l : List EventM) (how b also turn : Int) : (alsoM l how b also turn).length = l.length := by rw [alsoM, tickM_len, bentM_len]
theorem lessN_len {l : List EventM} {j : Nat} (h : j < l.length) : (lessN l j).length = l.length - 1 := less_len h
theorem turnM_len (l : List EventM) (b : Int) : (turnM l b).length = l.length := turnN_len _ _ _
theorem sm_tk {k : Nat} {e : EventM} (h : SmEv k e) (b : Int) : SmEv k (tkM e b) := { h with tick := i64_wrap _ }
theorem sm_set {k : Nat} {l : List EventM} (h : ∀ e ∈ l, SmEv k e) {x : EventM} (hx : SmEv k x) {j : Nat} : ∀ e ∈ l.set j x, SmEv k e := fun e he => by
  rcases List.mem_or_eq_of_mem_set he with he | rfl
  · exact h e he
  · exact hx
theorem sm_bent {k : Nat} {l : List EventM} (h : ∀ e ∈ l, SmEv k e) (hk : k ≤ 20) {j : Nat} (hj : j < l.length) (how : Int) {b : Int} (hb : I64 b) : ∀ e ∈ bentM l j how b, SmEv (k + 1) e :=
  sm_set (fun e he => sm_up (h e he)) (sm_sp (getD_all h hj) hk hb _)
theorem sm_tick {k : Nat} {l : List EventM} (h : ∀ e ∈ l, SmEv k e) {j : Nat} (hj : j < l.length) (b : Int) : ∀ e ∈ tickM l j b, SmEv k e :=
  sm_set h (sm_tk (getD_all h hj) b)
theorem sm_also {k : Nat} {l : List EventM} (h : ∀ e ∈ l, SmEv k e) (hk : k ≤ 20) (h0 : 0 < l.length) (how b : Int) {also : Int} (turn : Int) (ha : I64 also) : ∀ e ∈ alsoM l how b also turn, SmEv (k + 1) e := by
  have r1 := aroundM_range (n := b) (m := (l.length : Int)) (by omega)
  have r2 := aroundM_range (n := turn) (m := (l.length : Int)) (by omega)
  exact sm_tick (sm_bent h hk (by omega) how ha) (by rw [bentM_len]; omega) b
theorem sm_turn {k : Nat} {l : List EventM} (h : ∀ e ∈ l, SmEv k e) (b : Int) : ∀ e ∈ turnM l b, SmEv k e := fun e he => h e ((turnM_perm l b).subset he)
theorem sm_less {k : Nat} {l : List EventM} (h : ∀ e ∈ l, SmEv k e) (j : Nat) : ∀ e ∈ lessN l j, SmEv k e := fun e he => h e (mem_less he)
/-- The events of a generated list are small. -/
theorem lsEv_sm {out : List EventM} {n t : Int} (h : LsOk out t) (hn : 0 ≤ n ∧ n ≤ 4096) (ht : 0 ≤ t ∧ t ≤ 1000) (ho : out.length ≤ 16) : SmEv 0 (lsEv out n t) :=
  have h0 := lsEv_ok h hn ht ho
  { by_ := h0.by_, seq := h0.seq, tick := h0.tick, kind := h0.kind, n := h0.n, id := h0.id, tk := h0.tk, tl := h0.tl, refs := h0.refs
    nrefs := by
      have := lsRefs_cnt out n t
      show (lsRefs out n t 3).length ≤ _
      omega
    op := smZ
    name := by show (0 : Nat) ≤ 100; omega
    see := by show (0 : Nat) ≤ 100; omega
    broader := by simp [lsEv, zTermG]
    nbroader := by show (0 : Nat) ≤ _; omega
    posts := by simp [lsEv]
    nposts := by show (0 : Nat) ≤ _; omega }
theorem lsSt_sm (l : List Int) : ∀ i, i ≤ 16 → ∀ x ∈ (lsSt l i).1, SmEv 0 x
  | 0, _ => by simp [lsSt_zero]
  | i + 1, hi => by
    have h := lsSt_ok l i (by omega)
    have ht := lsSt_tick l i
    have hl := lsSt_len l i
    intro x hx
    rw [lsSt] at hx
    rcases List.mem_append.1 hx with hx | hx
    · exact lsSt_sm l i (by omega) x hx
    · rw [List.mem_singleton.1 hx]
      exact lsEv_sm h (lsN_rng l i) (by omega) (by omega)
theorem listG_sm (l : List Int) : ∀ x ∈ listG l, SmEv 0 x := lsSt_sm l _ (by have := listN_le l; omega)
/-- What the contracts of Closed ask of a list. -/
def ClOk (x : List EventM) : Prop := (x.length < 20 ∨ 384 < x.length) ∧ x.length ≤ 1000 ∧ ∀ e ∈ sortM x, OkEv e
theorem clOk_of {k : Nat} {x : List EventM} (hk : k ≤ 20) (hl : x.length < 20) (h : ∀ e ∈ x, SmEv k e) : ClOk x := ⟨.inl hl, by omega, fun e he => sm_ev (h e (sortM_mem he)) hk⟩
theorem lists_ok {l : List EventM} (hl : l.length ≤ 8) (h : ∀ e ∈ l, SmEv 0 e) (how b : Int) {also : Int} (turn : Int) (ha : I64 also) : ∀ x ∈ listsM l how b also turn, ClOk x := by
  intro x hx
  rcases List.mem_append.1 hx with hx | hx
  · simp only [List.mem_cons, List.not_mem_nil, or_false] at hx
    rcases hx with rfl | rfl | rfl | rfl
    · exact clOk_of (k := 0) (by omega) (by omega) h
    · exact clOk_of (k := 0) (by omega) (by rw [turnM_len]; omega) (sm_turn h turn)
    · exact clOk_of (k := 0) (by omega) (by simp) (by simp)
    · refine ⟨.inr (by rw [z385_len]; omega), by rw [z385_len]; omega, fun e he => ?_⟩
      rw [List.eq_of_mem_replicate (sortM_mem he)]
      exact zEv_ok
  · split at hx
    · rename_i h0
      have r1 := aroundM_range (n := b) (m := (l.length : Int)) (by omega)
      simp only [List.mem_cons, List.not_mem_nil, or_false] at hx
      rcases hx with rfl | rfl | rfl | rfl | rfl
      · exact clOk_of (k := 1) (by omega) (by rw [bentM_len]; omega) (sm_bent h (by omega) (by omega) how ha)
      · exact clOk_of (k := 1) (by omega) (by rw [alsoM_len]; omega) (sm_also h (by omega) h0 how b turn ha)
      · exact clOk_of (k := 0) (by omega) (by rw [lessN_len (by omega)]; omega) (sm_less h _)
      · refine clOk_of (k := 0) (by omega) (by simp; omega) fun e he => ?_
        rcases List.mem_append.1 he with he | he
        · exact h e he
        · rw [List.mem_singleton.1 he]; exact getD_all h (by omega)
      · exact clOk_of (k := 1) (by omega) (by rw [turnM_len, alsoM_len]; omega) (sm_turn (sm_also h (by omega) h0 how b turn ha) how)
    · simp at hx
end Go.Proofs.Ytabjaaonfaejmaa

namespace Go.Proofs.Ytabjaaonfaejmaa
open Go.Av

theorem closedZ (G) {l : List EventM} {a b : Int} (hc : closedM l = (a, b)) (h : ClOk l) : Gives Try.prog G 17 [eventsD l] [iD a, iD b] := by
  have := closed_ok G l h.1 h.2.2
  rw [hc] at this
  exact this
theorem z385_row {x : AV} (h : rowD1 x = some (.dat (eventD zEv))) : rowDL (List.replicate 385 x) = some ((z385.map eventD).map .dat) := by
  rw [z385, List.map_replicate, List.map_replicate]
  exact rowDL_rep h _
def addM (l : List EventM) (k : Nat) : List EventM := l ++ [l.getD k default]

set_option maxRecDepth 100000 in
set_option maxHeartbeats 8000000 in
theorem closed_law (G) (q : List Int) (how b also turn : Int) (hq : ∀ n ∈ q, I64 n) (hh : I64 how) (hbb : I64 b) (ha : I64 also) (ht : I64 turn) : Gives Try.prog G 4 [isD q, iD how, iD b, iD also, iD turn] [bD true] := by
  have hgc := listG_closed q
  have hok := listG_sm q
  have hle := listG_le q
  have hq0 := listG_ok G q hq
  generalize listG q = l at *
  have hlo := lists_ok hle hok how b turn ha
  have hll : (listsM l how b also turn).length ≤ 9 := by unfold listsM; split <;> simp
  have r5a := Int.tmod_lt_of_pos b (b := 5) (by omega)
  have r5b := Int.lt_tmod_of_pos b (b := 5) (by omega)
  skip
  skip
  refine gives_intro [32, 82, 95, 99, 100] [] [77, 89] Try.func4 rfl (by rfl) (by simp [Try.ntmps4]) fun F hP hG hN hR => ?_
  rw [Try.ntmps4] at hN
  have hA := And.intro hN (And.intro hP (And.intro hG (And.intro hR.1 (And.intro hR.2.1 hR.2.2.1))))
  have hE := And.intro @Try.results4 (And.intro @turnM_len (And.intro @bentM_len (And.intro @alsoM_len (And.intro @nth_row (@Nat.min_self)))))
  refine WS [0, 1, 2, 3, 4] [31, 32] ?_
  have hc := gvF hP hG (hq0)
  refine WSc [1, 2, 3, 4, 11] [31, 32] ?_
  apply aw_rgds [1, 2, 3, 4, 11, 12] [31, 32, 40, 42, 53, 55, 73, 77, 82, 87, 89, 94, 95, 99, 100] [0, 1, 2, 3, 4, 5, 6] [31, 32]
  · rw [hP]; kernel_rfl
  · exact hR
  · kernel_rfl
  · (repeat (apply PickL.cons; exact rfl)); exact PickL.nil _
  · simp (maxSteps := 2000000) (disch := omega) only [avR2, avA, datsOf, fillA, seval, ↓List.forall_mem_cons, Op.operands, hA, tiA, hE, -List.reduceReplicate]
    (repeat' refine And.intro ?_ ?_) <;> try exact SD
    refine CallC.use (gvF hP hG (turned_ok G l turn ht (by omega))) rfl ?_
    try simp (maxSteps := 2000000) (disch := omega) only [avR2, avA, datsOf, fillA, seval, ↓List.forall_mem_cons, Op.operands, hA, tiA, hE, -List.reduceReplicate]
    exact SC
  refine aw_meet (.of [(11, .dat (eventsD l)), (12, .dat (.sl ((listsM l how b also turn).map (fun x => eventsD x))))] []) ?_ ?_
  · skip
    refine aw_rowD 31 rfl (z385_row rfl) ?_
    refine aw_frz 31 hR.2.2.2 rfl (datE_map _) ?_
    refine aw_rowD 32 (l' := [.dat (eventsD l), .dat (eventsD (turnM l turn)), .dat (.sl []), .dat (eventsD z385)]) rfl rfl ?_
    refine WS [1, 2, 3, 4, 11, 12, 35] [31, 32, 40, 42, 53, 55, 73, 77, 82, 87, 89, 94, 95, 99, 100] ?_
    refine WI (fun hb => ?_) (fun hb => ?_)
    · skip
      have h0 : 0 < l.length := by omega
      have r1 := aroundM_range (n := b) (m := (l.length : Int)) (by omega)
      have r2 := aroundM_range (n := turn) (m := (l.length : Int)) (by omega)
      obtain ⟨k, hk⟩ : ∃ k : Nat, aroundM b (l.length : Int) = (k : Int) := ⟨(aroundM b (l.length : Int)).toNat, by omega⟩
      obtain ⟨j, hj⟩ : ∃ j : Nat, aroundM turn (l.length : Int) = (j : Int) := ⟨(aroundM turn (l.length : Int)).toNat, by omega⟩
      have hkl : k < l.length := by omega
      have hjl : j < (bentM l k how also).length := by rw [bentM_len]; omega
      have hal : alsoM l how b also turn = tickM (bentM l k how also) j b := by unfold alsoM; rw [hk, hj, Int.toNat_natCast, Int.toNat_natCast]
      have hls : listsM l how b also turn = [l, turnM l turn, [], z385, bentM l k how also, tickM (bentM l k how also) j b, lessN l k, addM l k, turnM (tickM (bentM l k how also) j b) how] := by
        unfold listsM
        rw [if_pos h0, hal, hk, Int.toNat_natCast]
        rfl
      have hbl := bentM_len l k how also
      have htl2 : (tickM (bentM l k how also) j b).length = l.length := by rw [tickM_len, hbl]
      have hE := And.intro hE (And.intro hk (And.intro hj (And.intro hls (And.intro hbl htl2))))
      have hset1 := set_row (fun e => eventD e) l k (spoiltM (l.getD k default) how also)
      have hset1 : List.set (List.map AV.dat (List.map (fun e => eventD e) l)) k (.dat (eventD (spoiltM (l.getD k default) how also))) = List.map AV.dat (List.map (fun e => eventD e) (bentM l k how also)) := hset1
      have hset2 := set_row (fun e => eventD e) (bentM l k how also) j (tkM ((bentM l k how also).getD j default) b)
      have hset2 : List.set (List.map AV.dat (List.map (fun e => eventD e) (bentM l k how also))) j (.dat (eventD (tkM ((bentM l k how also).getD j default) b))) = List.map AV.dat (List.map (fun e => eventD e) (tickM (bentM l k how also) j b)) := hset2
      dsimp only [tkM, eventD] at hset2
      have hE := And.intro hE (And.intro hset1 hset2)
      have hc := gvF hP hG (around_ok G b l.length hbb (by omega) (by unfold I64; omega))
      refine WSc [1, 2, 3, 4, 11, 12, 13] [31, 32, 40, 42, 53, 55, 73, 77, 82, 87, 89, 94, 95, 99, 100] ?_
      refine WS [1, 2, 3, 4, 11, 12, 13, 14] [31, 32, 40, 42, 53, 55, 73, 77, 82, 87, 89, 94, 95, 99, 100] ?_
      have hc := gvF hP hG (spoilt_ok G (l.getD k default) how also (sm_ev (getD_all hok hkl) (by omega)) hh ha)
      refine WSc [1, 2, 4, 11, 12, 13, 14] [31, 32, 40, 42, 53, 55, 73, 77, 82, 87, 89, 94, 95, 99, 100] ?_
      refine WS [1, 2, 4, 11, 12, 13, 14, 15] [31, 32, 40, 42, 53, 55, 73, 77, 82, 87, 89, 94, 95, 99, 100] ?_
      have hc := gvF hP hG (around_ok G turn l.length ht (by omega) (by unfold I64; omega))
      refine WSc [1, 2, 11, 12, 13, 14, 15, 16] [31, 32, 40, 42, 53, 55, 73, 77, 82, 87, 89, 94, 95, 99, 100] ?_
      refine WS [1, 11, 12, 13, 14, 15] [31, 32, 40, 42, 53, 55, 73, 77, 82, 87, 89, 94, 95, 99, 100] ?_
      refine aw_frz 42 hR.2.2.2 rfl (datE_map _) ?_
      simp (maxSteps := 2000000) (disch := omega) only [avA, datsOf, fillA, seval, hE]
      refine aw_frz 55 hR.2.2.2 rfl (datE_map _) ?_
      have htl : (List.take k l).length = k := by rw [List.length_take]; omega
      have hdl : (List.drop (k + 1) l).length = l.length - (k + 1) := by rw [List.length_drop]
      have hk1 : ((k : Int) + 1).toNat = k + 1 := by omega
      have hkk : k + (l.length - (k + 1)) = l.length - 1 := by omega
      have htt : List.take (l.length - 1) (List.map (fun e => eventD e) (lessN l k)) = List.map (fun e => eventD e) (lessN l k) := List.take_of_length_le (by rw [List.length_map, lessN_len hkl]; omega)
      have hln := lessN_len hkl
      have hE := And.intro hE (And.intro hk1 (And.intro htl (And.intro hdl (And.intro htt (And.intro hln (And.intro hkk (And.intro @ev_takeD @ev_dropD)))))))
      refine WD [1, 11, 12, 13, 14, 15, 17] [31, 32, 40, 42, 53, 55, 73, 77, 82, 87, 89, 94, 95, 99, 100] [0, 1, 2, 3, 4, 5, 6, 7, 8, 9, 10] [77, 82] ?_
      refine aw_frz (ds := (lessN l k).map (fun e => eventD e)) 82 hR.2.2.2 rfl (by have e := datE_map ((lessN l k).map (fun e => eventD e)); simpa only [lessN, List.map_append] using e) ?_
      apply aw_rgd [11, 12] [31, 32, 40, 42, 53, 55, 73, 77, 82, 87, 89, 94, 95, 99, 100] [4, 5, 6, 7, 8, 9, 10, 11, 12, 0, 1, 2, 3, 13, 14, 15, 16, 17, 18] [89, 95, 99, 100]
      · rw [hP]; kernel_rfl
      · exact hR
      · kernel_rfl
      · (repeat (apply PickL.cons; exact rfl)); exact PickL.nil _
      · simp (maxSteps := 2000000) (disch := omega) only [avR2, avA, datsOf, fillA, seval, ↓List.forall_mem_cons, Op.operands, hA, tiA, hE]
        (repeat' refine And.intro ?_ ?_) <;> try exact SD
        refine CallC.use (gvF hP hG (turned_ok G (tickM (bentM l k how also) j b) how hh (by omega))) rfl ?_
        try simp (maxSteps := 2000000) (disch := omega) only [avR2, avA, datsOf, fillA, seval, ↓List.forall_mem_cons, Op.operands, hA, tiA, hE]
        exact SC
      show Le F _ _
      have hta : List.take (l.length + 1) (List.map (fun e => eventD e) l ++ [eventD (l.getD k default)]) = List.map (fun e => eventD e) (addM l k) := by
        rw [List.take_of_length_le (by simp), addM, List.map_append]
        rfl
      have hE := And.intro hE hta
      refine le_frz (ds := (l ++ [l.getD k default]).map (fun e => eventD e)) 95 hR.2.2.2 rfl (by have e := datE_map ((l ++ [l.getD k default]).map (fun e => eventD e)); simpa only [List.map_append, List.map_cons, List.map_nil] using e) ?_
      simp (maxSteps := 2000000) (disch := omega) only [avA, datsOf, fillA, seval, hE]
      refine le_frz 100 hR.2.2.2 rfl rfl ?_
      refine Le.of ?_ ?_
      · try simp (disch := omega) only [LeE, LeO, avA, datsOf, fillA, seval, ↓List.forall_mem_cons, Op.operands, hE]
        all_goals first | done | (repeat' apply And.intro) <;> first | rfl | omega | assumption | (simp only [AV.dat.injEq, Dat.int.injEq, true_and]; omega) | (congr <;> omega)
      · try simp (disch := omega) only [LeE, LeO, avA, datsOf, fillA, seval, ↓List.forall_mem_cons, Op.operands, hE]
        all_goals first | done | (repeat' apply And.intro) <;> first | rfl | omega | assumption | (simp only [AV.dat.injEq, Dat.int.injEq, true_and]; omega) | (congr <;> omega)
    · skip
      have hls : listsM l how b also turn = [l, turnM l turn, [], z385] := by
        unfold listsM
        rw [if_neg (by omega)]
        rfl
      have hE := And.intro hE hls
      refine aw_frz 32 hR.2.2.2 rfl rfl ?_
      apply aw_skip
      refine Le.of ?_ ?_
      · try simp (disch := omega) only [LeE, LeO, avA, datsOf, fillA, seval, ↓List.forall_mem_cons, Op.operands, hE]
        all_goals first | done | (repeat' apply And.intro) <;> first | rfl | omega | assumption | (simp only [AV.dat.injEq, Dat.int.injEq, true_and]; omega) | (congr <;> omega)
      · try simp (disch := omega) only [LeE, LeO, avA, datsOf, fillA, seval, ↓List.forall_mem_cons, Op.operands, hE]
        all_goals first | done | (repeat' apply And.intro) <;> first | rfl | omega | assumption | (simp only [AV.dat.injEq, Dat.int.injEq, true_and]; omega) | (congr <;> omega)
  apply aw_seq
  refine WS [11, 12, 18] [31, 32, 40, 42, 53, 55, 73, 77, 82, 87, 89, 94, 95, 99, 100] ?_
  apply aw_block
  refine WL (ι := {i : Nat // i ≤ (listsM l how b also turn).length}) [11, 12] [31, 32, 40, 42, 53, 55, 73, 77, 82, 87, 89, 94, 95, 99, 100] (fun ⟨i, hi⟩ => [(18, .dat (iD i))]) (fun ⟨i, hi⟩ => []) (fun ⟨i, hi⟩ => (listsM l how b also turn).length - i) (⟨0, by omega⟩) ?_
  rintro ⟨i, hi⟩
  dsimp only [List.cons_append, List.nil_append]
  apply aw_seq
  refine WS [11, 12, 18, 104] [31, 32, 40, 42, 53, 55, 73, 77, 82, 87, 89, 94, 95, 99, 100] ?_
  refine WI (fun hb => ?_) (fun hb => ?_)
  · skip
    apply aw_skip
    apply q_seq
    apply aw_seq
    apply aw_block
    have hc := gvF hP hG (closed_ok G ((listsM l how b also turn).getD i default) (getD_all hlo (by omega)).1 (getD_all hlo (by omega)).2.2)
    refine WSc [11, 12, 18, 19, 20] [31, 32, 40, 42, 53, 55, 73, 77, 82, 87, 89, 94, 95, 99, 100] ?_
    have hc := gvF hP hG (rclosed_ok G ((listsM l how b also turn).getD i default) (getD_all hlo (by omega)).2.1 (getD_all hlo (by omega)).2.2)
    refine WSc [11, 12, 18, 19, 20, 21, 22] [31, 32, 40, 42, 53, 55, 73, 77, 82, 87, 89, 94, 95, 99, 100] ?_
    refine WS [11, 12, 18, 130] [31, 32, 40, 42, 53, 55, 73, 77, 82, 87, 89, 94, 95, 99, 100] ?_
    refine WI (fun hb => ?_) (fun hb => ?_)
    · skip
      refine WS [10] [31, 32] ?_
      apply aw_ret
      apply q_ret_block
      apply q_ret_seq
      apply q_ret_loop
      apply q_ret_block
      apply q_ret_seq
      simp only [QRet, QRetM, QRetX, retsX_nil, retsX_cons, objsAre, resA, mapO_nil, mapO_cons, vD_dat, vD_nils, vD_rp, vD_osl, vD_ptr, vD_agg, vD_fn, vL_dat, vL_app, viewL, avA, datsOf, fillA, seval, ↓List.forall_mem_cons, Op.operands, hP, hG, tiA, hE]
      all_goals try (first | done | rfl | trivial)
      all_goals first | done | simp
    · skip
      apply aw_skip
      apply q_block
      apply q_seq
      refine WQ [11, 12, 18] [31, 32, 40, 42, 53, 55, 73, 77, 82, 87, 89, 94, 95, 99, 100] ?_
      refine WN (⟨i + 1, by omega⟩)
  · skip
    apply aw_exit
    apply q_exit_seq
    have hend : i = (listsM l how b also turn).length := by omega
    subst hend
    apply q_exit_loop
    apply q_exit
    apply q_seq
    have hc := gvF hP hG (closedZ G hgc (clOk_of (k := 0) (by omega) (by omega) hok))
    refine WSc [11, 23, 24] [31, 32] ?_
    apply aw_regs [10] [31, 32]
    · simp (maxSteps := 2000000) (disch := omega) only [avR2, avA, datsOf, fillA, seval, ↓List.forall_mem_cons, Op.operands, hA, tiA, hE]
      (repeat' refine And.intro ?_ ?_) <;> try exact SD
      refine CallGC.use rfl (fun hg => ⟨by first | trivial | simp_all [gdAll], gvF hP hG (lives_ok G)⟩) ?_
      try simp (maxSteps := 2000000) (disch := omega) only [avR2, avA, datsOf, fillA, seval, ↓List.forall_mem_cons, Op.operands, hA, tiA, hE]
      exact SC
    apply aw_ret
    simp only [QRet, QRetM, QRetX, retsX_nil, retsX_cons, objsAre, resA, mapO_nil, mapO_cons, vD_dat, vD_nils, vD_rp, vD_osl, vD_ptr, vD_agg, vD_fn, vL_dat, vL_app, viewL, avA, datsOf, fillA, seval, ↓List.forall_mem_cons, Op.operands, hP, hG, tiA, hE]
    all_goals try (first | done | rfl | trivial)
    all_goals first | done | simp

end Go.Proofs.Ytabjaaonfaejmaa

namespace Go.Proofs.Ytabjaaonfaejmaa
open Go.Av Go.ChangeShapes Go.WideShapes Go.ChangeAt Go.RowKit

abbrev Old (w : World) : Nat → Nat → Prop := fun b _ => b < w.heap.size

theorem cell_spot {w : World} {a : Addr} {v : Value} (h : w.cell? a = some v) : a.spot = none ∧ a.block < w.heap.size := by
  unfold World.cell? at h
  split at h
  · rename_i c e f hb
    split at h
    · cases h
    · rename_i hs
      exact ⟨by simpa using hs, (Array.getElem?_eq_some_iff.1 hb).1⟩
  · cases h
theorem addr_none {a : Addr} (h : a.spot = none) (n : Nat) : a.add n = ⟨a.block, a.off + n, none⟩ := by
  obtain ⟨b, o, s⟩ := a
  simp only at h
  subst h
  exact add_none b o n
theorem add_spot {a : Addr} (h : (a.add 0).spot = none) : a.spot = none := by
  obtain ⟨b, o, s⟩ := a
  cases s with
  | none => rfl
  | some s => simp [Addr.add] at h
theorem wf_i64 {n : Int} (h : (Lit.int .i64 n).wf = true) : I64 n := by
  simp only [Lit.wf, Bool.and_eq_true, decide_eq_true_eq] at h
  unfold I64
  have h1 : IntKind.i64.min = -9223372036854775808 := by decide
  have h2 : IntKind.i64.max = 9223372036854775807 := by decide
  omega

theorem rep_ints {w : World} {b : Nat} (hb : b < w.heap.size) : ∀ (zs : List Int) (off : Nat), (∀ i, i < zs.length → w.cell? ⟨b, off + i, none⟩ = some (.int .i64 (zs.getD i 0))) → RepS (Old w) w 1 (zs.map iD) (some ⟨b, off, none⟩)
  | [], _, _ => by simp [RepS]
  | z :: zs, off, h => by
    simp only [List.map_cons, RepS]
    refine ⟨b, off, rfl, by simp, ?_, rep_ints hb zs (off + 1) fun i hi => ?_⟩
    · have := h 0 (by simp)
      simp only [RepAt]
      exact ⟨hb, by simpa using this⟩
    · have := h (i + 1) (by simp; omega)
      rw [show off + 1 + i = off + (i + 1) by omega]
      simpa using this

section
variable {H : Type} {enc : TypeId × Value → H} {P : Program} {w : World}

theorem slice_of {r : Reach} {base : Nat} {t e : TypeId} {v : Value} (ht : P.underlying t = some (.slice e)) (hv : Value.okWide P w r base t v) : ∃ a len cap, v = .slice a len cap := by
  simp only [Value.okWide, ht, Cell.okWide, Cell.ok] at hv
  cases v <;> simp at hv
  exact ⟨_, _, _, rfl⟩

theorem ints_in {r : Reach} {base : Nat} {t e : TypeId} {v : Value} {d : DataW H} {ps : List MemPlace} {sp : Nat → Bool} {held : Bool} (ht : P.underlying t = some (.slice e)) (he : P.underlying e = some (.int .i64)) (hc : P.cellsOf e = 1)
    (hv : Value.okWide P w r base t v) (hd : DataW.Trod enc P w 0 sp held t v d ps) : ∃ zs : List Int, (∀ z ∈ zs, I64 z) ∧ RepX (Old w) w (isD zs) v := by
  obtain ⟨a, len, cap, rfl⟩ := slice_of ht hv
  obtain ⟨fuel, hd⟩ := hd
  rcases open_ints ht he hc hd with ⟨h1, _⟩ | ⟨a', len', cap', zs, h1, _, hl, _, hz, _, hcell, hwf⟩
  · simp [Value.cells] at h1
    obtain ⟨rfl, rfl, rfl⟩ := h1
    refine ⟨[], by simp, ?_⟩
    simp only [RepX]
    exact ⟨1, none, 0, rfl, by simp, by simp [RepS]⟩
  · simp [Value.cells] at h1
    obtain ⟨rfl, rfl, rfl⟩ := h1
    have hlz : len ≤ zs.length := by rw [hz]; split <;> omega
    refine ⟨zs.take len, fun z hz' => wf_i64 (hwf z (List.mem_of_mem_take hz')), ?_⟩
    simp only [RepX]
    refine ⟨1, some a', cap, by simp [Nat.min_eq_left hlz], by simp [Nat.min_eq_left hlz, hl], ?_⟩
    cases zs with
    | nil => simp [RepS]
    | cons z zs =>
      obtain ⟨hs, hb⟩ := cell_spot (hcell 0 (by simp))
      have hs := add_spot hs
      rw [addr_none hs 0] at hb
      simp only at hb
      have ha : a' = ⟨a'.block, a'.off, none⟩ := by
        obtain ⟨b, o, s⟩ := a'
        simp only at hs
        subst hs
        rfl
      rw [ha]
      refine rep_ints hb _ _ fun i hi => ?_
      have h2 := hcell i (by simp at hi; simp; omega)
      rw [addr_none hs i] at h2
      rw [h2]
      simp at hi
      simp [List.getD_eq_getElem?_getD, List.getElem?_take, show i < len by omega]

theorem same_of_ext {w' : World} (h : Ext (fun _ => False) w w') {p : MemPlace} (hp : p.block < w.heap.size) : w.sameAt w' p := by
  have hb := h.block p.block hp (fun f => f)
  cases p with
  | cell b off =>
    simp only [MemPlace.block] at hb
    simp only [World.sameAt, World.cell?, hb]
  | map b =>
    simp only [MemPlace.block] at hb
    simpa only [World.sameAt] using hb

theorem all_stays (hl : laidOutB P = true) {w' : World} {sp' : Nat → Bool} (hx : Ext (fun _ => False) w w') : ∀ {ts : List TypeId} {vs : List Value} {ds : List (DataW H)} {ps : List MemPlace}, (∀ t ∈ ts, P.readableRec t = true ∧ t < P.types.size) → DataW.TrodAll enc P w 0 (fun _ => true) true ts vs ds ps → (∀ p ∈ ps, p.block < w.heap.size) → (∀ p ∈ ps, sp' p.block = true) → DataW.TrodAll enc P w' 0 sp' true ts vs ds ps
  | [], [], [], _, _, h, _, _ => h
  | _ :: _, _ :: _, _ :: _, _, ht, ⟨p, q, h1, h2, e⟩, hb, hs => ⟨p, q,
      WideElems.Trod_stays hl (ht _ (List.mem_cons.2 (Or.inl rfl))).1 (ht _ (List.mem_cons.2 (Or.inl rfl))).2 h1 (fun x hx' => same_of_ext hx (hb x (by rw [e]; exact List.mem_append_left _ hx'))) (fun x hx' => hs x (by rw [e]; exact List.mem_append_left _ hx')),
      all_stays hl hx (fun t h => ht t (List.mem_cons.2 (Or.inr h))) h2 (fun x hx' => hb x (by rw [e]; exact List.mem_append_right _ hx')) (fun x hx' => hs x (by rw [e]; exact List.mem_append_right _ hx')), e⟩

theorem frozen_ext {w' : World} (h : Ext (fun _ => False) w w') {a : Addr} (ha : a.block < w.heap.size) : w'.frozen? a = w.frozen? a := by
  simp only [World.frozen?, h.block a.block ha (fun f => f)]

theorem kept_ext {w' : World} (h : Ext (fun _ => False) w w') (may : MemPlace → Prop) : w.keptBut w' may := by
  refine ⟨h.os, h.output, fun i hi => ?_⟩
  rw [h.block i hi (fun f => f)]
  cases w.heap[i]? with
  | none => rfl
  | some o => cases o with
    | cells c t fr => exact ⟨rfl, rfl, rfl, fun _ _ => rfl⟩
    | map es clock => exact .inr ⟨rfl, rfl⟩
    | _ => rfl

/-- The call answers true and leaves its arguments alone: what such a row asks. -/
theorem post_of_ext {f : Func} {s : ChangeSpec} {apart fresh handsOn again : Bool} {W W' : World} {args : Array Value} {ds gs : List (DataW H)} {before : List MemPlace} (hl : laidOutB P = true)
    (hrd : ∀ t ∈ f.params.toList, P.readableRec t = true ∧ t < P.types.size) {tb : TypeId} (hres : f.resultTypes = #[tb]) (htb : P.underlying tb = some .bool)
    (hvars : s.vars = []) (hfn : s.fn H ds = { results := [.lit (.bool true)], args := ds })
    (hW : DataW.Whole enc P f.params.toList s.vars apart W args.toList ds gs before) (hx : Ext (fun _ => False) W W') :
    s.post enc P f apart fresh handsOn again W args (.bool true) W' := by
  have hW0 := hW
  obtain ⟨p, q, hA, hV, hpq, hz, hn⟩ := hW
  rw [hvars] at hV
  obtain ⟨rfl, rfl⟩ := trodVars_none hV
  simp only [List.append_nil] at hpq
  subst hpq
  have hlt : ∀ x ∈ before, x.block < W.heap.size := fun x h => hW0.lt x h
  have hold : ∀ x ∈ before, (fun b => decide (b < W.heap.size)) x.block = true := fun x h => by simpa using hlt x h
  have hR : ∀ (b : Nat) (sp : Nat → Bool) (hd : Bool), DataW.TrodAll enc P W' b sp hd f.resultTypes.toList ((Value.bool true).resultList f.resultTypes.size) [.lit (.bool true)] [] := fun b sp hd => by
    rw [hres]
    exact trodAll_cons_mk (shut_bool htb _) trodAll_mk0
  have hAr : ∀ sp : Nat → Bool, (∀ x ∈ before, sp x.block = true) → DataW.TrodAll enc P W' 0 sp true f.params.toList args.toList ds before := fun sp hs => all_stays hl hx hrd hA hlt hs
  refine ⟨ds, [], before, [], before, [], hW0, ?_, ?_, ?_, ?_, fun _ => ?_⟩
  · rw [List.append_nil, hfn]; exact hR _ _ _
  · rw [List.append_nil, hfn]; exact hAr _ hold
  · rw [List.append_nil, hfn, hvars]; rfl
  · exact kept_ext hx _
  · refine ⟨?_, [.lit (.bool true)] ++ ds, [], ([] ++ before) ++ [], ⟨[] ++ before, [], trodAll_append (hAr _ (fun _ _ => rfl)) (hR _ _ _), ?_, rfl, ?_, ?_⟩, ?_⟩
    · exact ok_one hres rfl (okWide_bool_mk htb _)
    · rw [hvars]; rfl
    · intro b off hp
      have hp : MemPlace.cell b off ∈ before := by simpa using hp
      rw [frozen_ext hx (hlt _ hp)]
      exact hz b off hp
    · intro ha
      simpa using hn ha
    · intro x hx' _
      simpa using hx'
end

end Go.Proofs.Ytabjaaonfaejmaa

