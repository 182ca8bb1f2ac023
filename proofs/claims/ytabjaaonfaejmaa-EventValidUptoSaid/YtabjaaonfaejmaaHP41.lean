/- Contracts: events with one thing changed. -/
import Derived.Test.YtabjaaonfaejmaaHP40
import Derived.Test.YtabjaaonfaejmaaHAv50
import Derived.Test.YtabjaaonfaejmaaHAv51
import Derived.Test.YtabjaaonfaejmaaRows
import Derived.WalkKit
import Derived.ProofKit
import Derived.OpenShut
import Derived.WideKeyArgs
import Derived.Deep.DeepHandedRow
import Derived.Lib.LaidTab
import Derived.Test.YtabjaaonfaejmaaHP39
set_option linter.all false
namespace Go.Proofs.Ytabjaaonfaejmaa
open Go.Av


set_option maxRecDepth 100000 in
set_option maxHeartbeats 4000000 in
theorem spoilt_ok (G) (e : EventM) (how b : Int) (hs : OkEv e) (hh : I64 how) (hbb : I64 b) : Gives Try.prog G 9 [eventD e, iD how, iD b] [eventD (spoiltM e how b)] := by
  have hnr := hs.nrefs
  have hnp := hs.nposts
  have hnb := hs.nbroader
  have q := fun c (hc : 1 ≤ c) => IntWalk.i64_quo' b c (by unfold I64 at hbb; omega)
  have q5 := q 5 (by omega)
  have q7 := q 7 (by omega)
  have q8 := q 8 (by omega)
  have hc16 := aroundM_range (n := how) (m := 16) (by omega)
  have w1 := wordM_size b
  have hi8 := i64_tdiv hbb (c := 8) (by omega)
  have r8 := aroundM_range (n := b.tdiv 8) (m := 5) (by omega)
  have r4 := aroundM_range (n := b) (m := 4) (by omega)
  have w2 := sufL_size (i := (aroundM (b.tdiv 8) 5).toNat) (by omega)
  have hw1 : ([.str ⟨#[]⟩, .str ⟨#[64]⟩, .str ⟨#[32]⟩, .str ⟨#[32, 32, 120]⟩, .str ⟨#[32, 111, 102, 32, 116, 104, 101, 32, 108, 121, 114, 101, 32, 111, 102, 32, 114, 111, 109, 101]⟩] : List Dat) = sufL.map Dat.str := rfl
  have hw2 : ([.str ⟨#[]⟩, .str ⟨#[97, 110, 110, 97]⟩, .str ⟨#[64]⟩, .str ⟨#[32]⟩] : List Dat) = seeL.map Dat.str := rfl
  have hw3 : sufL.length = 5 := rfl
  have hw4 : seeL.length = 4 := rfl
  skip
  refine gives_intro [134] [] [156] Try.func9 rfl (by rfl) (by simp [Try.ntmps9]) fun F hP hG hN hR => ?_
  rw [Try.ntmps9] at hN
  have hA := And.intro hN (And.intro hP (And.intro hG (And.intro hR.1 (And.intro hR.2.1 hR.2.2.1))))
  have hE := And.intro @Try.results9 (And.intro (And.intro q5 (And.intro q7 (And.intro q8 (And.intro hw1 (And.intro hw2 (And.intro hw3 hw4)))))) (@nth_row))
  refine WS [1, 2, 3, 6] [3, 6, 9, 12, 13, 16, 27, 28, 63, 64, 106, 110, 115, 116, 131, 133, 134, 142, 156] ?_
  refine WS [1, 2, 3, 6, 7] [3, 6, 9, 12, 13, 16, 27, 28, 63, 64, 106, 110, 115, 116, 131, 133, 134, 142, 156] ?_
  refine WS [1, 2, 3, 6, 7, 8] [3, 6, 9, 12, 13, 16, 27, 28, 63, 64, 106, 110, 115, 116, 131, 133, 134, 142, 156] ?_
  apply aw_seq
  have hc := gvF hP hG (around_ok G how 16 hh (by omega) (by unfold I64; omega))
  refine WSc [2, 3, 6, 7, 8, 18] [3, 6, 9, 12, 13, 16, 27, 28, 63, 64, 106, 110, 115, 116, 131, 133, 134, 142, 156] ?_
  apply aw_block
  refine WS [2, 3, 6, 7, 8, 18, 31] [3, 6, 9, 12, 13, 16, 27, 28, 63, 64, 106, 110, 115, 116, 131, 133, 134, 142, 156] ?_
  refine WI (fun hb => ?_) (fun hb => ?_)
  · skip
    have hv : spoiltM e how b = { e with By := b } := by
      unfold spoiltM spM
      rw [if_pos hb]
    have hE := And.intro hE hv
    refine WQ [3, 6] [3, 6, 9, 12, 13, 16, 27, 28, 63, 64, 106, 110, 115, 116, 131, 133, 134, 142, 156] ?_
    apply q_block
    apply q_seq
    refine WS [6] [6, 9, 12, 13, 16, 27, 28, 63, 64, 106, 110, 115, 116, 131, 133, 134, 142, 156] ?_
    apply aw_ret
    simp only [QRet, QRetM, QRetX, retsX_nil, retsX_cons, objsAre, resA, mapO_nil, mapO_cons, vD_dat, vD_nils, vD_rp, vD_osl, vD_ptr, vD_agg, vD_fn, vL_dat, vL_app, viewL, avA, datsOf, fillA, seval, ↓List.forall_mem_cons, Op.operands, hP, hG, tiA, hE]
    all_goals try (first | done | rfl | trivial)
    all_goals first | done | rfl | (simp only [eventD, namesD, postsD, ssD, List.map_append, List.map_cons, List.map_nil]; done) | (simp only [eventD, namesD, postsD, ssD, List.map_append, List.map_cons, List.map_nil]; rfl) | skip
  · skip
    refine WS [2, 3, 6, 7, 8, 18, 35] [3, 6, 9, 12, 13, 16, 27, 28, 63, 64, 106, 110, 115, 116, 131, 133, 134, 142, 156] ?_
    refine WI (fun hb => ?_) (fun hb => ?_)
    · skip
      have hv : spoiltM e how b = { e with Seq := b } := by
        unfold spoiltM spM
        rw [if_neg (by omega), if_pos hb]
      have hE := And.intro hE hv
      refine WQ [3, 6] [3, 6, 9, 12, 13, 16, 27, 28, 63, 64, 106, 110, 115, 116, 131, 133, 134, 142, 156] ?_
      apply q_block
      apply q_seq
      refine WS [6] [6, 9, 12, 13, 16, 27, 28, 63, 64, 106, 110, 115, 116, 131, 133, 134, 142, 156] ?_
      apply aw_ret
      simp only [QRet, QRetM, QRetX, retsX_nil, retsX_cons, objsAre, resA, mapO_nil, mapO_cons, vD_dat, vD_nils, vD_rp, vD_osl, vD_ptr, vD_agg, vD_fn, vL_dat, vL_app, viewL, avA, datsOf, fillA, seval, ↓List.forall_mem_cons, Op.operands, hP, hG, tiA, hE]
      all_goals try (first | done | rfl | trivial)
      all_goals first | done | rfl | (simp only [eventD, namesD, postsD, ssD, List.map_append, List.map_cons, List.map_nil]; done) | (simp only [eventD, namesD, postsD, ssD, List.map_append, List.map_cons, List.map_nil]; rfl) | skip
    · skip
      refine WS [2, 3, 6, 7, 8, 18, 39] [3, 6, 9, 12, 13, 16, 27, 28, 63, 64, 106, 110, 115, 116, 131, 133, 134, 142, 156] ?_
      refine WI (fun hb => ?_) (fun hb => ?_)
      · skip
        have hv : spoiltM e how b = { e with Tick := b } := by
          unfold spoiltM spM
          rw [if_neg (by omega), if_neg (by omega), if_pos hb]
        have hE := And.intro hE hv
        refine WQ [3, 6] [3, 6, 9, 12, 13, 16, 27, 28, 63, 64, 106, 110, 115, 116, 131, 133, 134, 142, 156] ?_
        apply q_block
        apply q_seq
        refine WS [6] [6, 9, 12, 13, 16, 27, 28, 63, 64, 106, 110, 115, 116, 131, 133, 134, 142, 156] ?_
        apply aw_ret
        simp only [QRet, QRetM, QRetX, retsX_nil, retsX_cons, objsAre, resA, mapO_nil, mapO_cons, vD_dat, vD_nils, vD_rp, vD_osl, vD_ptr, vD_agg, vD_fn, vL_dat, vL_app, viewL, avA, datsOf, fillA, seval, ↓List.forall_mem_cons, Op.operands, hP, hG, tiA, hE]
        all_goals try (first | done | rfl | trivial)
        all_goals first | done | rfl | (simp only [eventD, namesD, postsD, ssD, List.map_append, List.map_cons, List.map_nil]; done) | (simp only [eventD, namesD, postsD, ssD, List.map_append, List.map_cons, List.map_nil]; rfl) | skip
      · skip
        refine WS [2, 3, 6, 7, 8, 18, 43] [3, 6, 9, 12, 13, 16, 27, 28, 63, 64, 106, 110, 115, 116, 131, 133, 134, 142, 156] ?_
        refine WI (fun hb => ?_) (fun hb => ?_)
        · skip
          have hv : spoiltM e how b = { e with Kind := b } := by
            unfold spoiltM spM
            rw [if_neg (by omega), if_neg (by omega), if_neg (by omega), if_pos hb]
          have hE := And.intro hE hv
          refine WQ [3, 6] [3, 6, 9, 12, 13, 16, 27, 28, 63, 64, 106, 110, 115, 116, 131, 133, 134, 142, 156] ?_
          apply q_block
          apply q_seq
          refine WS [6] [6, 9, 12, 13, 16, 27, 28, 63, 64, 106, 110, 115, 116, 131, 133, 134, 142, 156] ?_
          apply aw_ret
          simp only [QRet, QRetM, QRetX, retsX_nil, retsX_cons, objsAre, resA, mapO_nil, mapO_cons, vD_dat, vD_nils, vD_rp, vD_osl, vD_ptr, vD_agg, vD_fn, vL_dat, vL_app, viewL, avA, datsOf, fillA, seval, ↓List.forall_mem_cons, Op.operands, hP, hG, tiA, hE]
          all_goals try (first | done | rfl | trivial)
          all_goals first | done | rfl | (simp only [eventD, namesD, postsD, ssD, List.map_append, List.map_cons, List.map_nil]; done) | (simp only [eventD, namesD, postsD, ssD, List.map_append, List.map_cons, List.map_nil]; rfl) | skip
        · skip
          refine WS [2, 3, 6, 7, 8, 18, 47] [3, 6, 9, 12, 13, 16, 27, 28, 63, 64, 106, 110, 115, 116, 131, 133, 134, 142, 156] ?_
          refine WI (fun hb => ?_) (fun hb => ?_)
          · skip
            have hv : spoiltM e how b = { e with N := b } := by
              unfold spoiltM spM
              rw [if_neg (by omega), if_neg (by omega), if_neg (by omega), if_neg (by omega), if_pos hb]
            have hE := And.intro hE hv
            refine WQ [3, 6] [3, 6, 9, 12, 13, 16, 27, 28, 63, 64, 106, 110, 115, 116, 131, 133, 134, 142, 156] ?_
            apply q_block
            apply q_seq
            refine WS [6] [6, 9, 12, 13, 16, 27, 28, 63, 64, 106, 110, 115, 116, 131, 133, 134, 142, 156] ?_
            apply aw_ret
            simp only [QRet, QRetM, QRetX, retsX_nil, retsX_cons, objsAre, resA, mapO_nil, mapO_cons, vD_dat, vD_nils, vD_rp, vD_osl, vD_ptr, vD_agg, vD_fn, vL_dat, vL_app, viewL, avA, datsOf, fillA, seval, ↓List.forall_mem_cons, Op.operands, hP, hG, tiA, hE]
            all_goals try (first | done | rfl | trivial)
            all_goals first | done | rfl | (simp only [eventD, namesD, postsD, ssD, List.map_append, List.map_cons, List.map_nil]; done) | (simp only [eventD, namesD, postsD, ssD, List.map_append, List.map_cons, List.map_nil]; rfl) | skip
          · skip
            refine WS [2, 3, 6, 7, 8, 18, 51] [3, 6, 9, 12, 13, 16, 27, 28, 63, 64, 106, 110, 115, 116, 131, 133, 134, 142, 156] ?_
            refine WI (fun hb => ?_) (fun hb => ?_)
            · skip
              have hv : spoiltM e how b = { e with ID := { e.ID with K := b } } := by
                unfold spoiltM spM
                rw [if_neg (by omega), if_neg (by omega), if_neg (by omega), if_neg (by omega), if_neg (by omega), if_pos hb]
              have hE := And.intro hE hv
              refine WQ [3, 6] [3, 6, 9, 12, 13, 16, 27, 28, 63, 64, 106, 110, 115, 116, 131, 133, 134, 142, 156] ?_
              apply q_block
              apply q_seq
              refine WS [6] [6, 9, 12, 13, 16, 27, 28, 63, 64, 106, 110, 115, 116, 131, 133, 134, 142, 156] ?_
              apply aw_ret
              simp only [QRet, QRetM, QRetX, retsX_nil, retsX_cons, objsAre, resA, mapO_nil, mapO_cons, vD_dat, vD_nils, vD_rp, vD_osl, vD_ptr, vD_agg, vD_fn, vL_dat, vL_app, viewL, avA, datsOf, fillA, seval, ↓List.forall_mem_cons, Op.operands, hP, hG, tiA, hE]
              all_goals try (first | done | rfl | trivial)
              all_goals first | done | rfl | (simp only [eventD, namesD, postsD, ssD, List.map_append, List.map_cons, List.map_nil]; done) | (simp only [eventD, namesD, postsD, ssD, List.map_append, List.map_cons, List.map_nil]; rfl) | skip
            · skip
              refine WS [2, 3, 6, 7, 8, 18, 56] [3, 6, 9, 12, 13, 16, 27, 28, 63, 64, 106, 110, 115, 116, 131, 133, 134, 142, 156] ?_
              refine WI (fun hb => ?_) (fun hb => ?_)
              · skip
                have hv : spoiltM e how b = { e with Refs := e.Refs ++ [⟨b, b.tdiv 7⟩] } := by
                  unfold spoiltM spM
                  rw [if_neg (by omega), if_neg (by omega), if_neg (by omega), if_neg (by omega), if_neg (by omega), if_neg (by omega), if_pos hb]
                have hE := And.intro hE hv
                refine WQ [3, 6] [3, 6, 9, 12, 13, 16, 27, 28, 63, 64, 106, 110, 115, 116, 131, 133, 134, 142, 156] ?_
                apply q_block
                apply q_seq
                refine WS [6] [6, 9, 12, 13, 16, 27, 28, 63, 64, 106, 110, 115, 116, 131, 133, 134, 142, 156] ?_
                apply aw_ret
                simp only [QRet, QRetM, QRetX, retsX_nil, retsX_cons, objsAre, resA, mapO_nil, mapO_cons, vD_dat, vD_nils, vD_rp, vD_osl, vD_ptr, vD_agg, vD_fn, vL_dat, vL_app, viewL, avA, datsOf, fillA, seval, ↓List.forall_mem_cons, Op.operands, hP, hG, tiA, hE]
                all_goals try (first | done | rfl | trivial)
                all_goals first | done | rfl | (simp only [eventD, namesD, postsD, ssD, List.map_append, List.map_cons, List.map_nil]; done) | (simp only [eventD, namesD, postsD, ssD, List.map_append, List.map_cons, List.map_nil]; rfl) | skip
              · skip
                refine WS [2, 3, 6, 7, 8, 18, 66] [3, 6, 9, 12, 13, 16, 27, 28, 63, 64, 106, 110, 115, 116, 131, 133, 134, 142, 156] ?_
                refine WI (fun hb => ?_) (fun hb => ?_)
                · skip
                  have hv : spoiltM e how b = { e with Refs := sp7 e.Refs b } := by
                    unfold spoiltM spM
                    rw [if_neg (by omega), if_neg (by omega), if_neg (by omega), if_neg (by omega), if_neg (by omega), if_neg (by omega), if_neg (by omega), if_pos hb]
                  apply aw_seq
                  refine WS [2, 3, 6, 7, 70] [3, 6, 9, 12, 13, 16, 27, 28, 63, 64, 106, 110, 115, 116, 131, 133, 134, 142, 156] ?_
                  refine WI (fun hb => ?_) (fun hb => ?_)
                  · skip
                    have r7 := aroundM_range (n := b) (m := (e.Refs.length : Int)) (by omega)
                    have hv7 : spoiltM e how b = { e with Refs := e.Refs.set (aroundM b e.Refs.length).toNat (e.Refs.getD 0 default) } := by
                      rw [hv]
                      unfold sp7
                      rw [if_pos (by omega)]
                    have hset := set_row nameD e.Refs (aroundM b e.Refs.length).toNat (e.Refs.getD 0 default)
                    dsimp only [nameD] at hset
                    have hsl : (e.Refs.set (aroundM b e.Refs.length).toNat (e.Refs.getD 0 default)).length = e.Refs.length := List.length_set
                    have hst : List.take e.Refs.length (e.Refs.set (aroundM b e.Refs.length).toNat (e.Refs.getD 0 default)) = e.Refs.set (aroundM b e.Refs.length).toNat (e.Refs.getD 0 default) := List.take_of_length_le (by omega)
                    have hE := And.intro hE (And.intro hv7 (And.intro hset (And.intro hsl hst)))
                    apply aw_rgd [3, 6, 7] [3, 6, 9, 12, 13, 16, 27, 28, 63, 64, 106, 110, 115, 116, 131, 133, 134, 142, 156] [0, 1, 2, 3, 4, 5, 6, 7, 8, 9] []
                    · rw [hP]; kernel_rfl
                    · exact hR
                    · kernel_rfl
                    · (repeat (apply PickL.cons; exact rfl)); exact PickL.nil _
                    · simp (maxSteps := 2000000) (disch := omega) only [avR2, avA, datsOf, fillA, seval, ↓List.forall_mem_cons, Op.operands, hA, tiA, hE]
                      (repeat' refine And.intro ?_ ?_) <;> try exact SD
                      refine CallC.use (gvF hP hG (around_ok G b e.Refs.length hbb (by omega) (by unfold I64; omega))) rfl ?_
                      try simp (maxSteps := 2000000) (disch := omega) only [avR2, avA, datsOf, fillA, seval, ↓List.forall_mem_cons, Op.operands, hA, tiA, hE]
                      exact SC
                    apply q_seq
                    refine WQ [3, 6] [3, 6, 9, 12, 13, 16, 27, 28, 63, 64, 106, 110, 115, 116, 131, 133, 134, 142, 156] ?_
                    apply q_block
                    apply q_seq
                    refine WS [6] [6, 9, 12, 13, 16, 27, 28, 63, 64, 106, 110, 115, 116, 131, 133, 134, 142, 156] ?_
                    apply aw_ret
                    simp only [QRet, QRetM, QRetX, retsX_nil, retsX_cons, objsAre, resA, mapO_nil, mapO_cons, vD_dat, vD_nils, vD_rp, vD_osl, vD_ptr, vD_agg, vD_fn, vL_dat, vL_app, viewL, avA, datsOf, fillA, seval, ↓List.forall_mem_cons, Op.operands, hP, hG, tiA, hE]
                    all_goals try (first | done | rfl | trivial)
                    all_goals first | done | rfl | (simp only [eventD, namesD, postsD, ssD, List.map_append, List.map_cons, List.map_nil]; done) | (simp only [eventD, namesD, postsD, ssD, List.map_append, List.map_cons, List.map_nil]; rfl) | skip
                  · skip
                    have hv7 : spoiltM e how b = e := by
                      rw [hv]
                      unfold sp7
                      rw [if_neg (by omega)]
                    have hE := And.intro hE hv7
                    apply aw_skip
                    apply q_seq
                    refine WQ [3, 6] [3, 6, 9, 12, 13, 16, 27, 28, 63, 64, 106, 110, 115, 116, 131, 133, 134, 142, 156] ?_
                    apply q_block
                    apply q_seq
                    refine WS [6] [6, 9, 12, 13, 16, 27, 28, 63, 64, 106, 110, 115, 116, 131, 133, 134, 142, 156] ?_
                    apply aw_ret
                    simp only [QRet, QRetM, QRetX, retsX_nil, retsX_cons, objsAre, resA, mapO_nil, mapO_cons, vD_dat, vD_nils, vD_rp, vD_osl, vD_ptr, vD_agg, vD_fn, vL_dat, vL_app, viewL, avA, datsOf, fillA, seval, ↓List.forall_mem_cons, Op.operands, hP, hG, tiA, hE]
                    all_goals try (first | done | rfl | trivial)
                    all_goals first | done | rfl | (simp only [eventD, namesD, postsD, ssD, List.map_append, List.map_cons, List.map_nil]; done) | (simp only [eventD, namesD, postsD, ssD, List.map_append, List.map_cons, List.map_nil]; rfl) | skip
                · skip
                  refine WS [2, 3, 6, 7, 8, 18, 82] [3, 6, 9, 12, 13, 16, 27, 28, 63, 64, 106, 110, 115, 116, 131, 133, 134, 142, 156] ?_
                  refine WI (fun hb => ?_) (fun hb => ?_)
                  · skip
                    have hv : spoiltM e how b = { e with Term := { e.Term with Name := wordM b ++ sufL.getD (aroundM (b.tdiv 8) 5).toNat default } } := by
                      unfold spoiltM spM
                      rw [if_neg (by omega), if_neg (by omega), if_neg (by omega), if_neg (by omega), if_neg (by omega), if_neg (by omega), if_neg (by omega), if_neg (by omega), if_pos hb]
                    have hE := And.intro hE hv
                    apply aw_reg [3, 6] [3, 6, 9, 12, 13, 16, 27, 28, 63, 64, 106, 110, 115, 116, 131, 133, 134, 142, 156]
                    · simp (maxSteps := 2000000) (disch := omega) only [avR2, avA, datsOf, fillA, seval, ↓List.forall_mem_cons, Op.operands, hA, tiA, hE]
                      (repeat' refine And.intro ?_ ?_) <;> try exact SD
                      refine CallC.use (gvF hP hG (word_ok G b hbb)) rfl ?_
                      try simp (maxSteps := 2000000) (disch := omega) only [avR2, avA, datsOf, fillA, seval, ↓List.forall_mem_cons, Op.operands, hA, tiA, hE]
                      (repeat' refine And.intro ?_ ?_) <;> try exact SD
                      refine CallC.use (gvF hP hG (around_ok G (b.tdiv 8) 5 hi8 (by omega) (by unfold I64; omega))) rfl ?_
                      try simp (maxSteps := 2000000) (disch := omega) only [avR2, avA, datsOf, fillA, seval, ↓List.forall_mem_cons, Op.operands, hA, tiA, hE]
                      exact SC
                    apply q_block
                    apply q_seq
                    refine WS [6] [6, 9, 12, 13, 16, 27, 28, 63, 64, 106, 110, 115, 116, 131, 133, 134, 142, 156] ?_
                    apply aw_ret
                    simp only [QRet, QRetM, QRetX, retsX_nil, retsX_cons, objsAre, resA, mapO_nil, mapO_cons, vD_dat, vD_nils, vD_rp, vD_osl, vD_ptr, vD_agg, vD_fn, vL_dat, vL_app, viewL, avA, datsOf, fillA, seval, ↓List.forall_mem_cons, Op.operands, hP, hG, tiA, hE]
                    all_goals try (first | done | rfl | trivial)
                    all_goals first | done | rfl | (simp only [eventD, namesD, postsD, ssD, List.map_append, List.map_cons, List.map_nil]; done) | (simp only [eventD, namesD, postsD, ssD, List.map_append, List.map_cons, List.map_nil]; rfl) | skip
                  · skip
                    refine WS [2, 3, 6, 7, 8, 18, 95] [3, 6, 9, 12, 13, 16, 27, 28, 63, 64, 106, 110, 115, 116, 131, 133, 134, 142, 156] ?_
                    refine WI (fun hb => ?_) (fun hb => ?_)
                    · skip
                      have hv : spoiltM e how b = { e with Term := { e.Term with See := seeL.getD (aroundM b 4).toNat default } } := by
                        unfold spoiltM spM
                        rw [if_neg (by omega), if_neg (by omega), if_neg (by omega), if_neg (by omega), if_neg (by omega), if_neg (by omega), if_neg (by omega), if_neg (by omega), if_neg (by omega), if_pos hb]
                      have hE := And.intro hE hv
                      have hc := gvF hP hG (around_ok G b 4 hbb (by omega) (by unfold I64; omega))
                      refine WQc [3, 6] [3, 6, 9, 12, 13, 16, 27, 28, 63, 64, 106, 110, 115, 116, 131, 133, 134, 142, 156] ?_
                      apply q_block
                      apply q_seq
                      refine WS [6] [6, 9, 12, 13, 16, 27, 28, 63, 64, 106, 110, 115, 116, 131, 133, 134, 142, 156] ?_
                      apply aw_ret
                      simp only [QRet, QRetM, QRetX, retsX_nil, retsX_cons, objsAre, resA, mapO_nil, mapO_cons, vD_dat, vD_nils, vD_rp, vD_osl, vD_ptr, vD_agg, vD_fn, vL_dat, vL_app, viewL, avA, datsOf, fillA, seval, ↓List.forall_mem_cons, Op.operands, hP, hG, tiA, hE]
                      all_goals try (first | done | rfl | trivial)
                      all_goals first | done | rfl | (simp only [eventD, namesD, postsD, ssD, List.map_append, List.map_cons, List.map_nil]; done) | (simp only [eventD, namesD, postsD, ssD, List.map_append, List.map_cons, List.map_nil]; rfl) | skip
                    · skip
                      refine WS [2, 3, 6, 7, 8, 18, 104] [3, 6, 9, 12, 13, 16, 27, 28, 63, 64, 106, 110, 115, 116, 131, 133, 134, 142, 156] ?_
                      refine WI (fun hb => ?_) (fun hb => ?_)
                      · skip
                        have hv : spoiltM e how b = { e with Term := { e.Term with Broader := e.Term.Broader ++ [wordM b, ⟨#[]⟩, wordM b] } } := by
                          unfold spoiltM spM
                          rw [if_neg (by omega), if_neg (by omega), if_neg (by omega), if_neg (by omega), if_neg (by omega), if_neg (by omega), if_neg (by omega), if_neg (by omega), if_neg (by omega), if_neg (by omega), if_pos hb]
                        have hE := And.intro hE hv
                        apply aw_reg [3, 6] [3, 6, 9, 12, 13, 16, 27, 28, 63, 64, 106, 110, 115, 116, 131, 133, 134, 142, 156]
                        · simp (maxSteps := 2000000) (disch := omega) only [avR2, avA, datsOf, fillA, seval, ↓List.forall_mem_cons, Op.operands, hA, tiA, hE]
                          (repeat' refine And.intro ?_ ?_) <;> try exact SD
                          refine CallC.use (gvF hP hG (word_ok G b hbb)) rfl ?_
                          try simp (maxSteps := 2000000) (disch := omega) only [avR2, avA, datsOf, fillA, seval, ↓List.forall_mem_cons, Op.operands, hA, tiA, hE]
                          (repeat' refine And.intro ?_ ?_) <;> try exact SD
                          refine CallC.use (gvF hP hG (word_ok G b hbb)) rfl ?_
                          try simp (maxSteps := 2000000) (disch := omega) only [avR2, avA, datsOf, fillA, seval, ↓List.forall_mem_cons, Op.operands, hA, tiA, hE]
                          exact SC
                        apply q_block
                        apply q_seq
                        refine WS [6] [6, 9, 12, 13, 16, 27, 28, 63, 64, 106, 110, 115, 116, 131, 133, 134, 142, 156] ?_
                        apply aw_ret
                        simp only [QRet, QRetM, QRetX, retsX_nil, retsX_cons, objsAre, resA, mapO_nil, mapO_cons, vD_dat, vD_nils, vD_rp, vD_osl, vD_ptr, vD_agg, vD_fn, vL_dat, vL_app, viewL, avA, datsOf, fillA, seval, ↓List.forall_mem_cons, Op.operands, hP, hG, tiA, hE]
                        all_goals try (first | done | rfl | trivial)
                        all_goals first | done | rfl | (simp only [eventD, namesD, postsD, ssD, List.map_append, List.map_cons, List.map_nil]; done) | (simp only [eventD, namesD, postsD, ssD, List.map_append, List.map_cons, List.map_nil]; rfl) | skip
                      · skip
                        refine WS [2, 3, 6, 7, 8, 18, 119] [3, 6, 9, 12, 13, 16, 27, 28, 63, 64, 106, 110, 115, 116, 131, 133, 134, 142, 156] ?_
                        refine WI (fun hb => ?_) (fun hb => ?_)
                        · skip
                          have hv : spoiltM e how b = { e with Term := { e.Term with Lang := b } } := by
                            unfold spoiltM spM
                            rw [if_neg (by omega), if_neg (by omega), if_neg (by omega), if_neg (by omega), if_neg (by omega), if_neg (by omega), if_neg (by omega), if_neg (by omega), if_neg (by omega), if_neg (by omega), if_neg (by omega), if_pos hb]
                          have hE := And.intro hE hv
                          refine WQ [3, 6] [3, 6, 9, 12, 13, 16, 27, 28, 63, 64, 106, 110, 115, 116, 131, 133, 134, 142, 156] ?_
                          apply q_block
                          apply q_seq
                          refine WS [6] [6, 9, 12, 13, 16, 27, 28, 63, 64, 106, 110, 115, 116, 131, 133, 134, 142, 156] ?_
                          apply aw_ret
                          simp only [QRet, QRetM, QRetX, retsX_nil, retsX_cons, objsAre, resA, mapO_nil, mapO_cons, vD_dat, vD_nils, vD_rp, vD_osl, vD_ptr, vD_agg, vD_fn, vL_dat, vL_app, viewL, avA, datsOf, fillA, seval, ↓List.forall_mem_cons, Op.operands, hP, hG, tiA, hE]
                          all_goals try (first | done | rfl | trivial)
                          all_goals first | done | rfl | (simp only [eventD, namesD, postsD, ssD, List.map_append, List.map_cons, List.map_nil]; done) | (simp only [eventD, namesD, postsD, ssD, List.map_append, List.map_cons, List.map_nil]; rfl) | skip
                        · skip
                          refine WS [2, 3, 6, 7, 8, 18, 124] [3, 6, 9, 12, 13, 16, 27, 28, 63, 64, 106, 110, 115, 116, 131, 133, 134, 142, 156] ?_
                          refine WI (fun hb => ?_) (fun hb => ?_)
                          · skip
                            have hv : spoiltM e how b = { e with Posts := e.Posts ++ [{ ID := e.ID, Path := [wordM b], Main := false }] } := by
                              unfold spoiltM spM
                              rw [if_neg (by omega), if_neg (by omega), if_neg (by omega), if_neg (by omega), if_neg (by omega), if_neg (by omega), if_neg (by omega), if_neg (by omega), if_neg (by omega), if_neg (by omega), if_neg (by omega), if_neg (by omega), if_pos hb]
                            have hE := And.intro hE hv
                            apply aw_rgd [3, 6] [3, 6, 9, 12, 13, 16, 27, 28, 63, 64, 106, 110, 115, 116, 131, 133, 134, 142, 156] [0, 1, 2, 3, 4, 5, 6, 7, 8, 9, 10] [134]
                            · rw [hP]; kernel_rfl
                            · exact hR
                            · kernel_rfl
                            · (repeat (apply PickL.cons; exact rfl)); exact PickL.nil _
                            · simp (maxSteps := 2000000) (disch := omega) only [avR2, avA, datsOf, fillA, seval, ↓List.forall_mem_cons, Op.operands, hA, tiA, hE]
                              (repeat' refine And.intro ?_ ?_) <;> try exact SD
                              refine CallC.use (gvF hP hG (word_ok G b hbb)) rfl ?_
                              try simp (maxSteps := 2000000) (disch := omega) only [avR2, avA, datsOf, fillA, seval, ↓List.forall_mem_cons, Op.operands, hA, tiA, hE]
                              exact SC
                            apply q_block
                            apply q_seq
                            refine WS [6] [6, 9, 12, 13, 16, 27, 28, 63, 64, 106, 110, 115, 116, 131, 133, 134, 142, 156] ?_
                            apply aw_ret
                            simp only [QRet, QRetM, QRetX, retsX_nil, retsX_cons, objsAre, resA, mapO_nil, mapO_cons, vD_dat, vD_nils, vD_rp, vD_osl, vD_ptr, vD_agg, vD_fn, vL_dat, vL_app, viewL, avA, datsOf, fillA, seval, ↓List.forall_mem_cons, Op.operands, hP, hG, tiA, hE]
                            all_goals try (first | done | rfl | trivial)
                            all_goals first | done | rfl | (simp only [eventD, namesD, postsD, ssD, List.map_append, List.map_cons, List.map_nil]; done) | (simp only [eventD, namesD, postsD, ssD, List.map_append, List.map_cons, List.map_nil]; rfl) | skip
                          · skip
                            refine WS [2, 3, 6, 7, 8, 18, 136] [3, 6, 9, 12, 13, 16, 27, 28, 63, 64, 106, 110, 115, 116, 131, 133, 134, 142, 156] ?_
                            refine WI (fun hb => ?_) (fun hb => ?_)
                            · skip
                              have hv : spoiltM e how b = { e with Posts := sp13 e.Posts b } := by
                                unfold spoiltM spM
                                rw [if_neg (by omega), if_neg (by omega), if_neg (by omega), if_neg (by omega), if_neg (by omega), if_neg (by omega), if_neg (by omega), if_neg (by omega), if_neg (by omega), if_neg (by omega), if_neg (by omega), if_neg (by omega), if_neg (by omega), if_pos hb]
                              apply aw_seq
                              refine WS [2, 3, 6, 8, 140] [3, 6, 9, 12, 13, 16, 27, 28, 63, 64, 106, 110, 115, 116, 131, 133, 134, 142, 156] ?_
                              refine WI (fun hb => ?_) (fun hb => ?_)
                              · skip
                                obtain ⟨p, ps, hps⟩ : ∃ p ps, e.Posts = p :: ps := by
                                  cases hq : e.Posts with
                                  | nil => rw [hq] at hb; simp at hb
                                  | cons p ps => exact ⟨p, ps, rfl⟩
                                have hpo := hs.posts p (by rw [hps]; simp)
                                have r13 := aroundM_range (n := b) (m := (p.Path.length : Int) + 1) (by omega)
                                have r52a := Int.tmod_lt_of_pos (b.tdiv 5) (b := 2) (by omega)
                                have r52b := Int.lt_tmod_of_pos (b.tdiv 5) (b := 2) (by omega)
                                have hv13 : spoiltM e how b = { e with Posts := { ID := ⟨IntKind.i64.wrap (p.ID.By + (b.tdiv 5).tmod 2), p.ID.Seq, p.ID.K⟩, Path := p.Path.take (aroundM b (p.Path.length + 1)).toNat, Main := p.Main } :: ps } := by
                                  rw [hv, hps]
                                  rfl
                                have hE := And.intro hE (And.intro hps hv13)
                                apply aw_rgds [2, 3, 6, 8] [3, 6, 9, 12, 13, 16, 27, 28, 63, 64, 106, 110, 115, 116, 131, 133, 134, 142, 156] [0, 1, 2, 3, 4, 5, 6, 7, 8, 9, 10, 11, 12, 13, 14, 15, 16, 17, 18] [156]
                                · rw [hP]; kernel_rfl
                                · exact hR
                                · kernel_rfl
                                · (repeat (apply PickL.cons; exact rfl)); exact PickL.nil _
                                · simp (maxSteps := 2000000) (disch := omega) only [avR2, avA, datsOf, fillA, seval, ↓List.forall_mem_cons, Op.operands, hA, tiA, hE]
                                  (repeat' refine And.intro ?_ ?_) <;> try exact SD
                                  refine CallC.use (gvF hP hG (around_ok G b ((p.Path.length : Int) + 1) hbb (by omega) (by unfold I64; omega))) rfl ?_
                                  try simp (maxSteps := 2000000) (disch := omega) only [avR2, avA, datsOf, fillA, seval, ↓List.forall_mem_cons, Op.operands, hA, tiA, hE]
                                  exact SC
                                refine aw_frz 156 hR.2.2.2 rfl (datE_map _) ?_
                                refine WQ [3, 6, 8] [3, 6, 9, 12, 13, 16, 27, 28, 63, 64, 106, 110, 115, 116, 131, 133, 134, 142, 156] ?_
                                apply q_seq
                                refine WQ [3, 6] [3, 6, 9, 12, 13, 16, 27, 28, 63, 64, 106, 110, 115, 116, 131, 133, 134, 142, 156] ?_
                                apply q_block
                                apply q_seq
                                refine WS [6] [6, 9, 12, 13, 16, 27, 28, 63, 64, 106, 110, 115, 116, 131, 133, 134, 142, 156] ?_
                                apply aw_ret
                                simp only [QRet, QRetM, QRetX, retsX_nil, retsX_cons, objsAre, resA, mapO_nil, mapO_cons, vD_dat, vD_nils, vD_rp, vD_osl, vD_ptr, vD_agg, vD_fn, vL_dat, vL_app, viewL, avA, datsOf, fillA, seval, ↓List.forall_mem_cons, Op.operands, hP, hG, tiA, hE]
                                all_goals try (first | done | rfl | trivial)
                                all_goals first | done | rfl | (simp only [eventD, namesD, postsD, ssD, List.map_append, List.map_cons, List.map_nil]; done) | (simp only [eventD, namesD, postsD, ssD, List.map_append, List.map_cons, List.map_nil]; rfl) | skip
                              · skip
                                have hps : e.Posts = [] := List.eq_nil_of_length_eq_zero (by omega)
                                have hv13 : spoiltM e how b = e := by
                                  rw [hv, hps]
                                  show ({ e with Posts := [] } : EventM) = e
                                  rw [← hps]
                                have hE := And.intro hE hv13
                                apply aw_skip
                                apply q_seq
                                refine WQ [3, 6] [3, 6, 9, 12, 13, 16, 27, 28, 63, 64, 106, 110, 115, 116, 131, 133, 134, 142, 156] ?_
                                apply q_block
                                apply q_seq
                                refine WS [6] [6, 9, 12, 13, 16, 27, 28, 63, 64, 106, 110, 115, 116, 131, 133, 134, 142, 156] ?_
                                apply aw_ret
                                simp only [QRet, QRetM, QRetX, retsX_nil, retsX_cons, objsAre, resA, mapO_nil, mapO_cons, vD_dat, vD_nils, vD_rp, vD_osl, vD_ptr, vD_agg, vD_fn, vL_dat, vL_app, viewL, avA, datsOf, fillA, seval, ↓List.forall_mem_cons, Op.operands, hP, hG, tiA, hE]
                                all_goals try (first | done | rfl | trivial)
                                all_goals first | done | rfl | (simp only [eventD, namesD, postsD, ssD, List.map_append, List.map_cons, List.map_nil]; done) | (simp only [eventD, namesD, postsD, ssD, List.map_append, List.map_cons, List.map_nil]; rfl) | skip
                            · skip
                              refine WS [2, 3, 6, 7, 174] [3, 6, 9, 12, 13, 16, 27, 28, 63, 64, 106, 110, 115, 116, 131, 133, 134, 142, 156] ?_
                              refine WI (fun hb => ?_) (fun hb => ?_)
                              · skip
                                have hv : spoiltM e how b = { e with Op := { e.Op with N := b } } := by
                                  unfold spoiltM spM
                                  rw [if_neg (by omega), if_neg (by omega), if_neg (by omega), if_neg (by omega), if_neg (by omega), if_neg (by omega), if_neg (by omega), if_neg (by omega), if_neg (by omega), if_neg (by omega), if_neg (by omega), if_neg (by omega), if_neg (by omega), if_neg (by omega), if_pos hb]
                                have hE := And.intro hE hv
                                refine WQ [3, 6] [3, 6, 9, 12, 13, 16, 27, 28, 63, 64, 106, 110, 115, 116, 131, 133, 134, 142, 156] ?_
                                apply q_block
                                apply q_seq
                                refine WS [6] [6, 9, 12, 13, 16, 27, 28, 63, 64, 106, 110, 115, 116, 131, 133, 134, 142, 156] ?_
                                apply aw_ret
                                simp only [QRet, QRetM, QRetX, retsX_nil, retsX_cons, objsAre, resA, mapO_nil, mapO_cons, vD_dat, vD_nils, vD_rp, vD_osl, vD_ptr, vD_agg, vD_fn, vL_dat, vL_app, viewL, avA, datsOf, fillA, seval, ↓List.forall_mem_cons, Op.operands, hP, hG, tiA, hE]
                                all_goals try (first | done | rfl | trivial)
                                all_goals first | done | rfl | (simp only [eventD, namesD, postsD, ssD, List.map_append, List.map_cons, List.map_nil]; done) | (simp only [eventD, namesD, postsD, ssD, List.map_append, List.map_cons, List.map_nil]; rfl) | skip
                              · skip
                                apply aw_seq
                                apply aw_block
                                have hv : spoiltM e how b = { e with Refs := fillR e.Refs b } := by
                                  unfold spoiltM spM
                                  rw [if_neg (by omega), if_neg (by omega), if_neg (by omega), if_neg (by omega), if_neg (by omega), if_neg (by omega), if_neg (by omega), if_neg (by omega), if_neg (by omega), if_neg (by omega), if_neg (by omega), if_neg (by omega), if_neg (by omega), if_neg (by omega), if_neg (by omega)]
                                have hE := And.intro hE (And.intro hv (fillN_zero e.Refs b))
                                refine aw_swap 12 28 (by omega) (by omega) ?_
                                refine WL (ι := {i : Nat // e.Refs.length ≤ i ∧ (i ≤ 17 ∨ i = e.Refs.length)}) [2, 3, 6] [3, 6, 9, 12, 13, 16, 27, 63, 64, 106, 110, 115, 116, 131, 133, 134, 142, 156] (fun ⟨i, hi2⟩ => [(7, .osl 28 2 0 i)]) (fun ⟨i, hi2⟩ => [(28, ⟨2, ((fillN e.Refs b i).map nameD).map .dat⟩)]) (fun ⟨i, hi2⟩ => 17 - i) (⟨e.Refs.length, by omega, by omega⟩) ?_
                                rintro ⟨i, hi2⟩
                                dsimp only [List.cons_append, List.nil_append]
                                obtain ⟨hi, hi3⟩ := id hi2
                                have hfl := fillN_len (b := b) hi
                                have hfs := fillN_succ (b := b) hi
                                have hE := And.intro hE (And.intro hfl (And.intro hfs (fillN_zero e.Refs b)))
                                apply aw_seq
                                refine WS [2, 3, 6, 7, 21] [3, 6, 9, 12, 13, 16, 27, 28, 63, 64, 106, 110, 115, 116, 131, 133, 134, 142, 156] ?_
                                refine WI (fun hb => ?_) (fun hb => ?_)
                                · skip
                                  apply aw_skip
                                  apply q_seq
                                  apply aw_block
                                  refine WQ [2, 3, 6, 7] [3, 6, 9, 12, 13, 16, 27, 28, 63, 64, 106, 110, 115, 116, 131, 133, 134, 142, 156] ?_
                                  apply q_block
                                  refine WN (⟨i + 1, by omega⟩)
                                · skip
                                  apply aw_exit
                                  apply q_exit_seq
                                  have hfr : fillR e.Refs b = fillN e.Refs b i := by unfold fillR; congr 1; omega
                                  have hE := And.intro hE hfr
                                  apply q_exit_loop
                                  apply q_exit
                                  apply q_seq
                                  refine WQ [3, 6] [3, 6, 9, 12, 13, 16, 27, 28, 63, 64, 106, 110, 115, 116, 131, 133, 134, 142, 156] ?_
                                  apply q_block
                                  apply q_seq
                                  refine WS [6] [6, 9, 12, 13, 16, 27, 28, 63, 64, 106, 110, 115, 116, 131, 133, 134, 142, 156] ?_
                                  apply aw_ret
                                  simp only [QRet, QRetM, QRetX, retsX_nil, retsX_cons, objsAre, resA, mapO_nil, mapO_cons, vD_dat, vD_nils, vD_rp, vD_osl, vD_ptr, vD_agg, vD_fn, vL_dat, vL_app, viewL, avA, datsOf, fillA, seval, ↓List.forall_mem_cons, Op.operands, hP, hG, tiA, hE]
                                  all_goals try (first | done | rfl | trivial)
                                  all_goals first | done | rfl | (simp only [eventD, namesD, postsD, ssD, List.map_append, List.map_cons, List.map_nil]; done) | (simp only [eventD, namesD, postsD, ssD, List.map_append, List.map_cons, List.map_nil]; rfl) | skip

end Go.Proofs.Ytabjaaonfaejmaa

namespace Go.Proofs.Ytabjaaonfaejmaa
open Go.Av

theorem word_ok8 (n : Int) : okWordM (wordM n) = true := by
  have h := aroundM_range (n := n) (m := 8) (by omega)
  have key : ∀ i : Fin 8, okWordM (wordsL.getD i.val default) = true := by decide +kernel
  exact key ⟨(aroundM n 8).toNat, by omega⟩
theorem listM_ok (l : List Int) (a : Int) (i : Nat) : (listM l a i).length = i ∧ (∀ s ∈ listM l a i, s.size ≤ 12) ∧ okWordsM (listM l a i) = true := by
  refine ⟨by simp [listM], fun s hs => ?_, ?_⟩
  · obtain ⟨j, _, rfl⟩ := List.mem_map.1 hs
    exact wordM_size _
  · unfold okWordsM
    rw [List.all_eq_true]
    intro s hs
    obtain ⟨j, _, rfl⟩ := List.mem_map.1 hs
    exact word_ok8 _
theorem tm_small {n c : Int} (hc : 0 < c) (h2 : c ≤ 1000) : I64 (n.tmod c) := by
  have h1 := Int.tmod_lt_of_pos n hc
  have h3 := Int.lt_tmod_of_pos n hc
  exact i64_small (by omega) (by omega)
theorem opM_sm (l : List Int) (a : Int) : SmOp (opM l a) where
  head := by
    have h0 := idM_ok ((opN l a).tdiv 10)
    have hs : I64 (opS l a).Volume ∧ I64 (opS l a).Article ∧ I64 (opS l a).Index := by
      unfold opS
      split
      · exact ⟨tm_small (by omega) (by omega), tm_small (by omega) (by omega), tm_small (by omega) (by omega)⟩
      · exact ⟨i64z, i64z, i64z⟩
    intro x hx
    simp only [headL, opM, List.mem_cons, List.not_mem_nil, or_false] at hx
    rcases hx with rfl | rfl | rfl | rfl | rfl | rfl | rfl | rfl | rfl | rfl | rfl | rfl | rfl
    · exact tm_small (by omega) (by omega)
    · exact h0.1
    · exact h0.2.1
    · exact h0.2.2
    · exact i64z
    · exact i64z
    · exact i64z
    · exact hs.1
    · exact hs.2.1
    · exact hs.2.2
    · exact tm_small (by omega) (by omega)
    · exact i64z
    · exact i64z
  pairs := by
    intro p hp
    have hp : p ∈ opP l a := hp
    unfold opP at hp
    split at hp
    · rw [List.mem_singleton.1 hp]
      exact ⟨tm_small (by omega) (by omega), tm_small (by omega) (by omega)⟩
    · simp at hp
  refs := by
    intro p hp
    have hp : p ∈ opR l a := hp
    unfold opR at hp
    split at hp
    · rw [List.mem_singleton.1 hp]
      exact idM_ok _
    · simp at hp
  text := by
    have := wordM_size ((opN l a).tdiv 7)
    show (wordM _).size ≤ 100
    omega
  texts := by
    intro s hs
    have hs : s ∈ opT l a := hs
    unfold opT at hs
    split at hs
    · have := (listM_ok l (a + 1) (((opN l a).tdiv 3).tmod 3).toNat).2.1 s hs
      omega
    · simp at hs
  ntexts := by
    show (opT l a).length ≤ 10
    unfold opT
    split
    · rw [(listM_ok l (a + 1) (((opN l a).tdiv 3).tmod 3).toNat).1]
      have := Int.tmod_lt_of_pos ((opN l a).tdiv 3) (b := 3) (by omega)
      omega
    · simp
  npairs := by
    show (opP l a).length ≤ 10
    unfold opP
    split <;> simp
  nrefs := by
    show (opR l a).length ≤ 10
    unfold opR
    split <;> simp
theorem refsG_mem (l : List Int) {r : NameM} : ∀ {i : Nat}, r ∈ refsG l i → (0 ≤ r.By ∧ r.By < i ∧ 0 ≤ r.Seq ∧ r.Seq ≤ 63) ∧ r ≠ ⟨atM l 0 6, atM l 1 64⟩
  | 0, h => by simp [refsG] at h
  | i + 1, h => by
    rw [refsG] at h
    rcases List.mem_append.1 h with h | h
    · have := refsG_mem l h
      exact ⟨by omega, this.2⟩
    · split at h
      · rename_i hc
        rw [List.mem_singleton.1 h]
        have := atM_range (l := l) (i := 5 + (i : Int)) (m := 64) (by omega)
        unfold nmG
        refine ⟨by dsimp only; omega, fun hq => ?_⟩
        simp only [NameM.mk.injEq] at hq
        exact hc.2 hq.1 hq.2
      · simp at h
theorem refsG_sorted (l : List Int) : ∀ i : Nat, (refsG l i).Pairwise LessP
  | 0 => .nil
  | i + 1 => by
    rw [refsG, List.pairwise_append]
    refine ⟨refsG_sorted l i, by split <;> simp, fun x hx y hy => ?_⟩
    split at hy
    · rw [List.mem_singleton.1 hy]
      have := (refsG_mem l hx).1
      refine less_by ?_
      show x.By < (i : Int)
      omega
    · simp at hy
theorem postsG_ok (l : List Int) (i : Nat) : (postsG l i).length = i ∧ ∀ p ∈ postsG l i, p.ID = idM (numG l) ∧ 1 ≤ p.Path.length ∧ p.Path.length ≤ 4 ∧ okWordsM p.Path = true ∧ ∀ s ∈ p.Path, s.size ≤ 12 := by
  refine ⟨by simp [postsG], fun p hp => ?_⟩
  obtain ⟨j, _, rfl⟩ := List.mem_map.1 hp
  have h := atM_range (l := l) (i := 30 + (j : Int)) (m := 4) (by omega)
  have hl := listM_ok l (12 + 4 * (j : Int)) (1 + atM l (30 + (j : Int)) 4).toNat
  unfold postG
  exact ⟨rfl, by dsimp only; rw [hl.1]; omega, by dsimp only; rw [hl.1]; omega, hl.2.2, hl.2.1⟩
theorem evI_sm (l : List Int) : SmEv 0 (evI l 6) := by
  have a0 := atM_range (l := l) (i := 0) (m := 6) (by omega)
  have a1 := atM_range (l := l) (i := 1) (m := 64) (by omega)
  have a2 := atM_range (l := l) (i := 2) (m := 1048577) (by omega)
  have a3 := atM_range (l := l) (i := 3) (m := 7) (by omega)
  have hrl := refsG_len l 6
  exact { by_ := i64_small (by show _ ≤ atM l 0 6; omega) (by show atM l 0 6 ≤ _; omega), seq := i64_small (by show _ ≤ atM l 1 64; omega) (by show atM l 1 64 ≤ _; omega)
          tick := i64_small (by show _ ≤ atM l 2 1048577; omega) (by show atM l 2 1048577 ≤ _; omega), kind := i64_small (by show _ ≤ atM l 3 7; omega) (by show atM l 3 7 ≤ _; omega)
          n := i64z, id := ⟨i64z, i64z, i64z⟩, tk := i64z, tl := i64z
          refs := fun r hr => by
            have := (refsG_mem l hr).1
            exact ⟨i64_small (by omega) (by omega), i64_small (by omega) (by omega)⟩
          nrefs := by show (refsG l 6).length ≤ _; omega
          op := smZ
          name := by show (0 : Nat) ≤ 100; omega
          see := by show (0 : Nat) ≤ 100; omega
          broader := by simp [evI, zTermG]
          nbroader := by show (0 : Nat) ≤ _; omega
          posts := by simp [evI]
          nposts := by show (0 : Nat) ≤ _; omega }
theorem num_rng (l : List Int) : 0 ≤ numG l ∧ numG l < 4096 := atM_range (l := l) (i := 11) (m := 4096) (by omega)
theorem evG_sm (l : List Int) : SmEv 0 (evG l) := by
  have h := evI_sm l
  have hn := num_rng l
  have t4 := Int.tmod_nonneg (b := 4) (a := numG l) hn.1
  have t4b := Int.tmod_lt_of_pos (numG l) (b := 4) (by omega)
  unfold evG
  split
  · exact { h with op := opM_sm l 12 }
  split
  · have hw := wordM_size (numG l)
    have hw2 := wordM_size ((numG l).tdiv 5)
    have hl := listM_ok l 12 (((numG l).tdiv 12).tmod 3).toNat
    have t3 := Int.tmod_lt_of_pos ((numG l).tdiv 12) (b := 3) (by omega)
    refine { h with tk := tm_small (by omega) (by omega), tl := tm_small (by omega) (by omega), name := ?_, see := ?_, broader := fun s hs => ?_, nbroader := ?_ }
    · show (wordM (numG l)).size ≤ 100; omega
    · show (if (numG l).tmod 5 = 0 then wordM ((numG l).tdiv 5) else ⟨#[]⟩ : ByteArray).size ≤ 100
      split
      · omega
      · decide
    · have := hl.2.1 s hs; omega
    · show (listM l 12 (((numG l).tdiv 12).tmod 3).toNat).length ≤ _
      rw [hl.1]; omega
  split
  · have hp := postsG_ok l ((numG l).tmod 4).toNat
    refine { h with id := idM_ok _, posts := fun p hpm => ?_, nposts := ?_ }
    · obtain ⟨h1, h2, h3, h4, h5⟩ := hp.2 p hpm
      refine ⟨by rw [h1]; exact idM_ok _, by omega, fun s hs => by have := h5 s hs; omega⟩
    · show (postsG l ((numG l).tmod 4).toNat).length ≤ _
      rw [hp.1]; omega
  split
  · have a12 := atM_range (l := l) (i := 12) (m := 1048577) (by omega)
    exact { h with id := idM_ok _, n := i64_small (by show _ ≤ atM l 12 1048577; omega) (by show atM l 12 1048577 ≤ _; omega) }
  · exact h
theorem sameOp_zz : sameOpM zOpG zOp = true := sameOp_zero
/-- The bytes of a small operation are few. -/
theorem sm_few {o : OpM} (h : SmOp o) : (opB o).length ≤ 65536 := by
  have h0 := intsM_le h.head (by simp [headL])
  have e0 : (headL o).length = 13 := rfl
  have h1 := bytesM_sz h.text (by omega)
  have h2 : (strsM o.Texts).length ≤ 9 + 109 * o.Texts.length := by
    rw [strsM, strsN, preM_all, List.length_append]
    have ha := flat_le bytesM 109 o.Texts fun s hs => bytesM_sz (h.texts s hs) (by omega)
    have hb := intM_le (n := (o.Texts.length : Int)) (by have := h.ntexts; unfold I64; omega)
    omega
  have n1 := h.ntexts
  have n2 := h.npairs
  have n3 := h.nrefs
  have h3 := intsM_flat (f := pairI) (l := o.Pairs) (c := 2) (fun p hp => ⟨Nat.le_refl _, fun y hy => by
    have := h.pairs p hp
    simp only [pairI, List.mem_cons, List.not_mem_nil, or_false] at hy
    rcases hy with rfl | rfl
    · exact this.1
    · exact this.2⟩) (by omega)
  have h4 := intsM_flat (f := idI) (l := o.Refs) (c := 3) (fun p hp => ⟨Nat.le_refl _, fun y hy => by
    have := h.refs p hp
    simp only [idI, List.mem_cons, List.not_mem_nil, or_false] at hy
    rcases hy with rfl | rfl | rfl
    · exact this.1
    · exact this.2.1
    · exact this.2.2⟩) (by omega)
  rw [opB, List.length_append, List.length_append, List.length_append, List.length_append]
  omega
theorem okWords_nil : okWordsM [] = true := rfl
/-- The generated events are valid. -/
theorem evG_valid (l : List Int) : validM (evG l) = 0 := by
  have a0 := atM_range (l := l) (i := 0) (m := 6) (by omega)
  have a1 := atM_range (l := l) (i := 1) (m := 64) (by omega)
  have a2 := atM_range (l := l) (i := 2) (m := 1048577) (by omega)
  have a3 := atM_range (l := l) (i := 3) (m := 7) (by omega)
  have a12 := atM_range (l := l) (i := 12) (m := 1048577) (by omega)
  have hn := num_rng l
  have t4 := Int.tmod_nonneg (b := 4) (a := numG l) hn.1
  have t4b := Int.tmod_lt_of_pos (numG l) (b := 4) (by omega)
  have hrl := refsG_len l 6
  have hk : (evG l).Kind = kindG l ∧ (evG l).Refs = refsG l 6 ∧ (evG l).By = atM l 0 6 ∧ (evG l).Seq = atM l 1 64 ∧ (evG l).Tick = atM l 2 1048577 := by
    unfold evG
    split
    · exact ⟨rfl, rfl, rfl, rfl, rfl⟩
    split
    · exact ⟨rfl, rfl, rfl, rfl, rfl⟩
    split
    · exact ⟨rfl, rfl, rfl, rfl, rfl⟩
    split
    · exact ⟨rfl, rfl, rfl, rfl, rfl⟩
    · exact ⟨rfl, rfl, rfl, rfl, rfl⟩
  obtain ⟨hk1, hk2, hk3, hk4, hk5⟩ := hk
  have hkr : 0 ≤ kindG l ∧ kindG l < 7 := a3
  have hname : evName (evG l) = ⟨atM l 0 6, atM l 1 64⟩ := by unfold evName; rw [hk3, hk4]
  have hb1 : bad1 (evG l) = false := by
    unfold bad1 possibleM withinM
    rw [hname, hk5, hk1]
    simp
    omega
  have href : ∀ i, i < (evG l).Refs.length → badRef (evG l) i = false := by
    refine badRef_no (fun r hr => ?_) (by rw [hk2]; exact refsG_sorted l 6)
    rw [hk2] at hr
    have := refsG_mem l hr
    rw [hname]
    refine ⟨?_, this.2⟩
    unfold possibleM
    simp
    omega
  have hrl2 : (evG l).Refs.length ≤ 6 := by rw [hk2]; exact hrl
  by_cases c0 : kindG l = 0
  · have e : evG l = { evI l 6 with Op := opM l 12 } := by unfold evG; rw [if_pos c0]
    have eo : (evG l).Op = opM l 12 := by rw [e]
    have et : (evG l).Term = zTermG := by rw [e]; rfl
    have ei : (evG l).ID = idZ := by rw [e]; rfl
    have ep : (evG l).Posts = [] := by rw [e]; rfl
    have en : (evG l).N = 0 := by rw [e]; rfl
    refine valid_all ?_ ⟨hb1, ?_, ?_, ?_⟩ href ?_ ?_
    · unfold limM
      rw [eo, et, ep]
      have := sm_few (opM_sm l 12)
      simp [zTermG]
      omega
    · unfold bad2
      rw [of_op, hk1, et, sameTerm_zero]
      simp [c0]
    · unfold bad3
      rw [of_id, of_posts, of_n, hk1, ei, ep, en, c0]
      simp [sameID, idZ]
    · unfold withinM; rw [en]; simp
    · unfold bad5; rw [of_term, hk1, c0]; rfl
    · rw [ep]; intro i hi; exact absurd hi (Nat.not_lt_zero i)
  by_cases c2 : kindG l = 2
  · have e : evG l = { evI l 6 with Term := termG l } := by unfold evG; rw [if_neg c0, if_pos c2]
    have eo : (evG l).Op = zOpG := by rw [e]; rfl
    have et : (evG l).Term = termG l := by rw [e]
    have ei : (evG l).ID = idZ := by rw [e]; rfl
    have ep : (evG l).Posts = [] := by rw [e]; rfl
    have en : (evG l).N = 0 := by rw [e]; rfl
    have hl := listM_ok l 12 (((numG l).tdiv 12).tmod 3).toNat
    have t3 := Int.tmod_lt_of_pos ((numG l).tdiv 12) (b := 3) (by omega)
    have k3 := Int.tmod_nonneg (b := 3) (a := numG l) hn.1
    have k3b := Int.tmod_lt_of_pos (numG l) (b := 3) (by omega)
    have d3 : 0 ≤ (numG l).tdiv 3 := by rw [Int.tdiv_eq_ediv_of_nonneg hn.1]; omega
    have l4 := Int.tmod_nonneg (b := 4) (a := (numG l).tdiv 3) d3
    have l4b := Int.tmod_lt_of_pos ((numG l).tdiv 3) (b := 4) (by omega)
    have tb : (termG l).Broader.length ≤ 2 := by show (listM l 12 _).length ≤ 2; rw [hl.1]; omega
    refine valid_all ?_ ⟨hb1, ?_, ?_, ?_⟩ href ?_ ?_
    · unfold limM
      rw [of_op, hk1, et, ep, c2]
      simp
      omega
    · unfold bad2
      rw [of_op, of_term, hk1, eo, sameOp_zero, c2]
      simp
    · unfold bad3
      rw [of_id, of_posts, of_n, hk1, ei, ep, en, c2]
      simp [sameID, idZ]
    · unfold withinM; rw [en]; simp
    · have hw1 : okWordM (termG l).Name = true := word_ok8 _
      have hw2 : (sameStr (termG l).See ⟨#[]⟩ || okWordM (termG l).See) = true := by
        show (sameStr (if (numG l).tmod 5 = 0 then wordM ((numG l).tdiv 5) else ⟨#[]⟩) ⟨#[]⟩ || okWordM (if (numG l).tmod 5 = 0 then wordM ((numG l).tdiv 5) else ⟨#[]⟩)) = true
        split
        · rw [word_ok8]; simp
        · simp [sameStr]
      have hw3 : okWordsM (termG l).Broader = true := hl.2.2
      have hw4 : withinM (termG l).Kind 2 = true := by unfold withinM; show (decide (0 ≤ (numG l).tmod 3) && decide ((numG l).tmod 3 ≤ 2)) = true; simp; omega
      have hw5 : withinM (termG l).Lang 3 = true := by unfold withinM; show (decide (0 ≤ ((numG l).tdiv 3).tmod 4) && decide (((numG l).tdiv 3).tmod 4 ≤ 3)) = true; simp; omega
      unfold bad5
      rw [et, hw1, hw3, hw4, hw5]
      cases hs : sameStr (termG l).See ⟨#[]⟩ <;> cases ho : okWordM (termG l).See <;> simp [hs, ho] at hw2 ⊢
    · rw [ep]; intro i hi; exact absurd hi (Nat.not_lt_zero i)
  have hop : (ofM (evG l).Kind).op = false := by rw [of_op, hk1]; simp [c0]
  have htm : (ofM (evG l).Kind).term = false := by rw [of_term, hk1]; simp [c2]
  have eo : (evG l).Op = zOpG := by
    unfold evG; rw [if_neg c0, if_neg c2]
    split
    · rfl
    split <;> rfl
  have et : (evG l).Term = zTermG := by
    unfold evG; rw [if_neg c0, if_neg c2]
    split
    · rfl
    split <;> rfl
  have hb2 : bad2 (evG l) = false := by
    unfold bad2
    rw [eo, et, sameOp_zero, sameTerm_zero]
    simp
  have hb5 : bad5 (evG l) = false := by unfold bad5; rw [htm]; rfl
  by_cases c34 : kindG l = 3 ∨ kindG l = 4
  · have e : evG l = { evI l 6 with ID := idM (numG l), Posts := postsG l ((numG l).tmod 4).toNat } := by unfold evG; rw [if_neg c0, if_neg c2, if_pos c34]
    have ei : (evG l).ID = idM (numG l) := by rw [e]
    have ep : (evG l).Posts = postsG l ((numG l).tmod 4).toNat := by rw [e]
    have en : (evG l).N = 0 := by rw [e]; rfl
    have hp := postsG_ok l ((numG l).tmod 4).toNat
    refine valid_all ?_ ⟨hb1, hb2, ?_, ?_⟩ href hb5 ?_
    · unfold limM
      rw [hop, et, ep, hp.1]
      simp [zTermG]
      omega
    · unfold bad3
      rw [of_id, of_posts, of_n, hk1, en]
      rcases c34 with c | c <;> rw [c] <;> simp
    · unfold withinM; rw [en]; simp
    · intro i hi
      have hm := getD_all hp.2 (i := i) (by rw [← ep]; exact hi)
      unfold badPost
      have hsi : sameID (idM (numG l)) (idM (numG l)) = true := by simp [sameID]
      rw [ep, ei, hm.1, hm.2.2.2.1, hsi, decide_eq_false (by omega), decide_eq_false (by omega)]
      rfl
  by_cases c56 : kindG l = 5 ∨ kindG l = 6
  · have e : evG l = { evI l 6 with ID := idM (numG l), N := atM l 12 1048577 } := by unfold evG; rw [if_neg c0, if_neg c2, if_neg c34, if_pos c56]
    have ep : (evG l).Posts = [] := by rw [e]; rfl
    have en : (evG l).N = atM l 12 1048577 := by rw [e]
    refine valid_all ?_ ⟨hb1, hb2, ?_, ?_⟩ href hb5 ?_
    · unfold limM
      rw [hop, et, ep]
      simp [zTermG]
      omega
    · unfold bad3
      rw [of_id, of_posts, of_n, hk1, ep]
      rcases c56 with c | c <;> rw [c] <;> simp
    · unfold withinM; rw [en]; simp; omega
    · rw [ep]; intro i hi; exact absurd hi (Nat.not_lt_zero i)
  · have e : evG l = evI l 6 := by unfold evG; rw [if_neg c0, if_neg c2, if_neg c34, if_neg c56]
    have ei : (evG l).ID = idZ := by rw [e]; rfl
    have ep : (evG l).Posts = [] := by rw [e]; rfl
    have en : (evG l).N = 0 := by rw [e]; rfl
    refine valid_all ?_ ⟨hb1, hb2, ?_, ?_⟩ href hb5 ?_
    · unfold limM
      rw [hop, et, ep]
      simp [zTermG]
      omega
    · unfold bad3
      rw [ei, ep, en]
      simp [sameID, idZ]
    · unfold withinM; rw [en]; simp
    · rw [ep]; intro i hi; exact absurd hi (Nat.not_lt_zero i)
end Go.Proofs.Ytabjaaonfaejmaa

namespace Go.Proofs.Ytabjaaonfaejmaa
open Go.Av

/-- The sum over the first i. -/
def szN {α : Type} (f : α → Nat) (l : List α) (i : Nat) : Nat := ((l.take i).map f).sum
theorem szN_zero {α : Type} (f : α → Nat) (l : List α) : szN f l 0 = 0 := rfl
theorem szN_succ {α : Type} [Inhabited α] (f : α → Nat) {l : List α} {i : Nat} (h : i < l.length) : szN f l (i + 1) = szN f l i + f (l.getD i default) := by
  have : l.take (i + 1) = l.take i ++ [l.getD i default] := by
    rw [List.getD_eq_getElem?_getD, List.getElem?_eq_getElem h, Option.getD_some, List.take_append_getElem]
  rw [szN, this, List.map_append, List.sum_append_nat]
  simp [szN]
theorem szN_le {α : Type} (f : α → Nat) (l : List α) (i : Nat) : szN f l i ≤ szN f l l.length := by
  have e : szN f l l.length = szN f l i + ((l.drop i).map f).sum := by
    rw [szN, List.take_length]
    conv => lhs; rw [← List.take_append_drop i l, List.map_append, List.sum_append_nat]
    rfl
  omega
theorem szN_mem {α : Type} [Inhabited α] (f : α → Nat) {l : List α} {x : α} (h : x ∈ l) : f x ≤ szN f l l.length := by
  obtain ⟨i, hi, rfl⟩ := List.getElem_of_mem h
  have h1 := szN_succ f hi
  have h2 := szN_le f l (i + 1)
  rw [List.getD_eq_getElem?_getD, List.getElem?_eq_getElem hi, Option.getD_some] at h1
  omega
def n0M (e : EventM) : Nat := e.Refs.length + e.Op.Texts.length + e.Op.Pairs.length + e.Op.Refs.length + e.Op.Text.size + e.Term.Name.size + e.Term.See.size + e.Term.Broader.length + e.Posts.length
def a1M (e : EventM) (i : Nat) : Nat := n0M e + szN ByteArray.size e.Op.Texts i
def a2M (e : EventM) (i : Nat) : Nat := a1M e e.Op.Texts.length + szN ByteArray.size e.Term.Broader i
def postN (p : PostM) : Nat := p.Path.length + szN ByteArray.size p.Path p.Path.length
def a3M (e : EventM) (i : Nat) : Nat := a2M e e.Term.Broader.length + szN postN e.Posts i
def a4M (e : EventM) (i k : Nat) : Nat := a3M e i + (e.Posts.getD i default).Path.length + szN ByteArray.size (e.Posts.getD i default).Path k
def totM (e : EventM) : Nat := a3M e e.Posts.length
def fewM (e : EventM) : Bool := decide (n0M e ≤ 400) && decide (totM e ≤ 2000)
theorem a1_zero (e : EventM) : a1M e 0 = n0M e := rfl
theorem a2_zero (e : EventM) : a2M e 0 = a1M e e.Op.Texts.length := rfl
theorem a3_zero (e : EventM) : a3M e 0 = a2M e e.Term.Broader.length := rfl
theorem a4_zero (e : EventM) (i : Nat) : a4M e i 0 = a3M e i + (e.Posts.getD i default).Path.length := rfl
theorem a1_succ {e : EventM} {i : Nat} (h : i < e.Op.Texts.length) : a1M e (i + 1) = a1M e i + (e.Op.Texts.getD i default).size := by rw [a1M, szN_succ _ h, a1M]; omega
theorem a2_succ {e : EventM} {i : Nat} (h : i < e.Term.Broader.length) : a2M e (i + 1) = a2M e i + (e.Term.Broader.getD i default).size := by rw [a2M, szN_succ _ h, a2M]; omega
theorem a4_succ {e : EventM} {i k : Nat} (h : k < (e.Posts.getD i default).Path.length) : a4M e i (k + 1) = a4M e i k + ((e.Posts.getD i default).Path.getD k default).size := by rw [a4M, szN_succ _ h, a4M]; omega
theorem a3_succ {e : EventM} {i : Nat} (h : i < e.Posts.length) : a3M e (i + 1) = a4M e i (e.Posts.getD i default).Path.length := by rw [a3M, szN_succ _ h, a4M, a3M, postN]; omega
theorem a3_le (e : EventM) (i : Nat) : a3M e i ≤ totM e := by have := szN_le postN e.Posts i; unfold totM a3M; omega
theorem a2_le (e : EventM) (i : Nat) : a2M e i ≤ totM e := by
  have h1 := szN_le ByteArray.size e.Term.Broader i
  have h2 := a3_le e 0
  rw [a3_zero] at h2
  have h3 : a2M e i ≤ a2M e e.Term.Broader.length := by unfold a2M; omega
  omega
theorem a1_le (e : EventM) (i : Nat) : a1M e i ≤ totM e := by
  have h1 := szN_le ByteArray.size e.Op.Texts i
  have h2 := a2_le e 0
  rw [a2_zero] at h2
  have h3 : a1M e i ≤ a1M e e.Op.Texts.length := by unfold a1M; omega
  omega
theorem n0_le (e : EventM) : n0M e ≤ totM e := a1_le e 0
theorem a4_le {e : EventM} {i : Nat} (h : i < e.Posts.length) (k : Nat) : a4M e i k ≤ totM e := by
  have h1 := szN_le ByteArray.size (e.Posts.getD i default).Path k
  have h2 := a3_succ h
  have h3 := a3_le e (i + 1)
  have h4 : a4M e i k ≤ a4M e i (e.Posts.getD i default).Path.length := by unfold a4M; omega
  omega
/-- An event of whatever size. -/
structure RawEv (e : EventM) : Prop where
  by_ : I64 e.By
  seq : I64 e.Seq
  tick : I64 e.Tick
  kind : I64 e.Kind
  n : I64 e.N
  id : idOK e.ID
  tk : I64 e.Term.Kind
  tl : I64 e.Term.Lang
  refs : ∀ r ∈ e.Refs, I64 r.By ∧ I64 r.Seq
  head : ∀ x ∈ headL e.Op, I64 x
  pairs : ∀ p ∈ e.Op.Pairs, I64 p.1 ∧ I64 p.2
  orefs : ∀ r ∈ e.Op.Refs, idOK r
  posts : ∀ p ∈ e.Posts, idOK p.ID
theorem strs_sum : ∀ l : List ByteArray, (∀ s ∈ l, s.size ≤ 1000000) → (l.flatMap bytesM).length ≤ 9 * l.length + (l.map ByteArray.size).sum
  | [], _ => by simp
  | s :: l, h => by
    have h1 := strs_sum l fun s hs => h s (List.mem_cons.2 (.inr hs))
    have h2 := bytesM_sz (s := s) (Nat.le_refl _) (h s (by simp))
    rw [List.flatMap_cons, List.length_append, List.map_cons, List.sum_cons, List.length_cons]
    omega
theorem few_ok_ev {e : EventM} (h : RawEv e) (hf : fewM e = true) : OkEv e := by
  unfold fewM at hf
  simp only [Bool.and_eq_true, decide_eq_true_eq] at hf
  have h0 := hf.1
  unfold n0M at h0
  have ht := hf.2
  have h1 := a1_le e e.Op.Texts.length
  have h2 := a2_le e e.Term.Broader.length
  have hts : szN ByteArray.size e.Op.Texts e.Op.Texts.length ≤ 2000 := by unfold a1M at h1; omega
  have hbs : szN ByteArray.size e.Term.Broader e.Term.Broader.length ≤ 2000 := by unfold a2M at h2; omega
  have hps : szN postN e.Posts e.Posts.length ≤ 2000 := by unfold totM a3M at ht; omega
  refine { by_ := h.by_, seq := h.seq, tick := h.tick, kind := h.kind, n := h.n, id := h.id, tk := h.tk, tl := h.tl, refs := h.refs, nrefs := by omega, op := ?_, name := by omega, see := by omega
           broader := fun s hs => by have := szN_mem ByteArray.size hs; omega, nbroader := by omega, posts := fun p hp => ?_, nposts := by omega }
  · have htx : ∀ s ∈ e.Op.Texts, s.size ≤ 2000 := fun s hs => by have := szN_mem ByteArray.size hs; omega
    refine { head := h.head, pairs := h.pairs, refs := h.orefs, text := by omega, texts := fun s hs => by have := htx s hs; omega, ntexts := by omega, npairs := by omega, nrefs := by omega, all := ?_ }
    have q0 := intsM_le h.head (by simp [headL])
    have e0 : (headL e.Op).length = 13 := rfl
    have q1 := bytesM_sz (s := e.Op.Text) (Nat.le_refl _) (by omega)
    have q2 : (strsM e.Op.Texts).length ≤ 9 + 9 * e.Op.Texts.length + 2000 := by
      rw [strsM, strsN, preM_all, List.length_append]
      have ha := strs_sum e.Op.Texts fun s hs => by have := htx s hs; omega
      have hb := intM_le (n := (e.Op.Texts.length : Int)) (by unfold I64; omega)
      rw [szN, List.take_length] at hts
      omega
    have q3 := intsM_flat (f := pairI) (l := e.Op.Pairs) (c := 2) (fun p hp => ⟨Nat.le_refl _, fun y hy => by
      have := h.pairs p hp
      simp only [pairI, List.mem_cons, List.not_mem_nil, or_false] at hy
      rcases hy with rfl | rfl
      · exact this.1
      · exact this.2⟩) (by omega)
    have q4 := intsM_flat (f := idI) (l := e.Op.Refs) (c := 3) (fun p hp => ⟨Nat.le_refl _, fun y hy => by
      have := h.orefs p hp
      simp only [idI, List.mem_cons, List.not_mem_nil, or_false] at hy
      rcases hy with rfl | rfl | rfl
      · exact this.1
      · exact this.2.1
      · exact this.2.2⟩) (by omega)
    rw [opB, List.length_append, List.length_append, List.length_append, List.length_append]
    omega
  · have hm := szN_mem postN hp
    have he : postN p = p.Path.length + szN ByteArray.size p.Path p.Path.length := rfl
    exact ⟨h.posts p hp, by omega, fun s hs => by have := szN_mem ByteArray.size hs; omega⟩
end Go.Proofs.Ytabjaaonfaejmaa

namespace Go.Proofs.Ytabjaaonfaejmaa
open Go.Av


set_option maxRecDepth 100000 in
set_option maxHeartbeats 4000000 in
theorem few_ok (G) (e : EventM) (h : totM e ≤ 1000000000000) : Gives Try.prog G 10 [eventD e] [bD (fewM e)] := by
  have hn0 : n0M e = e.Refs.length + e.Op.Texts.length + e.Op.Pairs.length + e.Op.Refs.length + e.Op.Text.size + e.Term.Name.size + e.Term.See.size + e.Term.Broader.length + e.Posts.length := rfl
  have h0 := n0_le e
  skip
  refine gives_intro [] [] [] Try.func10 rfl (by rfl) (by simp [Try.ntmps10]) fun F hP hG hN hR => ?_
  rw [Try.ntmps10] at hN
  have hA := And.intro hN (And.intro hP (And.intro hG (And.intro hR.1 (And.intro hR.2.1 hR.2.2.1))))
  have hE := And.intro @Try.results10 (And.intro @a1_zero (And.intro @a2_zero (And.intro @a3_zero (@a4_zero))))
  refine WS [1] [1] ?_
  refine WS [1, 3] [1] ?_
  apply aw_seq
  refine WS [1, 3, 51] [1] ?_
  refine WI (fun hb => ?_) (fun hb => ?_)
  · skip
    have hv : fewM e = false := by unfold fewM; rw [decide_eq_false (by omega)]; rfl
    have hE := And.intro hE hv
    refine WS [2] [] ?_
    apply aw_ret
    apply q_ret_seq
    simp only [QRet, QRetM, QRetX, retsX_nil, retsX_cons, objsAre, resA, mapO_nil, mapO_cons, vD_dat, vD_nils, vD_rp, vD_osl, vD_ptr, vD_agg, vD_fn, vL_dat, vL_app, viewL, avA, datsOf, fillA, seval, ↓List.forall_mem_cons, Op.operands, hP, hG, tiA, hE]
    all_goals try (first | done | rfl | trivial)
  · skip
    apply aw_skip
    apply q_seq
    apply aw_seq
    refine WS [1, 3, 4] [1] ?_
    apply aw_block
    refine WL (ι := {i : Nat // i ≤ e.Op.Texts.length}) [1] [1] (fun ⟨i, hi⟩ => [(4, .dat (iD i)), (3, .dat (iD ((a1M e i : Nat) : Int)))]) (fun ⟨i, hi⟩ => []) (fun ⟨i, hi⟩ => e.Op.Texts.length - i) (⟨0, by omega⟩) ?_
    rintro ⟨i, hi⟩
    dsimp only [List.cons_append, List.nil_append]
    have hb1 := a1_le e i
    apply aw_seq
    refine WS [1, 3, 4, 57] [1] ?_
    refine WI (fun hb => ?_) (fun hb => ?_)
    · skip
      have hs1 := a1_succ (e := e) (i := i) (by omega)
      have hb2 := a1_le e (i + 1)
      have hE := And.intro hE hs1
      apply aw_skip
      apply q_seq
      apply aw_seq
      apply aw_block
      refine WQ [1, 3, 4] [1] ?_
      apply q_block
      apply q_seq
      refine WQ [1, 3, 4] [1] ?_
      refine WN (⟨i + 1, by omega⟩)
    · skip
      apply aw_exit
      apply q_exit_seq
      have hend : i = e.Op.Texts.length := by omega
      subst hend
      apply q_exit_loop
      apply q_exit
      apply q_seq
      apply aw_seq
      refine WS [1, 3, 5] [1] ?_
      apply aw_block
      refine WL (ι := {j : Nat // j ≤ e.Term.Broader.length}) [1] [1] (fun ⟨j, hj⟩ => [(5, .dat (iD j)), (3, .dat (iD ((a2M e j : Nat) : Int)))]) (fun ⟨j, hj⟩ => []) (fun ⟨j, hj⟩ => e.Term.Broader.length - j) (⟨0, by omega⟩) ?_
      rintro ⟨j, hj⟩
      dsimp only [List.cons_append, List.nil_append]
      have hb1 := a2_le e j
      apply aw_seq
      refine WS [1, 3, 5, 74] [1] ?_
      refine WI (fun hb => ?_) (fun hb => ?_)
      · skip
        have hs1 := a2_succ (e := e) (i := j) (by omega)
        have hb2 := a2_le e (j + 1)
        have hE := And.intro hE hs1
        apply aw_skip
        apply q_seq
        apply aw_seq
        apply aw_block
        refine WQ [1, 3, 5] [1] ?_
        apply q_block
        apply q_seq
        refine WQ [1, 3, 5] [1] ?_
        refine WN (⟨j + 1, by omega⟩)
      · skip
        apply aw_exit
        apply q_exit_seq
        have hend : j = e.Term.Broader.length := by omega
        subst hend
        apply q_exit_loop
        apply q_exit
        apply q_seq
        apply aw_seq
        refine WS [1, 3, 6] [1] ?_
        apply aw_block
        refine WL (ι := {p : Nat // p ≤ e.Posts.length}) [1] [1] (fun ⟨p, hp⟩ => [(6, .dat (iD p)), (3, .dat (iD ((a3M e p : Nat) : Int)))]) (fun ⟨p, hp⟩ => []) (fun ⟨p, hp⟩ => e.Posts.length - p) (⟨0, by omega⟩) ?_
        rintro ⟨p, hp⟩
        dsimp only [List.cons_append, List.nil_append]
        have hb1 := a3_le e p
        apply aw_seq
        refine WS [1, 3, 6, 90] [1] ?_
        refine WI (fun hb => ?_) (fun hb => ?_)
        · skip
          have hs1 := a3_succ (e := e) (i := p) (by omega)
          have hb2 := a3_le e (p + 1)
          have hb3 := a4_le (e := e) (i := p) (by omega) 0
          have hz4 := a4_zero e p
          apply aw_skip
          apply q_seq
          apply aw_seq
          apply aw_block
          refine WS [1, 3, 6] [1] ?_
          refine WS [1, 3, 6, 7] [1] ?_
          apply aw_block
          refine WL (ι := {k : Nat // k ≤ (e.Posts.getD p default).Path.length}) [1, 6] [1] (fun ⟨k, hk⟩ => [(7, .dat (iD k)), (3, .dat (iD ((a4M e p k : Nat) : Int)))]) (fun ⟨k, hk⟩ => []) (fun ⟨k, hk⟩ => (e.Posts.getD p default).Path.length - k) (⟨0, by omega⟩) ?_
          rintro ⟨k, hk⟩
          dsimp only [List.cons_append, List.nil_append]
          have hb4 := a4_le (e := e) (i := p) (by omega) k
          apply aw_seq
          refine WS [1, 3, 6, 7, 110] [1] ?_
          refine WI (fun hb => ?_) (fun hb => ?_)
          · skip
            have hs2 := a4_succ (e := e) (i := p) (k := k) (by omega)
            have hb5 := a4_le (e := e) (i := p) (by omega) (k + 1)
            have hE := And.intro hE hs2
            apply aw_skip
            apply q_seq
            apply aw_seq
            apply aw_block
            refine WQ [1, 3, 6, 7] [1] ?_
            apply q_block
            apply q_seq
            refine WQ [1, 3, 6, 7] [1] ?_
            refine WN (⟨k + 1, by omega⟩)
          · skip
            apply aw_exit
            apply q_exit_seq
            have hend : k = (e.Posts.getD p default).Path.length := by omega
            subst hend
            have hE := And.intro hE hs1
            apply q_exit_loop
            apply q_exit
            apply q_block
            apply q_seq
            refine WQ [1, 3, 6] [1] ?_
            refine WN (⟨p + 1, by omega⟩)
        · skip
          apply aw_exit
          apply q_exit_seq
          have hend : p = e.Posts.length := by omega
          subst hend
          have hv : fewM e = decide (((a3M e e.Posts.length : Nat) : Int) ≤ 2000) := by unfold fewM totM; rw [decide_eq_true (by omega), Bool.true_and]; congr 1; exact propext (by omega)
          have hE := And.intro hE hv
          apply q_exit_loop
          apply q_exit
          apply q_seq
          refine WS [2] [] ?_
          apply aw_ret
          simp only [QRet, QRetM, QRetX, retsX_nil, retsX_cons, objsAre, resA, mapO_nil, mapO_cons, vD_dat, vD_nils, vD_rp, vD_osl, vD_ptr, vD_agg, vD_fn, vL_dat, vL_app, viewL, avA, datsOf, fillA, seval, ↓List.forall_mem_cons, Op.operands, hP, hG, tiA, hE]
          all_goals try (first | done | rfl | trivial)

end Go.Proofs.Ytabjaaonfaejmaa

namespace Go.Proofs.Ytabjaaonfaejmaa
open Go.Av

abbrev zEv' : EventM := exE 0 0 0 [] 0
def val5 (e : EventM) (how b also : Int) : List EventM := [e, spoiltM e how b, spoiltM (spoiltM e how b) also how, spoiltM (spoiltM (spoiltM e how b) also how) b also, zEv']
def validL (e : EventM) (how b also : Int) (raw : EventM) : List EventM := val5 e how b also ++ if fewM raw = true then [raw] else []
theorem validL_ok {e : EventM} (h : SmEv 0 e) {how b also : Int} (hh : I64 how) (hb : I64 b) (ha : I64 also) {raw : EventM} (hr : RawEv raw) : ∀ x ∈ validL e how b also raw, OkEv x := by
  have h1 : SmEv 1 (spoiltM e how b) := sm_sp h (by omega) hb _
  have h2 : SmEv 2 (spoiltM (spoiltM e how b) also how) := sm_sp h1 (by omega) hh _
  have h3 : SmEv 3 (spoiltM (spoiltM (spoiltM e how b) also how) b also) := sm_sp h2 (by omega) ha _
  intro x hx
  rcases List.mem_append.1 hx with hx | hx
  · simp only [val5, List.mem_cons, List.not_mem_nil, or_false] at hx
    rcases hx with rfl | rfl | rfl | rfl | rfl
    · exact sm_ev h (by omega)
    · exact sm_ev h1 (by omega)
    · exact sm_ev h2 (by omega)
    · exact sm_ev h3 (by omega)
    · exact okEx i64z i64z i64z i64z (by decide) (by simp)
  · split at hx
    · rename_i hf
      rw [List.mem_singleton.1 hx]
      exact few_ok_ev hr hf
    · simp at hx
theorem validL_len (e : EventM) (how b also : Int) (raw : EventM) : (validL e how b also raw).length ≤ 6 := by
  unfold validL val5
  split <;> simp
end Go.Proofs.Ytabjaaonfaejmaa

namespace Go.Proofs.Ytabjaaonfaejmaa
open Go.Av

theorem validZ (G) {e : EventM} (h : OkEv e) (hv : validM e = 0) : Gives Try.prog G 11 [eventD e] [iD 0] := by
  have := valid_ok G e h
  rwa [hv] at this

set_option maxRecDepth 100000 in
set_option maxHeartbeats 8000000 in
theorem valid_law (G) (q : List Int) (how b also : Int) (raw : EventM) (hq : ∀ n ∈ q, I64 n) (hh : I64 how) (hbb : I64 b) (ha : I64 also) (hraw : RawEv raw) (htot : totM raw ≤ 1000000000000) : Gives Try.prog G 3 [isD q, iD how, iD b, iD also, eventD raw] [bD true] := by
  have hsm := evG_sm q
  have hv0 := evG_valid q
  have hq0 := event_ok G q hq
  generalize evG q = e at *
  have hlo := validL_ok hsm hh hbb ha hraw
  have hll := validL_len e how b also raw
  have h5 : (val5 e how b also).length = 5 := rfl
  have hv50 : List.take 5 (val5 e how b also) = val5 e how b also := rfl
  have h1 : SmEv 1 (spoiltM e how b) := sm_sp hsm (by omega) hbb _
  have h2 : SmEv 2 (spoiltM (spoiltM e how b) also how) := sm_sp h1 (by omega) hh _
  skip
  refine gives_intro [34] [] [] Try.func3 rfl (by rfl) (by simp [Try.ntmps3]) fun F hP hG hN hR => ?_
  rw [Try.ntmps3] at hN
  have hA := And.intro hN (And.intro hP (And.intro hG (And.intro hR.1 (And.intro hR.2.1 hR.2.2.1))))
  have hE := And.intro @Try.results3 (And.intro @h5 (And.intro @hv50 (@nth_row)))
  refine WS [0, 1, 2, 3, 9] [9] ?_
  have hc := gvF hP hG (hq0)
  refine WSc [1, 2, 3, 9, 11] [9, 11] ?_
  have hc := gvF hP hG (spoilt_ok G e how b (sm_ev hsm (by omega)) hh hbb)
  refine WSc [1, 2, 3, 9, 11, 12] [9, 11, 12] ?_
  have hc := gvF hP hG (spoilt_ok G (spoiltM e how b) also how (sm_ev h1 (by omega)) ha hh)
  refine WSc [2, 3, 9, 11, 12, 13] [9, 11, 12, 13] ?_
  apply aw_rgds [9, 11, 14] [9, 11, 34, 39, 40] [0, 1, 2, 3, 4, 5, 6, 7, 8, 9] [34]
  · rw [hP]; kernel_rfl
  · exact hR
  · kernel_rfl
  · (repeat (apply PickL.cons; exact rfl)); exact PickL.nil _
  · simp (maxSteps := 2000000) (disch := omega) only [avR2, avA, datsOf, fillA, seval, ↓List.forall_mem_cons, Op.operands, hA, tiA, hE]
    (repeat' refine And.intro ?_ ?_) <;> try exact SD
    refine CallC.use (gvF hP hG (spoilt_ok G (spoiltM (spoiltM e how b) also how) b also (sm_ev h2 (by omega)) hbb ha)) rfl ?_
    try simp (maxSteps := 2000000) (disch := omega) only [avR2, avA, datsOf, fillA, seval, ↓List.forall_mem_cons, Op.operands, hA, tiA, hE]
    exact SC
  refine aw_meet (.of [(11, .ptr 11 32 0 0), (14, .dat (eventsD (validL e how b also raw)))] [(11, ⟨32, [.dat (eventD e)]⟩)]) ?_ ?_
  · skip
    refine aw_rowD 34 (l' := ((val5 e how b also).map eventD).map .dat) rfl rfl ?_
    have hc := gvF hP hG (few_ok G raw htot)
    refine WSc [9, 11, 14, 36] [9, 11, 34, 39, 40] ?_
    refine WI (fun hb => ?_) (fun hb => ?_)
    · skip
      have hvl : validL e how b also raw = val5 e how b also ++ [raw] := by unfold validL; rw [if_pos (by simpa using hb)]
      refine WQ [11, 14] [11, 34, 39, 40] ?_
      have hta : List.take 6 (List.map (fun e => eventD e) (val5 e how b also) ++ [eventD raw]) = List.map (fun e => eventD e) (validL e how b also raw) := by
        rw [hvl]
        rfl
      have hE := And.intro hE hta
      show Le F _ _
      refine le_frz (ds := (val5 e how b also ++ [raw]).map (fun e => eventD e)) 40 hR.2.2.2 rfl (by have e := datE_map ((val5 e how b also ++ [raw]).map (fun e => eventD e)); simpa only [List.map_append, List.map_cons, List.map_nil] using e) ?_
      refine Le.of ?_ ?_
      · try simp (disch := omega) only [LeE, LeO, avA, datsOf, fillA, seval, ↓List.forall_mem_cons, Op.operands, hE]
        all_goals first | done | (repeat' apply And.intro) <;> first | rfl | omega | assumption | (simp only [AV.dat.injEq, Dat.int.injEq, true_and]; omega) | (congr <;> omega)
      · try simp (disch := omega) only [LeE, LeO, avA, datsOf, fillA, seval, ↓List.forall_mem_cons, Op.operands, hE]
        all_goals first | done | (repeat' apply And.intro) <;> first | rfl | omega | assumption | (simp only [AV.dat.injEq, Dat.int.injEq, true_and]; omega) | (congr <;> omega)
    · skip
      have hvl : validL e how b also raw = val5 e how b also := by unfold validL; rw [if_neg (by simpa using hb), List.append_nil]
      have hE := And.intro hE hvl
      refine aw_frz 34 hR.2.2.2 rfl (datE_map _) ?_
      apply aw_skip
      refine Le.of ?_ ?_
      · try simp (disch := omega) only [LeE, LeO, avA, datsOf, fillA, seval, ↓List.forall_mem_cons, Op.operands, hE]
        all_goals first | done | (repeat' apply And.intro) <;> first | rfl | omega | assumption | (simp only [AV.dat.injEq, Dat.int.injEq, true_and]; omega) | (congr <;> omega)
      · try simp (disch := omega) only [LeE, LeO, avA, datsOf, fillA, seval, ↓List.forall_mem_cons, Op.operands, hE]
        all_goals first | done | (repeat' apply And.intro) <;> first | rfl | omega | assumption | (simp only [AV.dat.injEq, Dat.int.injEq, true_and]; omega) | (congr <;> omega)
  apply aw_seq
  refine WS [11, 14, 15] [11, 34, 39, 40] ?_
  apply aw_block
  refine WL (ι := {i : Nat // i ≤ (validL e how b also raw).length}) [11, 14] [11, 34, 39, 40] (fun ⟨i, hi⟩ => [(15, .dat (iD i))]) (fun ⟨i, hi⟩ => []) (fun ⟨i, hi⟩ => (validL e how b also raw).length - i) (⟨0, by omega⟩) ?_
  rintro ⟨i, hi⟩
  dsimp only [List.cons_append, List.nil_append]
  apply aw_seq
  refine WS [11, 14, 15, 44] [11, 34, 39, 40] ?_
  refine WI (fun hb => ?_) (fun hb => ?_)
  · skip
    apply aw_skip
    apply q_seq
    apply aw_seq
    apply aw_block
    apply aw_rgds [11, 14, 15, 57] [11, 34, 39, 40] [0, 1, 2, 3, 4, 5, 6, 7, 8, 9, 10] []
    · rw [hP]; kernel_rfl
    · exact hR
    · kernel_rfl
    · (repeat (apply PickL.cons; exact rfl)); exact PickL.nil _
    · simp (maxSteps := 2000000) (disch := omega) only [avR2, avA, datsOf, fillA, seval, ↓List.forall_mem_cons, Op.operands, hA, tiA, hE]
      (repeat' refine And.intro ?_ ?_) <;> try exact SD
      refine CallC.use (gvF hP hG (valid_ok G ((validL e how b also raw).getD i default) (getD_all hlo (by omega)))) rfl ?_
      try simp (maxSteps := 2000000) (disch := omega) only [avR2, avA, datsOf, fillA, seval, ↓List.forall_mem_cons, Op.operands, hA, tiA, hE]
      (repeat' refine And.intro ?_ ?_) <;> try exact SD
      refine CallC.use (gvF hP hG (rvalid_ok G ((validL e how b also raw).getD i default) (getD_all hlo (by omega)))) rfl ?_
      try simp (maxSteps := 2000000) (disch := omega) only [avR2, avA, datsOf, fillA, seval, ↓List.forall_mem_cons, Op.operands, hA, tiA, hE]
      exact SC
    refine WI (fun hb => ?_) (fun hb => ?_)
    · skip
      refine WS [10] [] ?_
      apply aw_ret
      apply q_ret_block
      apply q_ret_seq
      apply q_ret_loop
      apply q_ret_block
      apply q_ret_seq
      simp only [QRet, QRetM, QRetX, retsX_nil, retsX_cons, objsAre, resA, mapO_nil, mapO_cons, vD_dat, vD_nils, vD_rp, vD_osl, vD_ptr, vD_agg, vD_fn, vL_dat, vL_app, viewL, avA, datsOf, fillA, seval, ↓List.forall_mem_cons, Op.operands, hP, hG, tiA, hE]
      all_goals try (first | done | rfl | trivial)
      all_goals first | done | simp
    · skip
      apply aw_skip
      apply q_block
      apply q_seq
      refine WQ [11, 14, 15] [11, 34, 39, 40] ?_
      refine WN (⟨i + 1, by omega⟩)
  · skip
    apply aw_exit
    apply q_exit_seq
    have hend : i = (validL e how b also raw).length := by omega
    subst hend
    apply q_exit_loop
    apply q_exit
    apply q_seq
    apply aw_regs [10] []
    · simp (maxSteps := 2000000) (disch := omega) only [avR2, avA, datsOf, fillA, seval, ↓List.forall_mem_cons, Op.operands, hA, tiA, hE]
      (repeat' refine And.intro ?_ ?_) <;> try exact SD
      refine CallC.use (gvF hP hG (validZ G (sm_ev hsm (by omega)) hv0)) rfl ?_
      try simp (maxSteps := 2000000) (disch := omega) only [avR2, avA, datsOf, fillA, seval, ↓List.forall_mem_cons, Op.operands, hA, tiA, hE]
      (repeat' refine And.intro ?_ ?_) <;> try exact SD
      refine CallGC.use rfl (fun hg => ⟨by first | trivial | simp_all [gdAll], gvF hP hG (lives_ok G)⟩) ?_
      try simp (maxSteps := 2000000) (disch := omega) only [avR2, avA, datsOf, fillA, seval, ↓List.forall_mem_cons, Op.operands, hA, tiA, hE]
      exact SC
    apply aw_ret
    simp only [QRet, QRetM, QRetX, retsX_nil, retsX_cons, objsAre, resA, mapO_nil, mapO_cons, vD_dat, vD_nils, vD_rp, vD_osl, vD_ptr, vD_agg, vD_fn, vL_dat, vL_app, viewL, avA, datsOf, fillA, seval, ↓List.forall_mem_cons, Op.operands, hP, hG, tiA, hE]
    all_goals try (first | done | rfl | trivial)
    all_goals first | done | simp

end Go.Proofs.Ytabjaaonfaejmaa

namespace Go.Proofs.Ytabjaaonfaejmaa
open Go.Av Go.ChangeShapes Go.WideShapes Go.ChangeAt Go.RowKit

abbrev Old (w : World) : Nat → Nat → Prop := fun b _ => b < w.heap.size

theorem cell_spot {w : World} {a : Addr} {v : Value} (h : w.cell? a = some v) : a.spot = none ∧ a.block < w.heap.size := by
  unfold World.cell? at h
  split at h
  · rename_i c e f hb
    split at h
    · cases h
    · rename_i hs
      exact ⟨by simpa using hs, (Array.getElem?_eq_some_iff.1 hb).1⟩
  · cases h
theorem addr_none {a : Addr} (h : a.spot = none) (n : Nat) : a.add n = ⟨a.block, a.off + n, none⟩ := by
  obtain ⟨b, o, s⟩ := a
  simp only at h
  subst h
  exact add_none b o n
theorem add_spot {a : Addr} (h : (a.add 0).spot = none) : a.spot = none := by
  obtain ⟨b, o, s⟩ := a
  cases s with
  | none => rfl
  | some s => simp [Addr.add] at h
theorem wf_i64 {n : Int} (h : (Lit.int .i64 n).wf = true) : I64 n := by
  simp only [Lit.wf, Bool.and_eq_true, decide_eq_true_eq] at h
  unfold I64
  have h1 : IntKind.i64.min = -9223372036854775808 := by decide
  have h2 : IntKind.i64.max = 9223372036854775807 := by decide
  omega

theorem rep_ints {w : World} {b : Nat} (hb : b < w.heap.size) : ∀ (zs : List Int) (off : Nat), (∀ i, i < zs.length → w.cell? ⟨b, off + i, none⟩ = some (.int .i64 (zs.getD i 0))) → RepS (Old w) w 1 (zs.map iD) (some ⟨b, off, none⟩)
  | [], _, _ => by simp [RepS]
  | z :: zs, off, h => by
    simp only [List.map_cons, RepS]
    refine ⟨b, off, rfl, by simp, ?_, rep_ints hb zs (off + 1) fun i hi => ?_⟩
    · have := h 0 (by simp)
      simp only [RepAt]
      exact ⟨hb, by simpa using this⟩
    · have := h (i + 1) (by simp; omega)
      rw [show off + 1 + i = off + (i + 1) by omega]
      simpa using this

section
variable {H : Type} {enc : TypeId × Value → H} {P : Program} {w : World}

theorem slice_of {r : Reach} {base : Nat} {t e : TypeId} {v : Value} (ht : P.underlying t = some (.slice e)) (hv : Value.okWide P w r base t v) : ∃ a len cap, v = .slice a len cap := by
  simp only [Value.okWide, ht, Cell.okWide, Cell.ok] at hv
  cases v <;> simp at hv
  exact ⟨_, _, _, rfl⟩

theorem ints_in {r : Reach} {base : Nat} {t e : TypeId} {v : Value} {d : DataW H} {ps : List MemPlace} {sp : Nat → Bool} {held : Bool} (ht : P.underlying t = some (.slice e)) (he : P.underlying e = some (.int .i64)) (hc : P.cellsOf e = 1)
    (hv : Value.okWide P w r base t v) (hd : DataW.Trod enc P w 0 sp held t v d ps) : ∃ zs : List Int, (∀ z ∈ zs, I64 z) ∧ RepX (Old w) w (isD zs) v := by
  obtain ⟨a, len, cap, rfl⟩ := slice_of ht hv
  obtain ⟨fuel, hd⟩ := hd
  rcases open_ints ht he hc hd with ⟨h1, _⟩ | ⟨a', len', cap', zs, h1, _, hl, _, hz, _, hcell, hwf⟩
  · simp [Value.cells] at h1
    obtain ⟨rfl, rfl, rfl⟩ := h1
    refine ⟨[], by simp, ?_⟩
    simp only [RepX]
    exact ⟨1, none, 0, rfl, by simp, by simp [RepS]⟩
  · simp [Value.cells] at h1
    obtain ⟨rfl, rfl, rfl⟩ := h1
    have hlz : len ≤ zs.length := by rw [hz]; split <;> omega
    refine ⟨zs.take len, fun z hz' => wf_i64 (hwf z (List.mem_of_mem_take hz')), ?_⟩
    simp only [RepX]
    refine ⟨1, some a', cap, by simp [Nat.min_eq_left hlz], by simp [Nat.min_eq_left hlz, hl], ?_⟩
    cases zs with
    | nil => simp [RepS]
    | cons z zs =>
      obtain ⟨hs, hb⟩ := cell_spot (hcell 0 (by simp))
      have hs := add_spot hs
      rw [addr_none hs 0] at hb
      simp only at hb
      have ha : a' = ⟨a'.block, a'.off, none⟩ := by
        obtain ⟨b, o, s⟩ := a'
        simp only at hs
        subst hs
        rfl
      rw [ha]
      refine rep_ints hb _ _ fun i hi => ?_
      have h2 := hcell i (by simp at hi; simp; omega)
      rw [addr_none hs i] at h2
      rw [h2]
      simp at hi
      simp [List.getD_eq_getElem?_getD, List.getElem?_take, show i < len by omega]

theorem same_of_ext {w' : World} (h : Ext (fun _ => False) w w') {p : MemPlace} (hp : p.block < w.heap.size) : w.sameAt w' p := by
  have hb := h.block p.block hp (fun f => f)
  cases p with
  | cell b off =>
    simp only [MemPlace.block] at hb
    simp only [World.sameAt, World.cell?, hb]
  | map b =>
    simp only [MemPlace.block] at hb
    simpa only [World.sameAt] using hb

theorem all_stays (hl : laidOutB P = true) {w' : World} {sp' : Nat → Bool} (hx : Ext (fun _ => False) w w') : ∀ {ts : List TypeId} {vs : List Value} {ds : List (DataW H)} {ps : List MemPlace}, (∀ t ∈ ts, P.readableRec t = true ∧ t < P.types.size) → DataW.TrodAll enc P w 0 (fun _ => true) true ts vs ds ps → (∀ p ∈ ps, p.block < w.heap.size) → (∀ p ∈ ps, sp' p.block = true) → DataW.TrodAll enc P w' 0 sp' true ts vs ds ps
  | [], [], [], _, _, h, _, _ => h
  | _ :: _, _ :: _, _ :: _, _, ht, ⟨p, q, h1, h2, e⟩, hb, hs => ⟨p, q,
      WideElems.Trod_stays hl (ht _ (List.mem_cons.2 (Or.inl rfl))).1 (ht _ (List.mem_cons.2 (Or.inl rfl))).2 h1 (fun x hx' => same_of_ext hx (hb x (by rw [e]; exact List.mem_append_left _ hx'))) (fun x hx' => hs x (by rw [e]; exact List.mem_append_left _ hx')),
      all_stays hl hx (fun t h => ht t (List.mem_cons.2 (Or.inr h))) h2 (fun x hx' => hb x (by rw [e]; exact List.mem_append_right _ hx')) (fun x hx' => hs x (by rw [e]; exact List.mem_append_right _ hx')), e⟩

theorem frozen_ext {w' : World} (h : Ext (fun _ => False) w w') {a : Addr} (ha : a.block < w.heap.size) : w'.frozen? a = w.frozen? a := by
  simp only [World.frozen?, h.block a.block ha (fun f => f)]

theorem kept_ext {w' : World} (h : Ext (fun _ => False) w w') (may : MemPlace → Prop) : w.keptBut w' may := by
  refine ⟨h.os, h.output, fun i hi => ?_⟩
  rw [h.block i hi (fun f => f)]
  cases w.heap[i]? with
  | none => rfl
  | some o => cases o with
    | cells c t fr => exact ⟨rfl, rfl, rfl, fun _ _ => rfl⟩
    | map es clock => exact .inr ⟨rfl, rfl⟩
    | _ => rfl

/-- The call answers true and leaves its arguments alone: what such a row asks. -/
theorem post_of_ext {f : Func} {s : ChangeSpec} {apart fresh handsOn again : Bool} {W W' : World} {args : Array Value} {ds gs : List (DataW H)} {before : List MemPlace} (hl : laidOutB P = true)
    (hrd : ∀ t ∈ f.params.toList, P.readableRec t = true ∧ t < P.types.size) {tb : TypeId} (hres : f.resultTypes = #[tb]) (htb : P.underlying tb = some .bool)
    (hvars : s.vars = []) (hfn : s.fn H ds = { results := [.lit (.bool true)], args := ds })
    (hW : DataW.Whole enc P f.params.toList s.vars apart W args.toList ds gs before) (hx : Ext (fun _ => False) W W') :
    s.post enc P f apart fresh handsOn again W args (.bool true) W' := by
  have hW0 := hW
  obtain ⟨p, q, hA, hV, hpq, hz, hn⟩ := hW
  rw [hvars] at hV
  obtain ⟨rfl, rfl⟩ := trodVars_none hV
  simp only [List.append_nil] at hpq
  subst hpq
  have hlt : ∀ x ∈ before, x.block < W.heap.size := fun x h => hW0.lt x h
  have hold : ∀ x ∈ before, (fun b => decide (b < W.heap.size)) x.block = true := fun x h => by simpa using hlt x h
  have hR : ∀ (b : Nat) (sp : Nat → Bool) (hd : Bool), DataW.TrodAll enc P W' b sp hd f.resultTypes.toList ((Value.bool true).resultList f.resultTypes.size) [.lit (.bool true)] [] := fun b sp hd => by
    rw [hres]
    exact trodAll_cons_mk (shut_bool htb _) trodAll_mk0
  have hAr : ∀ sp : Nat → Bool, (∀ x ∈ before, sp x.block = true) → DataW.TrodAll enc P W' 0 sp true f.params.toList args.toList ds before := fun sp hs => all_stays hl hx hrd hA hlt hs
  refine ⟨ds, [], before, [], before, [], hW0, ?_, ?_, ?_, ?_, fun _ => ?_⟩
  · rw [List.append_nil, hfn]; exact hR _ _ _
  · rw [List.append_nil, hfn]; exact hAr _ hold
  · rw [List.append_nil, hfn, hvars]; rfl
  · exact kept_ext hx _
  · refine ⟨?_, [.lit (.bool true)] ++ ds, [], ([] ++ before) ++ [], ⟨[] ++ before, [], trodAll_append (hAr _ (fun _ _ => rfl)) (hR _ _ _), ?_, rfl, ?_, ?_⟩, ?_⟩
    · exact ok_one hres rfl (okWide_bool_mk htb _)
    · rw [hvars]; rfl
    · intro b off hp
      have hp : MemPlace.cell b off ∈ before := by simpa using hp
      rw [frozen_ext hx (hlt _ hp)]
      exact hz b off hp
    · intro ha
      simpa using hn ha
    · intro x hx' _
      simpa using hx'
end

end Go.Proofs.Ytabjaaonfaejmaa

namespace Go.Proofs.Ytabjaaonfaejmaa
open Go.Av Go.ChangeShapes Go.WideShapes Go.ChangeAt Go.RowKit

mutual
/-- How great a datum is. -/
def bulkD : Dat → Nat
  | .str s => s.size + 1
  | .sl l => bulkL l + 1
  | .agg l => bulkL l
  | _ => 1
def bulkL : List Dat → Nat
  | [] => 0
  | d :: l => bulkD d + bulkL l
end
theorem bulkL_app : ∀ a b : List Dat, bulkL (a ++ b) = bulkL a + bulkL b
  | [], b => by simp [bulkL]
  | d :: a, b => by rw [List.cons_append, bulkL, bulkL, bulkL_app a b]; omega

section
variable (P : Program)
def isAggT (t : TypeId) : Bool := match P.underlying t with
  | some (.struct _) | some (.array _ _) => true
  | _ => false
/-- An element of a slice, or an argument: a struct is one datum. -/
def elD (t : TypeId) (ds : List Dat) : Dat := if isAggT P t = true then .agg ds else ds.headD .nilp
def tiles : Nat → List Field → Nat → Bool
  | off, [], tot => off == tot
  | off, f :: fs, tot => f.offset == off && tiles (off + P.cellsOf f.type) fs tot
/-- A type of this kind, to a depth. -/
def shapeOK : Nat → TypeId → Bool
  | 0, _ => false
  | n + 1, t => match P.underlying t with
    | some (.int _) | some .bool | some .string => true
    | some (.slice e) => shapeOK n e && (0 < P.cellsOf e : Bool) && (isAggT P e || P.cellsOf e == 1)
    | some (.struct fs) => fs.toList.all (fun f => shapeOK n f.type) && tiles P 0 fs.toList (P.cellsOf t)
    | some (.array m e) => shapeOK n e && m * P.cellsOf e == P.cellsOf t
    | _ => false
def okFs (ok : TypeId → List Dat → Prop) : List Field → List Dat → Prop
  | [], ds => ds = []
  | f :: fs, ds => ∃ a b, ds = a ++ b ∧ ok f.type a ∧ okFs ok fs b
def okRep (ok : List Dat → Prop) : Nat → List Dat → Prop
  | 0, ds => ds = []
  | m + 1, ds => ∃ a b, ds = a ++ b ∧ ok a ∧ okRep ok m b
/-- Data of a type, cell for cell. -/
def okT : Nat → TypeId → List Dat → Prop
  | 0, _, _ => False
  | n + 1, t, ds => match P.underlying t with
    | some (.int k) => ∃ m, ds = [.int k m] ∧ (Lit.int k m).wf = true
    | some .bool => ∃ b, ds = [.bool b]
    | some .string => ∃ s, ds = [.str s] ∧ s.size ≤ maxLen
    | some (.slice e) => ∃ l, ds = [.sl l] ∧ l.length ≤ maxLen ∧ ∀ d ∈ l, ∃ es, okT n e es ∧ d = elD P e es
    | some (.struct fs) => okFs (okT n) fs.toList ds
    | some (.array m e) => okRep (okT n e) m ds
    | _ => False
end

theorem repL_app {S : Nat → Nat → Prop} {w : World} : ∀ {a b : List Dat} {u v : List Value}, RepL S w a u → RepL S w b v → RepL S w (a ++ b) (u ++ v)
  | [], _, _, _, h, k => by simp only [RepL] at h; subst h; simpa using k
  | d :: a, b, u, v, h, k => by
    simp only [RepL] at h
    obtain ⟨x, u', rfl, h1, h2⟩ := h
    simp only [List.cons_append, RepL]
    exact ⟨x, u' ++ v, rfl, h1, repL_app h2 k⟩
theorem repC_of {S : Nat → Nat → Prop} {w : World} {b : Nat} : ∀ {ds : List Dat} {cs : List Value} {off : Nat}, RepL S w ds cs → (∀ j v, cs[j]? = some v → S b (off + j) ∧ w.cell? ⟨b, off + j, none⟩ = some v) → RepC S w ds b off
  | [], _, _, _, _ => by simp [RepC]
  | d :: ds, cs, off, h, k => by
    simp only [RepL] at h
    obtain ⟨v, cs', rfl, h1, h2⟩ := h
    simp only [RepC]
    have k0 := k 0 v (by simp)
    refine ⟨⟨by simpa using k0.1, v, by simpa using k0.2, h1⟩, repC_of h2 fun j u hu => ?_⟩
    have := k (j + 1) u (by simpa using hu)
    rw [show off + 1 + j = off + (j + 1) by omega]
    exact this
theorem repL_len {S : Nat → Nat → Prop} {w : World} : ∀ {ds : List Dat} {cs : List Value}, RepL S w ds cs → cs.length = ds.length
  | [], _, h => by simp only [RepL] at h; subst h; rfl
  | d :: ds, cs, h => by
    simp only [RepL] at h
    obtain ⟨v, cs', rfl, h1, h2⟩ := h
    simp [repL_len h2]
theorem repL_noagg {S : Nat → Nat → Prop} {w : World} {d : Dat} {cs : List Value} (h : RepL S w [d] cs) : d.isAgg = false ∧ ∃ v, cs = [v] ∧ Rep1 S w d v := by
  simp only [RepL] at h
  obtain ⟨v, cs', rfl, h1, rfl⟩ := h
  refine ⟨?_, v, rfl, h1⟩
  cases d <;> first | rfl | (simp only [Rep1] at h1)
theorem cells_noagg {d : Dat} (h : d.isAgg = false) : d.cells = [d] := by cases d <;> first | rfl | (simp [Dat.isAgg] at h)
theorem bulk_el {P : Program} {t : TypeId} {ds : List Dat} (h : isAggT P t = true ∨ ds.length = 1) : bulkD (elD P t ds) ≤ bulkL ds := by
  unfold elD
  split
  · simp [bulkD]
  · rename_i hn
    rcases h with h | h
    · exact absurd h hn
    · match ds, h with
      | [d], _ => simp [bulkL]
theorem okT_one {P : Program} {n : Nat} {t : TypeId} {ds : List Dat} (h : okT P n t ds) (ha : isAggT P t = false) : ds.length = 1 := by
  cases n with
  | zero => exact h.elim
  | succ n =>
    unfold okT at h
    unfold isAggT at ha
    split at h
    · obtain ⟨_, rfl, _⟩ := h; rfl
    · obtain ⟨_, rfl⟩ := h; rfl
    · obtain ⟨_, rfl, _⟩ := h; rfl
    · obtain ⟨_, rfl, _⟩ := h; rfl
    · rename_i hu; rw [hu] at ha; simp at ha
    · rename_i hu; rw [hu] at ha; simp at ha
    · exact h.elim

theorem okT_int {P : Program} {n : Nat} {t : TypeId} {k : IntKind} {ds : List Dat} (hu : P.underlying t = some (.int k)) (h : okT P (n + 1) t ds) : ∃ m, ds = [.int k m] ∧ (Lit.int k m).wf = true := by
  unfold okT at h; rw [hu] at h; exact h
theorem okT_bool {P : Program} {n : Nat} {t : TypeId} {ds : List Dat} (hu : P.underlying t = some .bool) (h : okT P (n + 1) t ds) : ∃ b, ds = [.bool b] := by
  unfold okT at h; rw [hu] at h; exact h
theorem okT_str {P : Program} {n : Nat} {t : TypeId} {ds : List Dat} (hu : P.underlying t = some .string) (h : okT P (n + 1) t ds) : ∃ s, ds = [.str s] ∧ s.size ≤ maxLen := by
  unfold okT at h; rw [hu] at h; exact h
theorem okT_slice {P : Program} {n : Nat} {t e : TypeId} {ds : List Dat} (hu : P.underlying t = some (.slice e)) (h : okT P (n + 1) t ds) : ∃ l, ds = [.sl l] ∧ l.length ≤ maxLen ∧ ∀ d ∈ l, ∃ es, okT P n e es ∧ d = elD P e es := by
  unfold okT at h; rw [hu] at h; exact h
theorem okT_struct {P : Program} {n : Nat} {t : TypeId} {fs : Array Field} {ds : List Dat} (hu : P.underlying t = some (.struct fs)) (h : okT P (n + 1) t ds) : okFs (okT P n) fs.toList ds := by
  unfold okT at h; rw [hu] at h; exact h
theorem okT_array {P : Program} {n m : Nat} {t e : TypeId} {ds : List Dat} (hu : P.underlying t = some (.array m e)) (h : okT P (n + 1) t ds) : okRep (okT P n e) m ds := by
  unfold okT at h; rw [hu] at h; exact h
/-- A slice's elements, as models. -/
theorem okT_list {P : Program} {n : Nat} {t e : TypeId} {ds : List Dat} {α : Type} {f : α → Dat} {p : α → Prop} (hu : P.underlying t = some (.slice e)) (h : okT P (n + 1) t ds) (hf : ∀ es, okT P n e es → ∃ x, elD P e es = f x ∧ p x) : ∃ l : List α, ds = [.sl (l.map f)] ∧ l.length ≤ maxLen ∧ ∀ x ∈ l, p x := by
  obtain ⟨l, rfl, hl, he⟩ := okT_slice hu h
  have key : ∀ l : List Dat, (∀ d ∈ l, ∃ es, okT P n e es ∧ d = elD P e es) → ∃ m : List α, l = m.map f ∧ ∀ x ∈ m, p x := fun l => by
    induction l with
    | nil => intro _; exact ⟨[], rfl, by simp⟩
    | cons d l ih =>
      intro hd
      obtain ⟨es, h1, rfl⟩ := hd d (by simp)
      obtain ⟨x, hx, hp⟩ := hf es h1
      obtain ⟨m, rfl, hm⟩ := ih fun d h => hd d (by simp [h])
      refine ⟨x :: m, by rw [hx, List.map_cons], fun y hy => ?_⟩
      rcases List.mem_cons.1 hy with rfl | hy
      · exact hp
      · exact hm y hy
  obtain ⟨m, rfl, hm⟩ := key l he
  exact ⟨m, rfl, by simpa using hl, hm⟩
section
variable {H : Type} {enc : TypeId × Value → H} {P : Program} {w : World} {sp : Nat → Bool} {held : Bool}

theorem fields_in {n m : Nat} (ih : ∀ {t : TypeId} {cs : List Value} {x : DataW H × List MemPlace}, shapeOK P n t = true → DataW.trod enc P w 0 sp held m t cs = some x → ∃ ds, RepL (Old w) w ds cs ∧ okT P n t ds ∧ bulkL ds ≤ Rows.uptoBulk x.1)
    {cs : List Value} : ∀ (fs : List Field) (off : Nat) (xs : List (DataW H × List MemPlace)), tiles P off fs cs.length = true → fs.all (fun f => shapeOK P n f.type) = true → xs.length = fs.length →
      (∀ (i : Nat) (f : Field), fs[i]? = some f → DataW.trod enc P w 0 sp held m f.type ((cs.drop f.offset).take (P.cellsOf f.type)) = xs[i]?) →
      ∃ ds, RepL (Old w) w ds (cs.drop off) ∧ okFs (okT P n) fs ds ∧ bulkL ds ≤ Rows.uptoBulkAll (xs.map (·.1))
  | [], off, xs, ht, _, hl, _ => by
    simp only [tiles, beq_iff_eq] at ht
    have : xs = [] := List.eq_nil_of_length_eq_zero (by simpa using hl)
    subst this
    exact ⟨[], by simp [RepL, ht], rfl, by simp [bulkL]⟩
  | f :: fs, off, xs, ht, hs, hl, hx => by
    simp only [tiles, Bool.and_eq_true, beq_iff_eq] at ht
    simp only [List.all_cons, Bool.and_eq_true] at hs
    match xs, hl with
    | x :: xs, hl =>
      have h0 := hx 0 f rfl
      obtain ⟨d1, r1, o1, b1⟩ := ih hs.1 h0
      obtain ⟨d2, r2, o2, b2⟩ := fields_in ih fs (off + P.cellsOf f.type) xs ht.2 hs.2 (by simpa using hl) fun i g hg => by
        have := hx (i + 1) g (by simpa using hg)
        simpa using this
      refine ⟨d1 ++ d2, ?_, ⟨d1, d2, rfl, o1, o2⟩, ?_⟩
      · have := repL_app r1 r2
        rw [ht.1, ← List.drop_drop] at this
        rwa [List.take_append_drop] at this
      · rw [bulkL_app, List.map_cons]
        simp only [Rows.uptoBulkAll]
        omega
theorem array_in {n m c : Nat} {e : TypeId} (ih : ∀ {cs : List Value} {x : DataW H × List MemPlace}, DataW.trod enc P w 0 sp held m e cs = some x → ∃ ds, RepL (Old w) w ds cs ∧ okT P n e ds ∧ bulkL ds ≤ Rows.uptoBulk x.1) :
    ∀ (k : Nat) {cs : List Value} (xs : List (DataW H × List MemPlace)), cs.length = k * c → xs.length = k →
      (∀ (i : Nat), i < k → DataW.trod enc P w 0 sp held m e ((cs.drop (i * c)).take c) = xs[i]?) →
      ∃ ds, RepL (Old w) w ds cs ∧ okRep (okT P n e) k ds ∧ bulkL ds ≤ Rows.uptoBulkAll (xs.map (·.1))
  | 0, cs, xs, hc, hl, _ => by
    have : xs = [] := List.eq_nil_of_length_eq_zero hl
    subst this
    have : cs = [] := List.eq_nil_of_length_eq_zero (by omega)
    subst this
    exact ⟨[], by simp [RepL], rfl, by simp [bulkL]⟩
  | k + 1, cs, xs, hc, hl, hx => by
    match xs, hl with
    | x :: xs, hl =>
      have h0 := hx 0 (by omega)
      simp only [Nat.zero_mul, List.drop_zero, List.getElem?_cons_zero] at h0
      obtain ⟨d1, r1, o1, b1⟩ := ih h0
      obtain ⟨d2, r2, o2, b2⟩ := array_in (c := c) ih k (cs := cs.drop c) xs (by rw [List.length_drop, hc, Nat.succ_mul]; omega) (by simpa using hl) fun i hi => by
        have := hx (i + 1) (by omega)
        rw [List.drop_drop, show c + i * c = (i + 1) * c by rw [Nat.succ_mul]; omega]
        simpa using this
      refine ⟨d1 ++ d2, ?_, ⟨d1, d2, rfl, o1, o2⟩, ?_⟩
      · have := repL_app r1 r2
        rwa [List.take_append_drop] at this
      · rw [bulkL_app, List.map_cons]
        simp only [Rows.uptoBulkAll]
        omega
theorem bulk_list {P : Program} {e : TypeId} {f : Nat → Dat} {xs : List (DataW H × List MemPlace)} (h : ∀ i x, xs[i]? = some x → bulkD (f i) ≤ Rows.uptoBulk x.1) : bulkL ((List.range xs.length).map f) ≤ Rows.uptoBulkAll (xs.map (·.1)) := by
  induction xs generalizing f with
  | nil => simp [bulkL]
  | cons x xs ih =>
    have h0 := h 0 x rfl
    have h1 := ih (f := fun i => f (i + 1)) fun i y hy => h (i + 1) y (by simpa using hy)
    rw [List.length_cons, List.range_succ_eq_map, List.map_cons, List.map_map, bulkL, List.map_cons]
    simp only [Rows.uptoBulkAll]
    have : ((List.range xs.length).map (f ∘ Nat.succ)) = (List.range xs.length).map (fun i => f (i + 1)) := rfl
    rw [this]
    omega
theorem reads_of : ∀ (n : Nat) {t : TypeId} {cs : List Value} {x : DataW H × List MemPlace} {m : Nat}, shapeOK P n t = true → DataW.trod enc P w 0 sp held m t cs = some x → ∃ ds, RepL (Old w) w ds cs ∧ okT P n t ds ∧ bulkL ds ≤ Rows.uptoBulk x.1
  | 0, _, _, _, _, h, _ => by simp [shapeOK] at h
  | n + 1, t, cs, x, m, hs, h => by
    unfold shapeOK at hs
    unfold okT
    split at hs
    · rename_i k ht
      obtain ⟨z, rfl, rfl, hw⟩ := DataW.trod_int ht h
      exact ⟨[.int k z], by simp [RepL, Rep1], ⟨z, rfl, hw⟩, by simp [bulkL, bulkD, Rows.uptoBulk]⟩
    · rename_i ht
      obtain ⟨z, rfl, rfl⟩ := DataW.trod_bool ht h
      exact ⟨[.bool z], by simp [RepL, Rep1], ⟨z, rfl⟩, by simp [bulkL, bulkD, Rows.uptoBulk]⟩
    · rename_i ht
      obtain ⟨z, rfl, rfl, hw⟩ := DataW.trod_string ht h
      exact ⟨[.str z], by simp [RepL, Rep1], ⟨z, rfl, hw⟩, by simp [bulkL, bulkD, Rows.uptoBulk]⟩
    · rename_i e ht
      simp only [Bool.and_eq_true, decide_eq_true_eq, Bool.or_eq_true, beq_iff_eq] at hs
      obtain ⟨⟨hse, hc0⟩, hc1⟩ := hs
      rcases DataW.trod_slice ht h with ⟨rfl, rfl⟩ | ⟨a, len, cap, elems, rest, k, _, rfl, rfl, _, hlc, hcm, hlen, hel, _, _⟩
      · exact ⟨[.sl []], by simp [RepL, Rep1, RepS], ⟨[], rfl, by simp, by simp⟩, by simp [bulkL, bulkD, Rows.uptoBulk]⟩
      · have each : ∀ i, i < len → ∃ ds csi, ∃ y, elems[i]? = some y ∧ w.cells? 0 (a.add (i * P.cellsOf e)) (P.cellsOf e) = some csi ∧ RepL (Old w) w ds csi ∧ okT P n e ds ∧ bulkL ds ≤ Rows.uptoBulk y.1 := fun i hi => by
          have h2 := hel i hi
          rw [List.getElem?_eq_getElem (by omega), Option.bind_eq_some_iff] at h2
          obtain ⟨csi, h3, h4⟩ := h2
          obtain ⟨ds, r, o, b⟩ := reads_of n hse h4
          exact ⟨ds, csi, _, List.getElem?_eq_getElem (by omega), h3, r, o, b⟩
        have hs0 : 0 < len → a.spot = none ∧ a.block < w.heap.size := fun h0 => by
          obtain ⟨ds, csi, y, _, h3, _⟩ := each 0 h0
          have h5 := (World.cells?_some h3)
          have c0 := h5.2.2 0 hc0
          rw [List.getElem?_eq_getElem (by omega)] at c0
          rw [Nat.zero_mul] at c0
          have hsp := add_spot (add_spot (cell_spot c0).1)
          have hb := (cell_spot c0).2
          rw [addr_none hsp, addr_none rfl] at hb
          exact ⟨hsp, hb⟩
        let g : Nat → List Dat := fun i => if hi : i < len then (each i hi).choose else []
        have hg : ∀ i, i < len → ∃ csi, ∃ y, elems[i]? = some y ∧ w.cells? 0 (a.add (i * P.cellsOf e)) (P.cellsOf e) = some csi ∧ RepL (Old w) w (g i) csi ∧ okT P n e (g i) ∧ bulkL (g i) ≤ Rows.uptoBulk y.1 := fun i hi => by
          simp only [g, dif_pos hi]
          exact (each i hi).choose_spec
        refine ⟨[.sl ((List.range len).map fun i => elD P e (g i))], ?_, ⟨_, rfl, by simp; omega, fun d hd => ?_⟩, ?_⟩
        · simp only [RepL, Rep1]
          refine ⟨_, _, rfl, ⟨P.cellsOf e, some a, cap, by simp, by simp; omega, ?_⟩, rfl⟩
          by_cases h0 : len = 0
          · subst h0; simp [RepS]
          · obtain ⟨hsp, hb⟩ := hs0 (by omega)
            have ha : a = ⟨a.block, a.off, none⟩ := by
              obtain ⟨b, o, s⟩ := a
              simp only at hsp
              subst hsp
              rfl
            rw [ha]
            refine repS_of fun i d hd => ?_
            have hi : i < len := by simpa using (List.getElem?_eq_some_iff.1 hd).1
            rw [List.getElem?_map, List.getElem?_range hi, Option.map_some, Option.some.injEq] at hd
            subst hd
            obtain ⟨csi, y, _, h3, hr, ho, _⟩ := hg i hi
            have h5 := World.cells?_some h3
            have hcell : ∀ j v, csi[j]? = some v → Old w a.block (a.off + i * P.cellsOf e + j) ∧ w.cell? ⟨a.block, a.off + i * P.cellsOf e + j, none⟩ = some v := fun j v hv => by
              have hj : j < P.cellsOf e := by have := (List.getElem?_eq_some_iff.1 hv).1; omega
              have := h5.2.2 j hj
              rw [addr_none hsp, addr_none rfl, hv] at this
              exact ⟨hb, this⟩
            have hcl : (g i).length = P.cellsOf e := by rw [← repL_len hr]; exact h5.2.1
            have hrc := repC_of hr hcell
            unfold elD
            split
            · exact ⟨by simpa using hcl, by simpa using hrc⟩
            · rename_i hna
              have h1 := okT_one ho (by simpa using hna)
              match hgi : g i, h1 with
              | [d], _ =>
                rw [hgi] at hr hrc hcl
                have hnd := (repL_noagg hr).1
                simp only [List.headD_cons]
                rw [cells_noagg hnd]
                exact ⟨by simpa using hcl, hrc⟩
        · obtain ⟨i, hi, rfl⟩ := List.mem_map.1 hd
          obtain ⟨csi, y, _, h3, hr, ho, _⟩ := hg i (List.mem_range.1 hi)
          exact ⟨g i, ho, rfl⟩
        · have hb : bulkL ((List.range len).map fun i => elD P e (g i)) ≤ Rows.uptoBulkAll (elems.map (·.1)) := by
            rw [← hlen]
            refine bulk_list (P := P) (e := e) fun i y hy => ?_
            have hi : i < len := by rw [← hlen]; exact (List.getElem?_eq_some_iff.1 hy).1
            obtain ⟨csi, y', hy', _, _, ho, hbb⟩ := hg i hi
            rw [hy] at hy'
            cases hy'
            refine Nat.le_trans (bulk_el ?_) hbb
            by_cases hag : isAggT P e = true
            · exact .inl hag
            · exact .inr (okT_one ho (by simpa using hag))
          simp only [bulkL, bulkD, Rows.uptoBulk]
          omega
    · rename_i fs ht
      simp only [Bool.and_eq_true] at hs
      obtain ⟨xs, k, _, rfl, hl, hn, hx⟩ := DataW.trod_struct ht h
      obtain ⟨ds, r, o, b⟩ := fields_in (fun hs' h' => reads_of n hs' h') (cs := cs) fs.toList 0 xs (by rw [hl]; exact hs.2) hs.1 (by simpa using hn) (fun i f hf => hx i f (by simpa using hf))
      refine ⟨ds, by simpa using r, o, ?_⟩
      simp only [Rows.uptoBulk]
      omega
    · rename_i k e ht
      simp only [Bool.and_eq_true, beq_iff_eq] at hs
      obtain ⟨xs, j, _, rfl, hl, hn, hx⟩ := DataW.trod_array ht h
      obtain ⟨ds, r, o, b⟩ := array_in (c := P.cellsOf e) (fun h' => reads_of n hs.1 h') k (cs := cs) xs (by rw [hl, hs.2]) hn hx
      refine ⟨ds, r, o, ?_⟩
      simp only [Rows.uptoBulk]
      omega
    · cases hs
/-- A struct that is handed over. -/
theorem struct_in (n : Nat) {r : Reach} {base : Nat} {t : TypeId} {v : Value} {d : DataW H} {ps : List MemPlace} (ha : isAggT P t = true) (hs : shapeOK P n t = true) (hv : Value.okWide P w r base t v) (hd : DataW.Trod enc P w 0 sp held t v d ps) :
    ∃ ds, okT P n t ds ∧ RepX (Old w) w (.agg ds) v ∧ bulkL ds ≤ Rows.uptoBulk d := by
  obtain ⟨m, hd⟩ := hd
  have hv' : ∃ cs, v = .agg cs := by
    unfold isAggT at ha
    unfold Value.okWide at hv
    split at hv
    · obtain ⟨cs, h, _⟩ := hv; exact ⟨cs, h⟩
    · obtain ⟨cs, h, _⟩ := hv; exact ⟨cs, h⟩
    · rename_i h1 h2
      split at ha
      · rename_i fs hu; exact absurd hu (h1 fs)
      · rename_i k e hu; exact absurd hu (h2 k e)
      · cases ha
  obtain ⟨cs, rfl⟩ := hv'
  obtain ⟨ds, h1, h2, h3⟩ := reads_of n hs hd
  refine ⟨ds, h2, ?_, h3⟩
  simp only [RepX]
  exact ⟨cs, rfl, h1⟩
/-- A slice that is handed over. -/
theorem slice_in (n : Nat) {r : Reach} {base : Nat} {t e : TypeId} {v : Value} {d : DataW H} {ps : List MemPlace} (ht : P.underlying t = some (.slice e)) (hs : shapeOK P n t = true) (hv : Value.okWide P w r base t v) (hd : DataW.Trod enc P w 0 sp held t v d ps) :
    ∃ l, okT P n t [.sl l] ∧ RepX (Old w) w (.sl l) v ∧ bulkL l < Rows.uptoBulk d := by
  obtain ⟨m, hd⟩ := hd
  obtain ⟨a, len, cap, rfl⟩ := slice_of ht hv
  obtain ⟨ds, h1, h2, h3⟩ := reads_of n hs hd
  have h2' := h2
  cases n with
  | zero => exact h2.elim
  | succ n =>
    unfold okT at h2'
    rw [ht] at h2'
    obtain ⟨l, rfl, _⟩ := h2'
    obtain ⟨_, v, hv, hr⟩ := repL_noagg h1
    simp [Value.cells] at hv
    subst hv
    refine ⟨l, h2, repX_of_rep1 hr, ?_⟩
    simp only [bulkL, bulkD] at h3
    omega
end
end Go.Proofs.Ytabjaaonfaejmaa

namespace Go.Proofs.Ytabjaaonfaejmaa
open Go.Av

set_option maxRecDepth 100000 in
theorem okI {n : Nat} {ds : List Dat} (h : okT Try.prog (n + 1) 3 ds) : ∃ m, ds = [iD m] ∧ I64 m := by
  obtain ⟨m, rfl, hw⟩ := okT_int (P := Try.prog) (n := n) (t := 3) (ds := ds) Try.underlying3 h
  exact ⟨m, rfl, wf_i64 hw⟩
set_option maxRecDepth 100000 in
theorem name_of {n : Nat} {ds : List Dat} (h : okT Try.prog (n + 2) 55 ds) : ∃ nm : NameM, Dat.agg ds = nameD nm ∧ I64 nm.By ∧ I64 nm.Seq := by
  obtain ⟨a, b, rfl, h1, c, d, rfl, h2, rfl⟩ := okT_struct (P := Try.prog) (n := n + 1) (t := 55) (ds := ds) Try.underlying55 h
  obtain ⟨x, rfl, hx⟩ := okI h1
  obtain ⟨y, rfl, hy⟩ := okI h2
  exact ⟨⟨x, y⟩, rfl, hx, hy⟩
end Go.Proofs.Ytabjaaonfaejmaa

namespace Go.Proofs.Ytabjaaonfaejmaa
open Go.Av

theorem bulk_map {α : Type} {f : α → Dat} {c : α → Nat} : ∀ {l : List α}, (∀ x, c x ≤ bulkD (f x)) → (l.map c).sum ≤ bulkL (l.map f)
  | [], _ => by simp [bulkL]
  | x :: l, h => by
    have h1 := bulk_map (l := l) h
    have h2 := h x
    rw [List.map_cons, List.sum_cons, List.map_cons, bulkL]
    omega
theorem sum_one {α : Type} {c : α → Nat} (h : ∀ x, c x = 1) : ∀ l : List α, (l.map c).sum = l.length
  | [] => rfl
  | x :: l => by rw [List.map_cons, List.sum_cons, sum_one h l, h, List.length_cons]; omega
theorem bulk_len {α : Type} {f : α → Dat} (l : List α) (h : ∀ x, 1 ≤ bulkD (f x)) : l.length ≤ bulkL (l.map f) := by
  have h1 := bulk_map (l := l) (c := fun _ => 1) h
  rw [sum_one (fun _ => rfl)] at h1
  exact h1
theorem sum_add {α : Type} {c d : α → Nat} : ∀ l : List α, (l.map fun x => c x + d x).sum = (l.map c).sum + (l.map d).sum
  | [] => rfl
  | x :: l => by simp only [List.map_cons, List.sum_cons, sum_add l]; omega
theorem bulk_strs (l : List ByteArray) : l.length + szN ByteArray.size l l.length ≤ bulkL (l.map .str) := by
  have h1 := bulk_map (l := l) (f := .str) (c := fun s => 1 + s.size) (fun s => by simp [bulkD]; omega)
  rw [sum_add, sum_one (fun _ => rfl)] at h1
  rw [szN, List.take_length]
  exact h1
theorem bulk_posts (l : List PostM) : l.length + szN postN l l.length ≤ bulkL (l.map postD) := by
  have h1 := bulk_map (l := l) (f := postD) (c := fun s => 1 + postN s) (fun p => by
    have := bulk_strs p.Path
    have e : postN p = p.Path.length + szN ByteArray.size p.Path p.Path.length := rfl
    simp only [postD, bulkD, bulkL]
    omega)
  rw [sum_add, sum_one (fun _ => rfl)] at h1
  rw [szN, List.take_length]
  exact h1
theorem bulk_ev {e : EventM} {ds : List Dat} (h : Dat.agg ds = eventD e) : totM e ≤ bulkL ds := by
  simp only [eventD, Dat.agg.injEq] at h
  subst h
  have h1 := bulk_strs e.Op.Texts
  have h2 := bulk_strs e.Term.Broader
  have h3 := bulk_posts e.Posts
  have h4 := bulk_len (f := nameD) e.Refs (fun x => by simp [bulkD, bulkL])
  have h5 := bulk_len (f := pairD) e.Op.Pairs (fun x => by simp [bulkD, bulkL])
  have h6 := bulk_len (f := idD) e.Op.Refs (fun x => by simp [bulkD, bulkL])
  simp only [bulkL, bulkD]
  unfold totM a3M a2M a1M n0M
  omega
set_option maxRecDepth 100000 in
theorem id_of {n : Nat} {ds : List Dat} (h : okT Try.prog (n + 2) 25 ds) : ∃ i : IdM, ds = idL i ∧ idOK i := by
  obtain ⟨a, b, rfl, h1, c, d, rfl, h2, e, f, rfl, h3, rfl⟩ := okT_struct Try.underlying25 h
  obtain ⟨x, rfl, hx⟩ := okI h1
  obtain ⟨y, rfl, hy⟩ := okI h2
  obtain ⟨z, rfl, hz⟩ := okI h3
  exact ⟨⟨x, y, z⟩, rfl, hx, hy, hz⟩
set_option maxRecDepth 100000 in
theorem strs_of {n : Nat} {ds : List Dat} (h : okT Try.prog (n + 2) 28 ds) : ∃ l : List ByteArray, ds = [ssD l] := by
  obtain ⟨l, rfl, _, _⟩ := okT_list (f := Dat.str) (p := fun _ => True) Try.underlying28 h (fun es he => by
    obtain ⟨s, rfl, _⟩ := okT_str Try.underlying9 he
    exact ⟨s, by unfold elD isAggT; rw [Try.underlying9]; rfl, trivial⟩)
  exact ⟨l, rfl⟩
set_option maxRecDepth 100000 in
theorem agg55 (es : List Dat) : elD Try.prog 55 es = .agg es := by unfold elD isAggT; rw [Try.underlying55]; rfl
set_option maxRecDepth 100000 in
theorem agg25 (es : List Dat) : elD Try.prog 25 es = .agg es := by unfold elD isAggT; rw [Try.underlying25]; rfl
set_option maxRecDepth 100000 in
theorem agg75 (es : List Dat) : elD Try.prog 75 es = .agg es := by unfold elD isAggT; rw [Try.underlying75]; rfl
set_option maxRecDepth 100000 in
theorem names_of {n : Nat} {ds : List Dat} (h : okT Try.prog (n + 3) 23 ds) : ∃ l : List NameM, ds = [namesD l] ∧ ∀ r ∈ l, I64 r.By ∧ I64 r.Seq := by
  obtain ⟨l, rfl, _, hl⟩ := okT_list (f := nameD) (p := fun r : NameM => I64 r.By ∧ I64 r.Seq) Try.underlying23 h (fun es he => by
    obtain ⟨nm, h1, h2⟩ := name_of he
    exact ⟨nm, by rw [agg55]; exact h1, h2⟩)
  exact ⟨l, rfl, hl⟩
set_option maxRecDepth 100000 in
theorem ids_of {n : Nat} {ds : List Dat} (h : okT Try.prog (n + 3) 30 ds) : ∃ l : List IdM, ds = [idsD l] ∧ ∀ r ∈ l, idOK r := by
  obtain ⟨l, rfl, _, hl⟩ := okT_list (f := idD) (p := idOK) Try.underlying30 h (fun es he => by
    obtain ⟨nm, h1, h2⟩ := id_of he
    exact ⟨nm, by rw [agg25, h1], h2⟩)
  exact ⟨l, rfl, hl⟩
set_option maxRecDepth 100000 in
theorem pairs_of {n : Nat} {ds : List Dat} (h : okT Try.prog (n + 3) 29 ds) : ∃ l : List (Int × Int), ds = [pairsD l] ∧ ∀ p ∈ l, I64 p.1 ∧ I64 p.2 := by
  obtain ⟨l, rfl, _, hl⟩ := okT_list (f := pairD) (p := fun p : Int × Int => I64 p.1 ∧ I64 p.2) Try.underlying29 h (fun es he => by
    obtain ⟨a, b, rfl, h1, c, d, rfl, h2, rfl⟩ := okT_array Try.underlying107 he
    obtain ⟨x, rfl, hx⟩ := okI h1
    obtain ⟨y, rfl, hy⟩ := okI h2
    exact ⟨(x, y), by unfold elD isAggT; rw [Try.underlying107]; rfl, hx, hy⟩)
  exact ⟨l, rfl, hl⟩
set_option maxRecDepth 100000 in
theorem post_of {n : Nat} {ds : List Dat} (h : okT Try.prog (n + 3) 75 ds) : ∃ p : PostM, .agg ds = postD p ∧ idOK p.ID := by
  obtain ⟨a, b, rfl, h1, c, d, rfl, h2, e, f, rfl, h3, rfl⟩ := okT_struct Try.underlying75 h
  obtain ⟨i, rfl, hi⟩ := id_of h1
  obtain ⟨l, rfl⟩ := strs_of h2
  obtain ⟨m, rfl⟩ := okT_bool Try.underlying4 h3
  exact ⟨⟨i, l, m⟩, rfl, hi⟩
set_option maxRecDepth 100000 in
theorem posts_of {n : Nat} {ds : List Dat} (h : okT Try.prog (n + 4) 35 ds) : ∃ l : List PostM, ds = [postsD l] ∧ ∀ p ∈ l, idOK p.ID := by
  obtain ⟨l, rfl, _, hl⟩ := okT_list (f := postD) (p := fun p : PostM => idOK p.ID) Try.underlying35 h (fun es he => by
    obtain ⟨p, h1, h2⟩ := post_of he
    exact ⟨p, by rw [agg75, h1], h2⟩)
  exact ⟨l, rfl, hl⟩
set_option maxRecDepth 100000 in
theorem spot_of {n : Nat} {ds : List Dat} (h : okT Try.prog (n + 2) 27 ds) : ∃ i : SpotM, ds = [iD i.Volume, iD i.Article, iD i.Index] ∧ I64 i.Volume ∧ I64 i.Article ∧ I64 i.Index := by
  obtain ⟨a, b, rfl, h1, c, d, rfl, h2, e, f, rfl, h3, rfl⟩ := okT_struct Try.underlying27 h
  obtain ⟨x, rfl, hx⟩ := okI h1
  obtain ⟨y, rfl, hy⟩ := okI h2
  obtain ⟨z, rfl, hz⟩ := okI h3
  exact ⟨⟨x, y, z⟩, rfl, hx, hy, hz⟩
set_option maxRecDepth 100000 in
theorem op_of {n : Nat} {ds : List Dat} (h : okT Try.prog (n + 4) 32 ds) : ∃ o : OpM, .agg ds = opD o ∧ (∀ x ∈ headL o, I64 x) ∧ (∀ p ∈ o.Pairs, I64 p.1 ∧ I64 p.2) ∧ ∀ r ∈ o.Refs, idOK r := by
  obtain ⟨a1, b1, rfl, h1, a2, b2, rfl, h2, a3, b3, rfl, h3, a4, b4, rfl, h4, a5, b5, rfl, h5, a6, b6, rfl, h6, a7, b7, rfl, h7, a8, b8, rfl, h8, a9, b9, rfl, h9, a10, b10, rfl, h10, a11, b11, rfl, h11, rfl⟩ := okT_struct Try.underlying32 h
  obtain ⟨k, rfl, hk⟩ := okI h1
  obtain ⟨i, rfl, hi⟩ := id_of h2
  obtain ⟨t, rfl, ht⟩ := id_of h3
  obtain ⟨s, rfl, hs⟩ := spot_of h4
  obtain ⟨m, rfl, hm⟩ := okI h5
  obtain ⟨f, rfl, hf⟩ := okI h6
  obtain ⟨l, rfl, hl⟩ := okI h7
  obtain ⟨x, rfl, _⟩ := okT_str Try.underlying9 h8
  obtain ⟨xs, rfl⟩ := strs_of h9
  obtain ⟨ps, rfl, hp⟩ := pairs_of h10
  obtain ⟨rs, rfl, hr⟩ := ids_of h11
  refine ⟨⟨k, i, t, s, m, f, l, x, xs, ps, rs⟩, rfl, ?_, hp, hr⟩
  intro y hy
  simp only [headL, List.mem_cons, List.not_mem_nil, or_false] at hy
  rcases hy with rfl | rfl | rfl | rfl | rfl | rfl | rfl | rfl | rfl | rfl | rfl | rfl | rfl
  · exact hk
  · exact hi.1
  · exact hi.2.1
  · exact hi.2.2
  · exact ht.1
  · exact ht.2.1
  · exact ht.2.2
  · exact hs.1
  · exact hs.2.1
  · exact hs.2.2
  · exact hm
  · exact hf
  · exact hl
set_option maxRecDepth 100000 in
theorem term_of {n : Nat} {ds : List Dat} (h : okT Try.prog (n + 3) 34 ds) : ∃ o : TermM, .agg ds = termD o ∧ I64 o.Kind ∧ I64 o.Lang := by
  obtain ⟨a1, b1, rfl, h1, a2, b2, rfl, h2, a3, b3, rfl, h3, a4, b4, rfl, h4, a5, b5, rfl, h5, rfl⟩ := okT_struct Try.underlying34 h
  obtain ⟨x, rfl, _⟩ := okT_str Try.underlying9 h1
  obtain ⟨k, rfl, hk⟩ := okI h2
  obtain ⟨m, rfl, hm⟩ := okI h3
  obtain ⟨y, rfl, _⟩ := okT_str Try.underlying9 h4
  obtain ⟨xs, rfl⟩ := strs_of h5
  exact ⟨⟨x, k, m, y, xs⟩, rfl, hk, hm⟩
set_option maxRecDepth 100000 in
theorem event_of {n : Nat} {ds : List Dat} (h : okT Try.prog (n + 5) 37 ds) : ∃ e : EventM, .agg ds = eventD e ∧ RawEv e := by
  obtain ⟨a1, b1, rfl, h1, a2, b2, rfl, h2, a3, b3, rfl, h3, a4, b4, rfl, h4, a5, b5, rfl, h5, a6, b6, rfl, h6, a7, b7, rfl, h7, a8, b8, rfl, h8, a9, b9, rfl, h9, a10, b10, rfl, h10, rfl⟩ := okT_struct Try.underlying37 h
  obtain ⟨b, rfl, hb⟩ := okI h1
  obtain ⟨s, rfl, hs⟩ := okI h2
  obtain ⟨t, rfl, ht⟩ := okI h3
  obtain ⟨k, rfl, hk⟩ := okI h4
  obtain ⟨rs, rfl, hr⟩ := names_of h5
  obtain ⟨o, ho, o1, o2, o3⟩ := op_of h6
  obtain ⟨tm, htm, t1, t2⟩ := term_of h7
  obtain ⟨i, rfl, hi⟩ := id_of h8
  obtain ⟨ps, rfl, hp⟩ := posts_of h9
  obtain ⟨m, rfl, hm⟩ := okI h10
  simp only [opD, Dat.agg.injEq] at ho
  simp only [termD, Dat.agg.injEq] at htm
  subst ho htm
  exact ⟨⟨b, s, t, k, rs, o, tm, i, ps, m⟩, rfl, hb, hs, ht, hk, hm, hi, t1, t2, hr, o1, o2, o3, hp⟩
end Go.Proofs.Ytabjaaonfaejmaa

