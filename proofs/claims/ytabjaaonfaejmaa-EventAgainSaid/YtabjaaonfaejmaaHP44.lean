/- Contracts: event.Closed. -/
import Derived.Test.YtabjaaonfaejmaaHP43
import Derived.Test.YtabjaaonfaejmaaHAv49
import Derived.Test.YtabjaaonfaejmaaHAv50
import Derived.Test.YtabjaaonfaejmaaHAv43
import Derived.Test.YtabjaaonfaejmaaHAv51
set_option linter.all false
namespace Go.Proofs.Ytabjaaonfaejmaa
open Go.Av
theorem eqS2_55 : eqS2 Try.prog 55 := by unfold eqS2; kernel_rfl
theorem under3 : Try.prog.underlying 3 = some (.int .i64) := by kernel_rfl
theorem zero3 : (Try.prog.info? 3).bind (·.zero) = some (.int .i64 0) := by kernel_rfl
theorem lkA_t (z : Dat) (r : Option Dat) : lkA true z r = .tup [.dat (r.getD z), .dat (.bool r.isSome)] := rfl
theorem lkA_f (z : Dat) (r : Option Dat) : lkA false z r = .dat (r.getD z) := rfl
def entL (e : EventM) (n : Nat) : List (Nat × Nat × AV) := [(0, 94, .mp 20), (1, 95, .dat (eventD e)), (2, 96, .dat (nameD (evName e))), (3, 97, .mp 22), (4, 98, .rp (eventD e) 0), (5, 99, .dat (iD e.By)), (6, 100, .rp (eventD e) 2), (7, 101, .dat (iD e.Tick)), (8, 102, .rp (eventD e) 2), (9, 103, .dat (iD e.Tick)), (10, 104, .tup [.dat (iD 0), .dat (iD n)]), (11, 105, .dat (iD n))]
theorem entL_slots (e : EventM) (n : Nat) : (entL e n).map (·.2.1) = [94, 95, 96, 97, 98, 99, 100, 101, 102, 103, 104, 105] := rfl
theorem entL_ops (e : EventM) (n : Nat) : (entL e n).map (·.1) = [0, 1, 2, 3, 4, 5, 6, 7, 8, 9, 10, 11] := rfl
def ent1 (e : EventM) (k1 v1 : List Dat) (D : Nat → Bool) : AObj := if D 12 = true then mapO' (k1 ++ [nameD (evName e)]) (v1 ++ [iD e.Tick]) else if D 10 = true then mapO' (k1 ++ [nameD (evName e)]) (v1 ++ [iD 0]) else mapO' k1 v1
def ent3 (e : EventM) (k3 v3 : List Dat) (D : Nat → Bool) : AObj := if D 13 = true then mapO' (putK k3 (iD e.By)) (putV k3 v3 (iD e.By) (iD e.Tick)) else mapO' k3 v3
def entI (st : ASt) (e : EventM) (k1 v1 k3 v3 : List Dat) (D : Nat → Bool) : ASt := { env := envD D st.env (entL e k1.length), objs := fun id => if id = 20 then some (ent1 e k1 v1 D) else if id = 22 then some (ent3 e k3 v3 D) else st.objs id }
theorem entI_off {st : ASt} {e : EventM} {k1 v1 k3 v3 : List Dat} {D : Nat → Bool} {n : Nat} (h : n < 94) : (entI st e k1 v1 k3 v3 D).env n = st.env n :=
  envD_off fun p hp => by
    have : p.2.1 ∈ (entL e k1.length).map (·.2.1) := List.mem_map.2 ⟨p, hp, rfl⟩
    rw [entL_slots] at this
    intro hn
    rw [hn] at this
    simp at this
    omega
theorem entI_get {st : ASt} {e : EventM} {k1 v1 k3 v3 : List Dat} {D : Nat → Bool} {i d : Nat} {v : AV} (hD : D i = true) (h : (entL e k1.length)[i]? = some (i, d, v)) : (entI st e k1 v1 k3 v3 D).env d = v :=
  envD_get hD (List.mem_of_getElem? h) (by rw [entL_slots]; decide)
theorem entI_put {st : ASt} {e : EventM} {k1 v1 k3 v3 : List Dat} {D : Nat → Bool} {i d : Nat} {v : AV} (h : (entL e k1.length)[i]? = some (i, d, v)) (hi : i ≠ 10 ∧ i ≠ 12 ∧ i ≠ 13) : (entI st e k1 v1 k3 v3 D).put (some d) v = entI st e k1 v1 k3 v3 (addD D i) := by
  have h1 : ent1 e k1 v1 (addD D i) = ent1 e k1 v1 D := by simp [ent1, addD, Ne.symm hi.1, Ne.symm hi.2.1]
  have h3 : ent3 e k3 v3 (addD D i) = ent3 e k3 v3 D := by simp [ent3, addD, Ne.symm hi.2.2]
  unfold entI
  rw [h1, h3]
  simp only [ASt.put]
  rw [envD_add (List.mem_of_getElem? h) (by rw [entL_slots]; decide) (by rw [entL_ops]; decide)]
theorem entI_10 {st : ASt} {e : EventM} {k1 v1 k3 v3 : List Dat} {D : Nat → Bool} (hD : D 12 = false) :
    ((entI st e k1 v1 k3 v3 D).obj 20 (mapO' (k1 ++ [nameD (evName e)]) (v1 ++ [iD 0]))).put (some 104) (.tup [.dat (iD 0), .dat (iD k1.length)]) = entI st e k1 v1 k3 v3 (addD D 10) := by
  have h1 : ent1 e k1 v1 (addD D 10) = mapO' (k1 ++ [nameD (evName e)]) (v1 ++ [iD 0]) := by simp [ent1, addD, hD]
  have h3 : ent3 e k3 v3 (addD D 10) = ent3 e k3 v3 D := by simp [ent3, addD]
  unfold entI
  rw [h1, h3]
  simp only [ASt.put, ASt.obj]
  rw [envD_add (i := 10) (List.mem_of_getElem? (i := 10) rfl) (by rw [entL_slots]; decide) (by rw [entL_ops]; decide)]
  congr 1
  funext id
  simp only [upd_apply]
  split <;> rfl
theorem envD_no {D : Nat → Bool} {base : Nat → AV} {i : Nat} {l : List (Nat × Nat × AV)} (h : i ∉ l.map (·.1)) : envD (addD D i) base l = envD D base l := envD_add.envD_same h
theorem entI_12 {st : ASt} {e : EventM} {k1 v1 k3 v3 : List Dat} {D : Nat → Bool} :
    (entI st e k1 v1 k3 v3 D).obj 20 (mapO' (k1 ++ [nameD (evName e)]) (v1 ++ [iD e.Tick])) = entI st e k1 v1 k3 v3 (addD D 12) := by
  have h1 : ent1 e k1 v1 (addD D 12) = mapO' (k1 ++ [nameD (evName e)]) (v1 ++ [iD e.Tick]) := by simp [ent1, addD]
  have h3 : ent3 e k3 v3 (addD D 12) = ent3 e k3 v3 D := by simp [ent3, addD]
  unfold entI
  rw [h1, h3, envD_no (by rw [entL_ops]; decide)]
  simp only [ASt.obj]
  congr 1
  funext id
  simp only [upd_apply]
  split <;> rfl
theorem entI_13 {st : ASt} {e : EventM} {k1 v1 k3 v3 : List Dat} {D : Nat → Bool} :
    (entI st e k1 v1 k3 v3 D).obj 22 (mapO' (putK k3 (iD e.By)) (putV k3 v3 (iD e.By) (iD e.Tick))) = entI st e k1 v1 k3 v3 (addD D 13) := by
  have h1 : ent1 e k1 v1 (addD D 13) = ent1 e k1 v1 D := by simp [ent1, addD]
  have h3 : ent3 e k3 v3 (addD D 13) = mapO' (putK k3 (iD e.By)) (putV k3 v3 (iD e.By) (iD e.Tick)) := by simp [ent3, addD]
  unfold entI
  rw [h1, h3, envD_no (by rw [entL_ops]; decide)]
  simp only [ASt.obj]
  congr 1
  funext id
  simp only [upd_apply]
  by_cases h : id = 22
  · subst h; rfl
  · simp [h]
theorem entI_none {st : ASt} {e : EventM} {k1 v1 k3 v3 : List Dat} {D : Nat → Bool} (h : ∀ i, i < 14 → D i = false) (h1 : st.objs 20 = some (mapO' k1 v1)) (h3 : st.objs 22 = some (mapO' k3 v3)) : entI st e k1 v1 k3 v3 D = st := by
  unfold entI
  rw [envD_none fun p hp => h p.1 (by
    have : p.1 ∈ (entL e k1.length).map (·.1) := List.mem_map.2 ⟨p, hp, rfl⟩
    rw [entL_ops] at this
    simp at this
    omega)]
  have e1 : ent1 e k1 v1 D = mapO' k1 v1 := by simp [ent1, h]
  have e3 : ent3 e k3 v3 D = mapO' k3 v3 := by simp [ent3, h]
  rw [e1, e3, ← h1, ← h3]
  cases st
  congr 1
  funext id
  simp only
  split
  · rename_i hh; rw [hh]
  · split
    · rename_i hh; rw [hh]
    · rfl
set_option maxRecDepth 100000 in
set_option maxHeartbeats 4000000 in
theorem closed_ok (G) (l : List EventM) (hl : l.length < 20 ∨ 384 < l.length) (h : ∀ e ∈ sortM l, OkEv e) : Gives Try.prog G 17 [eventsD l] [iD (closedM l).1, iD (closedM l).2] := by
  have hsl : (sortM l).length = l.length := insM_len l _
  skip
  skip
  refine gives_intro [] [] [] Try.func17 rfl (by rfl) (by simp [Try.ntmps17]) fun F hP hG hN hR => ?_
  rw [Try.ntmps17] at hN
  have hA := And.intro hN (And.intro hP (And.intro hG (And.intro hR.1 (And.intro hR.2.1 hR.2.2.1))))
  have hE := And.intro @Try.results17 (And.intro @hsl (And.intro @mp_kill (@mp_frz)))
  refine WS [0] [20, 21, 22] ?_
  apply aw_seq
  refine WS [0, 19] [20, 21, 22] ?_
  refine WI (fun hb => ?_) (fun hb => ?_)
  · skip
    have hv : closedM l = (0, 4) := by unfold closedM; rw [if_pos (by omega)]
    have hE := And.intro hE hv
    refine WS [2, 3] [20, 21, 22] ?_
    apply aw_ret
    apply q_ret_seq
    simp only [QRet, QRetM, QRetX, retsX_nil, retsX_cons, objsAre, resA, mapO_nil, mapO_cons, vD_dat, vD_nils, vD_rp, vD_osl, vD_ptr, vD_agg, vD_fn, vD_isl, vL_dat, vL_app, viewL, avA, datsOf, fillA, seval, ↓List.forall_mem_cons, Op.operands, hP, hG, tiA, hE]
    all_goals try (first | done | rfl | trivial)
  · skip
    have hl20 : l.length < 20 := by omega
    have hv : closedM l = closedG l.length (sortM l) ((sortM l).length - 0) := by unfold closedM; rw [if_neg (by omega)]; rfl
    apply aw_skip
    apply q_seq
    refine aw_lists ?_
    refine al_step rfl (makeMap_ok rfl rfl (by rw [hN]; omega)) ?_
    simp only [avA, seval]
    apply al_last [0, 4] [20, 21, 22]
    · simp (maxSteps := 2000000) (disch := omega) only [avR2, avA, datsOf, fillA, seval, ↓List.forall_mem_cons, Op.operands, hA, tiA, hE]
      exact SC
    refine aw_lists ?_
    refine al_step rfl (makeMap_ok rfl rfl (by rw [hN]; omega)) ?_
    simp only [avA, seval]
    refine al_step rfl (makeMap_ok rfl rfl (by rw [hN]; omega)) ?_
    simp only [avA, seval]
    apply al_last [0, 4, 5, 6] [20, 21, 22]
    · simp (maxSteps := 2000000) (disch := omega) only [avR2, avA, datsOf, fillA, seval, ↓List.forall_mem_cons, Op.operands, hA, tiA, hE]
      exact SC
    apply aw_seq
    have hc := gvF hP hG (sort_ok G l hl20)
    refine WSc [0, 4, 5, 6, 24, 25, 26] [20, 21, 22] ?_
    apply aw_block
    refine WL (ι := {p : Nat × (List Dat × List Dat) × (List Dat × List Dat) × (List Dat × List Dat) // p.1 ≤ (sortM l).length ∧ ClInv ((sortM l).take p.1) p.2.1.1 p.2.1.2 p.2.2.1.1 p.2.2.1.2 p.2.2.2.1 p.2.2.2.2 ∧ closedM l = closedG l.length (sortM l) ((sortM l).length - p.1)}) [0, 4, 5, 6, 24, 25] [] (fun ⟨⟨i, ⟨k1, v1⟩, ⟨k2, v2⟩, ⟨k3, v3⟩⟩, hic⟩ => [(26, .dat (iD i))]) (fun ⟨⟨i, ⟨k1, v1⟩, ⟨k2, v2⟩, ⟨k3, v3⟩⟩, hic⟩ => [(20, ⟨0, [.tup [], .dat (.sl k1), .dat (.sl v1)]⟩), (21, ⟨0, [.tup [], .dat (.sl k2), .dat (.sl v2)]⟩), (22, ⟨0, [.tup [], .dat (.sl k3), .dat (.sl v3)]⟩)]) (fun ⟨⟨i, ⟨k1, v1⟩, ⟨k2, v2⟩, ⟨k3, v3⟩⟩, hic⟩ => (sortM l).length - i) (⟨⟨0, ⟨[], []⟩, ⟨[], []⟩, ⟨[], []⟩⟩, by dsimp only; exact ⟨by omega, clInv_nil, hv⟩⟩) ?_
    rintro ⟨⟨i, ⟨k1, v1⟩, ⟨k2, v2⟩, ⟨k3, v3⟩⟩, hic⟩
    dsimp only [List.cons_append, List.nil_append]
    dsimp only at hic
    obtain ⟨hi, hinv, hcl⟩ := id hic
    have htl : (List.take i (sortM l)).length = i := by rw [List.length_take]; omega
    refine WS [0, 4, 5, 6, 24, 25, 26, 27] [20, 21, 22] ?_
    apply aw_seq
    refine WI (fun hb => ?_) (fun hb => ?_)
    · skip
      apply aw_skip
      apply q_seq
      apply aw_seq
      apply aw_block
      refine WS [0, 4, 5, 6, 7, 8, 24, 25, 26] [8, 20, 21, 22] ?_
      apply aw_seq
      refine aw_frz 8 hR.2.2.2 rfl rfl ?_
      have hc := gvF hP hG (valid_ok G ((sortM l).getD i default) (getD_all h (by omega)))
      refine WSc [0, 4, 5, 6, 7, 8, 9, 24, 25, 26] [8, 20, 21, 22] ?_
      refine WS [0, 4, 5, 6, 7, 8, 9, 24, 25, 26, 34] [8, 20, 21, 22] ?_
      refine WI (fun hb => ?_) (fun hb => ?_)
      · skip
        have hf : faultM ((sortM l).take i) ((sortM l).getD i default) = validM ((sortM l).getD i default) := by unfold faultM; rw [if_pos (by omega)]
        have hv : closedM l = ((i : Int), validM ((sortM l).getD i default)) := by rw [hcl, closedG_at (by omega) (by omega), hf]
        have hE := And.intro hE hv
        refine WS [2, 3] [20, 21, 22] ?_
        apply aw_ret
        apply q_ret_seq
        apply q_ret_block
        apply q_ret_seq
        apply q_ret_loop
        apply q_ret_block
        apply q_ret_seq
        simp only [QRet, QRetM, QRetX, retsX_nil, retsX_cons, objsAre, resA, mapO_nil, mapO_cons, vD_dat, vD_nils, vD_rp, vD_osl, vD_ptr, vD_agg, vD_fn, vD_isl, vL_dat, vL_app, viewL, avA, datsOf, fillA, seval, ↓List.forall_mem_cons, Op.operands, hP, hG, tiA, hE]
        all_goals try (first | done | rfl | trivial)
      · skip
        have hv0 : validM ((sortM l).getD i default) = 0 := by omega
        apply aw_skip
        apply q_seq
        apply aw_seq
        refine aw_lists ?_
        apply al_seg
        · (iterate 3 apply Seg.cons); exact Seg.nil _
        · simp (maxSteps := 2000000) (disch := omega) only [avR2, avA, datsOf, fillA, seval, ↓List.forall_mem_cons, Op.operands, hA, tiA, hE, KeptS]
          (repeat' refine And.intro ?_ ?_) <;> try exact SD
          refine CallC.use (gvF hP hG (name_ok G ((sortM l).getD i default))) rfl ?_
          try simp (maxSteps := 2000000) (disch := omega) only [avR2, avA, datsOf, fillA, seval, ↓List.forall_mem_cons, Op.operands, hA, tiA, hE]
          exact SC
        refine al_step rfl (lookup_ok (kt := 55) (et := 3) (isK := isKN) (id := 20) (ks := k1) (vs := v1) rfl rfl (by rw [hN]; omega) ⟨⟨_, by rw [hP]; exact ti88, rfl⟩, by rw [hP]; exact keyRun_two .i64 .i64 eqS2_55, rfl, rfl, hinv.q1⟩ rfl ⟨_, _, rfl⟩ (by rw [hP]; exact zero3)) ?_
        rw [of_put, lkA_t]
        apply al_last [0, 4, 5, 6, 7, 8, 11, 24, 25, 26] [8, 20, 21, 22]
        · simp (maxSteps := 2000000) (disch := omega) only [avR2, avA, datsOf, fillA, seval, ↓List.forall_mem_cons, Op.operands, hA, tiA, hE]
          exact SC
        refine WS [0, 4, 5, 6, 7, 8, 24, 25, 26, 44] [8, 20, 21, 22] ?_
        refine WI (fun hb => ?_) (fun hb => ?_)
        · skip
          have hfd : 0 ≤ findM ((sortM l).take i) (evName ((sortM l).getD i default)) := by
            rcases hinv.tick (evName ((sortM l).getD i default)) with ⟨_, h2⟩ | ⟨h1, _⟩
            · rw [h2] at hb; cases hb
            · exact h1
          have hf : faultM ((sortM l).take i) ((sortM l).getD i default) = 7 := by unfold faultM; rw [if_neg (by omega), if_pos hfd]
          have hv : closedM l = ((i : Int), 7) := by rw [hcl, closedG_at (by omega) (by omega), hf]
          have hE := And.intro hE hv
          refine WS [2, 3] [20, 21, 22] ?_
          apply aw_ret
          apply q_ret_seq
          apply q_ret_block
          apply q_ret_seq
          apply q_ret_loop
          apply q_ret_block
          apply q_ret_seq
          simp only [QRet, QRetM, QRetX, retsX_nil, retsX_cons, objsAre, resA, mapO_nil, mapO_cons, vD_dat, vD_nils, vD_rp, vD_osl, vD_ptr, vD_agg, vD_fn, vD_isl, vL_dat, vL_app, viewL, avA, datsOf, fillA, seval, ↓List.forall_mem_cons, Op.operands, hP, hG, tiA, hE]
          all_goals try (first | done | rfl | trivial)
        · skip
          have hfd : findM ((sortM l).take i) (evName ((sortM l).getD i default)) = -1 ∧ lkp k1 v1 (nameD (evName ((sortM l).getD i default))) = none := by
            rcases hinv.tick (evName ((sortM l).getD i default)) with h1 | ⟨_, h2⟩
            · exact h1
            · rw [h2] at hb; cases hb
          have hcn := hinv.count ((sortM l).getD i default).By
          have hcl2 : ((sortM l).take i).countP (fun x => x.By == ((sortM l).getD i default).By) ≤ 20 := Nat.le_trans List.countP_le_length (by omega)
          apply aw_skip
          apply q_seq
          apply aw_seq
          refine aw_lists ?_
          apply al_seg
          · (iterate 5 apply Seg.cons); exact Seg.nil _
          · simp (maxSteps := 2000000) (disch := omega) only [avR2, avA, datsOf, fillA, seval, ↓List.forall_mem_cons, Op.operands, hA, tiA, hE, KeptS]
            exact SC
          refine al_step rfl (lookup_ok (kt := 3) (et := 3) (isK := isKI) (id := 21) (ks := k2) (vs := v2) rfl rfl (by rw [hN]; omega) ⟨⟨_, by rw [hP]; exact ti89, rfl⟩, by rw [hP]; exact keyRun_int under3, rfl, rfl, hinv.q2⟩ rfl ⟨_, rfl⟩ (by rw [hP]; exact zero3)) ?_
          rw [of_put, lkA_f, hcn]
          apply al_last [0, 4, 5, 6, 7, 8, 24, 25, 26, 52] [8, 20, 21, 22]
          · simp (maxSteps := 2000000) (disch := omega) only [avR2, avA, datsOf, fillA, seval, ↓List.forall_mem_cons, Op.operands, hA, tiA, hE]
            exact SC
          refine WI (fun hb => ?_) (fun hb => ?_)
          · skip
            have hf : faultM ((sortM l).take i) ((sortM l).getD i default) = 10 := by
              unfold faultM
              rw [if_neg (by omega), if_neg (by omega), if_pos (fun hq => hb (by show ((sortM l).getD i default).Seq = _; rw [← hq]; rfl))]
            have hv : closedM l = ((i : Int), 10) := by rw [hcl, closedG_at (by omega) (by omega), hf]
            have hE := And.intro hE hv
            refine WS [2, 3] [20, 21, 22] ?_
            apply aw_ret
            apply q_ret_seq
            apply q_ret_block
            apply q_ret_seq
            apply q_ret_loop
            apply q_ret_block
            apply q_ret_seq
            simp only [QRet, QRetM, QRetX, retsX_nil, retsX_cons, objsAre, resA, mapO_nil, mapO_cons, vD_dat, vD_nils, vD_rp, vD_osl, vD_ptr, vD_agg, vD_fn, vD_isl, vL_dat, vL_app, viewL, avA, datsOf, fillA, seval, ↓List.forall_mem_cons, Op.operands, hP, hG, tiA, hE]
            all_goals try (first | done | rfl | trivial)
          · skip
            have hq : (((sortM l).take i).countP (isBy ((sortM l).getD i default)) : Int) = ((sortM l).getD i default).Seq := by
              have : (((sortM l).take i).countP (isBy ((sortM l).getD i default))) = ((sortM l).take i).countP (fun x => x.By == ((sortM l).getD i default).By) := rfl
              omega
            apply aw_skip
            apply q_seq
            have hlate := clInv_late hinv ((sortM l).getD i default)
            refine aw_mid (.of [(0, .dat (eventsD l)), (4, .mp 20), (5, .mp 21), (6, .mp 22), (7, .dat (iD i)), (8, .rp (eventD ((sortM l).getD i default)) 0), (12, .dat (bD (((sortM l).take i).any (isLate ((sortM l).getD i default))))), (24, .dat (eventsD (sortM l))), (25, .dat (iD (sortM l).length)), (26, .dat (iD i))] [(20, ⟨0, [.tup [], .dat (.sl k1), .dat (.sl v1)]⟩), (21, ⟨0, [.tup [], .dat (.sl k2), .dat (.sl v2)]⟩), (22, ⟨0, [.tup [], .dat (.sl k3), .dat (.sl v3)]⟩)]) ?_ ?_
            · rcases hlate with ⟨h0, h1, h2⟩ | ⟨h0, t, h1, h2⟩
              · refine aw_list ?_
                apply al_seg
                · (iterate 3 apply Seg.cons); exact Seg.nil _
                · simp (maxSteps := 2000000) (disch := omega) only [avR2, avA, datsOf, fillA, seval, ↓List.forall_mem_cons, Op.operands, hA, tiA, hE, KeptS]
                  exact SC
                refine al_step rfl (lookup_ok (kt := 3) (et := 3) (isK := isKI) (id := 21) (ks := k2) (vs := v2) rfl rfl (by rw [hN]; omega) ⟨⟨_, by rw [hP]; exact ti89, rfl⟩, by rw [hP]; exact keyRun_int under3, rfl, rfl, hinv.q2⟩ rfl ⟨_, rfl⟩ (by rw [hP]; exact zero3)) ?_
                rw [of_put, lkA_f, hcn, h0]
                apply al_seg
                · (iterate 5 apply Seg.cons); exact Seg.nil _
                · simp (maxSteps := 2000000) (disch := omega) only [avR2, avA, datsOf, fillA, seval, ↓List.forall_mem_cons, Op.operands, hA, tiA, hE, KeptS]
                  exact SC
                refine al_off (.dat (iD 0)) rfl rfl (by rw [hN]; omega) rfl ?_
                rw [of_put]
                apply al_last [0, 4, 5, 6, 7, 8, 12, 24, 25, 26] [20, 21, 22]
                · simp (maxSteps := 2000000) (disch := omega) only [avR2, avA, datsOf, fillA, seval, ↓List.forall_mem_cons, Op.operands, hA, tiA, hE]
                  exact SC
                exact ⟨rfl, by rw [h1, hsl]; rfl⟩
              · have hd : decide ((0 : Int) < (((sortM l).take i).countP (fun x => x.By == ((sortM l).getD i default).By) : Int)) = true := decide_eq_true (by omega)
                have hE := And.intro hE hd
                refine aw_list ?_
                apply al_seg
                · (iterate 3 apply Seg.cons); exact Seg.nil _
                · simp (maxSteps := 2000000) (disch := omega) only [avR2, avA, datsOf, fillA, seval, ↓List.forall_mem_cons, Op.operands, hA, tiA, hE, KeptS]
                  exact SC
                refine al_step rfl (lookup_ok (kt := 3) (et := 3) (isK := isKI) (id := 21) (ks := k2) (vs := v2) rfl rfl (by rw [hN]; omega) ⟨⟨_, by rw [hP]; exact ti89, rfl⟩, by rw [hP]; exact keyRun_int under3, rfl, rfl, hinv.q2⟩ rfl ⟨_, rfl⟩ (by rw [hP]; exact zero3)) ?_
                rw [of_put, lkA_f, hcn]
                apply al_seg
                · (iterate 2 apply Seg.cons); exact Seg.nil _
                · simp (maxSteps := 2000000) (disch := omega) only [avR2, avA, datsOf, fillA, seval, ↓List.forall_mem_cons, Op.operands, hA, tiA, hE, KeptS]
                  exact SC
                apply al_true
                · rfl
                · simp (maxSteps := 2000000) (disch := omega) only [avR2, avA, datsOf, fillA, seval, ↓List.forall_mem_cons, Op.operands, hA, tiA, hE, KeptS]
                  exact SC
                apply al_true
                · rfl
                · simp (maxSteps := 2000000) (disch := omega) only [avR2, avA, datsOf, fillA, seval, ↓List.forall_mem_cons, Op.operands, hA, tiA, hE, KeptS]
                  exact SC
                apply al_true
                · rfl
                · simp (maxSteps := 2000000) (disch := omega) only [avR2, avA, datsOf, fillA, seval, ↓List.forall_mem_cons, Op.operands, hA, tiA, hE, KeptS]
                  exact SC
                refine al_on rfl rfl (lookup_ok (kt := 3) (et := 3) (isK := isKI) (id := 22) (ks := k3) (vs := v3) rfl rfl (by rw [hN]; omega) ⟨⟨_, by rw [hP]; exact ti89, rfl⟩, by rw [hP]; exact keyRun_int under3, rfl, rfl, hinv.q3⟩ rfl ⟨_, rfl⟩ (by rw [hP]; exact zero3)) ?_
                rw [of_put, lkA_f, h1, Option.getD_some]
                apply al_last [0, 4, 5, 6, 7, 8, 12, 24, 25, 26] [20, 21, 22]
                · simp (maxSteps := 2000000) (disch := omega) only [avR2, avA, datsOf, fillA, seval, ↓List.forall_mem_cons, Op.operands, hA, tiA, hE]
                  exact SC
                exact ⟨rfl, by rw [h2, hsl]⟩
            apply aw_seq
            refine WS [0, 4, 5, 6, 7, 8, 12, 24, 25, 26, 69, 70, 71] [8, 20, 21, 22] ?_
            apply aw_block
            have hz0 : (((sortM l).take i).any (isLate ((sortM l).getD i default)) || anyN (refLate ((sortM l).take i) ((sortM l).getD i default)) ((sortM l).getD i default).Refs 0) = ((sortM l).take i).any (isLate ((sortM l).getD i default)) := by rw [anyN_zero, Bool.or_false]
            have hE := And.intro hE hz0
            have hre := (getD_all h (show i < (sortM l).length by omega)).nrefs
            refine WL (ι := {j : Nat // j ≤ ((sortM l).getD i default).Refs.length ∧ ∀ k, k < j → 0 ≤ findM ((sortM l).take i) (((sortM l).getD i default).Refs.getD k default)}) [0, 4, 5, 6, 7, 8, 24, 25, 26, 69, 70] [8, 20, 21, 22] (fun ⟨j, hjc⟩ => [(12, .dat (bD (((sortM l).take i).any (isLate ((sortM l).getD i default)) || anyN (refLate ((sortM l).take i) ((sortM l).getD i default)) ((sortM l).getD i default).Refs j))), (71, .dat (iD j))]) (fun ⟨j, hjc⟩ => []) (fun ⟨j, hjc⟩ => ((sortM l).getD i default).Refs.length - j) (⟨0, by omega, by omega⟩) ?_
            rintro ⟨j, hjc⟩
            dsimp only [List.cons_append, List.nil_append]
            obtain ⟨hj, hall⟩ := id hjc
            refine WS [0, 4, 5, 6, 7, 8, 12, 24, 25, 26, 69, 70, 71, 72] [8, 20, 21, 22] ?_
            apply aw_seq
            refine WI (fun hb => ?_) (fun hb => ?_)
            · skip
              apply aw_skip
              apply q_seq
              apply aw_seq
              apply aw_block
              refine WS [0, 4, 5, 6, 7, 8, 12, 14, 24, 25, 26, 69, 70, 71] [8, 14, 20, 21, 22] ?_
              refine aw_lists ?_
              apply al_seg
              · (iterate 2 apply Seg.cons); exact Seg.nil _
              · simp (maxSteps := 2000000) (disch := omega) only [avR2, avA, datsOf, fillA, seval, ↓List.forall_mem_cons, Op.operands, hA, tiA, hE, KeptS]
                exact SC
              refine al_step rfl (lookup_ok (kt := 55) (et := 3) (isK := isKN) (id := 20) (ks := k1) (vs := v1) rfl rfl (by rw [hN]; omega) ⟨⟨_, by rw [hP]; exact ti88, rfl⟩, by rw [hP]; exact keyRun_two .i64 .i64 eqS2_55, rfl, rfl, hinv.q1⟩ rfl ⟨_, _, rfl⟩ (by rw [hP]; exact zero3)) ?_
              rw [of_put, lkA_t]
              apply al_last [0, 4, 5, 6, 7, 8, 12, 15, 16, 24, 25, 26, 69, 70, 71] [8, 20, 21, 22]
              · simp (maxSteps := 2000000) (disch := omega) only [avR2, avA, datsOf, fillA, seval, ↓List.forall_mem_cons, Op.operands, hA, tiA, hE]
                exact SC
              apply aw_seq
              refine WS [0, 4, 5, 6, 7, 8, 12, 15, 24, 25, 26, 69, 70, 71, 82] [8, 20, 21, 22] ?_
              refine WI (fun hb => ?_) (fun hb => ?_)
              · skip
                have hfd : findM ((sortM l).take i) (((sortM l).getD i default).Refs.getD j default) = -1 := by
                  rcases hinv.tick (((sortM l).getD i default).Refs.getD j default) with ⟨h1, _⟩ | ⟨_, h2⟩
                  · exact h1
                  · rw [h2] at hb; cases hb
                have hf : faultM ((sortM l).take i) ((sortM l).getD i default) = 10 := faultM_ref hv0 (by omega) hq (show j < ((sortM l).getD i default).Refs.length by omega) (by omega)
                have hv : closedM l = ((i : Int), 10) := by rw [hcl, closedG_at (by omega) (by omega), hf]
                have hE := And.intro hE hv
                refine WS [2, 3] [20, 21, 22] ?_
                apply aw_ret
                apply q_ret_seq
                apply q_ret_block
                apply q_ret_seq
                apply q_ret_loop
                apply q_ret_block
                apply q_ret_seq
                apply q_ret_block
                apply q_ret_seq
                apply q_ret_loop
                apply q_ret_block
                apply q_ret_seq
                simp only [QRet, QRetM, QRetX, retsX_nil, retsX_cons, objsAre, resA, mapO_nil, mapO_cons, vD_dat, vD_nils, vD_rp, vD_osl, vD_ptr, vD_agg, vD_fn, vD_isl, vL_dat, vL_app, viewL, avA, datsOf, fillA, seval, ↓List.forall_mem_cons, Op.operands, hP, hG, tiA, hE]
                all_goals try (first | done | rfl | trivial)
              · skip
                have hfd2 : 0 ≤ findM ((sortM l).take i) (((sortM l).getD i default).Refs.getD j default) ∧ lkp k1 v1 (nameD (((sortM l).getD i default).Refs.getD j default)) = some (iD (((sortM l).take i).getD (findM ((sortM l).take i) (((sortM l).getD i default).Refs.getD j default)).toNat default).Tick) := by
                  rcases hinv.tick (((sortM l).getD i default).Refs.getD j default) with ⟨_, h2⟩ | h1
                  · rw [h2] at hb; cases hb
                  · exact h1
                have hge := hfd2.1
                have hr1 : (((sortM l).take i).any (isLate ((sortM l).getD i default)) || anyN (refLate ((sortM l).take i) ((sortM l).getD i default)) ((sortM l).getD i default).Refs (j + 1)) = (((sortM l).take i).any (isLate ((sortM l).getD i default)) || anyN (refLate ((sortM l).take i) ((sortM l).getD i default)) ((sortM l).getD i default).Refs j || decide (((sortM l).getD i default).Tick ≤ (((sortM l).take i).getD (findM ((sortM l).take i) (((sortM l).getD i default).Refs.getD j default)).toNat default).Tick)) := by rw [anyN_succ _ _ (show j < ((sortM l).getD i default).Refs.length by omega), ← Bool.or_assoc]; rfl
                have hE := And.intro hE (And.intro hfd2.2 (@Option.getD_some Dat))
                apply aw_skip
                apply q_seq
                refine WQ [0, 4, 5, 6, 7, 8, 12, 24, 25, 26, 69, 70, 71] [8, 20, 21, 22] ?_
                apply q_block
                apply q_seq
                have hE := And.intro hE hr1
                refine WQ [0, 4, 5, 6, 7, 8, 12, 24, 25, 26, 69, 70, 71] [8, 20, 21, 22] ?_
                refine WN (⟨j + 1, by omega, allstep hjc.2 hge⟩)
            · skip
              apply aw_exit
              apply q_exit_seq
              obtain rfl : j = ((sortM l).getD i default).Refs.length := by omega
              have hf := faultM_end hv0 (show ¬ 0 ≤ findM ((sortM l).take i) (evName ((sortM l).getD i default)) by omega) hq hall
              have hw := any_full (refLate ((sortM l).take i) ((sortM l).getD i default)) ((sortM l).getD i default).Refs
              rw [hw] at *
              apply q_exit_loop
              apply q_exit
              apply q_seq
              apply aw_seq
              refine WS [0, 4, 5, 6, 7, 8, 24, 25, 26, 92] [8, 20, 21, 22] ?_
              refine WI (fun hb => ?_) (fun hb => ?_)
              · skip
                rw [if_pos (by grind)] at hf
                have hv : closedM l = ((i : Int), 5) := by rw [hcl, closedG_at (by omega) (by omega), hf]
                have hE := And.intro hE hv
                refine WS [2, 3] [20, 21, 22] ?_
                apply aw_ret
                apply q_ret_seq
                apply q_ret_block
                apply q_ret_seq
                apply q_ret_loop
                apply q_ret_block
                apply q_ret_seq
                simp only [QRet, QRetM, QRetX, retsX_nil, retsX_cons, objsAre, resA, mapO_nil, mapO_cons, vD_dat, vD_nils, vD_rp, vD_osl, vD_ptr, vD_agg, vD_fn, vD_isl, vL_dat, vL_app, viewL, avA, datsOf, fillA, seval, ↓List.forall_mem_cons, Op.operands, hP, hG, tiA, hE]
                all_goals try (first | done | rfl | trivial)
              · skip
                rw [if_neg (by grind)] at hf
                apply aw_skip
                apply q_seq
                refine aw_invs [0, 4, 5, 6, 8, 24, 25, 26] [20, 21, 22] (fun s => entI s ((sortM l).getD i default) k1 v1 k3 v3) (e := [(0, .dat (eventsD l)), (4, .mp 20), (5, .mp 21), (6, .mp 22), (8, .rp (eventD ((sortM l).getD i default)) 0), (24, .dat (eventsD (sortM l))), (25, .dat (iD l.length)), (26, .dat (iD i))]) (o := [(20, mapO' (k1 ++ [nameD (evName ((sortM l).getD i default))]) (v1 ++ [iD ((sortM l).getD i default).Tick])), (21, mapO' k2 v2), (22, mapO' (putK k3 (iD ((sortM l).getD i default).By)) (putV k3 v3 (iD ((sortM l).getD i default).By) (iD ((sortM l).getD i default).Tick)))]) (by rw [hP]; kernel_rfl) (by kernel_rfl) (by kernel_rfl) ?_ (fun D hD => entI_none (fun i hi => hD i hi) rfl rfl) ⟨rfl, rfl⟩ ?_
                · intro D i' o ho hD hdep hcd
                  generalize hst : ASt.of _ _ = st0
                  have s4 : st0.env 4 = .mp 20 := by rw [← hst]; rfl
                  have s6 : st0.env 6 = .mp 22 := by rw [← hst]; rfl
                  have s8 : st0.env 8 = .rp (eventD ((sortM l).getD i default)) 0 := by rw [← hst]; rfl
                  clear hst
                  have hi14 : i' < 14 := (List.getElem?_eq_some_iff.1 ho).1
                  have hcs : i' = 0 ∨ i' = 1 ∨ i' = 2 ∨ i' = 3 ∨ i' = 4 ∨ i' = 5 ∨ i' = 6 ∨ i' = 7 ∨ i' = 8 ∨ i' = 9 ∨ i' = 10 ∨ i' = 11 ∨ i' = 12 ∨ i' = 13 := by omega
                  rcases hcs with rfl | rfl | rfl | rfl | rfl | rfl | rfl | rfl | rfl | rfl | rfl | rfl | rfl | rfl
                  · simp only [List.getElem?_cons_zero, List.getElem?_cons_succ, Option.some.injEq] at ho
                    subst ho
                    have f := entI_off (st := st0) (e := ((sortM l).getD i default)) (k1 := k1) (v1 := v1) (k3 := k3) (v3 := v3) (D := D) (n := 4) (by omega)
                    rw [s4] at f
                    rw [← entI_put (i := 0) (d := 94) (v := (.mp 20)) rfl (by decide)]
                    generalize entI st0 ((sortM l).getD i default) k1 v1 k3 v3 D = st1 at f ⊢
                    refine step_run (ops := #[]) rfl ?_
                    simp (maxSteps := 2000000) (disch := omega) only [avR2, avA, datsOf, fillA, seval, ↓List.forall_mem_cons, Op.operands, hA, tiA, hE, f]
                    all_goals exact SC
                  · simp only [List.getElem?_cons_zero, List.getElem?_cons_succ, Option.some.injEq] at ho
                    subst ho
                    have f := entI_off (st := st0) (e := ((sortM l).getD i default)) (k1 := k1) (v1 := v1) (k3 := k3) (v3 := v3) (D := D) (n := 8) (by omega)
                    rw [s8] at f
                    rw [← entI_put (i := 1) (d := 95) (v := (.dat (eventD ((sortM l).getD i default)))) rfl (by decide)]
                    generalize entI st0 ((sortM l).getD i default) k1 v1 k3 v3 D = st1 at f ⊢
                    refine step_run (ops := #[]) rfl ?_
                    simp (maxSteps := 2000000) (disch := omega) only [avR2, avA, datsOf, fillA, seval, ↓List.forall_mem_cons, Op.operands, hA, tiA, hE, f]
                    all_goals exact SC
                  · simp only [List.getElem?_cons_zero, List.getElem?_cons_succ, Option.some.injEq] at ho
                    subst ho
                    have f := entI_get (st := st0) (e := ((sortM l).getD i default)) (k1 := k1) (v1 := v1) (k3 := k3) (v3 := v3) (D := D) (i := 1) (d := 95) (v := (.dat (eventD ((sortM l).getD i default)))) (hdep ⟨1, .data⟩ (by simp) rfl) rfl
                    rw [← entI_put (i := 2) (d := 96) (v := (.dat (nameD (evName ((sortM l).getD i default))))) rfl (by decide)]
                    generalize entI st0 ((sortM l).getD i default) k1 v1 k3 v3 D = st1 at f ⊢
                    refine step_run (ops := #[]) rfl ?_
                    simp (maxSteps := 2000000) (disch := omega) only [avR2, avA, datsOf, fillA, seval, ↓List.forall_mem_cons, Op.operands, hA, tiA, hE, f]
                    (repeat' refine And.intro ?_ ?_) <;> try exact SD
                    refine CallC.use (gvF hP hG (name_ok G ((sortM l).getD i default))) rfl ?_
                    try simp (maxSteps := 2000000) (disch := omega) only [avR2, avA, datsOf, fillA, seval, ↓List.forall_mem_cons, Op.operands, hA, tiA, hE, f]
                    all_goals exact SC
                  · simp only [List.getElem?_cons_zero, List.getElem?_cons_succ, Option.some.injEq] at ho
                    subst ho
                    have f := entI_off (st := st0) (e := ((sortM l).getD i default)) (k1 := k1) (v1 := v1) (k3 := k3) (v3 := v3) (D := D) (n := 6) (by omega)
                    rw [s6] at f
                    rw [← entI_put (i := 3) (d := 97) (v := (.mp 22)) rfl (by decide)]
                    generalize entI st0 ((sortM l).getD i default) k1 v1 k3 v3 D = st1 at f ⊢
                    refine step_run (ops := #[]) rfl ?_
                    simp (maxSteps := 2000000) (disch := omega) only [avR2, avA, datsOf, fillA, seval, ↓List.forall_mem_cons, Op.operands, hA, tiA, hE, f]
                    all_goals exact SC
                  · simp only [List.getElem?_cons_zero, List.getElem?_cons_succ, Option.some.injEq] at ho
                    subst ho
                    have f := entI_off (st := st0) (e := ((sortM l).getD i default)) (k1 := k1) (v1 := v1) (k3 := k3) (v3 := v3) (D := D) (n := 8) (by omega)
                    rw [s8] at f
                    rw [← entI_put (i := 4) (d := 98) (v := (.rp (eventD ((sortM l).getD i default)) 0)) rfl (by decide)]
                    generalize entI st0 ((sortM l).getD i default) k1 v1 k3 v3 D = st1 at f ⊢
                    refine step_run (ops := #[]) rfl ?_
                    simp (maxSteps := 2000000) (disch := omega) only [avR2, avA, datsOf, fillA, seval, ↓List.forall_mem_cons, Op.operands, hA, tiA, hE, f]
                    all_goals exact SC
                  · simp only [List.getElem?_cons_zero, List.getElem?_cons_succ, Option.some.injEq] at ho
                    subst ho
                    have f := entI_get (st := st0) (e := ((sortM l).getD i default)) (k1 := k1) (v1 := v1) (k3 := k3) (v3 := v3) (D := D) (i := 4) (d := 98) (v := (.rp (eventD ((sortM l).getD i default)) 0)) (hdep ⟨4, .data⟩ (by simp) rfl) rfl
                    rw [← entI_put (i := 5) (d := 99) (v := (.dat (iD ((sortM l).getD i default).By))) rfl (by decide)]
                    generalize entI st0 ((sortM l).getD i default) k1 v1 k3 v3 D = st1 at f ⊢
                    refine step_run (ops := #[]) rfl ?_
                    simp (maxSteps := 2000000) (disch := omega) only [avR2, avA, datsOf, fillA, seval, ↓List.forall_mem_cons, Op.operands, hA, tiA, hE, f]
                    all_goals exact SC
                  · simp only [List.getElem?_cons_zero, List.getElem?_cons_succ, Option.some.injEq] at ho
                    subst ho
                    have f := entI_off (st := st0) (e := ((sortM l).getD i default)) (k1 := k1) (v1 := v1) (k3 := k3) (v3 := v3) (D := D) (n := 8) (by omega)
                    rw [s8] at f
                    rw [← entI_put (i := 6) (d := 100) (v := (.rp (eventD ((sortM l).getD i default)) 2)) rfl (by decide)]
                    generalize entI st0 ((sortM l).getD i default) k1 v1 k3 v3 D = st1 at f ⊢
                    refine step_run (ops := #[]) rfl ?_
                    simp (maxSteps := 2000000) (disch := omega) only [avR2, avA, datsOf, fillA, seval, ↓List.forall_mem_cons, Op.operands, hA, tiA, hE, f]
                    all_goals exact SC
                  · simp only [List.getElem?_cons_zero, List.getElem?_cons_succ, Option.some.injEq] at ho
                    subst ho
                    have f := entI_get (st := st0) (e := ((sortM l).getD i default)) (k1 := k1) (v1 := v1) (k3 := k3) (v3 := v3) (D := D) (i := 6) (d := 100) (v := (.rp (eventD ((sortM l).getD i default)) 2)) (hdep ⟨6, .data⟩ (by simp) rfl) rfl
                    rw [← entI_put (i := 7) (d := 101) (v := (.dat (iD ((sortM l).getD i default).Tick))) rfl (by decide)]
                    generalize entI st0 ((sortM l).getD i default) k1 v1 k3 v3 D = st1 at f ⊢
                    refine step_run (ops := #[]) rfl ?_
                    simp (maxSteps := 2000000) (disch := omega) only [avR2, avA, datsOf, fillA, seval, ↓List.forall_mem_cons, Op.operands, hA, tiA, hE, f]
                    all_goals exact SC
                  · simp only [List.getElem?_cons_zero, List.getElem?_cons_succ, Option.some.injEq] at ho
                    subst ho
                    have f := entI_off (st := st0) (e := ((sortM l).getD i default)) (k1 := k1) (v1 := v1) (k3 := k3) (v3 := v3) (D := D) (n := 8) (by omega)
                    rw [s8] at f
                    rw [← entI_put (i := 8) (d := 102) (v := (.rp (eventD ((sortM l).getD i default)) 2)) rfl (by decide)]
                    generalize entI st0 ((sortM l).getD i default) k1 v1 k3 v3 D = st1 at f ⊢
                    refine step_run (ops := #[]) rfl ?_
                    simp (maxSteps := 2000000) (disch := omega) only [avR2, avA, datsOf, fillA, seval, ↓List.forall_mem_cons, Op.operands, hA, tiA, hE, f]
                    all_goals exact SC
                  · simp only [List.getElem?_cons_zero, List.getElem?_cons_succ, Option.some.injEq] at ho
                    subst ho
                    have f := entI_get (st := st0) (e := ((sortM l).getD i default)) (k1 := k1) (v1 := v1) (k3 := k3) (v3 := v3) (D := D) (i := 8) (d := 102) (v := (.rp (eventD ((sortM l).getD i default)) 2)) (hdep ⟨8, .data⟩ (by simp) rfl) rfl
                    rw [← entI_put (i := 9) (d := 103) (v := (.dat (iD ((sortM l).getD i default).Tick))) rfl (by decide)]
                    generalize entI st0 ((sortM l).getD i default) k1 v1 k3 v3 D = st1 at f ⊢
                    refine step_run (ops := #[]) rfl ?_
                    simp (maxSteps := 2000000) (disch := omega) only [avR2, avA, datsOf, fillA, seval, ↓List.forall_mem_cons, Op.operands, hA, tiA, hE, f]
                    all_goals exact SC
                  · simp only [List.getElem?_cons_zero, List.getElem?_cons_succ, Option.some.injEq] at ho
                    subst ho
                    have f0 := entI_get (st := st0) (e := ((sortM l).getD i default)) (k1 := k1) (v1 := v1) (k3 := k3) (v3 := v3) (D := D) (i := 0) (d := 94) (v := (.mp 20)) (hdep ⟨0, .data⟩ (by simp) rfl) rfl
                    have f2 := entI_get (st := st0) (e := ((sortM l).getD i default)) (k1 := k1) (v1 := v1) (k3 := k3) (v3 := v3) (D := D) (i := 2) (d := 96) (v := (.dat (nameD (evName ((sortM l).getD i default))))) (hdep ⟨2, .data⟩ (by simp) rfl) rfl
                    have d12 : D 12 = false := by
                      cases h12 : D 12
                      · rfl
                      · have := hcd 12 _ rfl h12 ⟨10, .chain⟩ (by simp) rfl
                        rw [hD] at this; cases this
                    rw [← entI_10 d12]
                    exact mapEntry_ok (kt := 55) (et := 3) (isK := isKN) (id := 20) (ks := k1) (vs := v1) rfl rfl (by rw [hN]; omega) ⟨⟨_, by rw [hP]; exact ti88, rfl⟩, by rw [hP]; exact keyRun_two .i64 .i64 eqS2_55, f0, by simp [entI, ent1, d12, hD], hinv.q1⟩ f2 ⟨_, _, rfl⟩ hfd.2 (by rw [hP]; exact zero3)
                  · simp only [List.getElem?_cons_zero, List.getElem?_cons_succ, Option.some.injEq] at ho
                    subst ho
                    have f := entI_get (st := st0) (e := ((sortM l).getD i default)) (k1 := k1) (v1 := v1) (k3 := k3) (v3 := v3) (D := D) (i := 10) (d := 104) (v := (.tup [.dat (iD 0), .dat (iD k1.length)])) (hdep ⟨10, .data⟩ (by simp) rfl) rfl
                    rw [← entI_put (i := 11) (d := 105) (v := (.dat (iD k1.length))) rfl (by decide)]
                    generalize entI st0 ((sortM l).getD i default) k1 v1 k3 v3 D = st1 at f ⊢
                    refine step_run (ops := #[]) rfl ?_
                    simp (maxSteps := 2000000) (disch := omega) only [avR2, avA, datsOf, fillA, seval, ↓List.forall_mem_cons, Op.operands, hA, tiA, hE, f]
                    all_goals exact SC
                  · simp only [List.getElem?_cons_zero, List.getElem?_cons_succ, Option.some.injEq] at ho
                    subst ho
                    have f0 := entI_get (st := st0) (e := ((sortM l).getD i default)) (k1 := k1) (v1 := v1) (k3 := k3) (v3 := v3) (D := D) (i := 0) (d := 94) (v := (.mp 20)) (hdep ⟨0, .data⟩ (by simp) rfl) rfl
                    have f11 := entI_get (st := st0) (e := ((sortM l).getD i default)) (k1 := k1) (v1 := v1) (k3 := k3) (v3 := v3) (D := D) (i := 11) (d := 105) (v := (.dat (iD k1.length))) (hdep ⟨11, .data⟩ (by simp) rfl) rfl
                    have f7 := entI_get (st := st0) (e := ((sortM l).getD i default)) (k1 := k1) (v1 := v1) (k3 := k3) (v3 := v3) (D := D) (i := 7) (d := 101) (v := (.dat (iD ((sortM l).getD i default).Tick))) (hdep ⟨7, .data⟩ (by simp) rfl) rfl
                    have d10 := hdep ⟨10, .chain⟩ (by simp) rfl
                    have hset : (v1 ++ [iD 0]).set k1.length (iD ((sortM l).getD i default).Tick) = v1 ++ [iD ((sortM l).getD i default).Tick] := by rw [hinv.l1]; simp
                    rw [← entI_12, ← hset]
                    exact entryStore_ok (id := 20) (n := k1.length) (ks := k1 ++ [nameD (evName ((sortM l).getD i default))]) (vs := v1 ++ [iD 0]) rfl rfl f0 (by simp [entI, ent1, d10, hD]) f11 (by rw [hinv.l1]; simp) f7
                  · simp only [List.getElem?_cons_zero, List.getElem?_cons_succ, Option.some.injEq] at ho
                    subst ho
                    have f3 := entI_get (st := st0) (e := ((sortM l).getD i default)) (k1 := k1) (v1 := v1) (k3 := k3) (v3 := v3) (D := D) (i := 3) (d := 97) (v := (.mp 22)) (hdep ⟨3, .data⟩ (by simp) rfl) rfl
                    have f5 := entI_get (st := st0) (e := ((sortM l).getD i default)) (k1 := k1) (v1 := v1) (k3 := k3) (v3 := v3) (D := D) (i := 5) (d := 99) (v := (.dat (iD ((sortM l).getD i default).By))) (hdep ⟨5, .data⟩ (by simp) rfl) rfl
                    have f9 := entI_get (st := st0) (e := ((sortM l).getD i default)) (k1 := k1) (v1 := v1) (k3 := k3) (v3 := v3) (D := D) (i := 9) (d := 103) (v := (.dat (iD ((sortM l).getD i default).Tick))) (hdep ⟨9, .data⟩ (by simp) rfl) rfl
                    rw [← entI_13]
                    exact mapUpdate_ok (kt := 3) (et := 3) (isK := isKI) (id := 22) (ks := k3) (vs := v3) rfl rfl ⟨⟨_, by rw [hP]; exact ti89, rfl⟩, by rw [hP]; exact keyRun_int under3, f3, by simp [entI, ent3, hD], hinv.q3⟩ f5 ⟨_, rfl⟩ f9
                have hlt : ∀ x ∈ ((sortM l).take i), x.By = ((sortM l).getD i default).By → x.Tick < ((sortM l).getD i default).Tick := by
                  intro x hx hby
                  have hno : (((sortM l).take i).any (isLate ((sortM l).getD i default))) = false := by grind
                  have hnx1 := List.any_eq_false.1 hno x hx
                  simp [isLate, hby] at hnx1
                  exact hnx1
                have hnx : i + 1 ≤ (sortM l).length ∧ ClInv ((sortM l).take (i + 1)) (k1 ++ [nameD (evName ((sortM l).getD i default))]) (v1 ++ [iD ((sortM l).getD i default).Tick]) (putK k2 (iD ((sortM l).getD i default).By)) (putV k2 v2 (iD ((sortM l).getD i default).By) (iD ((((sortM l).take i).countP (fun x => x.By == ((sortM l).getD i default).By) : Int) + 1))) (putK k3 (iD ((sortM l).getD i default).By)) (putV k3 v3 (iD ((sortM l).getD i default).By) (iD ((sortM l).getD i default).Tick)) ∧ closedM l = closedG l.length (sortM l) ((sortM l).length - (i + 1)) := by
                  have hp := lkp_no hinv.l1 hfd.2
                  refine ⟨by omega, ?_, by rw [hcl, closedG_go (by omega) hf]⟩
                  rw [take_step _ (show i < (sortM l).length by omega), ← hp.1, ← hp.2]
                  exact clInv_add hinv ((sortM l).getD i default) hfd.1 hlt
                refine aw_list ?_
                apply al_seg
                · (iterate 3 apply Seg.cons); exact Seg.nil _
                · simp (maxSteps := 2000000) (disch := omega) only [avR2, avA, datsOf, fillA, seval, ↓List.forall_mem_cons, Op.operands, hA, tiA, hE, KeptS]
                  exact SC
                refine al_step rfl (lookup_ok (kt := 3) (et := 3) (isK := isKI) (id := 21) (ks := k2) (vs := v2) rfl rfl (by rw [hN]; omega) ⟨⟨_, by rw [hP]; exact ti89, rfl⟩, by rw [hP]; exact keyRun_int under3, rfl, rfl, hinv.q2⟩ rfl ⟨_, rfl⟩ (by rw [hP]; exact zero3)) ?_
                rw [of_put, lkA_f, hcn]
                apply al_seg
                · (iterate 1 apply Seg.cons); exact Seg.nil _
                · simp (maxSteps := 2000000) (disch := omega) only [avR2, avA, datsOf, fillA, seval, ↓List.forall_mem_cons, Op.operands, hA, tiA, hE, KeptS]
                  exact SC
                refine al_step rfl (mapUpdate_ok (kt := 3) (et := 3) (isK := isKI) (id := 21) (ks := k2) (vs := v2) rfl rfl ⟨⟨_, by rw [hP]; exact ti89, rfl⟩, by rw [hP]; exact keyRun_int under3, rfl, rfl, hinv.q2⟩ rfl ⟨_, rfl⟩ rfl) ?_
                simp only [avA, seval]
                apply al_last [0, 4, 5, 6, 24, 25, 26] [20, 21, 22]
                · simp (maxSteps := 2000000) (disch := omega) only [avR2, avA, datsOf, fillA, seval, ↓List.forall_mem_cons, Op.operands, hA, tiA, hE]
                  exact SC
                apply q_block
                apply q_seq
                refine WQ [0, 4, 5, 6, 24, 25, 26] [20, 21, 22] ?_
                refine WN (⟨⟨i + 1, ⟨_, _⟩, ⟨_, _⟩, ⟨_, _⟩⟩, hnx⟩)
    · skip
      apply aw_exit
      apply q_exit_seq
      have hend : i = (sortM l).length := by omega
      have hv2 : closedM l = ((l.length : Int), 0) := by rw [hcl, hend, Nat.sub_self]; rfl
      have hE := And.intro hE hv2
      apply q_exit_loop
      apply q_exit
      apply q_seq
      refine WS [2, 3] [20, 21, 22] ?_
      apply aw_ret
      simp only [QRet, QRetM, QRetX, retsX_nil, retsX_cons, objsAre, resA, mapO_nil, mapO_cons, vD_dat, vD_nils, vD_rp, vD_osl, vD_ptr, vD_agg, vD_fn, vD_isl, vL_dat, vL_app, viewL, avA, datsOf, fillA, seval, ↓List.forall_mem_cons, Op.operands, hP, hG, tiA, hE]
      all_goals try (first | done | rfl | trivial)
end Go.Proofs.Ytabjaaonfaejmaa

namespace Go.Proofs.Ytabjaaonfaejmaa
open Go.Av
theorem tr6 {α : Type} {f : α → Dat} (A B C D E F : List α) (n : Nat) (h : A.length + B.length + C.length + D.length + E.length + F.length ≤ n) : List.take n (List.map AV.dat (List.map f A) ++ List.map AV.dat (List.map f B) ++ List.map AV.dat (List.map f C) ++ List.map AV.dat (List.map f D) ++ List.map AV.dat (List.map f E) ++ List.map AV.dat (List.map f F)) = List.map AV.dat (List.map f A) ++ List.map AV.dat (List.map f B) ++ List.map AV.dat (List.map f C) ++ List.map AV.dat (List.map f D) ++ List.map AV.dat (List.map f E) ++ List.map AV.dat (List.map f F) := List.take_of_length_le (by simpa [Nat.add_assoc] using h)
theorem tr7 {α : Type} {f : α → Dat} (A B C D E F G : List α) (n : Nat) (h : A.length + B.length + C.length + D.length + E.length + F.length + G.length ≤ n) : List.take n (List.map AV.dat (List.map f A) ++ List.map AV.dat (List.map f B) ++ List.map AV.dat (List.map f C) ++ List.map AV.dat (List.map f D) ++ List.map AV.dat (List.map f E) ++ List.map AV.dat (List.map f F) ++ List.map AV.dat (List.map f G)) = List.map AV.dat (List.map f A) ++ List.map AV.dat (List.map f B) ++ List.map AV.dat (List.map f C) ++ List.map AV.dat (List.map f D) ++ List.map AV.dat (List.map f E) ++ List.map AV.dat (List.map f F) ++ List.map AV.dat (List.map f G) := List.take_of_length_le (by simpa [Nat.add_assoc] using h)
set_option maxRecDepth 100000 in
set_option maxHeartbeats 2000000 in
theorem wev_ok (G) (e : EventM) (h : OkEv e) : Gives Try.prog G 28 [eventD e] [u8sD (evB e)] := by
  have hnr := h.nrefs
  have hnp := h.nposts
  have hnb := h.nbroader
  have hpl := flatN_len (f := nameI) (k := 2) (fun _ => rfl) e.Refs
  have hrl := hpl e.Refs.length (Nat.le_refl _)
  rw [flatN_all] at hrl
  have hhd : ∀ x ∈ [e.By, e.Seq, e.Tick, e.Kind], I64 x := by
    simp only [List.forall_mem_cons]
    exact ⟨h.by_, h.seq, h.tick, h.kind, by simp⟩
  have hid : ∀ x ∈ idI e.ID, I64 x := by
    simp only [idI, List.forall_mem_cons]
    exact ⟨h.id.1, h.id.2.1, h.id.2.2, by simp⟩
  have hb1 := intsM_le hhd (by simp)
  have hb2 := intsM_le (nameI_ok h) (by omega)
  simp only [List.length_cons, List.length_nil] at hb1
  rw [hrl] at hb2
  have hoa := h.op.all
  have o1 := of_op e.Kind
  have o2 := of_term e.Kind
  have o4 := of_posts e.Kind
  have o5 := of_n e.Kind
  skip
  skip
  refine gives_intro [] [21, 50, 130] [] Try.func28 rfl (by rfl) (by simp [Try.ntmps28]) fun F hP hG hN hR => ?_
  rw [Try.ntmps28] at hN
  have hA := And.intro hN (And.intro hP (And.intro hG (And.intro hR.1 (And.intro hR.2.1 hR.2.2.1))))
  have hE := And.intro @Try.results28 (And.intro @flatN_zero (And.intro @Nat.min_self (And.intro @tr2 (And.intro @tr3 (@tr4)))))
  refine WS [1] [1, 21] ?_
  apply aw_regs [1, 3] [1, 40, 61, 74, 89, 96, 102, 115, 120, 132, 21]
  · simp (maxSteps := 2000000) (disch := omega) only [avR2, avA, datsOf, fillA, seval, ↓List.forall_mem_cons, Op.operands, hA, tiA, hE]
    (repeat' refine And.intro ?_ ?_) <;> try exact SD
    refine CallC.useX (fun _ => 21) [18] (by simp [LitD, hR.2.1]) (gvFX hP hG (wints_okX G [e.By, e.Seq, e.Tick, e.Kind] hhd (by simp))) rfl (lentX_of hN (by first | trivial | ((try simp only [haveL, AObj.ren, AV.ren, renL, ren_row, List.map_cons, List.map_nil, objL_cons, objL_nil]) <;> ((repeat' apply And.intro) <;> first | trivial | rfl))) (by rfl)) ?_
    try simp (maxSteps := 2000000) (disch := omega) only [avR2, avA, datsOf, fillA, seval, ↓List.forall_mem_cons, Op.operands, hA, tiA, hE, avX]
    exact SC
  refine WS [1, 3, 4] [1, 34, 35, 40, 61, 74, 89, 96, 102, 115, 120, 132, 21] ?_
  apply aw_seq
  refine WS [1, 3, 4, 23, 24, 25] [1, 34, 35, 40, 61, 74, 89, 96, 102, 115, 120, 132, 21] ?_
  apply aw_block
  refine aw_new0 35 1 (by omega) ?_
  refine aw_nilE 4 35 1 rfl rfl ?_
  refine WL (ι := {i : Nat // i ≤ e.Refs.length}) [1, 3, 23, 24] [1, 34, 40, 61, 74, 89, 96, 102, 115, 120, 132, 21] (fun ⟨i, hi⟩ => [(4, .osl 35 1 0 (flatN nameI e.Refs i).length), (25, .dat (iD i))]) (fun ⟨i, hi⟩ => [(35, ⟨1, ((flatN nameI e.Refs i).map iD).map .dat⟩)]) (fun ⟨i, hi⟩ => e.Refs.length - i) (⟨0, by omega⟩) ?_
  rintro ⟨i, hi⟩
  dsimp only [List.cons_append, List.nil_append]
  have hl := hpl i hi
  refine WS [1, 3, 4, 23, 24, 25, 26] [1, 34, 35, 40, 61, 74, 89, 96, 102, 115, 120, 132, 21] ?_
  apply aw_seq
  refine WI (fun hb => ?_) (fun hb => ?_)
  · skip
    have hl2 := hpl (i + 1) (by omega)
    have hsc := flatN_succ nameI e.Refs i (by omega)
    have hE := And.intro hE (And.intro hsc (nameI.eq_1 (e.Refs.getD i default)))
    apply aw_skip
    apply q_seq
    apply aw_seq
    apply aw_block
    refine WS [1, 3, 4, 6, 23, 24, 25] [1, 6, 34, 35, 40, 61, 74, 89, 96, 102, 115, 120, 132, 21] ?_
    refine WQ [1, 3, 4, 23, 24, 25] [1, 34, 35, 40, 61, 74, 89, 96, 102, 115, 120, 132, 21] ?_
    apply q_block
    apply q_seq
    refine WQ [1, 3, 4, 23, 24, 25] [1, 34, 35, 40, 61, 74, 89, 96, 102, 115, 120, 132, 21] ?_
    refine WN (⟨i + 1, by omega⟩)
  · skip
    apply aw_exit
    apply q_exit_seq
    have hend : i = e.Refs.length := by omega
    subst hend
    have hf := flatN_all nameI e.Refs
    have hE := And.intro hE hf
    apply q_exit_loop
    apply q_exit
    apply q_seq
    refine aw_frz 35 hR.2.2.2 rfl (datE_map _) ?_
    have hc := gvF hP hG (wints_ok G (e.Refs.flatMap nameI) (nameI_ok h) (by omega))
    refine WSc [1, 3] [1, 40, 61, 74, 89, 96, 102, 115, 120, 132, 21] ?_
    refine WS [1, 3, 7] [1, 40, 50, 61, 74, 89, 96, 102, 115, 120, 132, 21] ?_
    apply aw_seq
    have hc := gvF hP hG (of_ok G e.Kind)
    refine WSc [1, 3, 7, 8] [1, 8, 40, 50, 61, 74, 89, 96, 102, 115, 120, 132, 21] ?_
    apply aw_block
    refine WS [1, 3, 7, 8, 54] [1, 8, 40, 50, 61, 74, 89, 96, 102, 115, 120, 132, 21] ?_
    refine WI (fun hb => ?_) (fun hb => ?_)
    · skip
      have hk : e.Kind = 0 := by grind
      have hv : evB e = intsM [e.By, e.Seq, e.Tick, e.Kind] ++ intsM (e.Refs.flatMap nameI) ++ opB e.Op := by
        unfold evB headB tailB
        rw [if_pos hk]
      have hE := And.intro hE hv
      have hc := gvF hP hG (wop_ok G e.Op h.op)
      refine WQc [3] [40, 61, 74, 89, 96, 102, 115, 120, 132, 21] ?_
      apply q_block
      apply q_seq
      refine WS [2] [40, 61, 74, 89, 96, 102, 115, 120, 132, 21] ?_
      apply aw_ret
      simp only [QRet, QRetM, QRetX, retsX_nil, retsX_cons, objsAre, resA, mapO_nil, mapO_cons, vD_dat, vD_nils, vD_rp, vD_osl, vD_ptr, vD_agg, vD_fn, vD_isl, vL_dat, vL_app, viewL, avA, datsOf, fillA, seval, ↓List.forall_mem_cons, Op.operands, hP, hG, tiA, hE]
      all_goals try (first | done | rfl | trivial)
      all_goals (simp only [← List.map_append, datE_map] <;> rfl)
    · skip
      refine WS [1, 3, 7, 8, 62] [1, 8, 40, 50, 61, 74, 89, 96, 102, 115, 120, 132, 21] ?_
      refine WI (fun hb => ?_) (fun hb => ?_)
      · skip
        have hk : e.Kind = 2 := by grind
        have hk0 : e.Kind ≠ 0 := by omega
        have hv : evB e = intsM [e.By, e.Seq, e.Tick, e.Kind] ++ intsM (e.Refs.flatMap nameI) ++ intsM [e.Term.Kind, e.Term.Lang] ++ strsM (e.Term.Name :: e.Term.See :: e.Term.Broader) := by
          unfold evB headB tailB
          rw [if_neg hk0, if_pos hk]
          simp only [List.append_assoc]
        have hE := And.intro hE hv
        have htk : ∀ x ∈ [e.Term.Kind, e.Term.Lang], I64 x := by
          simp only [List.forall_mem_cons]
          exact ⟨h.tk, h.tl, by simp⟩
        have hts : ∀ s ∈ e.Term.Name :: e.Term.See :: e.Term.Broader, s.size ≤ 1000000 := by
          simp only [List.forall_mem_cons]
          exact ⟨by have := h.name; omega, by have := h.see; omega, fun s hs => by have := h.broader s hs; omega⟩
        have hb3 := intsM_le htk (by simp)
        have hb4 := strsM_le hts (by simp; omega)
        simp only [List.length_cons, List.length_nil] at hb3 hb4
        have hfl : ([[e.Term.Name, e.Term.See], e.Term.Broader] : List (List ByteArray)).flatten = e.Term.Name :: e.Term.See :: e.Term.Broader := by simp
        have hE := And.intro hE hfl
        have hc := gvF hP hG (wints_ok G [e.Term.Kind, e.Term.Lang] htk (by simp))
        refine WSc [1, 3] [1, 40, 61, 74, 89, 96, 102, 115, 120, 132, 21] ?_
        apply aw_reg [3] [40, 61, 74, 89, 96, 102, 115, 120, 132, 21]
        · simp (maxSteps := 2000000) (disch := omega) only [avR2, avA, datsOf, fillA, seval, ↓List.forall_mem_cons, Op.operands, hA, tiA, hE]
          (repeat' refine And.intro ?_ ?_) <;> try exact SD
          refine CallC.use (gvF hP hG (concatS_ok G [[e.Term.Name, e.Term.See], e.Term.Broader] (by simp) (by simp; omega) (by simp; omega))) rfl ?_
          try simp (maxSteps := 2000000) (disch := omega) only [avR2, avA, datsOf, fillA, seval, ↓List.forall_mem_cons, Op.operands, hA, tiA, hE]
          (repeat' refine And.intro ?_ ?_) <;> try exact SD
          refine CallC.use (gvF hP hG (wstrs_ok G (e.Term.Name :: e.Term.See :: e.Term.Broader) hts (by simp; omega))) rfl ?_
          try simp (maxSteps := 2000000) (disch := omega) only [avR2, avA, datsOf, fillA, seval, ↓List.forall_mem_cons, Op.operands, hA, tiA, hE]
          exact SC
        apply q_block
        apply q_seq
        refine WS [2] [40, 61, 74, 89, 96, 102, 115, 120, 132, 21] ?_
        apply aw_ret
        simp only [QRet, QRetM, QRetX, retsX_nil, retsX_cons, objsAre, resA, mapO_nil, mapO_cons, vD_dat, vD_nils, vD_rp, vD_osl, vD_ptr, vD_agg, vD_fn, vD_isl, vL_dat, vL_app, viewL, avA, datsOf, fillA, seval, ↓List.forall_mem_cons, Op.operands, hP, hG, tiA, hE]
        all_goals try (first | done | rfl | trivial)
        all_goals (simp only [← List.map_append, datE_map] <;> rfl)
      · skip
        refine WS [1, 3, 7, 8, 90] [1, 8, 40, 50, 61, 74, 89, 96, 102, 115, 120, 132, 21] ?_
        refine WI (fun hb => ?_) (fun hb => ?_)
        · skip
          have hk : e.Kind = 3 ∨ e.Kind = 4 := by grind
          have hk0 : e.Kind ≠ 0 := by omega
          have hk2 : e.Kind ≠ 2 := by omega
          have hv : evB e = intsM [e.By, e.Seq, e.Tick, e.Kind] ++ intsM (e.Refs.flatMap nameI) ++ intsM (idI e.ID) ++ intM e.Posts.length ++ e.Posts.flatMap postB := by
            unfold evB headB tailB
            rw [if_neg hk0, if_neg hk2, if_pos hk]
            simp only [List.append_assoc]
          have hE := And.intro hE hv
          have hb3 : (intsM (idI e.ID)).length ≤ 36 := intsM_le hid (by simp [idI])
          have hb4 : (intM (e.Posts.length : Int)).length ≤ 9 := intM_le (by unfold I64; omega)
          refine aw_litD 7 rfl ?_
          have hc := gvF hP hG (wints_ok G (idI e.ID) hid (by simp [idI]))
          refine WSc [1, 3] [1, 40, 61, 74, 89, 96, 102, 115, 120, 132, 21] ?_
          have hc := gvF hP hG (wint_ok G e.Posts.length (by unfold I64; omega))
          refine WSc [1, 3] [1, 40, 61, 74, 89, 96, 102, 115, 120, 132, 21] ?_
          refine WS [3, 104, 105, 106] [40, 61, 74, 89, 96, 102, 115, 120, 132, 21] ?_
          apply aw_block
          refine aw_swap 102 120 (by omega) (by omega) ?_
          have hE := And.intro hE (And.intro (tr5 (α := Int) (f := u8D)) (And.intro (tr6 (α := Int) (f := u8D)) (tr7 (α := Int) (f := u8D))))
          refine WL (ι := {i : Nat // i ≤ e.Posts.length}) [104, 105] [40, 61, 74, 89, 96, 102, 115, 132, 21] (fun ⟨i, hi⟩ => [(3, .osl 120 1 0 ((intsM [e.By, e.Seq, e.Tick, e.Kind]).length + (intsM (e.Refs.flatMap nameI)).length + (intsM (idI e.ID)).length + (intM e.Posts.length).length + (flatN postB e.Posts i).length)), (106, .dat (iD i))]) (fun ⟨i, hi⟩ => [(120, ⟨1, ((intsM [e.By, e.Seq, e.Tick, e.Kind] ++ intsM (e.Refs.flatMap nameI) ++ intsM (idI e.ID) ++ intM e.Posts.length ++ flatN postB e.Posts i).map u8D).map .dat⟩)]) (fun ⟨i, hi⟩ => e.Posts.length - i) (⟨0, by omega⟩) ?_
          rintro ⟨i, hi⟩
          dsimp only [List.cons_append, List.nil_append]
          have hpi := postsB_le h i hi
          refine WS [3, 104, 105, 106, 107] [40, 61, 74, 89, 96, 102, 115, 120, 132, 21] ?_
          apply aw_seq
          refine WI (fun hb => ?_) (fun hb => ?_)
          · skip
            have hsc := flatN_succ postB e.Posts i (by omega)
            have hpp := getD_all h.posts (i := i) (by omega)
            have hsl : (flatN postB e.Posts (i + 1)).length = (flatN postB e.Posts i).length + (postB (e.Posts.getD i default)).length := by rw [hsc, List.length_append]
            have hps := strsM_le (l := (e.Posts.getD i default).Path) (fun s hs => by have := hpp.2.2 s hs; omega) (by omega)
            apply aw_skip
            apply q_seq
            apply aw_seq
            apply aw_block
            refine WS [3, 10, 104, 105, 106] [10, 40, 61, 74, 89, 96, 102, 115, 120, 132, 21] ?_
            refine WS [3, 10, 11, 104, 105, 106] [10, 40, 61, 74, 89, 96, 102, 115, 120, 132, 21] ?_
            apply aw_seq
            refine WS [3, 10, 11, 104, 105, 106, 111] [10, 40, 61, 74, 89, 96, 102, 115, 120, 132, 21] ?_
            refine WI (fun hb => ?_) (fun hb => ?_)
            · skip
              have hpb : postB (e.Posts.getD i default) = intM 1 ++ strsM (e.Posts.getD i default).Path := by unfold postB; rw [if_pos hb]
              have him : (intM 1).length ≤ 9 := intM_le (by unfold I64; omega)
              have hsx : ∀ X : List Int, X ++ flatN postB e.Posts (i + 1) = X ++ flatN postB e.Posts i ++ intM 1 ++ strsM (e.Posts.getD i default).Path := fun X => by rw [hsc, hpb]; simp only [List.append_assoc]
              rw [hpb, List.length_append, ← Nat.add_assoc] at hsl
              have hsy : ∀ Y : Nat, Y + (flatN postB e.Posts (i + 1)).length = Y + (flatN postB e.Posts i).length + (intM 1).length + (strsM (e.Posts.getD i default).Path).length := fun Y => by omega
              have hE := And.intro hE (And.intro hsx hsy)
              refine WQ [3, 10, 11, 104, 105, 106] [10, 40, 61, 74, 89, 96, 102, 115, 120, 132, 21] ?_
              apply q_seq
              have hc := gvF hP hG (wint_ok G 1 (by unfold I64; omega))
              refine WSc [3, 10, 104, 105, 106] [10, 40, 61, 74, 89, 96, 102, 115, 120, 132, 21] ?_
              have hc := gvF hP hG (wstrs_ok G (e.Posts.getD i default).Path (fun s hs => by have := hpp.2.2 s hs; omega) (by omega))
              refine WQc [3, 104, 105, 106] [40, 61, 74, 89, 96, 102, 115, 120, 132, 21] ?_
              apply q_block
              apply q_seq
              refine WQ [3, 104, 105, 106] [40, 61, 74, 89, 96, 102, 115, 120, 132, 21] ?_
              refine WN (⟨i + 1, by omega⟩)
            · skip
              have hpb : postB (e.Posts.getD i default) = intM 0 ++ strsM (e.Posts.getD i default).Path := by unfold postB; rw [if_neg (by rw [hb]; exact Bool.false_ne_true)]
              have him : (intM 0).length ≤ 9 := intM_le (by unfold I64; omega)
              have hsx : ∀ X : List Int, X ++ flatN postB e.Posts (i + 1) = X ++ flatN postB e.Posts i ++ intM 0 ++ strsM (e.Posts.getD i default).Path := fun X => by rw [hsc, hpb]; simp only [List.append_assoc]
              rw [hpb, List.length_append, ← Nat.add_assoc] at hsl
              have hsy : ∀ Y : Nat, Y + (flatN postB e.Posts (i + 1)).length = Y + (flatN postB e.Posts i).length + (intM 0).length + (strsM (e.Posts.getD i default).Path).length := fun Y => by omega
              have hE := And.intro hE (And.intro hsx hsy)
              apply aw_skip
              apply q_seq
              have hc := gvF hP hG (wint_ok G 0 (by unfold I64; omega))
              refine WSc [3, 10, 104, 105, 106] [10, 40, 61, 74, 89, 96, 102, 115, 120, 132, 21] ?_
              have hc := gvF hP hG (wstrs_ok G (e.Posts.getD i default).Path (fun s hs => by have := hpp.2.2 s hs; omega) (by omega))
              refine WQc [3, 104, 105, 106] [40, 61, 74, 89, 96, 102, 115, 120, 132, 21] ?_
              apply q_block
              apply q_seq
              refine WQ [3, 104, 105, 106] [40, 61, 74, 89, 96, 102, 115, 120, 132, 21] ?_
              refine WN (⟨i + 1, by omega⟩)
          · skip
            apply aw_exit
            apply q_exit_seq
            have hend : i = e.Posts.length := by omega
            subst hend
            have hf2 := flatN_all postB e.Posts
            have hE := And.intro hE hf2
            apply q_exit_loop
            apply q_exit
            apply q_block
            apply q_seq
            refine WS [2] [40, 61, 74, 89, 96, 102, 115, 120, 132, 21] ?_
            apply aw_ret
            simp only [QRet, QRetM, QRetX, retsX_nil, retsX_cons, objsAre, resA, mapO_nil, mapO_cons, vD_dat, vD_nils, vD_rp, vD_osl, vD_ptr, vD_agg, vD_fn, vD_isl, vL_dat, vL_app, viewL, avA, datsOf, fillA, seval, ↓List.forall_mem_cons, Op.operands, hP, hG, tiA, hE]
            all_goals try (first | done | rfl | trivial)
            all_goals (simp only [← List.map_append, datE_map] <;> rfl)
        · skip
          refine WS [1, 3, 7, 122] [1, 40, 50, 61, 74, 89, 96, 102, 115, 120, 132, 21] ?_
          refine WI (fun hb => ?_) (fun hb => ?_)
          · skip
            have hk : e.Kind = 5 ∨ e.Kind = 6 := by grind
            have hk0 : e.Kind ≠ 0 := by omega
            have hk2 : e.Kind ≠ 2 := by omega
            have hk3 : ¬ (e.Kind = 3 ∨ e.Kind = 4) := by omega
            have hv : evB e = intsM [e.By, e.Seq, e.Tick, e.Kind] ++ intsM (e.Refs.flatMap nameI) ++ intsM (idI e.ID ++ [e.N]) := by
              unfold evB headB tailB
              rw [if_neg hk0, if_neg hk2, if_neg hk3, if_pos hk]
            have hE := And.intro hE hv
            have hin : ∀ x ∈ idI e.ID ++ [e.N], I64 x := by
              simp only [idI, List.cons_append, List.nil_append, List.forall_mem_cons]
              exact ⟨h.id.1, h.id.2.1, h.id.2.2, h.n, by simp⟩
            have hb3 : (intsM (idI e.ID ++ [e.N])).length ≤ 45 := intsM_le hin (by simp [idI])
            have hc := gvF hP hG (wints_ok G (idI e.ID ++ [e.N]) hin (by simp [idI]))
            refine WQc [3] [40, 61, 74, 89, 96, 102, 115, 120, 132, 21] ?_
            apply q_block
            apply q_seq
            refine WS [2] [40, 61, 74, 89, 96, 102, 115, 120, 132, 21] ?_
            apply aw_ret
            simp only [QRet, QRetM, QRetX, retsX_nil, retsX_cons, objsAre, resA, mapO_nil, mapO_cons, vD_dat, vD_nils, vD_rp, vD_osl, vD_ptr, vD_agg, vD_fn, vD_isl, vL_dat, vL_app, viewL, avA, datsOf, fillA, seval, ↓List.forall_mem_cons, Op.operands, hP, hG, tiA, hE]
            all_goals try (first | done | rfl | trivial)
            all_goals (simp only [← List.map_append, datE_map] <;> rfl)
          · skip
            have hv : evB e = intsM [e.By, e.Seq, e.Tick, e.Kind] ++ intsM (e.Refs.flatMap nameI) := by
              unfold evB headB tailB
              rw [if_neg (by grind), if_neg (by grind), if_neg (by grind), if_neg (by grind)]
              simp only [List.append_nil]
            have hE := And.intro hE hv
            apply aw_skip
            apply q_block
            apply q_seq
            refine WS [2] [40, 61, 74, 89, 96, 102, 115, 120, 132, 21] ?_
            apply aw_ret
            simp only [QRet, QRetM, QRetX, retsX_nil, retsX_cons, objsAre, resA, mapO_nil, mapO_cons, vD_dat, vD_nils, vD_rp, vD_osl, vD_ptr, vD_agg, vD_fn, vD_isl, vL_dat, vL_app, viewL, avA, datsOf, fillA, seval, ↓List.forall_mem_cons, Op.operands, hP, hG, tiA, hE]
            all_goals try (first | done | rfl | trivial)
            all_goals (simp only [← List.map_append, datE_map] <;> rfl)
end Go.Proofs.Ytabjaaonfaejmaa

namespace Go.Proofs.Ytabjaaonfaejmaa
open Go.Av
def opN (l : List Int) (a : Int) : Int := atM l a 65536
def opT (l : List Int) (a : Int) : List ByteArray := if (opN l a).tmod 3 = 0 then listM l (a + 1) (((opN l a).tdiv 3).tmod 3).toNat else []
def opP (l : List Int) (a : Int) : List (Int × Int) := if (opN l a).tmod 3 = 0 then [((opN l a).tmod 2, ((opN l a).tdiv 2).tmod 3)] else []
def opS (l : List Int) (a : Int) : SpotM := if (opN l a).tmod 4 = 0 then ⟨((opN l a).tdiv 4).tmod 2, ((opN l a).tdiv 8).tmod 3, ((opN l a).tdiv 16).tmod 4⟩ else ⟨0, 0, 0⟩
def opR (l : List Int) (a : Int) : List IdM := if (opN l a).tmod 4 = 0 then [idM ((opN l a).tdiv 5)] else []
def opM (l : List Int) (a : Int) : OpM := { Kind := (opN l a).tmod 10, At := idM ((opN l a).tdiv 10), To := ⟨0, 0, 0⟩, Spot := opS l a, N := ((opN l a).tdiv 100).tmod 5, Form := 0, Lang := 0, Text := wordM ((opN l a).tdiv 7), Texts := opT l a, Pairs := opP l a, Refs := opR l a }
def idZ : IdM := ⟨0, 0, 0⟩
def kindG (l : List Int) : Int := atM l 3 7
def shrG (n : Int) (i : Nat) : Int := IntKind.i64.wrap ↑(BitVec.ofInt IntKind.i64.bits (n.fdiv (2 ^ min i IntKind.i64.bits)) &&& BitVec.ofInt IntKind.i64.bits 1).toNat
def nmG (l : List Int) (i : Nat) : NameM := ⟨i, atM l (5 + (i : Int)) 64⟩
def refsG (l : List Int) : Nat → List NameM
  | 0 => []
  | i + 1 => refsG l i ++ if shrG (atM l 4 64) i = 1 ∧ ((i : Int) = atM l 0 6 → ¬ atM l (5 + (i : Int)) 64 = atM l 1 64) then [nmG l i] else []
def numG (l : List Int) : Int := atM l 11 4096
def zOpG : OpM := { Kind := 0, At := idZ, To := idZ, Spot := ⟨0, 0, 0⟩, N := 0, Form := 0, Lang := 0, Text := ⟨#[]⟩, Texts := [], Pairs := [], Refs := [] }
def zTermG : TermM := { Name := ⟨#[]⟩, Kind := 0, Lang := 0, See := ⟨#[]⟩, Broader := [] }
def termG (l : List Int) : TermM := { Name := wordM (numG l), Kind := (numG l).tmod 3, Lang := ((numG l).tdiv 3).tmod 4, See := if (numG l).tmod 5 = 0 then wordM ((numG l).tdiv 5) else ⟨#[]⟩, Broader := listM l 12 (((numG l).tdiv 12).tmod 3).toNat }
def postG (l : List Int) (i : Nat) : PostM := { ID := idM (numG l), Path := listM l (12 + 4 * (i : Int)) (1 + atM l (30 + (i : Int)) 4).toNat, Main := decide (shrG (numG l) i = 1) }
def postsG (l : List Int) (i : Nat) : List PostM := (List.range i).map (postG l)
def evI (l : List Int) (i : Nat) : EventM := { By := atM l 0 6, Seq := atM l 1 64, Tick := atM l 2 1048577, Kind := kindG l, Refs := refsG l i, Op := zOpG, Term := zTermG, ID := idZ, Posts := [], N := 0 }
def evG (l : List Int) : EventM :=
  if kindG l = 0 then { evI l 6 with Op := opM l 12 }
  else if kindG l = 2 then { evI l 6 with Term := termG l }
  else if kindG l = 3 ∨ kindG l = 4 then { evI l 6 with ID := idM (numG l), Posts := postsG l ((numG l).tmod 4).toNat }
  else if kindG l = 5 ∨ kindG l = 6 then { evI l 6 with ID := idM (numG l), N := atM l 12 1048577 }
  else evI l 6
theorem refsG_len (l : List Int) : ∀ i, (refsG l i).length ≤ i
  | 0 => Nat.le_refl _
  | i + 1 => by
    have := refsG_len l i
    rw [refsG, List.length_append]
    split
    · simp; omega
    · simp; omega
end Go.Proofs.Ytabjaaonfaejmaa

namespace Go.Proofs.Ytabjaaonfaejmaa
open Go.Av
end Go.Proofs.Ytabjaaonfaejmaa

namespace Go.Proofs.Ytabjaaonfaejmaa
open Go.Av
def exE (b t k : Int) (r : List NameM) (n : Int) : EventM := { By := b, Seq := 0, Tick := t, Kind := k, Refs := r, Op := zOpG, Term := zTermG, ID := idZ, Posts := [], N := n }
theorem ex1 : closedM [exE 1 4 1 [⟨0, 0⟩] 0, exE 0 3 1 [] 0] = (2, 0) := by decide +kernel
theorem ex2 : closedM [exE 0 3 1 [] 0, exE 1 3 1 [⟨0, 0⟩] 0] = (1, 5) := by decide +kernel
theorem ex3 : closedM [exE 1 4 1 [⟨0, 0⟩] 0] = (0, 10) := by decide +kernel
theorem ex4 : closedM [exE 0 3 1 [] 0, exE 0 3 1 [] 0] = (1, 7) := by decide +kernel
theorem ex5 : closedM [exE 2 1 5 [] (-1)] = (0, 1) := by decide +kernel
theorem insR_mem {x a : EventM} {out : List EventM} {p : Nat} (h : x ∈ insR a out p) : x = a ∨ x ∈ out := by
  simp only [insR, List.mem_append, List.mem_singleton] at h
  rcases h with (h | h) | h
  · exact .inr (List.mem_of_mem_take h)
  · exact .inl h
  · exact .inr (List.mem_of_mem_drop h)
theorem rsN_mem {x : EventM} (l : List EventM) : ∀ i, i ≤ l.length → x ∈ rsN l i → x ∈ l
  | 0, _, h => by simp [rsN] at h
  | i + 1, hi, h => by
    rw [rsN] at h
    rcases insR_mem h with h | h
    · rw [h, List.getD_eq_getElem?_getD, List.getElem?_eq_getElem hi]
      exact List.getElem_mem hi
    · exact rsN_mem l i (by omega) h
theorem sortM_mem {x : EventM} {l : List EventM} (h : x ∈ sortM l) : x ∈ l := by
  rw [← rs_sort] at h
  exact rsN_mem l _ (Nat.le_refl _) h
theorem i64z : I64 0 := by unfold I64; omega
theorem okZ : OkOp zOpG where
  head := by
    intro x hx
    have : x = 0 := by
      simp [headL, zOpG, idZ] at hx
      exact hx
    rw [this]; exact i64z
  pairs := by simp [zOpG]
  refs := by simp [zOpG]
  text := by decide
  texts := by simp [zOpG]
  ntexts := by decide
  npairs := by decide
  nrefs := by decide
  all := by decide +kernel
theorem okEx {b t k n : Int} {r : List NameM} (hb : I64 b) (ht : I64 t) (hk : I64 k) (hn : I64 n) (hr : r.length ≤ 1000) (hrr : ∀ x ∈ r, I64 x.By ∧ I64 x.Seq) : OkEv (exE b t k r n) where
  by_ := hb
  seq := i64z
  tick := ht
  kind := hk
  n := hn
  id := ⟨i64z, i64z, i64z⟩
  tk := i64z
  tl := i64z
  refs := hrr
  nrefs := by show r.length ≤ 100000; omega
  op := okZ
  name := by show (0 : Nat) ≤ 900000; omega
  see := by show (0 : Nat) ≤ 900000; omega
  broader := by simp [exE, zTermG]
  nbroader := by show (0 : Nat) ≤ 100000; omega
  posts := by simp [exE]
  nposts := by show (0 : Nat) ≤ 1000; omega
end Go.Proofs.Ytabjaaonfaejmaa

namespace Go.Proofs.Ytabjaaonfaejmaa
open Go.Av
abbrev exA : EventM := exE 0 3 1 [] 0
abbrev exB : EventM := exE 1 4 1 [⟨0, 0⟩] 0
abbrev exC : EventM := exE 1 3 1 [⟨0, 0⟩] 0
abbrev exD0 : EventM := exE 2 1 5 [] (-1)
theorem okA : OkEv exA := okEx (by unfold I64; omega) (by unfold I64; omega) (by unfold I64; omega) (by unfold I64; omega) (by decide) (by simp)
theorem okB : OkEv exB := okEx (by unfold I64; omega) (by unfold I64; omega) (by unfold I64; omega) (by unfold I64; omega) (by decide) (by intro x hx; simp at hx; subst hx; exact ⟨i64z, i64z⟩)
theorem okC : OkEv exC := okEx (by unfold I64; omega) (by unfold I64; omega) (by unfold I64; omega) (by unfold I64; omega) (by decide) (by intro x hx; simp at hx; subst hx; exact ⟨i64z, i64z⟩)
theorem okD : OkEv exD0 := okEx (by unfold I64; omega) (by unfold I64; omega) (by unfold I64; omega) (by unfold I64; omega) (by decide) (by simp)
theorem closedX (G) (l : List EventM) (hl : l.length < 20) (h : ∀ e ∈ l, OkEv e) (a b : Int) (hc : closedM l = (a, b)) : Gives Try.prog G 17 [eventsD l] [iD a, iD b] := by
  have := closed_ok G l (.inl hl) (fun e he => h e (sortM_mem he))
  rw [hc] at this
  exact this
theorem cl1 (G) : Gives Try.prog G 17 [eventsD [exB, exA]] [iD 2, iD 0] := closedX G _ (by decide) (by simp [okA, okB]) 2 0 ex1
theorem cl2 (G) : Gives Try.prog G 17 [eventsD [exA, exC]] [iD 1, iD 5] := closedX G _ (by decide) (by simp [okA, okC]) 1 5 ex2
theorem cl3 (G) : Gives Try.prog G 17 [eventsD [exB]] [iD 0, iD 10] := closedX G _ (by decide) (by simp [okB]) 0 10 ex3
theorem cl4 (G) : Gives Try.prog G 17 [eventsD [exA, exA]] [iD 1, iD 7] := closedX G _ (by decide) (by simp [okA]) 1 7 ex4
theorem cl5 (G) : Gives Try.prog G 17 [eventsD [exD0]] [iD 0, iD 1] := closedX G _ (by decide) (by simp [okD]) 0 1 ex5
theorem vL_two (f : AV → Option Dat) (A B : List Dat) : viewL f (A.map .dat ++ B.map .dat) = some (A ++ B) := by rw [← List.map_append]; exact vL_dat _ _
set_option maxRecDepth 100000 in
set_option maxHeartbeats 2000000 in
theorem lives_ok (G) : Gives Try.prog G 13 [] [bD true] := by
  have hx1 : (intsM [0, 0, 3, 1]).length ≤ 1000 := by decide +kernel
  have hx2 : (intsM []).length ≤ 1000 := by decide +kernel
  have hs1 : sameL (fun x y : Int => x == y) (evB exA) (intsM [0, 0, 3, 1] ++ intsM []) = true := by decide +kernel
  have hs2 : beforeM exA exB = true := by decide +kernel
  have hs3 : beforeM exB exA = false := by decide +kernel
  skip
  skip
  refine gives_intro [49] [94] [] Try.func13 rfl (by rfl) (by simp [Try.ntmps13]) fun F hP hG hN hR => ?_
  rw [Try.ntmps13] at hN
  have hA := And.intro hN (And.intro hP (And.intro hG (And.intro hR.1 (And.intro hR.2.1 hR.2.2.1))))
  have hE := And.intro @Try.results13 (And.intro @hs1 (And.intro @hs2 (@hs3)))
  refine WS [] [49] ?_
  refine WS [1] [1, 49] ?_
  refine WS [1, 2] [1, 2, 16, 49] ?_
  refine WS [1, 2, 3] [1, 2, 3, 16, 49] ?_
  refine WS [1, 2, 3] [1, 2, 3, 16, 49] ?_
  refine aw_aggD 1 rfl rfl ?_
  refine aw_aggD 2 rfl rfl ?_
  refine aw_aggD 3 rfl rfl ?_
  have hc := gvF hP hG (cl1 G)
  refine WSc [1, 2, 3, 4, 5] [1, 2, 3, 16, 49] ?_
  have hc := gvF hP hG (cl2 G)
  refine WSc [1, 2, 4, 5, 6, 7] [1, 2, 16, 49] ?_
  have hc := gvF hP hG (cl3 G)
  refine WSc [1, 2, 4, 5, 6, 7, 8, 9] [1, 2, 16, 49] ?_
  have hc := gvF hP hG (cl4 G)
  refine WSc [1, 2, 4, 5, 6, 7, 8, 9, 10, 11] [1, 2, 16, 49] ?_
  apply aw_regs [1, 2, 4, 5, 6, 7, 8, 9, 10, 11, 12, 13] [1, 2, 16, 49]
  · simp (maxSteps := 2000000) (disch := omega) only [avR2, avA, datsOf, fillA, seval, ↓List.forall_mem_cons, Op.operands, hA, tiA, hE]
    (repeat' refine And.intro ?_ ?_) <;> try exact SD
    refine CallC.use (gvF hP hG (cl5 G)) (by simp only [callArgs, mapO_nil, mapO_cons, vD_dat, vD_nils, vD_rp, vD_osl, vD_ptr, vD_agg, vD_fn, vD_isl, vL_dat, vL_app, avA, datsOf, fillA, seval, ↓List.forall_mem_cons, Op.operands, hE, viewL] <;> rfl) ?_
    try simp (maxSteps := 2000000) (disch := omega) only [avR2, avA, datsOf, fillA, seval, ↓List.forall_mem_cons, Op.operands, hA, tiA, hE]
    exact SC
  apply aw_seq
  refine WS [1, 2, 90] [1, 2, 16, 49] ?_
  refine WI (fun hb => ?_) (fun hb => ?_)
  · skip
    refine WS [0] [49] ?_
    apply aw_ret
    apply q_ret_seq
    simp only [QRet, QRetM, QRetX, retsX_nil, retsX_cons, objsAre, resA, mapO_nil, mapO_cons, vD_dat, vD_nils, vD_rp, vD_osl, vD_ptr, vD_agg, vD_fn, vD_isl, vL_dat, vL_app, viewL, avA, datsOf, fillA, seval, ↓List.forall_mem_cons, Op.operands, hP, hG, tiA, hE]
    all_goals try (first | done | rfl | trivial)
  · skip
    apply aw_skip
    apply q_seq
    apply aw_regs [0] [49]
    · simp (maxSteps := 2000000) (disch := omega) only [avR2, avA, datsOf, fillA, seval, ↓List.forall_mem_cons, Op.operands, hA, tiA, hE]
      (repeat' refine And.intro ?_ ?_) <;> try exact SD
      refine CallC.use (gvF hP hG (wev_ok G exA okA)) rfl ?_
      try simp (maxSteps := 2000000) (disch := omega) only [avR2, avA, datsOf, fillA, seval, ↓List.forall_mem_cons, Op.operands, hA, tiA, hE]
      (repeat' refine And.intro ?_ ?_) <;> try exact SD
      refine CallC.useX (fun _ => 94) [18] (by simp [LitD, hR.2.1]) (gvFX hP hG (wints_okX G [0, 0, 3, 1] (by intro x hx; simp at hx; unfold I64; omega) (by decide))) rfl (lentX_of hN (by first | trivial | ((try simp only [haveL, AObj.ren, AV.ren, renL, ren_row, List.map_cons, List.map_nil, objL_cons, objL_nil]) <;> ((repeat' apply And.intro) <;> first | trivial | rfl))) (by rfl)) ?_
      try simp (maxSteps := 2000000) (disch := omega) only [avR2, avA, datsOf, fillA, seval, ↓List.forall_mem_cons, Op.operands, hA, tiA, hE, avX]
      (repeat' refine And.intro ?_ ?_) <;> try exact SD
      refine CallC.use (gvF hP hG (wints_ok G [] (by simp) (by decide))) rfl ?_
      try simp (maxSteps := 2000000) (disch := omega) only [avR2, avA, datsOf, fillA, seval, ↓List.forall_mem_cons, Op.operands, hA, tiA, hE]
      (repeat' refine And.intro ?_ ?_) <;> try exact SD
      refine CallC.use (gvF hP hG (rsame_ok G (evB exA) (intsM [0, 0, 3, 1] ++ intsM []) (by decide +kernel))) (by simp only [callArgs, mapO_nil, mapO_cons, vD_dat, vD_nils, vD_rp, vD_osl, vD_ptr, vD_agg, vD_fn, vD_isl, vL_dat, vL_app, avA, datsOf, fillA, seval, ↓List.forall_mem_cons, Op.operands, hE, vL_two] <;> rfl) ?_
      try simp (maxSteps := 2000000) (disch := omega) only [avR2, avA, datsOf, fillA, seval, ↓List.forall_mem_cons, Op.operands, hA, tiA, hE]
      (repeat' refine And.intro ?_ ?_) <;> try exact SD
      refine CallGC.use rfl (fun hg => ⟨by first | trivial | (simp only [gdAll, AV.gd, avA, seval]; (repeat' apply And.intro) <;> first | trivial | rfl | exact hg) | simp_all [gdAll], gvF hP hG (before_ok G exA exB)⟩) ?_
      try simp (maxSteps := 2000000) (disch := omega) only [avR2, avA, datsOf, fillA, seval, ↓List.forall_mem_cons, Op.operands, hA, tiA, hE]
      (repeat' refine And.intro ?_ ?_) <;> try exact SD
      refine CallGC.use rfl (fun hg => ⟨by first | trivial | (simp only [gdAll, AV.gd, avA, seval]; (repeat' apply And.intro) <;> first | trivial | rfl | exact hg) | simp_all [gdAll], gvF hP hG (before_ok G exB exA)⟩) ?_
      try simp (maxSteps := 2000000) (disch := omega) only [avR2, avA, datsOf, fillA, seval, ↓List.forall_mem_cons, Op.operands, hA, tiA, hE]
      exact SC
    apply aw_ret
    simp only [QRet, QRetM, QRetX, retsX_nil, retsX_cons, objsAre, resA, mapO_nil, mapO_cons, vD_dat, vD_nils, vD_rp, vD_osl, vD_ptr, vD_agg, vD_fn, vD_isl, vL_dat, vL_app, viewL, avA, datsOf, fillA, seval, ↓List.forall_mem_cons, Op.operands, hP, hG, tiA, hE]
    all_goals try (first | done | rfl | trivial)
end Go.Proofs.Ytabjaaonfaejmaa

namespace Go.Proofs.Ytabjaaonfaejmaa
open Go.Av
theorem listM_len (l : List Int) (a : Int) (i : Nat) : (listM l a i).length = i := by simp [listM]
theorem listM_zero (l : List Int) (a : Int) : listM l a 0 = [] := rfl
theorem listM_succ (l : List Int) (a : Int) (i : Nat) : listM l a (i + 1) = listM l a i ++ [wordM (atM l (a + (i : Int)) 64)] := by simp [listM, List.range_succ]
theorem listM_take (l : List Int) (a : Int) (i : Nat) : (listM l a i).take i = listM l a i := List.take_of_length_le (by rw [listM_len]; exact Nat.le_refl _)
theorem tdiv_rng {n c m : Int} (hn : 0 ≤ n ∧ n ≤ m) (hc : 0 < c) : 0 ≤ n.tdiv c ∧ n.tdiv c ≤ m := by
  rw [Int.tdiv_eq_ediv_of_nonneg hn.1]
  exact ⟨Int.ediv_nonneg hn.1 (Int.le_of_lt hc), Int.le_trans (Int.ediv_le_self _ hn.1) hn.2⟩
theorem tmod_rng {n c : Int} (hn : 0 ≤ n) (hc : 0 < c) : 0 ≤ n.tmod c ∧ n.tmod c < c := ⟨Int.tmod_nonneg _ hn, Int.tmod_lt_of_pos _ hc⟩
theorem wrap_rng {n : Int} (hn : 0 ≤ n ∧ n ≤ 1000000000000000) : IntKind.i64.wrap n = n := IntWalk.i64_in _ (by omega)
theorem id_ok (G) (n : Int) (hn : 0 ≤ n ∧ n ≤ 1000000) : Gives Try.prog G 38 [iD n] [idD (idM n)] := by
  have w4 := wrap_rng (n := n.tdiv 4) (by have := tdiv_rng (c := 4) hn (by omega); omega)
  have w32 := wrap_rng (n := n.tdiv 32) (by have := tdiv_rng (c := 32) hn (by omega); omega)
  skip
  refine gives_intro [] [] [] Try.func38 rfl (by rfl) (by simp [Try.ntmps38]) fun F hP hG hN hR => ?_
  rw [Try.ntmps38] at hN
  have hA := And.intro hN (And.intro hP (And.intro hG (And.intro hR.1 (And.intro hR.2.1 hR.2.2.1))))
  have hE := And.intro @Try.results38 (And.intro @idM.eq_1 (And.intro @w4 (@w32)))
  refine WS [0, 2] [2] ?_
  refine WS [2] [2] ?_
  apply aw_ret
  simp only [QRet, QRetM, QRetX, retsX_nil, retsX_cons, objsAre, resA, mapO_nil, mapO_cons, vD_dat, vD_nils, vD_rp, vD_osl, vD_ptr, vD_agg, vD_fn, vD_isl, vL_dat, vL_app, viewL, avA, datsOf, fillA, seval, ↓List.forall_mem_cons, Op.operands, hP, hG, tiA, hE]
  all_goals try (first | done | rfl | trivial)
theorem list_ok (G) (l : List Int) (a m : Int) (hl : ∀ n ∈ l, I64 n) (ha : 0 ≤ a ∧ a ≤ 1000) (hm : m ≤ 1000) : Gives Try.prog G 37 [isD l, iD a, iD m] [ssD (listM l a m.toNat)] := by
  skip
  refine gives_intro [] [] [] Try.func37 rfl (by rfl) (by simp [Try.ntmps37]) fun F hP hG hN hR => ?_
  rw [Try.ntmps37] at hN
  have hA := And.intro hN (And.intro hP (And.intro hG (And.intro hR.1 (And.intro hR.2.1 hR.2.2.1))))
  have hE := And.intro @Try.results37 (And.intro @listM_len (And.intro @listM_zero (And.intro @listM_take (@Nat.min_self))))
  refine WS [0, 1, 2] [] ?_
  refine WS [0, 1, 2, 7] [21, 22] ?_
  apply aw_seq
  refine WS [0, 1, 2, 7, 8] [21, 22] ?_
  apply aw_block
  refine aw_new0 22 1 (by omega) ?_
  refine aw_nilE 7 22 1 rfl rfl ?_
  refine WL (ι := {i : Nat // i ≤ m.toNat}) [0, 1, 2] [21] (fun ⟨i, hi⟩ => [(7, .osl 22 1 0 i), (8, .dat (iD i))]) (fun ⟨i, hi⟩ => [(22, ⟨1, ((listM l a i).map Dat.str).map .dat⟩)]) (fun ⟨i, hi⟩ => m.toNat - i) (⟨0, by omega⟩) ?_
  rintro ⟨i, hi⟩
  dsimp only [List.cons_append, List.nil_append]
  have hat := atM_range (l := l) (i := a + (i : Int)) (m := 64) (by omega)
  apply aw_seq
  refine WS [0, 1, 2, 7, 8, 11] [21, 22] ?_
  refine WI (fun hb => ?_) (fun hb => ?_)
  · skip
    apply aw_skip
    apply q_seq
    apply aw_seq
    apply aw_block
    apply aw_reg [0, 1, 2, 7, 8] [21, 22]
    · simp (maxSteps := 2000000) (disch := omega) only [avR2, avA, datsOf, fillA, seval, ↓List.forall_mem_cons, Op.operands, hA, tiA, hE]
      (repeat' refine And.intro ?_ ?_) <;> try exact SD
      refine CallC.use (gvF hP hG (at_ok G l (a + (i : Int)) 64 hl (by omega) (by unfold I64; omega))) rfl ?_
      try simp (maxSteps := 2000000) (disch := omega) only [avR2, avA, datsOf, fillA, seval, ↓List.forall_mem_cons, Op.operands, hA, tiA, hE]
      (repeat' refine And.intro ?_ ?_) <;> try exact SD
      refine CallC.use (gvF hP hG (word_ok G (atM l (a + (i : Int)) 64) (by unfold I64; omega))) rfl ?_
      try simp (maxSteps := 2000000) (disch := omega) only [avR2, avA, datsOf, fillA, seval, ↓List.forall_mem_cons, Op.operands, hA, tiA, hE]
      exact SC
    apply q_block
    apply q_seq
    have hs := listM_succ l a i
    have hE := And.intro hE hs
    refine WQ [0, 1, 2, 7, 8] [21, 22] ?_
    refine WN (⟨i + 1, by omega⟩)
  · skip
    apply aw_exit
    apply q_exit_seq
    have hend : i = m.toNat := by omega
    subst hend
    apply q_exit_loop
    apply q_exit
    apply q_seq
    refine WS [6] [21, 22] ?_
    apply aw_ret
    simp only [QRet, QRetM, QRetX, retsX_nil, retsX_cons, objsAre, resA, mapO_nil, mapO_cons, vD_dat, vD_nils, vD_rp, vD_osl, vD_ptr, vD_agg, vD_fn, vD_isl, vL_dat, vL_app, viewL, avA, datsOf, fillA, seval, ↓List.forall_mem_cons, Op.operands, hP, hG, tiA, hE]
    all_goals try (first | done | rfl | trivial)
end Go.Proofs.Ytabjaaonfaejmaa

namespace Go.Proofs.Ytabjaaonfaejmaa
open Go.Av
set_option maxRecDepth 100000 in
set_option maxHeartbeats 2000000 in
theorem op_ok (G) (l : List Int) (a : Int) (hl : ∀ n ∈ l, I64 n) (ha : 0 ≤ a ∧ a ≤ 900) : Gives Try.prog G 35 [isD l, iD a] [opD (opM l a)] := by
  have hr : 0 ≤ opN l a ∧ opN l a ≤ 65536 := by have := atM_range (l := l) (i := a) (m := 65536) (by omega); unfold opN; omega
  have q := fun c (hc : 0 < c) => wrap_rng (n := (opN l a).tdiv c) (by have := tdiv_rng (c := c) hr hc; omega)
  have q2 := q 2 (by omega)
  have q3 := q 3 (by omega)
  have q4 := q 4 (by omega)
  have q5 := q 5 (by omega)
  have q7 := q 7 (by omega)
  have q8 := q 8 (by omega)
  have q10 := q 10 (by omega)
  have q16 := q 16 (by omega)
  have q100 := q 100 (by omega)
  have t10 := tdiv_rng (c := 10) hr (by omega)
  have t7 := tdiv_rng (c := 7) hr (by omega)
  have t5 := tdiv_rng (c := 5) hr (by omega)
  have t3 := tmod_rng (n := (opN l a).tdiv 3) (c := 3) (tdiv_rng hr (by omega)).1 (by omega)
  have hn : atM l a 65536 = opN l a := rfl
  skip
  skip
  refine gives_intro [39, 58] [] [] Try.func35 rfl (by rfl) (by simp [Try.ntmps35]) fun F hP hG hN hR => ?_
  rw [Try.ntmps35] at hN
  have hA := And.intro hN (And.intro hP (And.intro hG (And.intro hR.1 (And.intro hR.2.1 hR.2.2.1))))
  have hE := And.intro @Try.results35 (And.intro (And.intro hn (And.intro q2 (And.intro q3 (And.intro q4 (And.intro q5 (And.intro q7 (And.intro q8 (And.intro q10 (And.intro q16 q100))))))))) (And.intro @opM.eq_1 (@idM.eq_1)))
  refine WS [0, 1, 4] [4, 39, 58] ?_
  have hc := gvF hP hG (at_ok G l a 65536 hl (by omega) (by unfold I64; omega))
  refine WSc [0, 1, 4, 5] [4, 39, 58] ?_
  apply aw_regs [0, 1, 4, 5, 6] [4, 6, 39, 58]
  · simp (maxSteps := 2000000) (disch := omega) only [avR2, avA, datsOf, fillA, seval, ↓List.forall_mem_cons, Op.operands, hA, tiA, hE]
    (repeat' refine And.intro ?_ ?_) <;> try exact SD
    refine CallC.use (gvF hP hG (id_ok G ((opN l a).tdiv 10) (by omega))) rfl ?_
    try simp (maxSteps := 2000000) (disch := omega) only [avR2, avA, datsOf, fillA, seval, ↓List.forall_mem_cons, Op.operands, hA, tiA, hE]
    (repeat' refine And.intro ?_ ?_) <;> try exact SD
    refine CallC.use (gvF hP hG (word_ok G ((opN l a).tdiv 7) (by unfold I64; omega))) rfl ?_
    try simp (maxSteps := 2000000) (disch := omega) only [avR2, avA, datsOf, fillA, seval, ↓List.forall_mem_cons, Op.operands, hA, tiA, hE]
    exact SC
  apply aw_seq
  refine WS [0, 1, 4, 5, 6, 24] [4, 6, 39, 58] ?_
  refine WI (fun hb => ?_) (fun hb => ?_)
  · skip
    have hs : opT l a = listM l (a + 1) (((opN l a).tdiv 3).tmod 3).toNat ∧ opP l a = [((opN l a).tmod 2, ((opN l a).tdiv 2).tmod 3)] := by unfold opT opP; rw [if_pos hb, if_pos hb]; exact ⟨rfl, rfl⟩
    have hE := And.intro hE hs
    have hc := gvF hP hG (list_ok G l (a + 1) (((opN l a).tdiv 3).tmod 3) hl (by omega) (by omega))
    refine WSc [4, 5, 6] [4, 6, 39, 58] ?_
    refine WQ [4, 5, 6] [4, 6, 39, 58] ?_
    apply q_seq
    apply aw_seq
    refine WS [4, 5, 6, 43] [4, 6, 39, 58] ?_
    refine WI (fun hb => ?_) (fun hb => ?_)
    · skip
      have hs2 : opS l a = ⟨((opN l a).tdiv 4).tmod 2, ((opN l a).tdiv 8).tmod 3, ((opN l a).tdiv 16).tmod 4⟩ ∧ opR l a = [idM ((opN l a).tdiv 5)] := by unfold opS opR; rw [if_pos hb, if_pos hb]; exact ⟨rfl, rfl⟩
      have hE := And.intro hE hs2
      refine WS [4, 5, 6] [4, 6, 39, 58] ?_
      have hc := gvF hP hG (id_ok G ((opN l a).tdiv 5) (by omega))
      refine WQc [4, 6] [4, 6, 39, 58] ?_
      apply q_seq
      refine WS [4] [4, 39, 58] ?_
      apply aw_ret
      simp only [QRet, QRetM, QRetX, retsX_nil, retsX_cons, objsAre, resA, mapO_nil, mapO_cons, vD_dat, vD_nils, vD_rp, vD_osl, vD_ptr, vD_agg, vD_fn, vD_isl, vL_dat, vL_app, viewL, avA, datsOf, fillA, seval, ↓List.forall_mem_cons, Op.operands, hP, hG, tiA, hE]
      all_goals try (first | done | rfl | trivial)
    · skip
      have hs2 : opS l a = ⟨0, 0, 0⟩ ∧ opR l a = [] := by unfold opS opR; rw [if_neg hb, if_neg hb]; exact ⟨rfl, rfl⟩
      have hE := And.intro hE hs2
      apply aw_skip
      apply q_seq
      refine WS [4] [4, 39, 58] ?_
      apply aw_ret
      simp only [QRet, QRetM, QRetX, retsX_nil, retsX_cons, objsAre, resA, mapO_nil, mapO_cons, vD_dat, vD_nils, vD_rp, vD_osl, vD_ptr, vD_agg, vD_fn, vD_isl, vL_dat, vL_app, viewL, avA, datsOf, fillA, seval, ↓List.forall_mem_cons, Op.operands, hP, hG, tiA, hE]
      all_goals try (first | done | rfl | trivial)
  · skip
    have hs : opT l a = [] ∧ opP l a = [] := by unfold opT opP; rw [if_neg hb, if_neg hb]; exact ⟨rfl, rfl⟩
    have hE := And.intro hE hs
    apply aw_skip
    apply q_seq
    apply aw_seq
    refine WS [4, 5, 6, 43] [4, 6, 39, 58] ?_
    refine WI (fun hb => ?_) (fun hb => ?_)
    · skip
      have hs2 : opS l a = ⟨((opN l a).tdiv 4).tmod 2, ((opN l a).tdiv 8).tmod 3, ((opN l a).tdiv 16).tmod 4⟩ ∧ opR l a = [idM ((opN l a).tdiv 5)] := by unfold opS opR; rw [if_pos hb, if_pos hb]; exact ⟨rfl, rfl⟩
      have hE := And.intro hE hs2
      refine WS [4, 5, 6] [4, 6, 39, 58] ?_
      have hc := gvF hP hG (id_ok G ((opN l a).tdiv 5) (by omega))
      refine WQc [4, 6] [4, 6, 39, 58] ?_
      apply q_seq
      refine WS [4] [4, 39, 58] ?_
      apply aw_ret
      simp only [QRet, QRetM, QRetX, retsX_nil, retsX_cons, objsAre, resA, mapO_nil, mapO_cons, vD_dat, vD_nils, vD_rp, vD_osl, vD_ptr, vD_agg, vD_fn, vD_isl, vL_dat, vL_app, viewL, avA, datsOf, fillA, seval, ↓List.forall_mem_cons, Op.operands, hP, hG, tiA, hE]
      all_goals try (first | done | rfl | trivial)
    · skip
      have hs2 : opS l a = ⟨0, 0, 0⟩ ∧ opR l a = [] := by unfold opS opR; rw [if_neg hb, if_neg hb]; exact ⟨rfl, rfl⟩
      have hE := And.intro hE hs2
      apply aw_skip
      apply q_seq
      refine WS [4] [4, 39, 58] ?_
      apply aw_ret
      simp only [QRet, QRetM, QRetX, retsX_nil, retsX_cons, objsAre, resA, mapO_nil, mapO_cons, vD_dat, vD_nils, vD_rp, vD_osl, vD_ptr, vD_agg, vD_fn, vD_isl, vL_dat, vL_app, viewL, avA, datsOf, fillA, seval, ↓List.forall_mem_cons, Op.operands, hP, hG, tiA, hE]
      all_goals try (first | done | rfl | trivial)
end Go.Proofs.Ytabjaaonfaejmaa

namespace Go.Proofs.Ytabjaaonfaejmaa
open Go.Av
theorem postsG_len (l : List Int) (i : Nat) : (postsG l i).length = i := by simp [postsG]
theorem postsG_zero (l : List Int) : postsG l 0 = [] := rfl
theorem postsG_succ (l : List Int) (i : Nat) : postsG l (i + 1) = postsG l i ++ [postG l i] := by simp [postsG, List.range_succ]
theorem postsG_take (l : List Int) (i : Nat) : (postsG l i).take i = postsG l i := List.take_of_length_le (by rw [postsG_len]; exact Nat.le_refl _)
set_option maxRecDepth 100000 in
set_option maxHeartbeats 2000000 in
theorem event_ok (G) (l : List Int) (hl : ∀ n ∈ l, I64 n) : Gives Try.prog G 8 [isD l] [eventD (evG l)] := by
  have hk : atM l 3 7 = kindG l := rfl
  have hn11 : atM l 11 4096 = numG l := rfl
  have a0 := atM_range (l := l) (i := 0) (m := 6) (by omega)
  have a1 := atM_range (l := l) (i := 1) (m := 64) (by omega)
  have a2 := atM_range (l := l) (i := 2) (m := 1048577) (by omega)
  have a3 := atM_range (l := l) (i := 3) (m := 7) (by omega)
  have a4 := atM_range (l := l) (i := 4) (m := 64) (by omega)
  have rn : 0 ≤ numG l ∧ numG l ≤ 4096 := by have := atM_range (l := l) (i := 11) (m := 4096) (by omega); unfold numG; omega
  have q := fun c (hc : 0 < c) => wrap_rng (n := (numG l).tdiv c) (by have := tdiv_rng (c := c) rn hc; omega)
  have q3 := q 3 (by omega)
  have q5 := q 5 (by omega)
  have q12 := q 12 (by omega)
  have t5 := tdiv_rng (c := 5) rn (by omega)
  have t12 := tmod_rng (n := (numG l).tdiv 12) (c := 3) (tdiv_rng rn (by omega)).1 (by omega)
  have t4 := tmod_rng (n := numG l) (c := 4) rn.1 (by omega)
  skip
  skip
  refine gives_intro [113] [] [] Try.func8 rfl (by rfl) (by simp [Try.ntmps8]) fun F hP hG hN hR => ?_
  rw [Try.ntmps8] at hN
  have hA := And.intro hN (And.intro hP (And.intro hG (And.intro hR.1 (And.intro hR.2.1 hR.2.2.1))))
  have hE := And.intro @Try.results8 (And.intro (And.intro q3 (And.intro q5 q12)) (And.intro @postsG_len (And.intro @postsG_zero (And.intro @postsG_take (And.intro @hk (And.intro @hn11 (And.intro @eqName (And.intro @refsG.eq_1 (@Nat.min_self)))))))))
  refine WS [0, 2] [2, 44, 45, 112, 113, 7] ?_
  apply aw_regs [0, 2, 3] [2, 3, 44, 45, 112, 113, 7]
  · simp (maxSteps := 2000000) (disch := omega) only [avR2, avA, datsOf, fillA, seval, ↓List.forall_mem_cons, Op.operands, hA, tiA, hE]
    (repeat' refine And.intro ?_ ?_) <;> try exact SD
    refine CallC.use (gvF hP hG (at_ok G l 0 6 hl (by omega) (by unfold I64; omega))) rfl ?_
    try simp (maxSteps := 2000000) (disch := omega) only [avR2, avA, datsOf, fillA, seval, ↓List.forall_mem_cons, Op.operands, hA, tiA, hE]
    (repeat' refine And.intro ?_ ?_) <;> try exact SD
    refine CallC.use (gvF hP hG (at_ok G l 1 64 hl (by omega) (by unfold I64; omega))) rfl ?_
    try simp (maxSteps := 2000000) (disch := omega) only [avR2, avA, datsOf, fillA, seval, ↓List.forall_mem_cons, Op.operands, hA, tiA, hE]
    (repeat' refine And.intro ?_ ?_) <;> try exact SD
    refine CallC.use (gvF hP hG (at_ok G l 2 1048577 hl (by omega) (by unfold I64; omega))) rfl ?_
    try simp (maxSteps := 2000000) (disch := omega) only [avR2, avA, datsOf, fillA, seval, ↓List.forall_mem_cons, Op.operands, hA, tiA, hE]
    (repeat' refine And.intro ?_ ?_) <;> try exact SD
    refine CallC.use (gvF hP hG (at_ok G l 3 7 hl (by omega) (by unfold I64; omega))) rfl ?_
    try simp (maxSteps := 2000000) (disch := omega) only [avR2, avA, datsOf, fillA, seval, ↓List.forall_mem_cons, Op.operands, hA, tiA, hE]
    exact SC
  have hc := gvF hP hG (at_ok G l 4 64 hl (by omega) (by unfold I64; omega))
  refine WSc [0, 2, 3, 4] [2, 3, 44, 45, 112, 113, 7] ?_
  apply aw_seq
  refine WS [0, 2, 3, 4, 5] [2, 3, 44, 45, 112, 113, 7] ?_
  apply aw_block
  refine aw_new0 45 2 (by omega) ?_
  refine aw_nilO 3 45 2 4 rfl rfl rfl rfl ?_
  refine WL (ι := {i : Nat // i ≤ 6}) [0, 2, 3, 4] [2, 44, 112, 113, 7] (fun ⟨i, hi⟩ => [(5, .dat (iD i))]) (fun ⟨i, hi⟩ => [(3, ⟨32, [.agg [.dat (iD (atM l 0 6)), .dat (iD (atM l 1 64)), .dat (iD (atM l 2 1048577)), .dat (iD (kindG l)), .osl 45 2 0 (refsG l i).length, .dat (iD 0), .dat (iD 0), .dat (iD 0), .dat (iD 0), .dat (iD 0), .dat (iD 0), .dat (iD 0), .dat (iD 0), .dat (iD 0), .dat (iD 0), .dat (iD 0), .dat (iD 0), .dat (iD 0), .dat (sD ⟨#[]⟩), .nils, .nils, .nils, .dat (sD ⟨#[]⟩), .dat (iD 0), .dat (iD 0), .dat (sD ⟨#[]⟩), .nils, .dat (iD 0), .dat (iD 0), .dat (iD 0), .nils, .dat (iD 0)]]⟩), (45, ⟨2, ((refsG l i).map nameD).map .dat⟩)]) (fun ⟨i, hi⟩ => 6 - i) (⟨0, by omega⟩) ?_
  rintro ⟨i, hi⟩
  dsimp only [List.cons_append, List.nil_append]
  have hrl := refsG_len l i
  apply aw_seq
  refine WS [0, 2, 3, 4, 5, 21] [2, 3, 44, 45, 112, 113, 7] ?_
  refine WI (fun hb => ?_) (fun hb => ?_)
  · skip
    apply aw_skip
    apply q_seq
    apply aw_seq
    apply aw_block
    have hc := gvF hP hG (at_ok G l (5 + (i : Int)) 64 hl (by omega) (by unfold I64; omega))
    refine WSc [0, 2, 3, 4, 5, 6] [2, 3, 6, 44, 45, 112, 113, 7] ?_
    apply aw_rgds [0, 2, 3, 4, 5, 6, 40] [2, 3, 6, 44, 45, 112, 113, 7] [0, 1, 2, 3, 4, 5, 6, 7, 8, 9, 10] []
    · rw [hP]; kernel_rfl
    · exact hR
    · kernel_rfl
    · (repeat (apply PickL.cons; exact rfl)); exact PickL.nil _
    · simp (maxSteps := 2000000) (disch := omega) only [avR2, avA, datsOf, fillA, seval, ↓List.forall_mem_cons, Op.operands, hA, tiA, hE]
      (repeat' refine And.intro ?_ ?_) <;> try exact SD
      refine CallGC.use (by simp only [callArgs, mapO_nil, mapO_cons, vD_dat, vD_nils, vD_rp, vD_osl, vD_ptr, vD_agg, vD_fn, vD_isl, vL_dat, vL_app, avA, datsOf, fillA, seval, ↓List.forall_mem_cons, Op.operands, hE, viewL, evI.eq_1, evName.eq_1, List.length_map.{0,0}] <;> rfl) (fun hg => ⟨by first | trivial | (simp only [gdAll, AV.gd, avA, seval]; (repeat' apply And.intro) <;> first | trivial | rfl | exact hg) | simp_all [gdAll], gvF hP hG (rname_ok G (evI l i))⟩) ?_
      try simp (maxSteps := 2000000) (disch := omega) only [avR2, avA, datsOf, fillA, seval, ↓List.forall_mem_cons, Op.operands, hA, tiA, hE]
      exact SC
    refine WI (fun hb => ?_) (fun hb => ?_)
    · skip
      have hr1 : refsG l (i + 1) = refsG l i ++ [nmG l i] := by rw [refsG, if_pos (show shrG (atM l 4 64) i = 1 ∧ ((i : Int) = atM l 0 6 → ¬ atM l (5 + (i : Int)) 64 = atM l 1 64) from hb)]
      refine WQ [0, 2, 3, 4, 5] [2, 3, 44, 45, 112, 113, 7] ?_
      apply q_block
      apply q_seq
      have hE := And.intro hE (And.intro hr1 (nmG.eq_1 l i))
      refine WQ [0, 2, 3, 4, 5] [2, 3, 44, 45, 112, 113, 7] ?_
      refine WN (⟨i + 1, by omega⟩)
    · skip
      have hr1 : refsG l (i + 1) = refsG l i := by rw [refsG, if_neg (by have e1 : (evName (evI l i)).By = atM l 0 6 := rfl; have e2 : (evName (evI l i)).Seq = atM l 1 64 := rfl; (try rw [e1, e2] at hb); unfold shrG; intro hh; grind), List.append_nil]
      apply aw_skip
      apply q_block
      apply q_seq
      have hE := And.intro hE (And.intro hr1 (nmG.eq_1 l i))
      refine WQ [0, 2, 3, 4, 5] [2, 3, 44, 45, 112, 113, 7] ?_
      refine WN (⟨i + 1, by omega⟩)
  · skip
    apply aw_exit
    apply q_exit_seq
    have hend : i = 6 := by omega
    subst hend
    apply q_exit_loop
    apply q_exit
    apply q_seq
    refine aw_frz 45 hR.2.2.2 rfl (datE_map _) ?_
    have hc := gvF hP hG (at_ok G l 11 4096 hl (by omega) (by unfold I64; omega))
    refine WSc [0, 2, 3, 7] [2, 3, 44, 45, 112, 113, 7] ?_
    apply aw_seq
    refine WS [0, 2, 3, 7, 50] [2, 3, 44, 45, 112, 113, 7] ?_
    apply aw_block
    refine WS [0, 2, 3, 7, 50, 51] [2, 3, 44, 45, 112, 113, 7] ?_
    refine WI (fun hb => ?_) (fun hb => ?_)
    · skip
      have hv : evG l = { evI l 6 with Op := opM l 12 } := by unfold evG; rw [if_pos hb]
      have hE := And.intro hE hv
      have hc := gvF hP hG (op_ok G l 12 hl (by omega))
      refine WQc [2, 3] [2, 3, 44, 45, 112, 113, 7] ?_
      apply q_block
      apply q_seq
      refine WS [2] [2, 44, 45, 112, 113, 7] ?_
      apply aw_ret
      simp only [QRet, QRetM, QRetX, retsX_nil, retsX_cons, objsAre, resA, mapO_nil, mapO_cons, vD_dat, vD_nils, vD_rp, vD_osl, vD_ptr, vD_agg, vD_fn, vD_isl, vL_dat, vL_app, viewL, avA, datsOf, fillA, seval, ↓List.forall_mem_cons, Op.operands, hP, hG, tiA, hE]
      all_goals try (first | done | rfl | trivial)
      all_goals first
        | rfl
        | (have hv : evG l = evI l 6 := by unfold evG; rw [if_neg (by omega), if_neg (by omega), if_neg (by omega), if_neg (by omega)]
           rw [hv]; rfl)
        | (have hv : evG l = { evI l 6 with ID := idM (numG l), N := atM l 12 1048577 } := by unfold evG; rw [if_neg (by omega), if_neg (by omega), if_neg (by omega), if_pos (by omega)]
           rw [hv]; rfl)
    · skip
      have hk0 := hb
      refine WS [0, 2, 3, 7, 50, 56] [2, 3, 44, 45, 112, 113, 7] ?_
      refine WI (fun hb => ?_) (fun hb => ?_)
      · skip
        have hv : evG l = { evI l 6 with Term := termG l } := by unfold evG; rw [if_neg hk0, if_pos hb]
        have hE := And.intro hE hv
        apply aw_regs [2, 3, 7] [2, 3, 44, 45, 112, 113, 7]
        · simp (maxSteps := 2000000) (disch := omega) only [avR2, avA, datsOf, fillA, seval, ↓List.forall_mem_cons, Op.operands, hA, tiA, hE]
          (repeat' refine And.intro ?_ ?_) <;> try exact SD
          refine CallC.use (gvF hP hG (word_ok G (numG l) (by unfold I64; omega))) rfl ?_
          try simp (maxSteps := 2000000) (disch := omega) only [avR2, avA, datsOf, fillA, seval, ↓List.forall_mem_cons, Op.operands, hA, tiA, hE]
          (repeat' refine And.intro ?_ ?_) <;> try exact SD
          refine CallC.use (gvF hP hG (list_ok G l 12 (((numG l).tdiv 12).tmod 3) hl (by omega) (by omega))) rfl ?_
          try simp (maxSteps := 2000000) (disch := omega) only [avR2, avA, datsOf, fillA, seval, ↓List.forall_mem_cons, Op.operands, hA, tiA, hE]
          exact SC
        refine WS [2, 3, 7, 74] [2, 3, 44, 45, 112, 113, 7] ?_
        refine WI (fun hb => ?_) (fun hb => ?_)
        · skip
          have ht : termG l = { Name := wordM (numG l), Kind := (numG l).tmod 3, Lang := ((numG l).tdiv 3).tmod 4, See := wordM ((numG l).tdiv 5), Broader := listM l 12 (((numG l).tdiv 12).tmod 3).toNat } := by unfold termG; rw [if_pos hb]
          have hE := And.intro hE ht
          have hc := gvF hP hG (word_ok G ((numG l).tdiv 5) (by unfold I64; omega))
          refine WQc [2, 3] [2, 3, 44, 45, 112, 113, 7] ?_
          apply q_block
          apply q_seq
          refine WS [2] [2, 44, 45, 112, 113, 7] ?_
          apply aw_ret
          simp only [QRet, QRetM, QRetX, retsX_nil, retsX_cons, objsAre, resA, mapO_nil, mapO_cons, vD_dat, vD_nils, vD_rp, vD_osl, vD_ptr, vD_agg, vD_fn, vD_isl, vL_dat, vL_app, viewL, avA, datsOf, fillA, seval, ↓List.forall_mem_cons, Op.operands, hP, hG, tiA, hE]
          all_goals try (first | done | rfl | trivial)
          all_goals first
            | rfl
            | (have hv : evG l = evI l 6 := by unfold evG; rw [if_neg (by omega), if_neg (by omega), if_neg (by omega), if_neg (by omega)]
               rw [hv]; rfl)
            | (have hv : evG l = { evI l 6 with ID := idM (numG l), N := atM l 12 1048577 } := by unfold evG; rw [if_neg (by omega), if_neg (by omega), if_neg (by omega), if_pos (by omega)]
               rw [hv]; rfl)
        · skip
          have ht : termG l = { Name := wordM (numG l), Kind := (numG l).tmod 3, Lang := ((numG l).tdiv 3).tmod 4, See := ⟨#[]⟩, Broader := listM l 12 (((numG l).tdiv 12).tmod 3).toNat } := by unfold termG; rw [if_neg hb]
          have hE := And.intro hE ht
          apply aw_skip
          apply q_block
          apply q_seq
          refine WS [2] [2, 44, 45, 112, 113, 7] ?_
          apply aw_ret
          simp only [QRet, QRetM, QRetX, retsX_nil, retsX_cons, objsAre, resA, mapO_nil, mapO_cons, vD_dat, vD_nils, vD_rp, vD_osl, vD_ptr, vD_agg, vD_fn, vD_isl, vL_dat, vL_app, viewL, avA, datsOf, fillA, seval, ↓List.forall_mem_cons, Op.operands, hP, hG, tiA, hE]
          all_goals try (first | done | rfl | trivial)
          all_goals first
            | rfl
            | (have hv : evG l = evI l 6 := by unfold evG; rw [if_neg (by omega), if_neg (by omega), if_neg (by omega), if_neg (by omega)]
               rw [hv]; rfl)
            | (have hv : evG l = { evI l 6 with ID := idM (numG l), N := atM l 12 1048577 } := by unfold evG; rw [if_neg (by omega), if_neg (by omega), if_neg (by omega), if_pos (by omega)]
               rw [hv]; rfl)
      · skip
        have hk2 := hb
        apply aw_seq
        refine WS [0, 2, 3, 7, 50, 80] [2, 3, 44, 45, 112, 113, 7] ?_
        refine WI (fun hb => ?_) (fun hb => ?_)
        · skip
          apply aw_skip
          apply q_seq
          refine aw_ift (by first | exact rfl | (simp only [evA_tmp, of_env, envL_cons, envL_nil]; simp [*])) ?_
          have hc := gvF hP hG (id_ok G (numG l) (by omega))
          refine WSc [0, 2, 3, 7] [2, 3, 44, 45, 112, 113, 7] ?_
          refine WS [0, 2, 3, 7, 8] [2, 3, 44, 45, 112, 113, 7] ?_
          apply aw_block
          have hv : evG l = { evI l 6 with ID := idM (numG l), Posts := postsG l ((numG l).tmod 4).toNat } := by unfold evG; rw [if_neg hk0, if_neg hk2, if_pos (by omega)]
          have hE := And.intro hE hv
          refine aw_new0 7 5 (by omega) ?_
          refine aw_nilO 3 7 5 30 rfl rfl rfl rfl ?_
          refine WL (ι := {j : Nat // j ≤ ((numG l).tmod 4).toNat}) [0, 2, 3, 7] [2, 44, 45, 112, 113] (fun ⟨j, hj⟩ => [(8, .dat (iD j))]) (fun ⟨j, hj⟩ => [(3, ⟨32, [.agg [.dat (iD (atM l 0 6)), .dat (iD (atM l 1 64)), .dat (iD (atM l 2 1048577)), .dat (iD (kindG l)), .dat (namesD (refsG l 6)), .dat (iD 0), .dat (iD 0), .dat (iD 0), .dat (iD 0), .dat (iD 0), .dat (iD 0), .dat (iD 0), .dat (iD 0), .dat (iD 0), .dat (iD 0), .dat (iD 0), .dat (iD 0), .dat (iD 0), .dat (sD ⟨#[]⟩), .nils, .nils, .nils, .dat (sD ⟨#[]⟩), .dat (iD 0), .dat (iD 0), .dat (sD ⟨#[]⟩), .nils, .dat (iD (idM (numG l)).By), .dat (iD (idM (numG l)).Seq), .dat (iD (idM (numG l)).K), .osl 7 5 0 j, .dat (iD 0)]]⟩), (7, ⟨5, ((postsG l j).map postD).map .dat⟩)]) (fun ⟨j, hj⟩ => ((numG l).tmod 4).toNat - j) (⟨0, by omega⟩) ?_
          rintro ⟨j, hj⟩
          dsimp only [List.cons_append, List.nil_append]
          have ja := atM_range (l := l) (i := 30 + (j : Int)) (m := 4) (by omega)
          apply aw_seq
          refine WS [0, 2, 3, 7, 8, 89] [2, 3, 44, 45, 112, 113, 7] ?_
          refine WI (fun hb => ?_) (fun hb => ?_)
          · skip
            apply aw_skip
            apply q_seq
            apply aw_seq
            apply aw_block
            apply aw_rgd [0, 2, 3, 7, 8] [2, 3, 44, 45, 112, 113, 7] [0, 1, 2, 3, 4, 5, 6, 7, 8, 9, 10, 11, 12, 13, 14, 15, 16, 17, 18, 19, 20, 21, 22, 23] [113]
            · rw [hP]; kernel_rfl
            · exact hR
            · kernel_rfl
            · (repeat (apply PickL.cons; exact rfl)); exact PickL.nil _
            · simp (maxSteps := 2000000) (disch := omega) only [avR2, avA, datsOf, fillA, seval, ↓List.forall_mem_cons, Op.operands, hA, tiA, hE]
              (repeat' refine And.intro ?_ ?_) <;> try exact SD
              refine CallC.use (gvF hP hG (at_ok G l (30 + (j : Int)) 4 hl (by omega) (by unfold I64; omega))) rfl ?_
              try simp (maxSteps := 2000000) (disch := omega) only [avR2, avA, datsOf, fillA, seval, ↓List.forall_mem_cons, Op.operands, hA, tiA, hE]
              (repeat' refine And.intro ?_ ?_) <;> try exact SD
              refine CallC.use (gvF hP hG (list_ok G l (12 + 4 * (j : Int)) (1 + atM l (30 + (j : Int)) 4) hl (by omega) (by omega))) rfl ?_
              try simp (maxSteps := 2000000) (disch := omega) only [avR2, avA, datsOf, fillA, seval, ↓List.forall_mem_cons, Op.operands, hA, tiA, hE]
              exact SC
            apply q_block
            apply q_seq
            refine aw_swap 113 7 (by omega) (by omega) ?_
            have hps := postsG_succ l j
            have hE := And.intro hE (And.intro hps (postG.eq_1 l j))
            refine WQ [0, 2, 3, 7, 8] [2, 3, 44, 45, 112, 113, 7] ?_
            refine WN (⟨j + 1, by omega⟩)
          · skip
            apply aw_exit
            apply q_exit_seq
            have hend : j = ((numG l).tmod 4).toNat := by omega
            subst hend
            apply q_exit_loop
            apply q_exit
            apply q_block
            apply q_seq
            refine WS [2] [2, 44, 45, 112, 113, 7] ?_
            apply aw_ret
            simp only [QRet, QRetM, QRetX, retsX_nil, retsX_cons, objsAre, resA, mapO_nil, mapO_cons, vD_dat, vD_nils, vD_rp, vD_osl, vD_ptr, vD_agg, vD_fn, vD_isl, vL_dat, vL_app, viewL, avA, datsOf, fillA, seval, ↓List.forall_mem_cons, Op.operands, hP, hG, tiA, hE]
            all_goals try (first | done | rfl | trivial)
            all_goals first
              | rfl
              | (have hv : evG l = evI l 6 := by unfold evG; rw [if_neg (by omega), if_neg (by omega), if_neg (by omega), if_neg (by omega)]
                 rw [hv]; rfl)
              | (have hv : evG l = { evI l 6 with ID := idM (numG l), N := atM l 12 1048577 } := by unfold evG; rw [if_neg (by omega), if_neg (by omega), if_neg (by omega), if_pos (by omega)]
                 rw [hv]; rfl)
        · skip
          refine WQ [0, 2, 3, 7, 50, 80] [2, 3, 44, 45, 112, 113, 7] ?_
          apply q_seq
          refine WI (fun hb => ?_) (fun hb => ?_)
          · skip
            have hc := gvF hP hG (id_ok G (numG l) (by omega))
            refine WSc [0, 2, 3, 7] [2, 3, 44, 45, 112, 113, 7] ?_
            refine WS [0, 2, 3, 7, 8] [2, 3, 44, 45, 112, 113, 7] ?_
            apply aw_block
            have hv : evG l = { evI l 6 with ID := idM (numG l), Posts := postsG l ((numG l).tmod 4).toNat } := by unfold evG; rw [if_neg hk0, if_neg hk2, if_pos (by omega)]
            have hE := And.intro hE hv
            refine aw_new0 7 5 (by omega) ?_
            refine aw_nilO 3 7 5 30 rfl rfl rfl rfl ?_
            refine WL (ι := {j : Nat // j ≤ ((numG l).tmod 4).toNat}) [0, 2, 3, 7] [2, 44, 45, 112, 113] (fun ⟨j, hj⟩ => [(8, .dat (iD j))]) (fun ⟨j, hj⟩ => [(3, ⟨32, [.agg [.dat (iD (atM l 0 6)), .dat (iD (atM l 1 64)), .dat (iD (atM l 2 1048577)), .dat (iD (kindG l)), .dat (namesD (refsG l 6)), .dat (iD 0), .dat (iD 0), .dat (iD 0), .dat (iD 0), .dat (iD 0), .dat (iD 0), .dat (iD 0), .dat (iD 0), .dat (iD 0), .dat (iD 0), .dat (iD 0), .dat (iD 0), .dat (iD 0), .dat (sD ⟨#[]⟩), .nils, .nils, .nils, .dat (sD ⟨#[]⟩), .dat (iD 0), .dat (iD 0), .dat (sD ⟨#[]⟩), .nils, .dat (iD (idM (numG l)).By), .dat (iD (idM (numG l)).Seq), .dat (iD (idM (numG l)).K), .osl 7 5 0 j, .dat (iD 0)]]⟩), (7, ⟨5, ((postsG l j).map postD).map .dat⟩)]) (fun ⟨j, hj⟩ => ((numG l).tmod 4).toNat - j) (⟨0, by omega⟩) ?_
            rintro ⟨j, hj⟩
            dsimp only [List.cons_append, List.nil_append]
            have ja := atM_range (l := l) (i := 30 + (j : Int)) (m := 4) (by omega)
            apply aw_seq
            refine WS [0, 2, 3, 7, 8, 89] [2, 3, 44, 45, 112, 113, 7] ?_
            refine WI (fun hb => ?_) (fun hb => ?_)
            · skip
              apply aw_skip
              apply q_seq
              apply aw_seq
              apply aw_block
              apply aw_rgd [0, 2, 3, 7, 8] [2, 3, 44, 45, 112, 113, 7] [0, 1, 2, 3, 4, 5, 6, 7, 8, 9, 10, 11, 12, 13, 14, 15, 16, 17, 18, 19, 20, 21, 22, 23] [113]
              · rw [hP]; kernel_rfl
              · exact hR
              · kernel_rfl
              · (repeat (apply PickL.cons; exact rfl)); exact PickL.nil _
              · simp (maxSteps := 2000000) (disch := omega) only [avR2, avA, datsOf, fillA, seval, ↓List.forall_mem_cons, Op.operands, hA, tiA, hE]
                (repeat' refine And.intro ?_ ?_) <;> try exact SD
                refine CallC.use (gvF hP hG (at_ok G l (30 + (j : Int)) 4 hl (by omega) (by unfold I64; omega))) rfl ?_
                try simp (maxSteps := 2000000) (disch := omega) only [avR2, avA, datsOf, fillA, seval, ↓List.forall_mem_cons, Op.operands, hA, tiA, hE]
                (repeat' refine And.intro ?_ ?_) <;> try exact SD
                refine CallC.use (gvF hP hG (list_ok G l (12 + 4 * (j : Int)) (1 + atM l (30 + (j : Int)) 4) hl (by omega) (by omega))) rfl ?_
                try simp (maxSteps := 2000000) (disch := omega) only [avR2, avA, datsOf, fillA, seval, ↓List.forall_mem_cons, Op.operands, hA, tiA, hE]
                exact SC
              apply q_block
              apply q_seq
              refine aw_swap 113 7 (by omega) (by omega) ?_
              have hps := postsG_succ l j
              have hE := And.intro hE (And.intro hps (postG.eq_1 l j))
              refine WQ [0, 2, 3, 7, 8] [2, 3, 44, 45, 112, 113, 7] ?_
              refine WN (⟨j + 1, by omega⟩)
            · skip
              apply aw_exit
              apply q_exit_seq
              have hend : j = ((numG l).tmod 4).toNat := by omega
              subst hend
              apply q_exit_loop
              apply q_exit
              apply q_block
              apply q_seq
              refine WS [2] [2, 44, 45, 112, 113, 7] ?_
              apply aw_ret
              simp only [QRet, QRetM, QRetX, retsX_nil, retsX_cons, objsAre, resA, mapO_nil, mapO_cons, vD_dat, vD_nils, vD_rp, vD_osl, vD_ptr, vD_agg, vD_fn, vD_isl, vL_dat, vL_app, viewL, avA, datsOf, fillA, seval, ↓List.forall_mem_cons, Op.operands, hP, hG, tiA, hE]
              all_goals try (first | done | rfl | trivial)
              all_goals first
                | rfl
                | (have hv : evG l = evI l 6 := by unfold evG; rw [if_neg (by omega), if_neg (by omega), if_neg (by omega), if_neg (by omega)]
                   rw [hv]; rfl)
                | (have hv : evG l = { evI l 6 with ID := idM (numG l), N := atM l 12 1048577 } := by unfold evG; rw [if_neg (by omega), if_neg (by omega), if_neg (by omega), if_pos (by omega)]
                   rw [hv]; rfl)
          · skip
            apply aw_seq
            refine WS [0, 2, 3, 7, 50, 115] [2, 3, 44, 45, 112, 113, 7] ?_
            refine WI (fun hb => ?_) (fun hb => ?_)
            · skip
              apply aw_skip
              apply q_seq
              refine aw_ift (by first | exact rfl | (simp only [evA_tmp, of_env, envL_cons, envL_nil]; simp [*])) ?_
              have hc := gvF hP hG (id_ok G (numG l) (by omega))
              refine WSc [0, 2, 3] [2, 3, 44, 45, 112, 113, 7] ?_
              have hc := gvF hP hG (at_ok G l 12 1048577 hl (by omega) (by unfold I64; omega))
              refine WQc [2, 3] [2, 3, 44, 45, 112, 113, 7] ?_
              apply q_block
              apply q_seq
              refine WS [2] [2, 44, 45, 112, 113, 7] ?_
              apply aw_ret
              simp only [QRet, QRetM, QRetX, retsX_nil, retsX_cons, objsAre, resA, mapO_nil, mapO_cons, vD_dat, vD_nils, vD_rp, vD_osl, vD_ptr, vD_agg, vD_fn, vD_isl, vL_dat, vL_app, viewL, avA, datsOf, fillA, seval, ↓List.forall_mem_cons, Op.operands, hP, hG, tiA, hE]
              all_goals try (first | done | rfl | trivial)
              all_goals first
                | rfl
                | (have hv : evG l = evI l 6 := by unfold evG; rw [if_neg (by omega), if_neg (by omega), if_neg (by omega), if_neg (by omega)]
                   rw [hv]; rfl)
                | (have hv : evG l = { evI l 6 with ID := idM (numG l), N := atM l 12 1048577 } := by unfold evG; rw [if_neg (by omega), if_neg (by omega), if_neg (by omega), if_pos (by omega)]
                   rw [hv]; rfl)
            · skip
              refine WQ [0, 2, 3, 7, 115] [2, 3, 44, 45, 112, 113, 7] ?_
              apply q_seq
              refine WI (fun hb => ?_) (fun hb => ?_)
              · skip
                have hc := gvF hP hG (id_ok G (numG l) (by omega))
                refine WSc [0, 2, 3] [2, 3, 44, 45, 112, 113, 7] ?_
                have hc := gvF hP hG (at_ok G l 12 1048577 hl (by omega) (by unfold I64; omega))
                refine WQc [2, 3] [2, 3, 44, 45, 112, 113, 7] ?_
                apply q_block
                apply q_seq
                refine WS [2] [2, 44, 45, 112, 113, 7] ?_
                apply aw_ret
                simp only [QRet, QRetM, QRetX, retsX_nil, retsX_cons, objsAre, resA, mapO_nil, mapO_cons, vD_dat, vD_nils, vD_rp, vD_osl, vD_ptr, vD_agg, vD_fn, vD_isl, vL_dat, vL_app, viewL, avA, datsOf, fillA, seval, ↓List.forall_mem_cons, Op.operands, hP, hG, tiA, hE]
                all_goals try (first | done | rfl | trivial)
                all_goals first
                  | rfl
                  | (have hv : evG l = evI l 6 := by unfold evG; rw [if_neg (by omega), if_neg (by omega), if_neg (by omega), if_neg (by omega)]
                     rw [hv]; rfl)
                  | (have hv : evG l = { evI l 6 with ID := idM (numG l), N := atM l 12 1048577 } := by unfold evG; rw [if_neg (by omega), if_neg (by omega), if_neg (by omega), if_pos (by omega)]
                     rw [hv]; rfl)
              · skip
                apply aw_skip
                apply q_block
                apply q_seq
                refine WS [2] [2, 44, 45, 112, 113, 7] ?_
                apply aw_ret
                simp only [QRet, QRetM, QRetX, retsX_nil, retsX_cons, objsAre, resA, mapO_nil, mapO_cons, vD_dat, vD_nils, vD_rp, vD_osl, vD_ptr, vD_agg, vD_fn, vD_isl, vL_dat, vL_app, viewL, avA, datsOf, fillA, seval, ↓List.forall_mem_cons, Op.operands, hP, hG, tiA, hE]
                all_goals try (first | done | rfl | trivial)
                all_goals first
                  | rfl
                  | (have hv : evG l = evI l 6 := by unfold evG; rw [if_neg (by omega), if_neg (by omega), if_neg (by omega), if_neg (by omega)]
                     rw [hv]; rfl)
                  | (have hv : evG l = { evI l 6 with ID := idM (numG l), N := atM l 12 1048577 } := by unfold evG; rw [if_neg (by omega), if_neg (by omega), if_neg (by omega), if_pos (by omega)]
                     rw [hv]; rfl)
end Go.Proofs.Ytabjaaonfaejmaa

namespace Go.Proofs.Ytabjaaonfaejmaa
open Go.Av
end Go.Proofs.Ytabjaaonfaejmaa

namespace Go.Proofs.Ytabjaaonfaejmaa
open Go.Av
inductive GoodL : List EventM → Prop
  | nil : GoodL []
  | snoc {s : List EventM} {e : EventM} : GoodL s → (∀ x ∈ s, x.Tick < e.Tick) → validM e = 0 → (∀ x ∈ s, evName x ≠ evName e) → ((s.countP (isBy e) : Nat) : Int) = e.Seq → (∀ n ∈ e.Refs, ∃ x ∈ s, evName x = n) → GoodL (s ++ [e])
end Go.Proofs.Ytabjaaonfaejmaa

namespace Go.Proofs.Ytabjaaonfaejmaa
open Go.Av
structure LsOk (out : List EventM) (t : Int) : Prop where
  good : GoodL out
  tick : ∀ x ∈ out, x.Tick < t
  by_ : ∀ x ∈ out, 0 ≤ x.By ∧ x.By ≤ 2 ∧ 0 ≤ x.Seq ∧ x.Seq ≤ out.length
end Go.Proofs.Ytabjaaonfaejmaa

namespace Go.Proofs.Ytabjaaonfaejmaa
open Go.Av
end Go.Proofs.Ytabjaaonfaejmaa

namespace Go.Proofs.Ytabjaaonfaejmaa
open Go.Av
theorem i64_small {n : Int} (h1 : -1000000000 ≤ n) (h2 : n ≤ 1000000000) : I64 n := by unfold I64; omega
theorem idM_ok (n : Int) : idOK (idM n) := by
  have h1 := Int.tmod_lt_of_pos n (b := 4) (by omega)
  have h2 := Int.lt_tmod_of_pos n (b := 4) (by omega)
  have h3 := Int.tmod_lt_of_pos (n.tdiv 4) (b := 8) (by omega)
  have h4 := Int.lt_tmod_of_pos (n.tdiv 4) (b := 8) (by omega)
  have h5 := Int.tmod_lt_of_pos (n.tdiv 32) (b := 3) (by omega)
  have h6 := Int.lt_tmod_of_pos (n.tdiv 32) (b := 3) (by omega)
  unfold idM
  exact ⟨i64_small (by dsimp only; omega) (by dsimp only; omega), i64_small (by dsimp only; omega) (by dsimp only; omega), i64_small (by dsimp only; omega) (by dsimp only; omega)⟩
end Go.Proofs.Ytabjaaonfaejmaa

namespace Go.Proofs.Ytabjaaonfaejmaa
open Go.Av
def fillN (l : List NameM) (b : Int) (i : Nat) : List NameM := l ++ (List.range (i - l.length)).map fun j => ⟨b, ((l.length + j : Nat) : Int)⟩
def fillR (l : List NameM) (b : Int) : List NameM := fillN l b (max 17 l.length)
theorem fillN_len {l : List NameM} {b : Int} {i : Nat} (h : l.length ≤ i) : (fillN l b i).length = i := by simp [fillN]; omega
theorem fillN_zero (l : List NameM) (b : Int) : fillN l b l.length = l := by simp [fillN]
theorem fillN_succ {l : List NameM} {b : Int} {i : Nat} (h : l.length ≤ i) : fillN l b (i + 1) = fillN l b i ++ [⟨b, (i : Int)⟩] := by
  have e : i + 1 - l.length = (i - l.length) + 1 := by omega
  rw [fillN, e, List.range_succ, List.map_append, fillN, List.append_assoc]
  congr 2
  simp only [List.map_cons, List.map_nil]
  rw [show l.length + (i - l.length) = i by omega]
def sufL : List ByteArray := [⟨#[]⟩, ⟨#[64]⟩, ⟨#[32]⟩, ⟨#[32, 32, 120]⟩, ⟨#[32, 111, 102, 32, 116, 104, 101, 32, 108, 121, 114, 101, 32, 111, 102, 32, 114, 111, 109, 101]⟩]
def seeL : List ByteArray := [⟨#[]⟩, ⟨#[97, 110, 110, 97]⟩, ⟨#[64]⟩, ⟨#[32]⟩]
def sp7 (l : List NameM) (b : Int) : List NameM := if 0 < l.length then l.set (aroundM b l.length).toNat (l.getD 0 default) else l
def sp13 (l : List PostM) (b : Int) : List PostM := match l with
  | [] => []
  | p :: ps => { ID := ⟨IntKind.i64.wrap (p.ID.By + (b.tdiv 5).tmod 2), p.ID.Seq, p.ID.K⟩, Path := p.Path.take (aroundM b (p.Path.length + 1)).toNat, Main := p.Main } :: ps
def spM (c : Int) (e : EventM) (b : Int) : EventM :=
  if c = 0 then { e with By := b } else if c = 1 then { e with Seq := b } else if c = 2 then { e with Tick := b } else if c = 3 then { e with Kind := b } else if c = 4 then { e with N := b }
  else if c = 5 then { e with ID := { e.ID with K := b } }
  else if c = 6 then { e with Refs := e.Refs ++ [⟨b, b.tdiv 7⟩] }
  else if c = 7 then { e with Refs := sp7 e.Refs b }
  else if c = 8 then { e with Term := { e.Term with Name := wordM b ++ sufL.getD (aroundM (b.tdiv 8) 5).toNat default } }
  else if c = 9 then { e with Term := { e.Term with See := seeL.getD (aroundM b 4).toNat default } }
  else if c = 10 then { e with Term := { e.Term with Broader := e.Term.Broader ++ [wordM b, ⟨#[]⟩, wordM b] } }
  else if c = 11 then { e with Term := { e.Term with Lang := b } }
  else if c = 12 then { e with Posts := e.Posts ++ [{ ID := e.ID, Path := [wordM b], Main := false }] }
  else if c = 13 then { e with Posts := sp13 e.Posts b }
  else if c = 14 then { e with Op := { e.Op with N := b } }
  else { e with Refs := fillR e.Refs b }
def spoiltM (e : EventM) (how b : Int) : EventM := spM (aroundM how 16) e b
theorem wordM_size (n : Int) : (wordM n).size ≤ 12 := by
  have h := aroundM_range (n := n) (m := 8) (by omega)
  have key : ∀ i : Fin 8, (wordsL.getD i.val default).size ≤ 12 := by decide
  have := key ⟨(aroundM n 8).toNat, by omega⟩
  exact this
theorem sufL_size {i : Nat} (h : i < 5) : (sufL.getD i default).size ≤ 20 := by
  have key : ∀ i : Fin 5, (sufL.getD i.val default).size ≤ 20 := by decide
  exact key ⟨i, h⟩
theorem seeL_size {i : Nat} (h : i < 4) : (seeL.getD i default).size ≤ 20 := by
  have key : ∀ i : Fin 4, (seeL.getD i.val default).size ≤ 20 := by decide
  exact key ⟨i, h⟩
structure SmOp (o : OpM) : Prop where
  head : ∀ x ∈ headL o, I64 x
  pairs : ∀ p ∈ o.Pairs, I64 p.1 ∧ I64 p.2
  refs : ∀ r ∈ o.Refs, idOK r
  text : o.Text.size ≤ 100
  texts : ∀ s ∈ o.Texts, s.size ≤ 100
  ntexts : o.Texts.length ≤ 10
  npairs : o.Pairs.length ≤ 10
  nrefs : o.Refs.length ≤ 10
theorem bytesM_sz {s : ByteArray} {c : Nat} (h : s.size ≤ c) (hc : c ≤ 1000000) : (bytesM s).length ≤ 9 + c := by
  have h1 := intM_le (n := (s.size : Int)) (by unfold I64; omega)
  rw [bytesM, List.length_append, strB_len]
  omega
theorem intsM_flat {α : Type} {f : α → List Int} {l : List α} {c : Nat} (hf : ∀ x ∈ l, (f x).length ≤ c ∧ ∀ y ∈ f x, I64 y) (hl : c * l.length ≤ 1000000) : (intsM (l.flatMap f)).length ≤ 9 + 9 * (c * l.length) := by
  have h1 := flat_le f c l fun x hx => (hf x hx).1
  have h2 := intsM_le (l := l.flatMap f) (fun y hy => by
    obtain ⟨x, hx, hy⟩ := List.mem_flatMap.1 hy
    exact (hf x hx).2 y hy) (by omega)
  omega
theorem sm_op {o : OpM} (h : SmOp o) : OkOp o where
  head := h.head
  pairs := h.pairs
  refs := h.refs
  text := by have := h.text; omega
  texts := fun s hs => by have := h.texts s hs; omega
  ntexts := by have := h.ntexts; omega
  npairs := by have := h.npairs; omega
  nrefs := by have := h.nrefs; omega
  all := by
    have h0 := intsM_le h.head (by simp [headL])
    have e0 : (headL o).length = 13 := rfl
    have h1 := bytesM_sz h.text (by omega)
    have h2 : (strsM o.Texts).length ≤ 9 + 109 * o.Texts.length := by
      rw [strsM, strsN, preM_all, List.length_append]
      have ha := flat_le bytesM 109 o.Texts fun s hs => bytesM_sz (h.texts s hs) (by omega)
      have hb := intM_le (n := (o.Texts.length : Int)) (by have := h.ntexts; unfold I64; omega)
      omega
    have n1 := h.ntexts
    have n2 := h.npairs
    have n3 := h.nrefs
    have h3 := intsM_flat (f := pairI) (l := o.Pairs) (c := 2) (fun p hp => ⟨Nat.le_refl _, fun y hy => by
      have := h.pairs p hp
      simp only [pairI, List.mem_cons, List.not_mem_nil, or_false] at hy
      rcases hy with rfl | rfl
      · exact this.1
      · exact this.2⟩) (by omega)
    have h4 := intsM_flat (f := idI) (l := o.Refs) (c := 3) (fun p hp => ⟨Nat.le_refl _, fun y hy => by
      have := h.refs p hp
      simp only [idI, List.mem_cons, List.not_mem_nil, or_false] at hy
      rcases hy with rfl | rfl | rfl
      · exact this.1
      · exact this.2.1
      · exact this.2.2⟩) (by omega)
    rw [opB, List.length_append, List.length_append, List.length_append, List.length_append]
    omega
structure SmEv (k : Nat) (e : EventM) : Prop where
  by_ : I64 e.By
  seq : I64 e.Seq
  tick : I64 e.Tick
  kind : I64 e.Kind
  n : I64 e.N
  id : idOK e.ID
  tk : I64 e.Term.Kind
  tl : I64 e.Term.Lang
  refs : ∀ r ∈ e.Refs, I64 r.By ∧ I64 r.Seq
  nrefs : e.Refs.length ≤ 20 * (k + 1)
  op : SmOp e.Op
  name : e.Term.Name.size ≤ 100
  see : e.Term.See.size ≤ 100
  broader : ∀ s ∈ e.Term.Broader, s.size ≤ 100
  nbroader : e.Term.Broader.length ≤ 10 * (k + 1)
  posts : ∀ p ∈ e.Posts, idOK p.ID ∧ p.Path.length ≤ 10 ∧ ∀ s ∈ p.Path, s.size ≤ 100
  nposts : e.Posts.length ≤ 10 * (k + 1)
theorem sm_ev {k : Nat} {e : EventM} (h : SmEv k e) (hk : k ≤ 20) : OkEv e where
  by_ := h.by_
  seq := h.seq
  tick := h.tick
  kind := h.kind
  n := h.n
  id := h.id
  tk := h.tk
  tl := h.tl
  refs := h.refs
  nrefs := by have := h.nrefs; omega
  op := sm_op h.op
  name := by have := h.name; omega
  see := by have := h.see; omega
  broader := fun s hs => by have := h.broader s hs; omega
  nbroader := by have := h.nbroader; omega
  posts := fun p hp => by
    have := h.posts p hp
    exact ⟨this.1, by omega, fun s hs => by have := this.2.2 s hs; omega⟩
  nposts := by have := h.nposts; omega
theorem sm_up {k : Nat} {e : EventM} (h : SmEv k e) : SmEv (k + 1) e := { h with
  nrefs := by have := h.nrefs; omega
  nbroader := by have := h.nbroader; omega
  nposts := by have := h.nposts; omega }
theorem i64_wrap (n : Int) : I64 (IntKind.i64.wrap n) := by
  rw [IntKind.wrap_i64]
  unfold I64
  omega
theorem i64_tdiv {n c : Int} (h : I64 n) (hc : 1 < c) : I64 (n.tdiv c) := by
  unfold I64 at *
  by_cases h0 : 0 ≤ n
  · rw [Int.tdiv_eq_ediv_of_nonneg h0]
    have h1 := Int.ediv_nonneg h0 (by omega : 0 ≤ c)
    have h2 := Int.ediv_le_self c h0
    omega
  · have e : n.tdiv c = -((-n).tdiv c) := by rw [Int.neg_tdiv]; omega
    rw [e, Int.tdiv_eq_ediv_of_nonneg (by omega)]
    have h1 := Int.ediv_nonneg (by omega : 0 ≤ -n) (by omega : 0 ≤ c)
    have h2 := Int.ediv_le_self c (by omega : 0 ≤ -n)
    have h3 : (-n) / c < 9223372036854775808 := by
      by_cases h4 : -n ≤ 9223372036854775807
      · omega
      · have : -n = 9223372036854775808 := by omega
        rw [this]
        exact Int.ediv_lt_self_of_pos_of_ne_one (by omega) (by omega)
    omega
theorem fillR_mem {l : List NameM} {b : Int} (hb : I64 b) (hl : l.length ≤ 100000) (h : ∀ r ∈ l, I64 r.By ∧ I64 r.Seq) : ∀ r ∈ fillR l b, I64 r.By ∧ I64 r.Seq := by
  intro r hr
  unfold fillR fillN at hr
  rcases List.mem_append.1 hr with hr | hr
  · exact h r hr
  · obtain ⟨j, hj, rfl⟩ := List.mem_map.1 hr
    have := List.mem_range.1 hj
    exact ⟨hb, i64_small (by dsimp only; omega) (by dsimp only; omega)⟩
theorem sm_sp {k : Nat} {e : EventM} {b : Int} (h : SmEv k e) (hk : k ≤ 20) (hb : I64 b) (c : Int) : SmEv (k + 1) (spM c e b) := by
  have h' := sm_up h
  unfold spM
  by_cases c0 : c = 0
  · rw [if_pos c0]
    exact { h' with by_ := hb }
  rw [if_neg c0]
  by_cases c1 : c = 1
  · rw [if_pos c1]
    exact { h' with seq := hb }
  rw [if_neg c1]
  by_cases c2 : c = 2
  · rw [if_pos c2]
    exact { h' with tick := hb }
  rw [if_neg c2]
  by_cases c3 : c = 3
  · rw [if_pos c3]
    exact { h' with kind := hb }
  rw [if_neg c3]
  by_cases c4 : c = 4
  · rw [if_pos c4]
    exact { h' with n := hb }
  rw [if_neg c4]
  by_cases c5 : c = 5
  · rw [if_pos c5]
    exact { h' with id := ⟨h'.id.1, h'.id.2.1, hb⟩ }
  rw [if_neg c5]
  by_cases c6 : c = 6
  · rw [if_pos c6]
    refine { h' with refs := fun r hr => ?_, nrefs := ?_ }
    · rcases List.mem_append.1 hr with hr | hr
      · exact h'.refs r hr
      · rw [List.mem_singleton.1 hr]; exact ⟨hb, i64_tdiv hb (by omega)⟩
    · have := h.nrefs
      show (e.Refs ++ [_]).length ≤ _
      rw [List.length_append, List.length_singleton]
      omega
  rw [if_neg c6]
  by_cases c7 : c = 7
  · rw [if_pos c7]
    refine { h' with refs := fun r hr => ?_, nrefs := ?_ }
    · have hr : r ∈ sp7 e.Refs b := hr
      unfold sp7 at hr
      split at hr
      · rename_i h0
        rcases List.mem_or_eq_of_mem_set hr with hr | hr
        · exact h'.refs r hr
        · rw [hr]; exact getD_all h'.refs h0
      · exact h'.refs r hr
    · have := h'.nrefs
      show (sp7 e.Refs b).length ≤ _
      unfold sp7
      split
      · rw [List.length_set]; exact this
      · exact this
  rw [if_neg c7]
  by_cases c8 : c = 8
  · rw [if_pos c8]
    refine { h' with name := ?_ }
    have h1 := wordM_size b
    have h2 := sufL_size (i := (aroundM (b.tdiv 8) 5).toNat) (by have := aroundM_range (n := b.tdiv 8) (m := 5) (by omega); omega)
    show (wordM b ++ sufL.getD _ default).size ≤ 100
    rw [ByteArray.size_append]
    omega
  rw [if_neg c8]
  by_cases c9 : c = 9
  · rw [if_pos c9]
    refine { h' with see := ?_ }
    have h2 := seeL_size (i := (aroundM b 4).toNat) (by have := aroundM_range (n := b) (m := 4) (by omega); omega)
    show (seeL.getD _ default).size ≤ 100
    omega
  rw [if_neg c9]
  by_cases c10 : c = 10
  · rw [if_pos c10]
    have h1 := wordM_size b
    refine { h' with broader := fun s hs => ?_, nbroader := ?_ }
    · rcases List.mem_append.1 hs with hs | hs
      · exact h'.broader s hs
      · simp only [List.mem_cons, List.not_mem_nil, or_false] at hs
        rcases hs with rfl | rfl | rfl
        · omega
        · decide
        · omega
    · have := h.nbroader
      show (e.Term.Broader ++ [_, _, _]).length ≤ _
      rw [List.length_append]
      simp only [List.length_cons, List.length_nil]
      omega
  rw [if_neg c10]
  by_cases c11 : c = 11
  · rw [if_pos c11]
    exact { h' with tl := hb }
  rw [if_neg c11]
  by_cases c12 : c = 12
  · rw [if_pos c12]
    have h1 := wordM_size b
    refine { h' with posts := fun p hp => ?_, nposts := ?_ }
    · rcases List.mem_append.1 hp with hp | hp
      · exact h'.posts p hp
      · rw [List.mem_singleton.1 hp]
        refine ⟨h'.id, by show ([wordM b]).length ≤ 10; simp, fun s hs => ?_⟩
        rw [List.mem_singleton.1 hs]
        omega
    · have := h.nposts
      show (e.Posts ++ [_]).length ≤ _
      rw [List.length_append, List.length_singleton]
      omega
  rw [if_neg c12]
  by_cases c13 : c = 13
  · rw [if_pos c13]
    have hps := h'.posts
    have hnp := h'.nposts
    refine { h' with posts := fun p hp => ?_, nposts := ?_ }
    · have hp : p ∈ sp13 e.Posts b := hp
      cases hq : e.Posts with
      | nil => rw [hq] at hp; simp [sp13] at hp
      | cons p0 ps =>
        rw [hq] at hp hps
        rcases List.mem_cons.1 hp with hp | hp
        · have h0 := hps p0 (by simp)
          rw [hp]
          refine ⟨⟨i64_wrap _, h0.1.2.1, h0.1.2.2⟩, ?_, fun s hs => h0.2.2 s (List.mem_of_mem_take hs)⟩
          show (p0.Path.take _).length ≤ 10
          rw [List.length_take]
          omega
        · exact hps p (List.mem_cons.2 (.inr hp))
    · show (sp13 e.Posts b).length ≤ _
      cases hq : e.Posts with
      | nil => simp [sp13]
      | cons p0 ps => rw [hq] at hnp; exact hnp
  rw [if_neg c13]
  by_cases c14 : c = 14
  · rw [if_pos c14]
    refine { h' with op := { h'.op with head := fun x hx => ?_ } }
    have hh := h'.op.head
    simp only [headL, List.mem_cons, List.not_mem_nil, or_false] at hx hh
    rcases hx with rfl | rfl | rfl | rfl | rfl | rfl | rfl | rfl | rfl | rfl | rfl | rfl | rfl
    · exact hh _ (by simp)
    · exact hh _ (by simp)
    · exact hh _ (by simp)
    · exact hh _ (by simp)
    · exact hh _ (by simp)
    · exact hh _ (by simp)
    · exact hh _ (by simp)
    · exact hh _ (by simp)
    · exact hh _ (by simp)
    · exact hh _ (by simp)
    · exact hb
    · exact hh _ (by simp)
    · exact hh _ (by simp)
  rw [if_neg c14]
  · have hn := h.nrefs
    refine { h' with refs := fillR_mem hb (by omega) h'.refs, nrefs := ?_ }
    show (fillR e.Refs b).length ≤ _
    rw [fillR, fillN_len (by omega)]
    omega
theorem smZ : SmOp zOpG where
  head := okZ.head
  pairs := by simp [zOpG]
  refs := by simp [zOpG]
  text := by decide
  texts := by simp [zOpG]
  ntexts := by decide
  npairs := by decide
  nrefs := by decide
end Go.Proofs.Ytabjaaonfaejmaa

namespace Go.Proofs.Ytabjaaonfaejmaa
open Go.Av
set_option maxRecDepth 100000 in
set_option maxHeartbeats 4000000 in
theorem spoilt_ok (G) (e : EventM) (how b : Int) (hs : OkEv e) (hh : I64 how) (hbb : I64 b) : Gives Try.prog G 9 [eventD e, iD how, iD b] [eventD (spoiltM e how b)] := by
  have hnr := hs.nrefs
  have hnp := hs.nposts
  have hnb := hs.nbroader
  have q := fun c (hc : 1 ≤ c) => IntWalk.i64_quo' b c (by unfold I64 at hbb; omega)
  have q5 := q 5 (by omega)
  have q7 := q 7 (by omega)
  have q8 := q 8 (by omega)
  have hc16 := aroundM_range (n := how) (m := 16) (by omega)
  have w1 := wordM_size b
  have hi8 := i64_tdiv hbb (c := 8) (by omega)
  have r8 := aroundM_range (n := b.tdiv 8) (m := 5) (by omega)
  have r4 := aroundM_range (n := b) (m := 4) (by omega)
  have w2 := sufL_size (i := (aroundM (b.tdiv 8) 5).toNat) (by omega)
  have hw1 : ([.str ⟨#[]⟩, .str ⟨#[64]⟩, .str ⟨#[32]⟩, .str ⟨#[32, 32, 120]⟩, .str ⟨#[32, 111, 102, 32, 116, 104, 101, 32, 108, 121, 114, 101, 32, 111, 102, 32, 114, 111, 109, 101]⟩] : List Dat) = sufL.map Dat.str := rfl
  have hw2 : ([.str ⟨#[]⟩, .str ⟨#[97, 110, 110, 97]⟩, .str ⟨#[64]⟩, .str ⟨#[32]⟩] : List Dat) = seeL.map Dat.str := rfl
  have hw3 : sufL.length = 5 := rfl
  have hw4 : seeL.length = 4 := rfl
  skip
  refine gives_intro [134] [] [156] Try.func9 rfl (by rfl) (by simp [Try.ntmps9]) fun F hP hG hN hR => ?_
  rw [Try.ntmps9] at hN
  have hA := And.intro hN (And.intro hP (And.intro hG (And.intro hR.1 (And.intro hR.2.1 hR.2.2.1))))
  have hE := And.intro @Try.results9 (And.intro (And.intro q5 (And.intro q7 (And.intro q8 (And.intro hw1 (And.intro hw2 (And.intro hw3 hw4)))))) (@nth_row))
  refine WS [1, 2, 3, 6] [3, 6, 9, 12, 13, 16, 27, 28, 63, 64, 106, 110, 115, 116, 131, 133, 134, 142, 156] ?_
  refine WS [1, 2, 3, 6, 7] [3, 6, 9, 12, 13, 16, 27, 28, 63, 64, 106, 110, 115, 116, 131, 133, 134, 142, 156] ?_
  refine WS [1, 2, 3, 6, 7, 8] [3, 6, 9, 12, 13, 16, 27, 28, 63, 64, 106, 110, 115, 116, 131, 133, 134, 142, 156] ?_
  apply aw_seq
  have hc := gvF hP hG (around_ok G how 16 hh (by omega) (by unfold I64; omega))
  refine WSc [2, 3, 6, 7, 8, 18] [3, 6, 9, 12, 13, 16, 27, 28, 63, 64, 106, 110, 115, 116, 131, 133, 134, 142, 156] ?_
  apply aw_block
  refine WS [2, 3, 6, 7, 8, 18, 31] [3, 6, 9, 12, 13, 16, 27, 28, 63, 64, 106, 110, 115, 116, 131, 133, 134, 142, 156] ?_
  refine WI (fun hb => ?_) (fun hb => ?_)
  · skip
    have hv : spoiltM e how b = { e with By := b } := by
      unfold spoiltM spM
      rw [if_pos hb]
    have hE := And.intro hE hv
    refine WQ [3, 6] [3, 6, 9, 12, 13, 16, 27, 28, 63, 64, 106, 110, 115, 116, 131, 133, 134, 142, 156] ?_
    apply q_block
    apply q_seq
    refine WS [6] [6, 9, 12, 13, 16, 27, 28, 63, 64, 106, 110, 115, 116, 131, 133, 134, 142, 156] ?_
    apply aw_ret
    simp only [QRet, QRetM, QRetX, retsX_nil, retsX_cons, objsAre, resA, mapO_nil, mapO_cons, vD_dat, vD_nils, vD_rp, vD_osl, vD_ptr, vD_agg, vD_fn, vD_isl, vL_dat, vL_app, viewL, avA, datsOf, fillA, seval, ↓List.forall_mem_cons, Op.operands, hP, hG, tiA, hE]
    all_goals try (first | done | rfl | trivial)
    all_goals first | done | rfl | (simp only [eventD, namesD, postsD, ssD, List.map_append, List.map_cons, List.map_nil]; done) | (simp only [eventD, namesD, postsD, ssD, List.map_append, List.map_cons, List.map_nil]; rfl) | skip
  · skip
    refine WS [2, 3, 6, 7, 8, 18, 35] [3, 6, 9, 12, 13, 16, 27, 28, 63, 64, 106, 110, 115, 116, 131, 133, 134, 142, 156] ?_
    refine WI (fun hb => ?_) (fun hb => ?_)
    · skip
      have hv : spoiltM e how b = { e with Seq := b } := by
        unfold spoiltM spM
        rw [if_neg (by omega), if_pos hb]
      have hE := And.intro hE hv
      refine WQ [3, 6] [3, 6, 9, 12, 13, 16, 27, 28, 63, 64, 106, 110, 115, 116, 131, 133, 134, 142, 156] ?_
      apply q_block
      apply q_seq
      refine WS [6] [6, 9, 12, 13, 16, 27, 28, 63, 64, 106, 110, 115, 116, 131, 133, 134, 142, 156] ?_
      apply aw_ret
      simp only [QRet, QRetM, QRetX, retsX_nil, retsX_cons, objsAre, resA, mapO_nil, mapO_cons, vD_dat, vD_nils, vD_rp, vD_osl, vD_ptr, vD_agg, vD_fn, vD_isl, vL_dat, vL_app, viewL, avA, datsOf, fillA, seval, ↓List.forall_mem_cons, Op.operands, hP, hG, tiA, hE]
      all_goals try (first | done | rfl | trivial)
      all_goals first | done | rfl | (simp only [eventD, namesD, postsD, ssD, List.map_append, List.map_cons, List.map_nil]; done) | (simp only [eventD, namesD, postsD, ssD, List.map_append, List.map_cons, List.map_nil]; rfl) | skip
    · skip
      refine WS [2, 3, 6, 7, 8, 18, 39] [3, 6, 9, 12, 13, 16, 27, 28, 63, 64, 106, 110, 115, 116, 131, 133, 134, 142, 156] ?_
      refine WI (fun hb => ?_) (fun hb => ?_)
      · skip
        have hv : spoiltM e how b = { e with Tick := b } := by
          unfold spoiltM spM
          rw [if_neg (by omega), if_neg (by omega), if_pos hb]
        have hE := And.intro hE hv
        refine WQ [3, 6] [3, 6, 9, 12, 13, 16, 27, 28, 63, 64, 106, 110, 115, 116, 131, 133, 134, 142, 156] ?_
        apply q_block
        apply q_seq
        refine WS [6] [6, 9, 12, 13, 16, 27, 28, 63, 64, 106, 110, 115, 116, 131, 133, 134, 142, 156] ?_
        apply aw_ret
        simp only [QRet, QRetM, QRetX, retsX_nil, retsX_cons, objsAre, resA, mapO_nil, mapO_cons, vD_dat, vD_nils, vD_rp, vD_osl, vD_ptr, vD_agg, vD_fn, vD_isl, vL_dat, vL_app, viewL, avA, datsOf, fillA, seval, ↓List.forall_mem_cons, Op.operands, hP, hG, tiA, hE]
        all_goals try (first | done | rfl | trivial)
        all_goals first | done | rfl | (simp only [eventD, namesD, postsD, ssD, List.map_append, List.map_cons, List.map_nil]; done) | (simp only [eventD, namesD, postsD, ssD, List.map_append, List.map_cons, List.map_nil]; rfl) | skip
      · skip
        refine WS [2, 3, 6, 7, 8, 18, 43] [3, 6, 9, 12, 13, 16, 27, 28, 63, 64, 106, 110, 115, 116, 131, 133, 134, 142, 156] ?_
        refine WI (fun hb => ?_) (fun hb => ?_)
        · skip
          have hv : spoiltM e how b = { e with Kind := b } := by
            unfold spoiltM spM
            rw [if_neg (by omega), if_neg (by omega), if_neg (by omega), if_pos hb]
          have hE := And.intro hE hv
          refine WQ [3, 6] [3, 6, 9, 12, 13, 16, 27, 28, 63, 64, 106, 110, 115, 116, 131, 133, 134, 142, 156] ?_
          apply q_block
          apply q_seq
          refine WS [6] [6, 9, 12, 13, 16, 27, 28, 63, 64, 106, 110, 115, 116, 131, 133, 134, 142, 156] ?_
          apply aw_ret
          simp only [QRet, QRetM, QRetX, retsX_nil, retsX_cons, objsAre, resA, mapO_nil, mapO_cons, vD_dat, vD_nils, vD_rp, vD_osl, vD_ptr, vD_agg, vD_fn, vD_isl, vL_dat, vL_app, viewL, avA, datsOf, fillA, seval, ↓List.forall_mem_cons, Op.operands, hP, hG, tiA, hE]
          all_goals try (first | done | rfl | trivial)
          all_goals first | done | rfl | (simp only [eventD, namesD, postsD, ssD, List.map_append, List.map_cons, List.map_nil]; done) | (simp only [eventD, namesD, postsD, ssD, List.map_append, List.map_cons, List.map_nil]; rfl) | skip
        · skip
          refine WS [2, 3, 6, 7, 8, 18, 47] [3, 6, 9, 12, 13, 16, 27, 28, 63, 64, 106, 110, 115, 116, 131, 133, 134, 142, 156] ?_
          refine WI (fun hb => ?_) (fun hb => ?_)
          · skip
            have hv : spoiltM e how b = { e with N := b } := by
              unfold spoiltM spM
              rw [if_neg (by omega), if_neg (by omega), if_neg (by omega), if_neg (by omega), if_pos hb]
            have hE := And.intro hE hv
            refine WQ [3, 6] [3, 6, 9, 12, 13, 16, 27, 28, 63, 64, 106, 110, 115, 116, 131, 133, 134, 142, 156] ?_
            apply q_block
            apply q_seq
            refine WS [6] [6, 9, 12, 13, 16, 27, 28, 63, 64, 106, 110, 115, 116, 131, 133, 134, 142, 156] ?_
            apply aw_ret
            simp only [QRet, QRetM, QRetX, retsX_nil, retsX_cons, objsAre, resA, mapO_nil, mapO_cons, vD_dat, vD_nils, vD_rp, vD_osl, vD_ptr, vD_agg, vD_fn, vD_isl, vL_dat, vL_app, viewL, avA, datsOf, fillA, seval, ↓List.forall_mem_cons, Op.operands, hP, hG, tiA, hE]
            all_goals try (first | done | rfl | trivial)
            all_goals first | done | rfl | (simp only [eventD, namesD, postsD, ssD, List.map_append, List.map_cons, List.map_nil]; done) | (simp only [eventD, namesD, postsD, ssD, List.map_append, List.map_cons, List.map_nil]; rfl) | skip
          · skip
            refine WS [2, 3, 6, 7, 8, 18, 51] [3, 6, 9, 12, 13, 16, 27, 28, 63, 64, 106, 110, 115, 116, 131, 133, 134, 142, 156] ?_
            refine WI (fun hb => ?_) (fun hb => ?_)
            · skip
              have hv : spoiltM e how b = { e with ID := { e.ID with K := b } } := by
                unfold spoiltM spM
                rw [if_neg (by omega), if_neg (by omega), if_neg (by omega), if_neg (by omega), if_neg (by omega), if_pos hb]
              have hE := And.intro hE hv
              refine WQ [3, 6] [3, 6, 9, 12, 13, 16, 27, 28, 63, 64, 106, 110, 115, 116, 131, 133, 134, 142, 156] ?_
              apply q_block
              apply q_seq
              refine WS [6] [6, 9, 12, 13, 16, 27, 28, 63, 64, 106, 110, 115, 116, 131, 133, 134, 142, 156] ?_
              apply aw_ret
              simp only [QRet, QRetM, QRetX, retsX_nil, retsX_cons, objsAre, resA, mapO_nil, mapO_cons, vD_dat, vD_nils, vD_rp, vD_osl, vD_ptr, vD_agg, vD_fn, vD_isl, vL_dat, vL_app, viewL, avA, datsOf, fillA, seval, ↓List.forall_mem_cons, Op.operands, hP, hG, tiA, hE]
              all_goals try (first | done | rfl | trivial)
              all_goals first | done | rfl | (simp only [eventD, namesD, postsD, ssD, List.map_append, List.map_cons, List.map_nil]; done) | (simp only [eventD, namesD, postsD, ssD, List.map_append, List.map_cons, List.map_nil]; rfl) | skip
            · skip
              refine WS [2, 3, 6, 7, 8, 18, 56] [3, 6, 9, 12, 13, 16, 27, 28, 63, 64, 106, 110, 115, 116, 131, 133, 134, 142, 156] ?_
              refine WI (fun hb => ?_) (fun hb => ?_)
              · skip
                have hv : spoiltM e how b = { e with Refs := e.Refs ++ [⟨b, b.tdiv 7⟩] } := by
                  unfold spoiltM spM
                  rw [if_neg (by omega), if_neg (by omega), if_neg (by omega), if_neg (by omega), if_neg (by omega), if_neg (by omega), if_pos hb]
                have hE := And.intro hE hv
                refine WQ [3, 6] [3, 6, 9, 12, 13, 16, 27, 28, 63, 64, 106, 110, 115, 116, 131, 133, 134, 142, 156] ?_
                apply q_block
                apply q_seq
                refine WS [6] [6, 9, 12, 13, 16, 27, 28, 63, 64, 106, 110, 115, 116, 131, 133, 134, 142, 156] ?_
                apply aw_ret
                simp only [QRet, QRetM, QRetX, retsX_nil, retsX_cons, objsAre, resA, mapO_nil, mapO_cons, vD_dat, vD_nils, vD_rp, vD_osl, vD_ptr, vD_agg, vD_fn, vD_isl, vL_dat, vL_app, viewL, avA, datsOf, fillA, seval, ↓List.forall_mem_cons, Op.operands, hP, hG, tiA, hE]
                all_goals try (first | done | rfl | trivial)
                all_goals first | done | rfl | (simp only [eventD, namesD, postsD, ssD, List.map_append, List.map_cons, List.map_nil]; done) | (simp only [eventD, namesD, postsD, ssD, List.map_append, List.map_cons, List.map_nil]; rfl) | skip
              · skip
                refine WS [2, 3, 6, 7, 8, 18, 66] [3, 6, 9, 12, 13, 16, 27, 28, 63, 64, 106, 110, 115, 116, 131, 133, 134, 142, 156] ?_
                refine WI (fun hb => ?_) (fun hb => ?_)
                · skip
                  have hv : spoiltM e how b = { e with Refs := sp7 e.Refs b } := by
                    unfold spoiltM spM
                    rw [if_neg (by omega), if_neg (by omega), if_neg (by omega), if_neg (by omega), if_neg (by omega), if_neg (by omega), if_neg (by omega), if_pos hb]
                  apply aw_seq
                  refine WS [2, 3, 6, 7, 70] [3, 6, 9, 12, 13, 16, 27, 28, 63, 64, 106, 110, 115, 116, 131, 133, 134, 142, 156] ?_
                  refine WI (fun hb => ?_) (fun hb => ?_)
                  · skip
                    have r7 := aroundM_range (n := b) (m := (e.Refs.length : Int)) (by omega)
                    have hv7 : spoiltM e how b = { e with Refs := e.Refs.set (aroundM b e.Refs.length).toNat (e.Refs.getD 0 default) } := by
                      rw [hv]
                      unfold sp7
                      rw [if_pos (by omega)]
                    have hset := set_row nameD e.Refs (aroundM b e.Refs.length).toNat (e.Refs.getD 0 default)
                    dsimp only [nameD] at hset
                    have hsl : (e.Refs.set (aroundM b e.Refs.length).toNat (e.Refs.getD 0 default)).length = e.Refs.length := List.length_set
                    have hst : List.take e.Refs.length (e.Refs.set (aroundM b e.Refs.length).toNat (e.Refs.getD 0 default)) = e.Refs.set (aroundM b e.Refs.length).toNat (e.Refs.getD 0 default) := List.take_of_length_le (by omega)
                    have hE := And.intro hE (And.intro hv7 (And.intro hset (And.intro hsl hst)))
                    apply aw_rgd [3, 6, 7] [3, 6, 9, 12, 13, 16, 27, 28, 63, 64, 106, 110, 115, 116, 131, 133, 134, 142, 156] [0, 1, 2, 3, 4, 5, 6, 7, 8, 9] []
                    · rw [hP]; kernel_rfl
                    · exact hR
                    · kernel_rfl
                    · (repeat (apply PickL.cons; exact rfl)); exact PickL.nil _
                    · simp (maxSteps := 2000000) (disch := omega) only [avR2, avA, datsOf, fillA, seval, ↓List.forall_mem_cons, Op.operands, hA, tiA, hE]
                      (repeat' refine And.intro ?_ ?_) <;> try exact SD
                      refine CallC.use (gvF hP hG (around_ok G b e.Refs.length hbb (by omega) (by unfold I64; omega))) rfl ?_
                      try simp (maxSteps := 2000000) (disch := omega) only [avR2, avA, datsOf, fillA, seval, ↓List.forall_mem_cons, Op.operands, hA, tiA, hE]
                      exact SC
                    apply q_seq
                    refine WQ [3, 6] [3, 6, 9, 12, 13, 16, 27, 28, 63, 64, 106, 110, 115, 116, 131, 133, 134, 142, 156] ?_
                    apply q_block
                    apply q_seq
                    refine WS [6] [6, 9, 12, 13, 16, 27, 28, 63, 64, 106, 110, 115, 116, 131, 133, 134, 142, 156] ?_
                    apply aw_ret
                    simp only [QRet, QRetM, QRetX, retsX_nil, retsX_cons, objsAre, resA, mapO_nil, mapO_cons, vD_dat, vD_nils, vD_rp, vD_osl, vD_ptr, vD_agg, vD_fn, vD_isl, vL_dat, vL_app, viewL, avA, datsOf, fillA, seval, ↓List.forall_mem_cons, Op.operands, hP, hG, tiA, hE]
                    all_goals try (first | done | rfl | trivial)
                    all_goals first | done | rfl | (simp only [eventD, namesD, postsD, ssD, List.map_append, List.map_cons, List.map_nil]; done) | (simp only [eventD, namesD, postsD, ssD, List.map_append, List.map_cons, List.map_nil]; rfl) | skip
                  · skip
                    have hv7 : spoiltM e how b = e := by
                      rw [hv]
                      unfold sp7
                      rw [if_neg (by omega)]
                    have hE := And.intro hE hv7
                    apply aw_skip
                    apply q_seq
                    refine WQ [3, 6] [3, 6, 9, 12, 13, 16, 27, 28, 63, 64, 106, 110, 115, 116, 131, 133, 134, 142, 156] ?_
                    apply q_block
                    apply q_seq
                    refine WS [6] [6, 9, 12, 13, 16, 27, 28, 63, 64, 106, 110, 115, 116, 131, 133, 134, 142, 156] ?_
                    apply aw_ret
                    simp only [QRet, QRetM, QRetX, retsX_nil, retsX_cons, objsAre, resA, mapO_nil, mapO_cons, vD_dat, vD_nils, vD_rp, vD_osl, vD_ptr, vD_agg, vD_fn, vD_isl, vL_dat, vL_app, viewL, avA, datsOf, fillA, seval, ↓List.forall_mem_cons, Op.operands, hP, hG, tiA, hE]
                    all_goals try (first | done | rfl | trivial)
                    all_goals first | done | rfl | (simp only [eventD, namesD, postsD, ssD, List.map_append, List.map_cons, List.map_nil]; done) | (simp only [eventD, namesD, postsD, ssD, List.map_append, List.map_cons, List.map_nil]; rfl) | skip
                · skip
                  refine WS [2, 3, 6, 7, 8, 18, 82] [3, 6, 9, 12, 13, 16, 27, 28, 63, 64, 106, 110, 115, 116, 131, 133, 134, 142, 156] ?_
                  refine WI (fun hb => ?_) (fun hb => ?_)
                  · skip
                    have hv : spoiltM e how b = { e with Term := { e.Term with Name := wordM b ++ sufL.getD (aroundM (b.tdiv 8) 5).toNat default } } := by
                      unfold spoiltM spM
                      rw [if_neg (by omega), if_neg (by omega), if_neg (by omega), if_neg (by omega), if_neg (by omega), if_neg (by omega), if_neg (by omega), if_neg (by omega), if_pos hb]
                    have hE := And.intro hE hv
                    apply aw_reg [3, 6] [3, 6, 9, 12, 13, 16, 27, 28, 63, 64, 106, 110, 115, 116, 131, 133, 134, 142, 156]
                    · simp (maxSteps := 2000000) (disch := omega) only [avR2, avA, datsOf, fillA, seval, ↓List.forall_mem_cons, Op.operands, hA, tiA, hE]
                      (repeat' refine And.intro ?_ ?_) <;> try exact SD
                      refine CallC.use (gvF hP hG (word_ok G b hbb)) rfl ?_
                      try simp (maxSteps := 2000000) (disch := omega) only [avR2, avA, datsOf, fillA, seval, ↓List.forall_mem_cons, Op.operands, hA, tiA, hE]
                      (repeat' refine And.intro ?_ ?_) <;> try exact SD
                      refine CallC.use (gvF hP hG (around_ok G (b.tdiv 8) 5 hi8 (by omega) (by unfold I64; omega))) rfl ?_
                      try simp (maxSteps := 2000000) (disch := omega) only [avR2, avA, datsOf, fillA, seval, ↓List.forall_mem_cons, Op.operands, hA, tiA, hE]
                      exact SC
                    apply q_block
                    apply q_seq
                    refine WS [6] [6, 9, 12, 13, 16, 27, 28, 63, 64, 106, 110, 115, 116, 131, 133, 134, 142, 156] ?_
                    apply aw_ret
                    simp only [QRet, QRetM, QRetX, retsX_nil, retsX_cons, objsAre, resA, mapO_nil, mapO_cons, vD_dat, vD_nils, vD_rp, vD_osl, vD_ptr, vD_agg, vD_fn, vD_isl, vL_dat, vL_app, viewL, avA, datsOf, fillA, seval, ↓List.forall_mem_cons, Op.operands, hP, hG, tiA, hE]
                    all_goals try (first | done | rfl | trivial)
                    all_goals first | done | rfl | (simp only [eventD, namesD, postsD, ssD, List.map_append, List.map_cons, List.map_nil]; done) | (simp only [eventD, namesD, postsD, ssD, List.map_append, List.map_cons, List.map_nil]; rfl) | skip
                  · skip
                    refine WS [2, 3, 6, 7, 8, 18, 95] [3, 6, 9, 12, 13, 16, 27, 28, 63, 64, 106, 110, 115, 116, 131, 133, 134, 142, 156] ?_
                    refine WI (fun hb => ?_) (fun hb => ?_)
                    · skip
                      have hv : spoiltM e how b = { e with Term := { e.Term with See := seeL.getD (aroundM b 4).toNat default } } := by
                        unfold spoiltM spM
                        rw [if_neg (by omega), if_neg (by omega), if_neg (by omega), if_neg (by omega), if_neg (by omega), if_neg (by omega), if_neg (by omega), if_neg (by omega), if_neg (by omega), if_pos hb]
                      have hE := And.intro hE hv
                      have hc := gvF hP hG (around_ok G b 4 hbb (by omega) (by unfold I64; omega))
                      refine WQc [3, 6] [3, 6, 9, 12, 13, 16, 27, 28, 63, 64, 106, 110, 115, 116, 131, 133, 134, 142, 156] ?_
                      apply q_block
                      apply q_seq
                      refine WS [6] [6, 9, 12, 13, 16, 27, 28, 63, 64, 106, 110, 115, 116, 131, 133, 134, 142, 156] ?_
                      apply aw_ret
                      simp only [QRet, QRetM, QRetX, retsX_nil, retsX_cons, objsAre, resA, mapO_nil, mapO_cons, vD_dat, vD_nils, vD_rp, vD_osl, vD_ptr, vD_agg, vD_fn, vD_isl, vL_dat, vL_app, viewL, avA, datsOf, fillA, seval, ↓List.forall_mem_cons, Op.operands, hP, hG, tiA, hE]
                      all_goals try (first | done | rfl | trivial)
                      all_goals first | done | rfl | (simp only [eventD, namesD, postsD, ssD, List.map_append, List.map_cons, List.map_nil]; done) | (simp only [eventD, namesD, postsD, ssD, List.map_append, List.map_cons, List.map_nil]; rfl) | skip
                    · skip
                      refine WS [2, 3, 6, 7, 8, 18, 104] [3, 6, 9, 12, 13, 16, 27, 28, 63, 64, 106, 110, 115, 116, 131, 133, 134, 142, 156] ?_
                      refine WI (fun hb => ?_) (fun hb => ?_)
                      · skip
                        have hv : spoiltM e how b = { e with Term := { e.Term with Broader := e.Term.Broader ++ [wordM b, ⟨#[]⟩, wordM b] } } := by
                          unfold spoiltM spM
                          rw [if_neg (by omega), if_neg (by omega), if_neg (by omega), if_neg (by omega), if_neg (by omega), if_neg (by omega), if_neg (by omega), if_neg (by omega), if_neg (by omega), if_neg (by omega), if_pos hb]
                        have hE := And.intro hE hv
                        apply aw_reg [3, 6] [3, 6, 9, 12, 13, 16, 27, 28, 63, 64, 106, 110, 115, 116, 131, 133, 134, 142, 156]
                        · simp (maxSteps := 2000000) (disch := omega) only [avR2, avA, datsOf, fillA, seval, ↓List.forall_mem_cons, Op.operands, hA, tiA, hE]
                          (repeat' refine And.intro ?_ ?_) <;> try exact SD
                          refine CallC.use (gvF hP hG (word_ok G b hbb)) rfl ?_
                          try simp (maxSteps := 2000000) (disch := omega) only [avR2, avA, datsOf, fillA, seval, ↓List.forall_mem_cons, Op.operands, hA, tiA, hE]
                          (repeat' refine And.intro ?_ ?_) <;> try exact SD
                          refine CallC.use (gvF hP hG (word_ok G b hbb)) rfl ?_
                          try simp (maxSteps := 2000000) (disch := omega) only [avR2, avA, datsOf, fillA, seval, ↓List.forall_mem_cons, Op.operands, hA, tiA, hE]
                          exact SC
                        apply q_block
                        apply q_seq
                        refine WS [6] [6, 9, 12, 13, 16, 27, 28, 63, 64, 106, 110, 115, 116, 131, 133, 134, 142, 156] ?_
                        apply aw_ret
                        simp only [QRet, QRetM, QRetX, retsX_nil, retsX_cons, objsAre, resA, mapO_nil, mapO_cons, vD_dat, vD_nils, vD_rp, vD_osl, vD_ptr, vD_agg, vD_fn, vD_isl, vL_dat, vL_app, viewL, avA, datsOf, fillA, seval, ↓List.forall_mem_cons, Op.operands, hP, hG, tiA, hE]
                        all_goals try (first | done | rfl | trivial)
                        all_goals first | done | rfl | (simp only [eventD, namesD, postsD, ssD, List.map_append, List.map_cons, List.map_nil]; done) | (simp only [eventD, namesD, postsD, ssD, List.map_append, List.map_cons, List.map_nil]; rfl) | skip
                      · skip
                        refine WS [2, 3, 6, 7, 8, 18, 119] [3, 6, 9, 12, 13, 16, 27, 28, 63, 64, 106, 110, 115, 116, 131, 133, 134, 142, 156] ?_
                        refine WI (fun hb => ?_) (fun hb => ?_)
                        · skip
                          have hv : spoiltM e how b = { e with Term := { e.Term with Lang := b } } := by
                            unfold spoiltM spM
                            rw [if_neg (by omega), if_neg (by omega), if_neg (by omega), if_neg (by omega), if_neg (by omega), if_neg (by omega), if_neg (by omega), if_neg (by omega), if_neg (by omega), if_neg (by omega), if_neg (by omega), if_pos hb]
                          have hE := And.intro hE hv
                          refine WQ [3, 6] [3, 6, 9, 12, 13, 16, 27, 28, 63, 64, 106, 110, 115, 116, 131, 133, 134, 142, 156] ?_
                          apply q_block
                          apply q_seq
                          refine WS [6] [6, 9, 12, 13, 16, 27, 28, 63, 64, 106, 110, 115, 116, 131, 133, 134, 142, 156] ?_
                          apply aw_ret
                          simp only [QRet, QRetM, QRetX, retsX_nil, retsX_cons, objsAre, resA, mapO_nil, mapO_cons, vD_dat, vD_nils, vD_rp, vD_osl, vD_ptr, vD_agg, vD_fn, vD_isl, vL_dat, vL_app, viewL, avA, datsOf, fillA, seval, ↓List.forall_mem_cons, Op.operands, hP, hG, tiA, hE]
                          all_goals try (first | done | rfl | trivial)
                          all_goals first | done | rfl | (simp only [eventD, namesD, postsD, ssD, List.map_append, List.map_cons, List.map_nil]; done) | (simp only [eventD, namesD, postsD, ssD, List.map_append, List.map_cons, List.map_nil]; rfl) | skip
                        · skip
                          refine WS [2, 3, 6, 7, 8, 18, 124] [3, 6, 9, 12, 13, 16, 27, 28, 63, 64, 106, 110, 115, 116, 131, 133, 134, 142, 156] ?_
                          refine WI (fun hb => ?_) (fun hb => ?_)
                          · skip
                            have hv : spoiltM e how b = { e with Posts := e.Posts ++ [{ ID := e.ID, Path := [wordM b], Main := false }] } := by
                              unfold spoiltM spM
                              rw [if_neg (by omega), if_neg (by omega), if_neg (by omega), if_neg (by omega), if_neg (by omega), if_neg (by omega), if_neg (by omega), if_neg (by omega), if_neg (by omega), if_neg (by omega), if_neg (by omega), if_neg (by omega), if_pos hb]
                            have hE := And.intro hE hv
                            apply aw_rgd [3, 6] [3, 6, 9, 12, 13, 16, 27, 28, 63, 64, 106, 110, 115, 116, 131, 133, 134, 142, 156] [0, 1, 2, 3, 4, 5, 6, 7, 8, 9, 10] [134]
                            · rw [hP]; kernel_rfl
                            · exact hR
                            · kernel_rfl
                            · (repeat (apply PickL.cons; exact rfl)); exact PickL.nil _
                            · simp (maxSteps := 2000000) (disch := omega) only [avR2, avA, datsOf, fillA, seval, ↓List.forall_mem_cons, Op.operands, hA, tiA, hE]
                              (repeat' refine And.intro ?_ ?_) <;> try exact SD
                              refine CallC.use (gvF hP hG (word_ok G b hbb)) rfl ?_
                              try simp (maxSteps := 2000000) (disch := omega) only [avR2, avA, datsOf, fillA, seval, ↓List.forall_mem_cons, Op.operands, hA, tiA, hE]
                              exact SC
                            apply q_block
                            apply q_seq
                            refine WS [6] [6, 9, 12, 13, 16, 27, 28, 63, 64, 106, 110, 115, 116, 131, 133, 134, 142, 156] ?_
                            apply aw_ret
                            simp only [QRet, QRetM, QRetX, retsX_nil, retsX_cons, objsAre, resA, mapO_nil, mapO_cons, vD_dat, vD_nils, vD_rp, vD_osl, vD_ptr, vD_agg, vD_fn, vD_isl, vL_dat, vL_app, viewL, avA, datsOf, fillA, seval, ↓List.forall_mem_cons, Op.operands, hP, hG, tiA, hE]
                            all_goals try (first | done | rfl | trivial)
                            all_goals first | done | rfl | (simp only [eventD, namesD, postsD, ssD, List.map_append, List.map_cons, List.map_nil]; done) | (simp only [eventD, namesD, postsD, ssD, List.map_append, List.map_cons, List.map_nil]; rfl) | skip
                          · skip
                            refine WS [2, 3, 6, 7, 8, 18, 136] [3, 6, 9, 12, 13, 16, 27, 28, 63, 64, 106, 110, 115, 116, 131, 133, 134, 142, 156] ?_
                            refine WI (fun hb => ?_) (fun hb => ?_)
                            · skip
                              have hv : spoiltM e how b = { e with Posts := sp13 e.Posts b } := by
                                unfold spoiltM spM
                                rw [if_neg (by omega), if_neg (by omega), if_neg (by omega), if_neg (by omega), if_neg (by omega), if_neg (by omega), if_neg (by omega), if_neg (by omega), if_neg (by omega), if_neg (by omega), if_neg (by omega), if_neg (by omega), if_neg (by omega), if_pos hb]
                              apply aw_seq
                              refine WS [2, 3, 6, 8, 140] [3, 6, 9, 12, 13, 16, 27, 28, 63, 64, 106, 110, 115, 116, 131, 133, 134, 142, 156] ?_
                              refine WI (fun hb => ?_) (fun hb => ?_)
                              · skip
                                obtain ⟨p, ps, hps⟩ : ∃ p ps, e.Posts = p :: ps := by
                                  cases hq : e.Posts with
                                  | nil => rw [hq] at hb; simp at hb
                                  | cons p ps => exact ⟨p, ps, rfl⟩
                                have hpo := hs.posts p (by rw [hps]; simp)
                                have r13 := aroundM_range (n := b) (m := (p.Path.length : Int) + 1) (by omega)
                                have r52a := Int.tmod_lt_of_pos (b.tdiv 5) (b := 2) (by omega)
                                have r52b := Int.lt_tmod_of_pos (b.tdiv 5) (b := 2) (by omega)
                                have hv13 : spoiltM e how b = { e with Posts := { ID := ⟨IntKind.i64.wrap (p.ID.By + (b.tdiv 5).tmod 2), p.ID.Seq, p.ID.K⟩, Path := p.Path.take (aroundM b (p.Path.length + 1)).toNat, Main := p.Main } :: ps } := by
                                  rw [hv, hps]
                                  rfl
                                have hE := And.intro hE (And.intro hps hv13)
                                apply aw_rgds [2, 3, 6, 8] [3, 6, 9, 12, 13, 16, 27, 28, 63, 64, 106, 110, 115, 116, 131, 133, 134, 142, 156] [0, 1, 2, 3, 4, 5, 6, 7, 8, 9, 10, 11, 12, 13, 14, 15, 16, 17, 18] [156]
                                · rw [hP]; kernel_rfl
                                · exact hR
                                · kernel_rfl
                                · (repeat (apply PickL.cons; exact rfl)); exact PickL.nil _
                                · simp (maxSteps := 2000000) (disch := omega) only [avR2, avA, datsOf, fillA, seval, ↓List.forall_mem_cons, Op.operands, hA, tiA, hE]
                                  (repeat' refine And.intro ?_ ?_) <;> try exact SD
                                  refine CallC.use (gvF hP hG (around_ok G b ((p.Path.length : Int) + 1) hbb (by omega) (by unfold I64; omega))) rfl ?_
                                  try simp (maxSteps := 2000000) (disch := omega) only [avR2, avA, datsOf, fillA, seval, ↓List.forall_mem_cons, Op.operands, hA, tiA, hE]
                                  exact SC
                                refine aw_frz 156 hR.2.2.2 rfl (datE_map _) ?_
                                refine WQ [3, 6, 8] [3, 6, 9, 12, 13, 16, 27, 28, 63, 64, 106, 110, 115, 116, 131, 133, 134, 142, 156] ?_
                                apply q_seq
                                refine WQ [3, 6] [3, 6, 9, 12, 13, 16, 27, 28, 63, 64, 106, 110, 115, 116, 131, 133, 134, 142, 156] ?_
                                apply q_block
                                apply q_seq
                                refine WS [6] [6, 9, 12, 13, 16, 27, 28, 63, 64, 106, 110, 115, 116, 131, 133, 134, 142, 156] ?_
                                apply aw_ret
                                simp only [QRet, QRetM, QRetX, retsX_nil, retsX_cons, objsAre, resA, mapO_nil, mapO_cons, vD_dat, vD_nils, vD_rp, vD_osl, vD_ptr, vD_agg, vD_fn, vD_isl, vL_dat, vL_app, viewL, avA, datsOf, fillA, seval, ↓List.forall_mem_cons, Op.operands, hP, hG, tiA, hE]
                                all_goals try (first | done | rfl | trivial)
                                all_goals first | done | rfl | (simp only [eventD, namesD, postsD, ssD, List.map_append, List.map_cons, List.map_nil]; done) | (simp only [eventD, namesD, postsD, ssD, List.map_append, List.map_cons, List.map_nil]; rfl) | skip
                              · skip
                                have hps : e.Posts = [] := List.eq_nil_of_length_eq_zero (by omega)
                                have hv13 : spoiltM e how b = e := by
                                  rw [hv, hps]
                                  show ({ e with Posts := [] } : EventM) = e
                                  rw [← hps]
                                have hE := And.intro hE hv13
                                apply aw_skip
                                apply q_seq
                                refine WQ [3, 6] [3, 6, 9, 12, 13, 16, 27, 28, 63, 64, 106, 110, 115, 116, 131, 133, 134, 142, 156] ?_
                                apply q_block
                                apply q_seq
                                refine WS [6] [6, 9, 12, 13, 16, 27, 28, 63, 64, 106, 110, 115, 116, 131, 133, 134, 142, 156] ?_
                                apply aw_ret
                                simp only [QRet, QRetM, QRetX, retsX_nil, retsX_cons, objsAre, resA, mapO_nil, mapO_cons, vD_dat, vD_nils, vD_rp, vD_osl, vD_ptr, vD_agg, vD_fn, vD_isl, vL_dat, vL_app, viewL, avA, datsOf, fillA, seval, ↓List.forall_mem_cons, Op.operands, hP, hG, tiA, hE]
                                all_goals try (first | done | rfl | trivial)
                                all_goals first | done | rfl | (simp only [eventD, namesD, postsD, ssD, List.map_append, List.map_cons, List.map_nil]; done) | (simp only [eventD, namesD, postsD, ssD, List.map_append, List.map_cons, List.map_nil]; rfl) | skip
                            · skip
                              refine WS [2, 3, 6, 7, 174] [3, 6, 9, 12, 13, 16, 27, 28, 63, 64, 106, 110, 115, 116, 131, 133, 134, 142, 156] ?_
                              refine WI (fun hb => ?_) (fun hb => ?_)
                              · skip
                                have hv : spoiltM e how b = { e with Op := { e.Op with N := b } } := by
                                  unfold spoiltM spM
                                  rw [if_neg (by omega), if_neg (by omega), if_neg (by omega), if_neg (by omega), if_neg (by omega), if_neg (by omega), if_neg (by omega), if_neg (by omega), if_neg (by omega), if_neg (by omega), if_neg (by omega), if_neg (by omega), if_neg (by omega), if_neg (by omega), if_pos hb]
                                have hE := And.intro hE hv
                                refine WQ [3, 6] [3, 6, 9, 12, 13, 16, 27, 28, 63, 64, 106, 110, 115, 116, 131, 133, 134, 142, 156] ?_
                                apply q_block
                                apply q_seq
                                refine WS [6] [6, 9, 12, 13, 16, 27, 28, 63, 64, 106, 110, 115, 116, 131, 133, 134, 142, 156] ?_
                                apply aw_ret
                                simp only [QRet, QRetM, QRetX, retsX_nil, retsX_cons, objsAre, resA, mapO_nil, mapO_cons, vD_dat, vD_nils, vD_rp, vD_osl, vD_ptr, vD_agg, vD_fn, vD_isl, vL_dat, vL_app, viewL, avA, datsOf, fillA, seval, ↓List.forall_mem_cons, Op.operands, hP, hG, tiA, hE]
                                all_goals try (first | done | rfl | trivial)
                                all_goals first | done | rfl | (simp only [eventD, namesD, postsD, ssD, List.map_append, List.map_cons, List.map_nil]; done) | (simp only [eventD, namesD, postsD, ssD, List.map_append, List.map_cons, List.map_nil]; rfl) | skip
                              · skip
                                apply aw_seq
                                apply aw_block
                                have hv : spoiltM e how b = { e with Refs := fillR e.Refs b } := by
                                  unfold spoiltM spM
                                  rw [if_neg (by omega), if_neg (by omega), if_neg (by omega), if_neg (by omega), if_neg (by omega), if_neg (by omega), if_neg (by omega), if_neg (by omega), if_neg (by omega), if_neg (by omega), if_neg (by omega), if_neg (by omega), if_neg (by omega), if_neg (by omega), if_neg (by omega)]
                                have hE := And.intro hE (And.intro hv (fillN_zero e.Refs b))
                                refine aw_swap 12 28 (by omega) (by omega) ?_
                                refine WL (ι := {i : Nat // e.Refs.length ≤ i ∧ (i ≤ 17 ∨ i = e.Refs.length)}) [2, 3, 6] [3, 6, 9, 12, 13, 16, 27, 63, 64, 106, 110, 115, 116, 131, 133, 134, 142, 156] (fun ⟨i, hi2⟩ => [(7, .osl 28 2 0 i)]) (fun ⟨i, hi2⟩ => [(28, ⟨2, ((fillN e.Refs b i).map nameD).map .dat⟩)]) (fun ⟨i, hi2⟩ => 17 - i) (⟨e.Refs.length, by omega, by omega⟩) ?_
                                rintro ⟨i, hi2⟩
                                dsimp only [List.cons_append, List.nil_append]
                                obtain ⟨hi, hi3⟩ := id hi2
                                have hfl := fillN_len (b := b) hi
                                have hfs := fillN_succ (b := b) hi
                                have hE := And.intro hE (And.intro hfl (And.intro hfs (fillN_zero e.Refs b)))
                                apply aw_seq
                                refine WS [2, 3, 6, 7, 21] [3, 6, 9, 12, 13, 16, 27, 28, 63, 64, 106, 110, 115, 116, 131, 133, 134, 142, 156] ?_
                                refine WI (fun hb => ?_) (fun hb => ?_)
                                · skip
                                  apply aw_skip
                                  apply q_seq
                                  apply aw_block
                                  refine WQ [2, 3, 6, 7] [3, 6, 9, 12, 13, 16, 27, 28, 63, 64, 106, 110, 115, 116, 131, 133, 134, 142, 156] ?_
                                  apply q_block
                                  refine WN (⟨i + 1, by omega⟩)
                                · skip
                                  apply aw_exit
                                  apply q_exit_seq
                                  have hfr : fillR e.Refs b = fillN e.Refs b i := by unfold fillR; congr 1; omega
                                  have hE := And.intro hE hfr
                                  apply q_exit_loop
                                  apply q_exit
                                  apply q_seq
                                  refine WQ [3, 6] [3, 6, 9, 12, 13, 16, 27, 28, 63, 64, 106, 110, 115, 116, 131, 133, 134, 142, 156] ?_
                                  apply q_block
                                  apply q_seq
                                  refine WS [6] [6, 9, 12, 13, 16, 27, 28, 63, 64, 106, 110, 115, 116, 131, 133, 134, 142, 156] ?_
                                  apply aw_ret
                                  simp only [QRet, QRetM, QRetX, retsX_nil, retsX_cons, objsAre, resA, mapO_nil, mapO_cons, vD_dat, vD_nils, vD_rp, vD_osl, vD_ptr, vD_agg, vD_fn, vD_isl, vL_dat, vL_app, viewL, avA, datsOf, fillA, seval, ↓List.forall_mem_cons, Op.operands, hP, hG, tiA, hE]
                                  all_goals try (first | done | rfl | trivial)
                                  all_goals first | done | rfl | (simp only [eventD, namesD, postsD, ssD, List.map_append, List.map_cons, List.map_nil]; done) | (simp only [eventD, namesD, postsD, ssD, List.map_append, List.map_cons, List.map_nil]; rfl) | skip
end Go.Proofs.Ytabjaaonfaejmaa

namespace Go.Proofs.Ytabjaaonfaejmaa
open Go.Av
def sameEvM (a b : EventM) : Bool := a.By == b.By && a.Seq == b.Seq && a.Tick == b.Tick && a.Kind == b.Kind && sameID a.ID b.ID && a.N == b.N && sameL samePostM a.Posts b.Posts && sameL sameName a.Refs b.Refs && sameTermM a.Term b.Term && sameOpM a.Op b.Op
set_option maxRecDepth 100000 in
set_option maxHeartbeats 2000000 in
theorem same_ok (G) (a b : EventM) (h : OkEv a) : Gives Try.prog G 32 [eventD a, eventD b] [bD (sameEvM a b)] := by
  have hnr := h.nrefs
  have hnb := h.nbroader
  have hnp := h.nposts
  have hsl := sameL_len (f := samePostM) (a := a.Posts) (b := b.Posts)
  skip
  refine gives_intro [] [] [] Try.func32 rfl (by rfl) (by simp [Try.ntmps32]) fun F hP hG hN hR => ?_
  rw [Try.ntmps32] at hN
  have hA := And.intro hN (And.intro hP (And.intro hG (And.intro hR.1 (And.intro hR.2.1 hR.2.2.1))))
  have hE := And.intro @Try.results32 (And.intro @eqId (@eqName))
  refine WS [2, 3] [2, 3] ?_
  apply aw_seq
  refine WS [2, 3, 54] [2, 3] ?_
  refine WI (fun hb => ?_) (fun hb => ?_)
  · skip
    have hv : sameEvM a b = false := by unfold sameEvM sameID; grind
    have hE := And.intro hE hv
    refine WS [4] [] ?_
    apply aw_ret
    apply q_ret_seq
    simp only [QRet, QRetM, QRetX, retsX_nil, retsX_cons, objsAre, resA, mapO_nil, mapO_cons, vD_dat, vD_nils, vD_rp, vD_osl, vD_ptr, vD_agg, vD_fn, vD_isl, vL_dat, vL_app, viewL, avA, datsOf, fillA, seval, ↓List.forall_mem_cons, Op.operands, hP, hG, tiA, hE]
    all_goals try (first | done | rfl | trivial)
    all_goals (unfold sameEvM; grind)
  · skip
    have hq : (a.By = b.By ∧ a.Seq = b.Seq ∧ a.Tick = b.Tick ∧ a.Kind = b.Kind ∧ sameID a.ID b.ID = true ∧ a.N = b.N) ∧ a.Posts.length = b.Posts.length := by unfold sameID; grind
    have hlen := hq.2
    apply aw_skip
    apply q_seq
    apply aw_seq
    refine WS [2, 3, 5] [2, 3] ?_
    apply aw_block
    refine WL (ι := {i : Nat // i ≤ a.Posts.length ∧ ∀ j, j < i → samePostM (a.Posts.getD j default) (b.Posts.getD j default) = true}) [2, 3] [2, 3] (fun ⟨i, hih⟩ => [(5, .dat (iD i))]) (fun ⟨i, hih⟩ => []) (fun ⟨i, hih⟩ => a.Posts.length - i) (⟨0, by omega, fun j h => absurd h (Nat.not_lt_zero j)⟩) ?_
    rintro ⟨i, hih⟩
    dsimp only [List.cons_append, List.nil_append]
    obtain ⟨hi, hall⟩ := id hih
    apply aw_seq
    refine WS [2, 3, 5, 59] [2, 3] ?_
    refine WI (fun hb => ?_) (fun hb => ?_)
    · skip
      apply aw_skip
      apply q_seq
      apply aw_seq
      apply aw_block
      apply aw_rgds [2, 3, 5, 73] [2, 3] [0, 1, 2, 3, 4, 5, 6, 7, 8, 9, 10, 11] []
      · rw [hP]; kernel_rfl
      · exact hR
      · kernel_rfl
      · (repeat (apply PickL.cons; exact rfl)); exact PickL.nil _
      · simp (maxSteps := 2000000) (disch := omega) only [avR2, avA, datsOf, fillA, seval, ↓List.forall_mem_cons, Op.operands, hA, tiA, hE]
        (repeat' refine And.intro ?_ ?_) <;> try exact SD
        refine CallC.use (gvF hP hG (rpost_ok G (a.Posts.getD i default) (b.Posts.getD i default) (by have := getD_all (p := fun p : PostM => p.Path.length ≤ 3000) (l := a.Posts) (fun p hp => (h.posts p hp).2.1) (i := i) (by omega); omega))) rfl ?_
        try simp (maxSteps := 2000000) (disch := omega) only [avR2, avA, datsOf, fillA, seval, ↓List.forall_mem_cons, Op.operands, hA, tiA, hE]
        exact SC
      refine WI (fun hb => ?_) (fun hb => ?_)
      · skip
        have hv : sameEvM a b = false := by
          have := sameL_bad (f := samePostM) (a := a.Posts) (b := b.Posts) i (by omega) hlen (by grind)
          unfold sameEvM; rw [this]; simp
        have hE := And.intro hE hv
        refine WS [4] [] ?_
        apply aw_ret
        apply q_ret_block
        apply q_ret_seq
        apply q_ret_loop
        apply q_ret_block
        apply q_ret_seq
        simp only [QRet, QRetM, QRetX, retsX_nil, retsX_cons, objsAre, resA, mapO_nil, mapO_cons, vD_dat, vD_nils, vD_rp, vD_osl, vD_ptr, vD_agg, vD_fn, vD_isl, vL_dat, vL_app, viewL, avA, datsOf, fillA, seval, ↓List.forall_mem_cons, Op.operands, hP, hG, tiA, hE]
        all_goals try (first | done | rfl | trivial)
        all_goals (unfold sameEvM; grind)
      · skip
        have hok : samePostM (a.Posts.getD i default) (b.Posts.getD i default) = true := by grind
        apply aw_skip
        apply q_block
        apply q_seq
        refine WQ [2, 3, 5] [2, 3] ?_
        refine WN (⟨i + 1, by omega, allstep hih.2 hok⟩)
    · skip
      apply aw_exit
      apply q_exit_seq
      obtain rfl : i = a.Posts.length := by omega
      have hp : sameL samePostM a.Posts b.Posts = true := sameL_all hlen hall
      apply q_exit_loop
      apply q_exit
      apply q_seq
      apply aw_regs [4] []
      · simp (maxSteps := 2000000) (disch := omega) only [avR2, avA, datsOf, fillA, seval, ↓List.forall_mem_cons, Op.operands, hA, tiA, hE]
        (repeat' refine And.intro ?_ ?_) <;> try exact SD
        refine CallC.use (gvF hP hG (rnames_ok G a.Refs b.Refs (by omega))) rfl ?_
        try simp (maxSteps := 2000000) (disch := omega) only [avR2, avA, datsOf, fillA, seval, ↓List.forall_mem_cons, Op.operands, hA, tiA, hE]
        (repeat' refine And.intro ?_ ?_) <;> try exact SD
        refine CallGC.use rfl (fun hg => ⟨by first | trivial | (simp only [gdAll, AV.gd, avA, seval]; (repeat' apply And.intro) <;> first | trivial | rfl | exact hg) | simp_all [gdAll], gvF hP hG (rterm_ok G a.Term b.Term (by omega))⟩) ?_
        try simp (maxSteps := 2000000) (disch := omega) only [avR2, avA, datsOf, fillA, seval, ↓List.forall_mem_cons, Op.operands, hA, tiA, hE]
        (repeat' refine And.intro ?_ ?_) <;> try exact SD
        refine CallGC.use rfl (fun hg => ⟨by first | trivial | (simp only [gdAll, AV.gd, avA, seval]; (repeat' apply And.intro) <;> first | trivial | rfl | exact hg) | simp_all [gdAll], gvF hP hG (rop_ok G a.Op b.Op (szOp_of h.op))⟩) ?_
        try simp (maxSteps := 2000000) (disch := omega) only [avR2, avA, datsOf, fillA, seval, ↓List.forall_mem_cons, Op.operands, hA, tiA, hE]
        exact SC
      apply aw_ret
      simp only [QRet, QRetM, QRetX, retsX_nil, retsX_cons, objsAre, resA, mapO_nil, mapO_cons, vD_dat, vD_nils, vD_rp, vD_osl, vD_ptr, vD_agg, vD_fn, vD_isl, vL_dat, vL_app, viewL, avA, datsOf, fillA, seval, ↓List.forall_mem_cons, Op.operands, hP, hG, tiA, hE]
      all_goals try (first | done | rfl | trivial)
      all_goals (unfold sameEvM; grind)
end Go.Proofs.Ytabjaaonfaejmaa

namespace Go.Proofs.Ytabjaaonfaejmaa
open Go.Av
theorem eqposts_ok (G) (a b : List PostM) (ha : a.length ≤ 1000) (hp : ∀ p ∈ a, p.Path.length ≤ 3000) : Gives Try.prog G 68 [postsD a, postsD b, .fn 69 []] [bD (sameL samePostM a b)] := by
  refine gives_introF [] [] [] Try.func68 rfl (by rfl) (by simp [Try.ntmps68]) fun F hP hG hN hR => ?_
  rw [Try.ntmps68] at hN
  have hA := And.intro hN (And.intro hP (And.intro hG (And.intro hR.1 (And.intro hR.2.1 hR.2.2.1))))
  have hE := @Try.results68
  refine WS [0, 1, 2] [] ?_
  apply aw_seq
  refine WS [0, 1, 2, 14] [] ?_
  refine WI (fun hb => ?_) (fun hb => ?_)
  · skip
    have hv : sameL samePostM a b = false := sameL_len (by omega)
    have hE := And.intro hE hv
    refine WS [6] [] ?_
    apply aw_ret
    apply q_ret_seq
    simp only [QRet, QRetM, QRetX, retsX_nil, retsX_cons, objsAre, resA, mapO_nil, mapO_cons, vD_dat, vD_nils, vD_rp, vD_osl, vD_ptr, vD_agg, vD_fn, vD_isl, vL_dat, vL_app, viewL, avA, datsOf, fillA, seval, ↓List.forall_mem_cons, Op.operands, hP, hG, tiA, hE]
    all_goals try (first | done | rfl | trivial)
  · skip
    have hlen : a.length = b.length := by omega
    apply aw_skip
    apply q_seq
    apply aw_seq
    refine WS [1, 2, 15, 16, 17] [] ?_
    apply aw_block
    refine WL (ι := {i : Nat // i ≤ a.length ∧ ∀ j, j < i → samePostM (a.getD j default) (b.getD j default) = true}) [1, 2, 15, 16] [] (fun ⟨i, hih⟩ => [(17, .dat (iD i))]) (fun ⟨i, hih⟩ => []) (fun ⟨i, hih⟩ => a.length - i) (⟨0, by omega, fun j h => absurd h (Nat.not_lt_zero j)⟩) ?_
    rintro ⟨i, hih⟩
    dsimp only [List.cons_append, List.nil_append]
    obtain ⟨hi, hall⟩ := id hih
    refine WS [1, 2, 15, 16, 17, 18] [] ?_
    apply aw_seq
    refine WI (fun hb => ?_) (fun hb => ?_)
    · skip
      apply aw_skip
      apply q_seq
      apply aw_seq
      apply aw_block
      refine WS [1, 2, 7, 8, 15, 16, 17] [8] ?_
      refine WS [1, 2, 8, 9, 15, 16, 17] [8, 9] ?_
      have hc := gvF hP hG (spost_ok G (a.getD i default) (b.getD i default) (by have := getD_all (p := fun p : PostM => p.Path.length ≤ 3000) (l := a) hp (i := i) (by omega); omega))
      refine WSc [1, 2, 15, 16, 17, 30] [] ?_
      refine WI (fun hb => ?_) (fun hb => ?_)
      · skip
        have hv : sameL samePostM a b = false := sameL_bad i (by omega) hlen (by grind)
        have hE := And.intro hE hv
        refine WS [6] [] ?_
        apply aw_ret
        apply q_ret_block
        apply q_ret_seq
        apply q_ret_loop
        apply q_ret_block
        apply q_ret_seq
        simp only [QRet, QRetM, QRetX, retsX_nil, retsX_cons, objsAre, resA, mapO_nil, mapO_cons, vD_dat, vD_nils, vD_rp, vD_osl, vD_ptr, vD_agg, vD_fn, vD_isl, vL_dat, vL_app, viewL, avA, datsOf, fillA, seval, ↓List.forall_mem_cons, Op.operands, hP, hG, tiA, hE]
        all_goals try (first | done | rfl | trivial)
      · skip
        have hok : samePostM (a.getD i default) (b.getD i default) = true := by grind
        apply aw_skip
        apply q_block
        apply q_seq
        refine WQ [1, 2, 15, 16, 17] [] ?_
        refine WN (⟨i + 1, by omega, allstep hih.2 hok⟩)
    · skip
      apply aw_exit
      apply q_exit_seq
      obtain rfl : i = a.length := by omega
      have hv : sameL samePostM a b = true := sameL_all hlen hall
      have hE := And.intro hE hv
      apply q_exit_loop
      apply q_exit
      apply q_seq
      refine WS [6] [] ?_
      apply aw_ret
      simp only [QRet, QRetM, QRetX, retsX_nil, retsX_cons, objsAre, resA, mapO_nil, mapO_cons, vD_dat, vD_nils, vD_rp, vD_osl, vD_ptr, vD_agg, vD_fn, vD_isl, vL_dat, vL_app, viewL, avA, datsOf, fillA, seval, ↓List.forall_mem_cons, Op.operands, hP, hG, tiA, hE]
      all_goals try (first | done | rfl | trivial)
set_option maxRecDepth 100000 in
set_option maxHeartbeats 2000000 in
theorem esame_ok (G) (a b : EventM) (h : OkEv a) : Gives Try.prog G 31 [eventD a, eventD b] [bD (sameEvM a b)] := by
  have hnr := h.nrefs
  have hnb := h.nbroader
  have hnp := h.nposts
  skip
  refine gives_intro [] [] [] Try.func31 rfl (by rfl) (by simp [Try.ntmps31]) fun F hP hG hN hR => ?_
  rw [Try.ntmps31] at hN
  have hA := And.intro hN (And.intro hP (And.intro hG (And.intro hR.1 (And.intro hR.2.1 hR.2.2.1))))
  have hE := And.intro @Try.results31 (And.intro @eqId (@eqName))
  refine WS [2, 3] [2, 3] ?_
  apply aw_rgds [4] [] [0, 1, 2, 3, 4, 5, 6, 7, 8, 9, 10, 11, 12, 13, 14, 15, 16, 17, 18, 19, 20, 21, 22, 23, 24, 25, 26, 27, 28, 29, 30, 31, 32, 33, 34, 35, 36, 37, 38, 39, 40, 41, 42, 43, 44, 45, 46, 47, 48, 49, 50, 51, 52, 53, 54, 55, 56, 57, 58, 59, 60, 61] []
  · rw [hP]; kernel_rfl
  · exact hR
  · kernel_rfl
  · (repeat (apply PickL.cons; exact rfl)); exact PickL.nil _
  · simp (maxSteps := 2000000) (disch := omega) only [avR2, avA, datsOf, fillA, seval, ↓List.forall_mem_cons, Op.operands, hA, tiA, hE]
    (repeat' refine And.intro ?_ ?_) <;> try exact SD
    refine CallC.use (gvF hP hG (name_ok G a)) rfl ?_
    try simp (maxSteps := 2000000) (disch := omega) only [avR2, avA, datsOf, fillA, seval, ↓List.forall_mem_cons, Op.operands, hA, tiA, hE]
    (repeat' refine And.intro ?_ ?_) <;> try exact SD
    refine CallC.use (gvF hP hG (name_ok G b)) rfl ?_
    try simp (maxSteps := 2000000) (disch := omega) only [avR2, avA, datsOf, fillA, seval, ↓List.forall_mem_cons, Op.operands, hA, tiA, hE]
    (repeat' refine And.intro ?_ ?_) <;> try exact SD
    refine CallGC.use rfl (fun hg => ⟨by first | trivial | (simp only [gdAll, AV.gd, avA, seval]; (repeat' apply And.intro) <;> first | trivial | rfl | exact hg) | simp_all [gdAll], gvF hP hG (snames_ok G a.Refs b.Refs (by omega))⟩) ?_
    try simp (maxSteps := 2000000) (disch := omega) only [avR2, avA, datsOf, fillA, seval, ↓List.forall_mem_cons, Op.operands, hA, tiA, hE]
    (repeat' refine And.intro ?_ ?_) <;> try exact SD
    refine CallGC.use rfl (fun hg => ⟨by first | trivial | (simp only [gdAll, AV.gd, avA, seval]; (repeat' apply And.intro) <;> first | trivial | rfl | exact hg) | simp_all [gdAll], gvF hP hG (eqposts_ok G a.Posts b.Posts (by omega) (fun p hp => (h.posts p hp).2.1))⟩) ?_
    try simp (maxSteps := 2000000) (disch := omega) only [avR2, avA, datsOf, fillA, seval, ↓List.forall_mem_cons, Op.operands, hA, tiA, hE]
    (repeat' refine And.intro ?_ ?_) <;> try exact SD
    refine CallGC.use rfl (fun hg => ⟨by first | trivial | (simp only [gdAll, AV.gd, avA, seval]; (repeat' apply And.intro) <;> first | trivial | rfl | exact hg) | simp_all [gdAll], gvF hP hG (sterm_ok G a.Term b.Term (by omega))⟩) ?_
    try simp (maxSteps := 2000000) (disch := omega) only [avR2, avA, datsOf, fillA, seval, ↓List.forall_mem_cons, Op.operands, hA, tiA, hE]
    (repeat' refine And.intro ?_ ?_) <;> try exact SD
    refine CallGC.use rfl (fun hg => ⟨by first | trivial | (simp only [gdAll, AV.gd, avA, seval]; (repeat' apply And.intro) <;> first | trivial | rfl | exact hg) | simp_all [gdAll], gvF hP hG (sop_ok G a.Op b.Op (szOp_of h.op))⟩) ?_
    try simp (maxSteps := 2000000) (disch := omega) only [avR2, avA, datsOf, fillA, seval, ↓List.forall_mem_cons, Op.operands, hA, tiA, hE]
    exact SC
  apply aw_ret
  simp only [QRet, QRetM, QRetX, retsX_nil, retsX_cons, objsAre, resA, mapO_nil, mapO_cons, vD_dat, vD_nils, vD_rp, vD_osl, vD_ptr, vD_agg, vD_fn, vD_isl, vL_dat, vL_app, viewL, avA, datsOf, fillA, seval, ↓List.forall_mem_cons, Op.operands, hP, hG, tiA, hE]
  all_goals try (first | done | rfl | trivial)
  all_goals (unfold sameEvM sameID; congr 3; rw [Bool.eq_iff_iff]; simp only [Bool.and_eq_true, decide_eq_true_eq, beq_iff_eq, evName]; constructor <;> (intro h; simp only [h, and_self]))
theorem fewb_okX (G) (b : List Int) (m : Nat) (hm : m ≤ 1000000) : GivesX Try.prog G 30 [.dat (u8sD b), .dat (iD m)] [] [.osl 13 1 0 (min b.length m)] [(13, ⟨1, ((b.take (min b.length m)).map u8D).map .dat⟩)] := by
  have hmin : (if (m : Int) < (b.length : Int) then (m : Int) else (b.length : Int)).toNat = min b.length m := by split <;> omega
  skip
  refine gives_introX' [] [] [] Try.func30 rfl (by rfl) (by simp [Try.ntmps30]) (by kernel_rfl) (by simp [onlyL_nil, onlyL_cons, AV.only, inIds]) (by simp only [onlyOs, onlyL_nil, onlyL_cons, onlyL_append, onlyL_dats, onlyL_row, AV.only, Bool.and_true] <;> simp [inIds]) fun F hP hG hN hR => ?_
  rw [Try.ntmps30] at hN
  have hA := And.intro hN (And.intro hP (And.intro hG (And.intro hR.1 (And.intro hR.2.1 hR.2.2.1))))
  have hE := And.intro @Try.results30 (And.intro @hmin (And.intro @Nat.min_self (@Nat.min_assoc)))
  refine WS [0, 1] [] ?_
  refine WS [0, 1, 5] [] ?_
  refine WS [4] [13] ?_
  apply aw_ret
  simp only [QRet, QRetM, QRetX, retsX_nil, retsX_cons, objsAre, resA, mapO_nil, mapO_cons, vD_dat, vD_nils, vD_rp, vD_osl, vD_ptr, vD_agg, vD_fn, vD_isl, vL_dat, vL_app, viewL, avA, datsOf, fillA, seval, ↓List.forall_mem_cons, Op.operands, hP, hG, tiA, hE]
  all_goals try (first | done | rfl | trivial)
  all_goals (refine .inl ?_; congr 1; omega)
theorem fewb_ok (G) (b : List Int) (m : Nat) (hm : m ≤ 1000000) : Gives Try.prog G 30 [u8sD b, iD m] [u8sD (b.take (min b.length m))] := (fewb_okX G b m hm).row (by simp)
end Go.Proofs.Ytabjaaonfaejmaa

namespace Go.Proofs.Ytabjaaonfaejmaa
open Go.Av
def isB (b : List Int) : Prop := ∀ x ∈ b, 0 ≤ x ∧ x ≤ 255
def giS (b : List Int) : Int := if b.getD 0 default < 128 then -1 else 0
def giK (b : List Int) : Int := flipM (giS b) (b.getD 0 default) - 128
def giM (b : List Int) : Nat → Int
  | 0 => 0
  | j + 1 => giM b j * 256 + flipM (giS b) (b.getD (j + 1) default)
def getIntM (b : List Int) : Int × Int × Int :=
  if b.length = 0 then (0, 0, 3)
  else if 8 < giK b then (0, 0, 2)
  else if (b.length : Int) ≤ giK b then (0, 0, 3)
  else if 0 < giK b ∧ flipM (giS b) (b.getD 1 default) = 0 then (0, 0, 2)
  else if 9223372036854775808 ≤ giM b (giK b).toNat then (0, 0, 2)
  else (if giS b < 0 then -1 - giM b (giK b).toNat else giM b (giK b).toNat, giK b + 1, 0)
theorem flip_rng {n b : Int} (h : 0 ≤ b ∧ b ≤ 255) : 0 ≤ flipM n b ∧ flipM n b ≤ 255 := by
  unfold flipM
  split <;> omega
theorem isB_get {b : List Int} (h : isB b) (i : Nat) : 0 ≤ b.getD i default ∧ b.getD i default ≤ 255 := by
  by_cases hi : i < b.length
  · exact getD_all h hi
  · rw [List.getD_eq_getElem?_getD, List.getElem?_eq_none (by omega)]
    exact ⟨Int.le_refl _, by decide⟩
theorem giM_rng {b : List Int} (h : isB b) : ∀ j : Nat, 0 ≤ giM b j ∧ giM b j < ((256 ^ j : Nat) : Int)
  | 0 => by simp [giM]
  | j + 1 => by
    have h1 := giM_rng h j
    have h2 := flip_rng (n := giS b) (isB_get h (j + 1))
    rw [giM, Nat.pow_succ]
    omega
theorem giM_7 {b : List Int} (h : isB b) {j : Nat} (hj : j ≤ 7) : giM b j < 72057594037927936 := by
  have h1 := (giM_rng h j).2
  have h2 := Nat.pow_le_pow_right (n := 256) (by omega) hj
  have h3 : (256 : Nat) ^ 7 = 72057594037927936 := by rfl
  omega
theorem giM_8 {b : List Int} (h : isB b) {j : Nat} (hj : j ≤ 8) : giM b j < 18446744073709551616 := by
  have h1 := (giM_rng h j).2
  have h2 := Nat.pow_le_pow_right (n := 256) (by omega) hj
  have h3 : (256 : Nat) ^ 8 = 18446744073709551616 := by rfl
  omega
theorem or_byte {m d : Int} (hm : 0 ≤ m ∧ m < 72057594037927936) (hd : 0 ≤ d ∧ d ≤ 255) : IntKind.u64.wrap ↑(BitVec.ofInt IntKind.u64.bits (IntKind.u64.wrap (m * 2 ^ min 8 IntKind.u64.bits)) ||| BitVec.ofInt IntKind.u64.bits d).toNat = m * 256 + d := by
  obtain ⟨a, rfl⟩ := Int.eq_ofNat_of_zero_le hm.1
  obtain ⟨c, rfl⟩ := Int.eq_ofNat_of_zero_le hd.1
  have e8 : (2 : Int) ^ min 8 IntKind.u64.bits = 256 := by decide
  have hb : IntKind.u64.bits = 64 := rfl
  have h0 : IntKind.u64.wrap ((a : Int) * 2 ^ min 8 IntKind.u64.bits) = (a : Int) * 256 := by rw [e8]; exact IntWalk.u64_in _ (by omega)
  have h1 : (BitVec.ofInt IntKind.u64.bits ((a : Int) * 256)).toNat = 2 ^ 8 * a := by
    rw [hb, BitVec.toNat_ofInt]; omega
  have h2 : (BitVec.ofInt IntKind.u64.bits (c : Int)).toNat = c := by
    rw [hb, BitVec.toNat_ofInt]; omega
  rw [h0, BitVec.toNat_or, h1, h2, ← Nat.two_pow_add_eq_or_of_lt (by omega : c < 2 ^ 8), IntWalk.u64_in _ (by omega)]
  omega
theorem shr_top {m : Int} (hm : 0 ≤ m ∧ m < 18446744073709551616) : 0 < m.fdiv (2 ^ min 63 IntKind.u64.bits) ↔ 9223372036854775808 ≤ m := by
  have e : (2 : Int) ^ min 63 IntKind.u64.bits = 9223372036854775808 := by decide
  rw [e]
  rw [Int.fdiv_eq_ediv_of_nonneg _ (by omega)]
  omega
theorem not_top {m : Int} (hm : 0 ≤ m ∧ m < 9223372036854775808) : IntKind.i64.wrap (IntKind.u64.wrap ↑(BitVec.ofInt IntKind.u64.bits (if IntKind.u64.signed = true then -1 else IntKind.u64.max) ^^^ BitVec.ofInt IntKind.u64.bits m).toNat) = -1 - m := by
  have e2 : BitVec.ofInt 64 18446744073709551615 = BitVec.allOnes 64 := by decide
  show IntKind.i64.wrap (IntKind.u64.wrap ((BitVec.ofInt 64 18446744073709551615 ^^^ BitVec.ofInt 64 m).toNat : Int)) = -1 - m
  rw [e2, BitVec.allOnes_xor, BitVec.toNat_not, BitVec.toNat_ofInt, IntWalk.u64_in _ (by omega), IntKind.wrap_i64]
  omega
theorem getInt_full {b : List Int} (h : b.length ≠ 0) (h1 : ¬ 8 < giK b) (h2 : ¬ (b.length : Int) ≤ giK b) (h3 : ¬ (0 < giK b ∧ flipM (giS b) (b.getD 1 default) = 0)) (h4 : ¬ 9223372036854775808 ≤ giM b (giK b).toNat) :
    getIntM b = (if giS b < 0 then -1 - giM b (giK b).toNat else giM b (giK b).toNat, giK b + 1, 0) := by
  unfold getIntM
  rw [if_neg h, if_neg h1, if_neg h2, if_neg h3, if_neg h4]
theorem mid_get {b : List Int} {k j : Nat} (hj : j < k) : (List.drop 1 (List.take (k + 1) b)).getD j default = b.getD (j + 1) default := by
  rw [List.getD_eq_getElem?_getD, List.getElem?_drop, List.getElem?_take, if_pos (by omega), ← List.getD_eq_getElem?_getD, Nat.add_comm]
theorem u8_take (l : List Int) (i : Nat) : List.take i (List.map u8D l) = List.map u8D (List.take i l) := List.map_take.symm
theorem u8_drop (l : List Int) (i : Nat) : List.drop i (List.map u8D l) = List.map u8D (List.drop i l) := List.map_drop.symm
end Go.Proofs.Ytabjaaonfaejmaa

namespace Go.Proofs.Ytabjaaonfaejmaa
open Go.Av
theorem giK_rng {b : List Int} (h : isB b) : 0 ≤ giK b ∧ giK b ≤ 127 := by
  have h0 := isB_get h 0
  unfold giK flipM giS
  split <;> split <;> omega
theorem getInt_rng {b : List Int} (h : isB b) : I64 (getIntM b).1 ∧ 0 ≤ (getIntM b).2.1 ∧ (getIntM b).2.1 ≤ b.length ∧ (getIntM b).2.1 ≤ 9 := by
  have hk := giK_rng h
  unfold getIntM
  split
  · exact ⟨by unfold I64; decide, by decide, by dsimp only; omega, by decide⟩
  split
  · exact ⟨by unfold I64; decide, by decide, by dsimp only; omega, by decide⟩
  split
  · exact ⟨by unfold I64; decide, by decide, by dsimp only; omega, by decide⟩
  split
  · exact ⟨by unfold I64; decide, by decide, by dsimp only; omega, by decide⟩
  split
  · exact ⟨by unfold I64; decide, by decide, by dsimp only; omega, by decide⟩
  · have h1 := (giM_rng h (giK b).toNat).1
    refine ⟨?_, by dsimp only; omega, by dsimp only; omega, by dsimp only; omega⟩
    unfold I64
    dsimp only
    split <;> omega
theorem isB_drop {b : List Int} (h : isB b) (i : Nat) : isB (b.drop i) := fun x hx => h x (List.mem_of_mem_drop hx)
theorem isB_take {b : List Int} (h : isB b) (i : Nat) : isB (b.take i) := fun x hx => h x (List.mem_of_mem_take hx)
def countM (b : List Int) (s : Int) : Int × Int × Int :=
  if (getIntM b).2.2 ≠ 0 then getIntM b
  else if (getIntM b).1 < 0 then ((getIntM b).1, (getIntM b).2.1, 2)
  else if ((b.length : Int) - (getIntM b).2.1).tdiv s < (getIntM b).1 then ((getIntM b).1, (getIntM b).2.1, 3)
  else getIntM b
theorem countM_ok {b : List Int} (hb : isB b) (h : (countM b 1).2.2 = 0) : countM b 1 = getIntM b ∧ (getIntM b).2.2 = 0 ∧ 0 ≤ (getIntM b).1 ∧ (getIntM b).1 + (getIntM b).2.1 ≤ b.length := by
  have hr := getInt_rng hb
  unfold countM at h ⊢
  split at h
  · rename_i hh; exact absurd h hh
  rename_i h0
  rw [if_neg h0]
  split at h
  · cases h
  rename_i h1
  rw [if_neg h1]
  split at h
  · cases h
  rename_i h2
  rw [if_neg h2]
  rw [Int.tdiv_one] at h2
  exact ⟨rfl, by omega, by omega, by omega⟩
def getBytesM (b : List Int) : ByteArray × Int × Int :=
  if (countM b 1).2.2 ≠ 0 then (⟨#[]⟩, 0, (countM b 1).2.2)
  else (bstr ((b.take ((countM b 1).2.1 + (countM b 1).1).toNat).drop (countM b 1).2.1.toNat), (countM b 1).2.1 + (countM b 1).1, 0)
def intsL (b : List Int) (a0 : Nat) : Nat → List Int × Nat × Int
  | 0 => ([], a0, 0)
  | i + 1 => if (intsL b a0 i).2.2 ≠ 0 then intsL b a0 i
    else if (getIntM (b.drop (intsL b a0 i).2.1)).2.2 ≠ 0 then ([], 0, (getIntM (b.drop (intsL b a0 i).2.1)).2.2)
    else ((intsL b a0 i).1 ++ [(getIntM (b.drop (intsL b a0 i).2.1)).1], (intsL b a0 i).2.1 + (getIntM (b.drop (intsL b a0 i).2.1)).2.1.toNat, 0)
def getIntsM (b : List Int) : List Int × Nat × Int :=
  if (countM b 1).2.2 ≠ 0 then ([], 0, (countM b 1).2.2) else intsL b (countM b 1).2.1.toNat (countM b 1).1.toNat
def strsL (b : List Int) (a0 : Nat) : Nat → List ByteArray × Nat × Int
  | 0 => ([], a0, 0)
  | i + 1 => if (strsL b a0 i).2.2 ≠ 0 then strsL b a0 i
    else if (getBytesM (b.drop (strsL b a0 i).2.1)).2.2 ≠ 0 then ([], 0, (getBytesM (b.drop (strsL b a0 i).2.1)).2.2)
    else ((strsL b a0 i).1 ++ [(getBytesM (b.drop (strsL b a0 i).2.1)).1], (strsL b a0 i).2.1 + (getBytesM (b.drop (strsL b a0 i).2.1)).2.1.toNat, 0)
def getStrsM (b : List Int) : List ByteArray × Nat × Int :=
  if (countM b 1).2.2 ≠ 0 then ([], 0, (countM b 1).2.2) else strsL b (countM b 1).2.1.toNat (countM b 1).1.toNat
theorem intsL_at {b : List Int} (hb : isB b) {a0 : Nat} (ha : a0 ≤ b.length) : ∀ i, (intsL b a0 i).2.1 ≤ b.length
  | 0 => ha
  | i + 1 => by
    have ih := intsL_at hb ha i
    have hr := getInt_rng (isB_drop hb (intsL b a0 i).2.1)
    rw [List.length_drop] at hr
    rw [intsL]
    split
    · exact ih
    split
    · exact Nat.zero_le _
    · dsimp only; omega
theorem intsL_len {b : List Int} {a0 : Nat} : ∀ i, (intsL b a0 i).2.2 = 0 → (intsL b a0 i).1.length = i
  | 0, _ => rfl
  | i + 1, h => by
    rw [intsL] at h ⊢
    split at h
    · rename_i h0; exact absurd h h0
    rename_i h0
    rw [if_neg h0]
    split at h
    · rename_i h1; exact absurd h h1
    rename_i h1
    rw [if_neg h1]
    simp [intsL_len (b := b) (a0 := a0) i (by omega)]
theorem getBytes_rng {b : List Int} (hb : isB b) : 0 ≤ (getBytesM b).2.1 ∧ (getBytesM b).2.1 ≤ b.length := by
  unfold getBytesM
  split
  · exact ⟨Int.le_refl _, by dsimp only; omega⟩
  · rename_i h
    obtain ⟨h1, h2, h3, h4⟩ := countM_ok hb (by omega)
    have := getInt_rng hb
    rw [h1]
    exact ⟨by dsimp only; omega, by dsimp only; omega⟩
theorem strsL_at {b : List Int} (hb : isB b) {a0 : Nat} (ha : a0 ≤ b.length) : ∀ i, (strsL b a0 i).2.1 ≤ b.length
  | 0 => ha
  | i + 1 => by
    have ih := strsL_at hb ha i
    have hr := getBytes_rng (isB_drop hb (strsL b a0 i).2.1)
    rw [List.length_drop] at hr
    rw [strsL]
    split
    · exact ih
    split
    · exact Nat.zero_le _
    · dsimp only; omega
theorem strsL_len {b : List Int} {a0 : Nat} : ∀ i, (strsL b a0 i).2.2 = 0 → (strsL b a0 i).1.length = i
  | 0, _ => rfl
  | i + 1, h => by
    rw [strsL] at h ⊢
    split at h
    · rename_i h0; exact absurd h h0
    rename_i h0
    rw [if_neg h0]
    split at h
    · rename_i h1; exact absurd h h1
    rename_i h1
    rw [if_neg h1]
    simp [strsL_len (b := b) (a0 := a0) i (by omega)]
theorem intsL_stop {b : List Int} {a0 i : Nat} (h : (intsL b a0 i).2.2 ≠ 0) : ∀ j, i ≤ j → intsL b a0 j = intsL b a0 i := fun j hj => by
  induction j with
  | zero => rw [show i = 0 by omega]
  | succ j ih =>
    by_cases hij : i = j + 1
    · rw [hij]
    · have := ih (by omega)
      rw [intsL, if_pos (by rw [this]; exact h), this]
theorem strsL_stop {b : List Int} {a0 i : Nat} (h : (strsL b a0 i).2.2 ≠ 0) : ∀ j, i ≤ j → strsL b a0 j = strsL b a0 i := fun j hj => by
  induction j with
  | zero => rw [show i = 0 by omega]
  | succ j ih =>
    by_cases hij : i = j + 1
    · rw [hij]
    · have := ih (by omega)
      rw [strsL, if_pos (by rw [this]; exact h), this]
end Go.Proofs.Ytabjaaonfaejmaa

namespace Go.Proofs.Ytabjaaonfaejmaa
open Go.Av
theorem flip_flip {n s b : Int} (h : s < 0 ↔ n < 0) : flipM s (flipM n b) = b := by
  unfold flipM
  by_cases hn : n < 0
  · rw [if_pos hn, if_pos (h.2 hn)]; omega
  · rw [if_neg hn, if_neg (fun hs => hn (h.1 hs))]
theorem intM_hd (n : Int) (r : List Int) : (intM n ++ r).getD 0 default = flipM n (128 + kM n) := rfl
theorem intM_at (n : Int) (r : List Int) {j : Nat} (hj : j < kM n) : (intM n ++ r).getD (j + 1) default = digM n (kM n - 1 - j) := by
  unfold intM intN
  simp [List.getD_eq_getElem?_getD, List.getElem?_append, hj]
theorem giS_int {n : Int} (hn : I64 n) (r : List Int) : giS (intM n ++ r) < 0 ↔ n < 0 := by
  have hk := kM_le hn
  unfold giS
  rw [intM_hd]
  unfold flipM
  by_cases h : n < 0
  · rw [if_pos h, if_pos (by omega)]; simp [h]
  · rw [if_neg h, if_neg (by omega)]; simp [h]
theorem giK_int {n : Int} (hn : I64 n) (r : List Int) : giK (intM n ++ r) = kM n := by
  unfold giK
  rw [intM_hd, flip_flip (giS_int hn r)]
  omega
theorem giM_int {n : Int} (hn : I64 n) (r : List Int) : ∀ j, j ≤ kM n → giM (intM n ++ r) j = (((negM n).toNat / 256 ^ (kM n - j) : Nat) : Int)
  | 0, _ => by
    have h : (negM n).toNat / 256 ^ kM n = 0 := by
      rcases Nat.eq_zero_or_pos ((negM n).toNat / 256 ^ kM n) with h | h
      · exact h
      · have := (digs_iff _ _).1 h
        unfold kM at this
        omega
    simp [giM, h]
  | j + 1, hj => by
    rw [giM, giM_int hn r j (by omega), intM_at n r (by omega)]
    unfold digM
    rw [flip_flip (giS_int hn r)]
    have e : kM n - j = (kM n - (j + 1)) + 1 := by omega
    have e2 : kM n - 1 - j = kM n - (j + 1) := by omega
    rw [e, e2, Nat.pow_succ, ← Nat.div_div_eq_div_mul]
    have := Nat.div_add_mod ((negM n).toNat / 256 ^ (kM n - (j + 1))) 256
    omega
theorem getInt_int {n : Int} (hn : I64 n) (r : List Int) : getIntM (intM n ++ r) = (n, ((kM n + 1 : Nat) : Int), 0) := by
  have hk := kM_le hn
  have hr := negM_range hn
  have hlen : (intM n ++ r).length = kM n + 1 + r.length := by rw [List.length_append, intM_len]
  have hM : giM (intM n ++ r) (giK (intM n ++ r)).toNat = negM n := by
    rw [giK_int hn r, Int.toNat_natCast, giM_int hn r _ (Nat.le_refl _), Nat.sub_self, Nat.pow_zero, Nat.div_one]
    omega
  rw [getInt_full (by omega) (by rw [giK_int hn r]; omega) (by rw [giK_int hn r]; omega) ?_ (by rw [hM]; omega), hM, giK_int hn r]
  · unfold negM
    by_cases h : n < 0
    · rw [if_pos ((giS_int hn r).2 h), if_pos h]
      congr 1
      omega
    · rw [if_neg (fun hs => h ((giS_int hn r).1 hs)), if_neg h]
      congr 1
  · rintro ⟨h1, h2⟩
    rw [giK_int hn r] at h1
    rw [intM_at n r (j := 0) (by omega)] at h2
    unfold digM at h2
    rw [flip_flip (giS_int hn r)] at h2
    have h3 : 0 < (negM n).toNat / 256 ^ (kM n - 1 - 0) := (digs_iff _ _).2 (by show _ < kM n; omega)
    have h4 : (negM n).toNat / 256 ^ (kM n - 1 - 0) < 256 := by
      rcases Nat.lt_or_ge ((negM n).toNat / 256 ^ (kM n - 1 - 0)) 256 with h | h
      · exact h
      · exfalso
        have h5 : 0 < (negM n).toNat / 256 ^ (kM n - 1 - 0) / 256 := by omega
        rw [Nat.div_div_eq_div_mul, ← Nat.pow_succ, digs_iff] at h5
        have : digs (negM n).toNat = kM n := rfl
        omega
    omega
theorem flat_split {α : Type} [Inhabited α] (f : α → List Int) (l : List α) {i : Nat} (h : i < l.length) : ∃ s, l.flatMap f = (preM l i).flatMap f ++ (f (l.getD i default) ++ s) := by
  refine ⟨(l.drop (i + 1)).flatMap f, ?_⟩
  have e : l = preM l i ++ (l.getD i default :: l.drop (i + 1)) := by
    have h1 := preM_succ l i h
    have h2 : preM l (i + 1) ++ l.drop (i + 1) = l := List.take_append_drop _ _
    rw [h1] at h2
    simpa using h2.symm
  have e2 : l.flatMap f = (preM l i ++ (l.getD i default :: l.drop (i + 1))).flatMap f := congrArg (List.flatMap f) e
  rw [e2]
  simp
theorem flat_ge {α : Type} (f : α → List Int) (hf : ∀ x, 1 ≤ (f x).length) : ∀ l : List α, l.length ≤ (l.flatMap f).length
  | [] => by simp
  | x :: l => by
    have := flat_ge f hf l
    have := hf x
    simp only [List.flatMap_cons, List.length_append, List.length_cons]
    omega
theorem drop_parts (A B C r : List Int) (s : List Int) : (A ++ (B ++ (C ++ s)) ++ r).drop (A.length + B.length) = C ++ (s ++ r) := by
  rw [show A ++ (B ++ (C ++ s)) ++ r = (A ++ B) ++ (C ++ (s ++ r)) by simp, show A.length + B.length = (A ++ B).length by simp, List.drop_left]
theorem intsM_eq' (l : List Int) : intsM l = intM l.length ++ l.flatMap intM := by unfold intsM intsN; rw [preM_all]
theorem strsM_eq' (l : List ByteArray) : strsM l = intM l.length ++ l.flatMap bytesM := by unfold strsM strsN; rw [preM_all]
theorem i64_len {n : Nat} (h : n ≤ 1000000000000) : I64 (n : Int) := by unfold I64; omega
theorem count_list {n : Nat} (hn : n ≤ 1000000000000) {s : List Int} (hs : n ≤ s.length) : countM (intM n ++ s) 1 = ((n : Int), ((kM n + 1 : Nat) : Int), 0) := by
  have h := getInt_int (i64_len hn) s
  have hlen : (intM (n : Int) ++ s).length = kM n + 1 + s.length := by rw [List.length_append, intM_len]
  unfold countM
  rw [h]
  simp only [ne_eq, not_true_eq_false, if_false]
  rw [if_neg (by omega), if_neg (by rw [Int.tdiv_one, hlen]; omega)]
theorem ints_rt {l : List Int} (hl : l.length ≤ 1000000000000) (hx : ∀ x ∈ l, I64 x) (r : List Int) : ∀ i, i ≤ l.length → intsL (intsM l ++ r) (kM l.length + 1) i = (preM l i, kM l.length + 1 + ((preM l i).flatMap intM).length, 0)
  | 0, _ => by simp [intsL, preM_zero]
  | i + 1, h => by
    have ih := ints_rt hl hx r i (by omega)
    obtain ⟨s, hs⟩ := flat_split intM l (i := i) (by omega)
    have hd : (intsM l ++ r).drop (kM l.length + 1 + ((preM l i).flatMap intM).length) = intM (l.getD i default) ++ (s ++ r) := by
      rw [intsM_eq', hs, show kM l.length + 1 = (intM (l.length : Int)).length from (intM_len _).symm]
      exact drop_parts _ _ _ _ _
    have hg := getInt_int (getD_all (p := I64) hx (i := i) (by omega)) (s ++ r)
    rw [intsL, ih]
    simp only [ne_eq, not_true_eq_false, if_false, hd, hg]
    rw [preM_succ l i (by omega)]
    simp only [List.flatMap_append, List.flatMap_cons, List.flatMap_nil, List.append_nil, List.length_append, intM_len, Int.toNat_natCast, Prod.mk.injEq, and_true, true_and]
    omega
theorem getInts_rt {l : List Int} (hl : l.length ≤ 1000000000000) (hx : ∀ x ∈ l, I64 x) (r : List Int) : getIntsM (intsM l ++ r) = (l, (intsM l).length, 0) := by
  have hc : countM (intsM l ++ r) 1 = ((l.length : Int), ((kM l.length + 1 : Nat) : Int), 0) := by
    rw [intsM_eq', List.append_assoc]
    refine count_list hl ?_
    have := flat_ge intM (fun x => by rw [intM_len]; omega) l
    rw [List.length_append]; omega
  unfold getIntsM
  rw [hc]
  simp only [ne_eq, not_true_eq_false, if_false, Int.toNat_natCast]
  rw [ints_rt hl hx r _ (Nat.le_refl _), preM_all, intsM_eq', List.length_append, intM_len]
theorem bstr_strB (s : ByteArray) : bstr (strB s) = s := by
  unfold bstr strB
  rw [List.map_map]
  have : ((fun n : Int => UInt8.ofNat n.toNat) ∘ fun c : UInt8 => (c.toNat : Int)) = id := by funext c; simp
  rw [this, List.map_id]
theorem getBytes_rt {s : ByteArray} (hs : s.size ≤ 1000000000000) (r : List Int) : getBytesM (bytesM s ++ r) = (s, ((bytesM s).length : Int), 0) := by
  have hc : countM (bytesM s ++ r) 1 = ((s.size : Int), ((kM s.size + 1 : Nat) : Int), 0) := by
    unfold bytesM
    rw [List.append_assoc]
    refine count_list hs ?_
    rw [List.length_append, strB_len]; omega
  unfold getBytesM
  rw [hc]
  simp only [ne_eq, not_true_eq_false, if_false]
  have e1 : (((kM s.size + 1 : Nat) : Int) + (s.size : Int)).toNat = (bytesM s).length := by
    unfold bytesM
    rw [List.length_append, intM_len, strB_len]; omega
  rw [e1, List.take_left, Int.toNat_natCast]
  have e2 : (bytesM s).drop (kM s.size + 1) = strB s := by
    unfold bytesM
    rw [show kM s.size + 1 = (intM (s.size : Int)).length from (intM_len _).symm, List.drop_left]
  rw [e2, bstr_strB]
  simp only [Prod.mk.injEq, and_true, true_and]
  omega
theorem bytesM_lenR (s : ByteArray) : (bytesM s).length = kM s.size + 1 + s.size := by unfold bytesM; rw [List.length_append, intM_len, strB_len]
theorem strs_rt {l : List ByteArray} (hx : ∀ s ∈ l, s.size ≤ 1000000000000) (r : List Int) : ∀ i, i ≤ l.length → strsL (strsM l ++ r) (kM l.length + 1) i = (preM l i, kM l.length + 1 + ((preM l i).flatMap bytesM).length, 0)
  | 0, _ => by simp [strsL, preM_zero]
  | i + 1, h => by
    have ih := strs_rt hx r i (by omega)
    obtain ⟨s, hs⟩ := flat_split bytesM l (i := i) (by omega)
    have hd : (strsM l ++ r).drop (kM l.length + 1 + ((preM l i).flatMap bytesM).length) = bytesM (l.getD i default) ++ (s ++ r) := by
      rw [strsM_eq', hs, show kM l.length + 1 = (intM (l.length : Int)).length from (intM_len _).symm]
      exact drop_parts _ _ _ _ _
    have hg := getBytes_rt (getD_all (p := fun s : ByteArray => s.size ≤ 1000000000000) hx (i := i) (by omega)) (s ++ r)
    rw [strsL, ih]
    simp only [ne_eq, not_true_eq_false, if_false, hd, hg]
    rw [preM_succ l i (by omega)]
    simp only [List.flatMap_append, List.flatMap_cons, List.flatMap_nil, List.append_nil, List.length_append, Int.toNat_natCast, Prod.mk.injEq, and_true, true_and]
    omega
theorem getStrs_rt {l : List ByteArray} (hl : l.length ≤ 1000000000000) (hx : ∀ s ∈ l, s.size ≤ 1000000000000) (r : List Int) : getStrsM (strsM l ++ r) = (l, (strsM l).length, 0) := by
  have hc : countM (strsM l ++ r) 1 = ((l.length : Int), ((kM l.length + 1 : Nat) : Int), 0) := by
    rw [strsM_eq', List.append_assoc]
    refine count_list hl ?_
    have := flat_ge bytesM (fun x => by rw [bytesM_lenR]; omega) l
    rw [List.length_append]; omega
  unfold getStrsM
  rw [hc]
  simp only [ne_eq, not_true_eq_false, if_false, Int.toNat_natCast]
  rw [strs_rt hx r _ (Nat.le_refl _), preM_all, strsM_eq', List.length_append, intM_len]
end Go.Proofs.Ytabjaaonfaejmaa

namespace Go.Proofs.Ytabjaaonfaejmaa
open Go.Av
set_option maxRecDepth 100000 in
set_option maxHeartbeats 2000000 in
theorem getInt_ok (G) (b : List Int) (hib : isB b) (hl : b.length ≤ 281474976710656) : Gives Try.prog G 113 [u8sD b] [iD (getIntM b).1, iD (getIntM b).2.1, iD (getIntM b).2.2] := by
  have h0 := isB_get hib 0
  have hf0 := flip_rng (n := giS b) h0
  have hx0 := xor_flip (giS b) (b.getD 0 default) h0
  have h1 := isB_get hib 1
  have hx1 := xor_flip (giS b) (b.getD 1 default) h1
  have hgk : giK b = flipM (giS b) (b.getD 0 default) - 128 := rfl
  have hgr : -128 ≤ giK b ∧ giK b ≤ 127 := by omega
  skip
  refine gives_intro [] [] [] Try.func113 rfl (by rfl) (by simp [Try.ntmps113]) fun F hP hG hN hR => ?_
  rw [Try.ntmps113] at hN
  have hA := And.intro hN (And.intro hP (And.intro hG (And.intro hR.1 (And.intro hR.2.1 hR.2.2.1))))
  have hE := And.intro @Try.results113 (And.intro @hx0 (And.intro @hx1 (And.intro @u8_take (And.intro @u8_drop (@IntWalk.u64_in)))))
  refine WS [0] [] ?_
  apply aw_seq
  refine WS [0, 12] [] ?_
  refine WI (fun hb => ?_) (fun hb => ?_)
  · skip
    have hv : getIntM b = (0, 0, 3) := by unfold getIntM; rw [if_pos (by omega)]
    have hE := And.intro hE hv
    refine WS [2, 3, 4] [] ?_
    apply aw_ret
    apply q_ret_seq
    simp only [QRet, QRetM, QRetX, retsX_nil, retsX_cons, objsAre, resA, mapO_nil, mapO_cons, vD_dat, vD_nils, vD_rp, vD_osl, vD_ptr, vD_agg, vD_fn, vD_isl, vL_dat, vL_app, viewL, avA, datsOf, fillA, seval, ↓List.forall_mem_cons, Op.operands, hP, hG, tiA, hE]
    all_goals try (first | done | rfl | trivial)
  · skip
    have hl0 : 0 < b.length := by omega
    apply aw_skip
    apply q_seq
    refine WS [0, 5] [] ?_
    refine aw_meet (.of [(0, .dat (u8sD b)), (5, .dat (u8D (flipM (giS b) 0)))] []) ?_ ?_
    · skip
      refine WS [0, 5, 16] [] ?_
      refine WI (fun hb => ?_) (fun hb => ?_)
      · skip
        have hs : flipM (giS b) 0 = 255 := by unfold flipM giS; rw [if_pos hb]; rfl
        have hE := And.intro hE hs
        refine WQ [0, 5] [] ?_
        refine Le.of ?_ ?_
        · try simp (disch := omega) only [LeE, LeO, avA, datsOf, fillA, seval, ↓List.forall_mem_cons, Op.operands, hE]
          all_goals first | done | (repeat' apply And.intro) <;> first | rfl | omega | assumption | (simp only [AV.dat.injEq, Dat.int.injEq, true_and]; omega) | (congr <;> omega)
        · try simp (disch := omega) only [LeE, LeO, avA, datsOf, fillA, seval, ↓List.forall_mem_cons, Op.operands, hE]
          all_goals first | done | (repeat' apply And.intro) <;> first | rfl | omega | assumption | (simp only [AV.dat.injEq, Dat.int.injEq, true_and]; omega) | (congr <;> omega)
      · skip
        have hs : flipM (giS b) 0 = 0 := by unfold flipM giS; rw [if_neg (by omega)]
        have hE := And.intro hE hs
        apply aw_skip
        refine Le.of ?_ ?_
        · try simp (disch := omega) only [LeE, LeO, avA, datsOf, fillA, seval, ↓List.forall_mem_cons, Op.operands, hE]
          all_goals first | done | (repeat' apply And.intro) <;> first | rfl | omega | assumption | (simp only [AV.dat.injEq, Dat.int.injEq, true_and]; omega) | (congr <;> omega)
        · try simp (disch := omega) only [LeE, LeO, avA, datsOf, fillA, seval, ↓List.forall_mem_cons, Op.operands, hE]
          all_goals first | done | (repeat' apply And.intro) <;> first | rfl | omega | assumption | (simp only [AV.dat.injEq, Dat.int.injEq, true_and]; omega) | (congr <;> omega)
    have hg0 : 0 ≤ giK b := by unfold giK flipM giS; split <;> split <;> omega
    obtain ⟨k, hk⟩ : ∃ k : Nat, giK b = (k : Int) := ⟨(giK b).toNat, by omega⟩
    have hE := And.intro hE (And.intro hgk.symm hk)
    refine WS [0, 5, 6] [] ?_
    apply aw_seq
    apply aw_block
    refine WS [0, 5, 6, 24] [] ?_
    refine WI (fun hb => ?_) (fun hb => ?_)
    · skip
      have hv : getIntM b = (0, 0, 2) := by unfold getIntM; rw [if_neg (by omega), if_pos (by omega)]
      have hE := And.intro hE hv
      refine WS [2, 3, 4] [] ?_
      apply aw_ret
      apply q_ret_block
      apply q_ret_seq
      simp only [QRet, QRetM, QRetX, retsX_nil, retsX_cons, objsAre, resA, mapO_nil, mapO_cons, vD_dat, vD_nils, vD_rp, vD_osl, vD_ptr, vD_agg, vD_fn, vD_isl, vL_dat, vL_app, viewL, avA, datsOf, fillA, seval, ↓List.forall_mem_cons, Op.operands, hP, hG, tiA, hE]
      all_goals try (first | done | rfl | trivial)
    · skip
      have hk8 : k ≤ 8 := by omega
      refine WS [0, 5, 6, 27] [] ?_
      refine WI (fun hb => ?_) (fun hb => ?_)
      · skip
        have hv : getIntM b = (0, 0, 3) := by unfold getIntM; rw [if_neg (by omega), if_neg (by omega), if_pos (by omega)]
        have hE := And.intro hE hv
        refine WS [2, 3, 4] [] ?_
        apply aw_ret
        apply q_ret_block
        apply q_ret_seq
        simp only [QRet, QRetM, QRetX, retsX_nil, retsX_cons, objsAre, resA, mapO_nil, mapO_cons, vD_dat, vD_nils, vD_rp, vD_osl, vD_ptr, vD_agg, vD_fn, vD_isl, vL_dat, vL_app, viewL, avA, datsOf, fillA, seval, ↓List.forall_mem_cons, Op.operands, hP, hG, tiA, hE]
        all_goals try (first | done | rfl | trivial)
      · skip
        have hkl : k < b.length := by omega
        refine aw_mid (.of [(0, .dat (u8sD b)), (5, .dat (u8D (flipM (giS b) 0))), (6, .dat (iD k)), (32, .dat (bD (decide ((0 : Int) < k) && (flipM (giS b) (b.getD 1 default) == 0))))] []) ?_ ?_
        · by_cases hk0 : 0 < k
          · apply aw_reg [0, 5, 6, 32] []
            · simp (maxSteps := 2000000) (disch := omega) only [avR2, avA, datsOf, fillA, seval, ↓List.forall_mem_cons, Op.operands, hA, tiA, hE]
              exact SC
            exact ⟨rfl, rfl⟩
          · have hdec : decide ((0 : Int) < (k : Int)) = false := decide_eq_false (by omega)
            have hE := And.intro hE hdec
            refine aw_list ?_
            apply al_seg
            · (iterate 3 apply Seg.cons); exact Seg.nil _
            · simp (maxSteps := 2000000) (disch := omega) only [avR2, avA, datsOf, fillA, seval, ↓List.forall_mem_cons, Op.operands, hA, tiA, hE, KeptS]
              exact SC
            refine al_off (.dat (iD 0)) rfl rfl (by rw [hN]; omega) rfl ?_
            rw [of_put]
            refine al_off (.dat (iD 0)) rfl rfl (by rw [hN]; omega) rfl ?_
            rw [of_put]
            refine al_off (.dat (iD 0)) rfl rfl (by rw [hN]; omega) rfl ?_
            rw [of_put]
            refine al_off (.dat (iD 0)) rfl rfl (by rw [hN]; omega) rfl ?_
            rw [of_put]
            refine al_off (.dat (iD 0)) rfl rfl (by rw [hN]; omega) rfl ?_
            rw [of_put]
            refine al_off (.dat (bD false)) rfl rfl (by rw [hN]; omega) rfl ?_
            rw [of_put]
            apply al_last [0, 5, 6, 32] []
            · simp (maxSteps := 2000000) (disch := omega) only [avR2, avA, datsOf, fillA, seval, ↓List.forall_mem_cons, Op.operands, hA, tiA, hE]
              exact SC
            exact ⟨rfl, by rw [hdec]; rfl⟩
        refine WI (fun hb => ?_) (fun hb => ?_)
        · skip
          have hv : getIntM b = (0, 0, 2) := by unfold getIntM; rw [if_neg (by omega), if_neg (by omega), if_neg (by omega), if_pos (by rw [hk]; grind)]
          have hE := And.intro hE hv
          refine WS [2, 3, 4] [] ?_
          apply aw_ret
          apply q_ret_block
          apply q_ret_seq
          simp only [QRet, QRetM, QRetX, retsX_nil, retsX_cons, objsAre, resA, mapO_nil, mapO_cons, vD_dat, vD_nils, vD_rp, vD_osl, vD_ptr, vD_agg, vD_fn, vD_isl, vL_dat, vL_app, viewL, avA, datsOf, fillA, seval, ↓List.forall_mem_cons, Op.operands, hP, hG, tiA, hE]
          all_goals try (first | done | rfl | trivial)
        · skip
          have h3 : ¬ (0 < giK b ∧ flipM (giS b) (b.getD 1 default) = 0) := by rw [hk]; grind
          have hml : (List.drop 1 (List.take (k + 1) b)).length = k := by rw [List.length_drop, List.length_take]; omega
          have hmn : min (k + 1) b.length - 1 = k := by omega
          have hk1 : ((k : Int) + 1).toNat = k + 1 := by omega
          have hE := And.intro hE (And.intro hml (And.intro hk1 hmn))
          apply aw_skip
          apply q_block
          apply q_seq
          refine WS [0, 5, 6, 7] [] ?_
          apply aw_seq
          refine WS [5, 6, 7, 46, 47, 48] [] ?_
          apply aw_block
          refine WL (ι := {j : Nat // j ≤ k}) [5, 6, 46, 47] [] (fun ⟨j, hj⟩ => [(48, .dat (iD j)), (7, .dat (.int .u64 (giM b j)))]) (fun ⟨j, hj⟩ => []) (fun ⟨j, hj⟩ => k - j) (⟨0, by omega⟩) ?_
          rintro ⟨j, hj⟩
          dsimp only [List.cons_append, List.nil_append]
          have hr8 := giM_8 hib (j := j) (by omega)
          have hr0 := (giM_rng hib j).1
          refine WS [5, 6, 7, 46, 47, 48, 49] [] ?_
          apply aw_seq
          refine WI (fun hb => ?_) (fun hb => ?_)
          · skip
            have hmg := mid_get (b := b) (k := k) (j := j) (by omega)
            have hbj := isB_get hib (j + 1)
            have hxj := xor_flip (giS b) (b.getD (j + 1) default) hbj
            have hfj := flip_rng (n := giS b) hbj
            have hr7 := giM_7 hib (j := j) (by omega)
            have hor := or_byte (m := giM b j) (d := flipM (giS b) (b.getD (j + 1) default)) ⟨hr0, hr7⟩ hfj
            have hgs : giM b (j + 1) = giM b j * 256 + flipM (giS b) (b.getD (j + 1) default) := rfl
            have hE := And.intro hE (And.intro hmg (And.intro hxj (And.intro hor hgs)))
            apply aw_skip
            apply q_seq
            apply aw_seq
            apply aw_block
            refine WS [5, 6, 7, 9, 46, 47, 48] [] ?_
            refine WQ [5, 6, 7, 46, 47, 48] [] ?_
            apply q_block
            apply q_seq
            refine WQ [5, 6, 7, 46, 47, 48] [] ?_
            refine WN (⟨j + 1, by omega⟩)
          · skip
            apply aw_exit
            apply q_exit_seq
            have hend : j = k := by omega
            subst hend
            apply q_exit_loop
            apply q_exit
            apply q_seq
            apply aw_seq
            refine WS [5, 6, 7, 62] [] ?_
            refine WI (fun hb => ?_) (fun hb => ?_)
            · skip
              have hv : getIntM b = (0, 0, 2) := by
                have := (shr_top ⟨hr0, hr8⟩).1 (by simpa using hb)
                unfold getIntM; rw [if_neg (by omega), if_neg (by omega), if_neg (by omega), if_neg h3, if_pos (by rw [hk]; simpa using this)]
              have hE := And.intro hE hv
              refine WS [2, 3, 4] [] ?_
              apply aw_ret
              apply q_ret_seq
              simp only [QRet, QRetM, QRetX, retsX_nil, retsX_cons, objsAre, resA, mapO_nil, mapO_cons, vD_dat, vD_nils, vD_rp, vD_osl, vD_ptr, vD_agg, vD_fn, vD_isl, vL_dat, vL_app, viewL, avA, datsOf, fillA, seval, ↓List.forall_mem_cons, Op.operands, hP, hG, tiA, hE]
              all_goals try (first | done | rfl | trivial)
            · skip
              have h4 : giM b j < 9223372036854775808 := by
                have := mt (shr_top ⟨hr0, hr8⟩).2 (by simpa using hb)
                omega
              have hv := getInt_full (b := b) (by omega) (by omega) (by omega) h3 (by rw [hk]; simpa using h4)
              rw [hk, Int.toNat_natCast] at hv
              apply aw_skip
              apply q_seq
              apply aw_seq
              refine WS [6, 7, 64] [] ?_
              refine WI (fun hb => ?_) (fun hb => ?_)
              · skip
                have hs : giS b < 0 := by unfold flipM at hb; split at hb <;> omega
                rw [if_pos hs] at hv
                have hnt := not_top ⟨hr0, h4⟩
                have hE := And.intro hE (And.intro hv hnt)
                refine WQ [6, 7] [] ?_
                apply q_seq
                refine WS [2, 3, 4] [] ?_
                apply aw_ret
                simp only [QRet, QRetM, QRetX, retsX_nil, retsX_cons, objsAre, resA, mapO_nil, mapO_cons, vD_dat, vD_nils, vD_rp, vD_osl, vD_ptr, vD_agg, vD_fn, vD_isl, vL_dat, vL_app, viewL, avA, datsOf, fillA, seval, ↓List.forall_mem_cons, Op.operands, hP, hG, tiA, hE]
                all_goals try (first | done | rfl | trivial)
              · skip
                have hs : ¬ giS b < 0 := by unfold flipM at hb; split at hb <;> omega
                rw [if_neg hs] at hv
                have hE := And.intro hE hv
                apply aw_skip
                apply q_seq
                refine WS [2, 3, 4] [] ?_
                apply aw_ret
                simp only [QRet, QRetM, QRetX, retsX_nil, retsX_cons, objsAre, resA, mapO_nil, mapO_cons, vD_dat, vD_nils, vD_rp, vD_osl, vD_ptr, vD_agg, vD_fn, vD_isl, vL_dat, vL_app, viewL, avA, datsOf, fillA, seval, ↓List.forall_mem_cons, Op.operands, hP, hG, tiA, hE]
                all_goals try (first | done | rfl | trivial)
end Go.Proofs.Ytabjaaonfaejmaa

namespace Go.Proofs.Ytabjaaonfaejmaa
open Go.Av
set_option maxRecDepth 100000 in
theorem count_ok (G) (b : List Int) (s : Int) (hib : isB b) (hl : b.length ≤ 281474976710656) (hs : 1 ≤ s ∧ s ≤ 1000) : Gives Try.prog G 119 [u8sD b, iD s] [iD (countM b s).1, iD (countM b s).2.1, iD (countM b s).2.2] := by
  have hr := getInt_rng hib
  have hi1 := hr.1
  unfold I64 at hi1
  have hq0 : -281474976710656 ≤ ((b.length : Int) - (getIntM b).2.1).tdiv s ∧ ((b.length : Int) - (getIntM b).2.1).tdiv s ≤ 281474976710656 := by
    rw [Int.tdiv_eq_ediv_of_nonneg (by omega)]
    have h1 := Int.ediv_nonneg (by omega : 0 ≤ (b.length : Int) - (getIntM b).2.1) (by omega : 0 ≤ s)
    have h2 := Int.ediv_le_self s (by omega : 0 ≤ (b.length : Int) - (getIntM b).2.1)
    omega
  refine gives_intro [] [] [] Try.func119 rfl (by rfl) (by simp [Try.ntmps119]) fun F hP hG hN hR => ?_
  rw [Try.ntmps119] at hN
  have hA := And.intro hN (And.intro hP (And.intro hG (And.intro hR.1 (And.intro hR.2.1 hR.2.2.1))))
  have hE := @Try.results119
  refine WS [0, 1] [] ?_
  have hc := gvF hP hG (getInt_ok G b hib hl)
  refine WSc [0, 1, 4, 5, 6] [] ?_
  apply aw_seq
  apply aw_block
  refine WS [0, 1, 4, 5, 6, 13] [] ?_
  refine WI (fun hb => ?_) (fun hb => ?_)
  · skip
    have hv : countM b s = getIntM b := by unfold countM; rw [if_pos hb]
    have hE := And.intro hE hv
    apply aw_skip
    apply q_block
    apply q_seq
    refine WS [4, 5, 6] [] ?_
    apply aw_ret
    simp only [QRet, QRetM, QRetX, retsX_nil, retsX_cons, objsAre, resA, mapO_nil, mapO_cons, vD_dat, vD_nils, vD_rp, vD_osl, vD_ptr, vD_agg, vD_fn, vD_isl, vL_dat, vL_app, viewL, avA, datsOf, fillA, seval, ↓List.forall_mem_cons, Op.operands, hP, hG, tiA, hE]
    all_goals try (first | done | rfl | trivial)
  · skip
    refine WS [0, 1, 4, 5, 6, 16] [] ?_
    refine WI (fun hb => ?_) (fun hb => ?_)
    · skip
      have hv : countM b s = ((getIntM b).1, (getIntM b).2.1, 2) := by unfold countM; rw [if_neg (by omega), if_pos (by omega)]
      have hE := And.intro hE hv
      refine WQ [4, 5, 6] [] ?_
      apply q_block
      apply q_seq
      refine WS [4, 5, 6] [] ?_
      apply aw_ret
      simp only [QRet, QRetM, QRetX, retsX_nil, retsX_cons, objsAre, resA, mapO_nil, mapO_cons, vD_dat, vD_nils, vD_rp, vD_osl, vD_ptr, vD_agg, vD_fn, vD_isl, vL_dat, vL_app, viewL, avA, datsOf, fillA, seval, ↓List.forall_mem_cons, Op.operands, hP, hG, tiA, hE]
      all_goals try (first | done | rfl | trivial)
    · skip
      refine WS [4, 5, 6, 19] [] ?_
      refine WI (fun hb => ?_) (fun hb => ?_)
      · skip
        have hv : countM b s = ((getIntM b).1, (getIntM b).2.1, 3) := by unfold countM; rw [if_neg (by omega), if_neg (by omega), if_pos (by omega)]
        have hE := And.intro hE hv
        refine WQ [4, 5, 6] [] ?_
        apply q_block
        apply q_seq
        refine WS [4, 5, 6] [] ?_
        apply aw_ret
        simp only [QRet, QRetM, QRetX, retsX_nil, retsX_cons, objsAre, resA, mapO_nil, mapO_cons, vD_dat, vD_nils, vD_rp, vD_osl, vD_ptr, vD_agg, vD_fn, vD_isl, vL_dat, vL_app, viewL, avA, datsOf, fillA, seval, ↓List.forall_mem_cons, Op.operands, hP, hG, tiA, hE]
        all_goals try (first | done | rfl | trivial)
      · skip
        have hv : countM b s = getIntM b := by unfold countM; rw [if_neg (by omega), if_neg (by omega), if_neg (by omega)]
        have hE := And.intro hE hv
        apply aw_skip
        apply q_block
        apply q_seq
        refine WS [4, 5, 6] [] ?_
        apply aw_ret
        simp only [QRet, QRetM, QRetX, retsX_nil, retsX_cons, objsAre, resA, mapO_nil, mapO_cons, vD_dat, vD_nils, vD_rp, vD_osl, vD_ptr, vD_agg, vD_fn, vD_isl, vL_dat, vL_app, viewL, avA, datsOf, fillA, seval, ↓List.forall_mem_cons, Op.operands, hP, hG, tiA, hE]
        all_goals try (first | done | rfl | trivial)
set_option maxRecDepth 100000 in
theorem getBytes_ok (G) (b : List Int) (hib : isB b) (hl : b.length ≤ 281474976710656) : Gives Try.prog G 110 [u8sD b] [sD (getBytesM b).1, iD (getBytesM b).2.1, iD (getBytesM b).2.2] := by
  have hr := getInt_rng hib
  refine gives_intro [] [] [] Try.func110 rfl (by rfl) (by simp [Try.ntmps110]) fun F hP hG hN hR => ?_
  rw [Try.ntmps110] at hN
  have hA := And.intro hN (And.intro hP (And.intro hG (And.intro hR.1 (And.intro hR.2.1 hR.2.2.1))))
  have hE := @Try.results110
  refine WS [0] [] ?_
  have hc := gvF hP hG (count_ok G b 1 hib hl (by omega))
  refine WSc [0, 5, 6, 7] [] ?_
  apply aw_seq
  refine WS [0, 5, 6, 7, 15] [] ?_
  refine WI (fun hb => ?_) (fun hb => ?_)
  · skip
    have hv : getBytesM b = (⟨#[]⟩, 0, (countM b 1).2.2) := by unfold getBytesM; rw [if_pos hb]
    have hE := And.intro hE hv
    refine WS [2, 3, 4] [] ?_
    apply aw_ret
    apply q_ret_seq
    simp only [QRet, QRetM, QRetX, retsX_nil, retsX_cons, objsAre, resA, mapO_nil, mapO_cons, vD_dat, vD_nils, vD_rp, vD_osl, vD_ptr, vD_agg, vD_fn, vD_isl, vL_dat, vL_app, viewL, avA, datsOf, fillA, seval, ↓List.forall_mem_cons, Op.operands, hP, hG, tiA, hE]
    all_goals try (first | done | rfl | trivial)
  · skip
    obtain ⟨hc1, hc2, hc3, hc4⟩ := countM_ok hib (by omega)
    have hv : getBytesM b = (bstr ((b.take ((getIntM b).2.1 + (getIntM b).1).toNat).drop (getIntM b).2.1.toNat), (getIntM b).2.1 + (getIntM b).1, 0) := by unfold getBytesM; rw [if_neg (by omega), hc1]
    have hE := And.intro hE (And.intro hc1 hv)
    apply aw_skip
    apply q_seq
    refine WS [2, 3, 4] [] ?_
    apply aw_ret
    simp only [QRet, QRetM, QRetX, retsX_nil, retsX_cons, objsAre, resA, mapO_nil, mapO_cons, vD_dat, vD_nils, vD_rp, vD_osl, vD_ptr, vD_agg, vD_fn, vD_isl, vL_dat, vL_app, viewL, avA, datsOf, fillA, seval, ↓List.forall_mem_cons, Op.operands, hP, hG, tiA, hE]
    all_goals try (first | done | rfl | trivial)
theorem reader_okX (G) (b : List Int) (a : Nat) : GivesX Try.prog G 120 [.dat (u8sD b), .dat (iD a)] [] [.fn 127 [.rp (u8sD b) 0, .ptr 3 1 0 0]] [(3, ⟨1, [.dat (iD a)]⟩)] := by
  refine gives_introX' [] [] [] Try.func120 rfl (by rfl) (by simp [Try.ntmps120]) (by kernel_rfl) (by simp [onlyL_nil, onlyL_cons, AV.only, inIds]) (by simp only [onlyOs, onlyL_nil, onlyL_cons, onlyL_append, onlyL_dats, onlyL_row, AV.only, Bool.and_true] <;> simp [inIds]) fun F hP hG hN hR => ?_
  rw [Try.ntmps120] at hN
  have hA := And.intro hN (And.intro hP (And.intro hG (And.intro hR.1 (And.intro hR.2.1 hR.2.2.1))))
  have hE := @Try.results120
  refine WS [2, 3] [2, 3] ?_
  refine aw_frzX 2 hR.2.2.2 rfl rfl rfl ?_
  refine WS [4] [2, 3] ?_
  apply aw_ret
  simp only [QRet, QRetM, QRetX, retsX_nil, retsX_cons, objsAre, resA, mapO_nil, mapO_cons, vD_dat, vD_nils, vD_rp, vD_osl, vD_ptr, vD_agg, vD_fn, vD_isl, vL_dat, vL_app, viewL, avA, datsOf, fillA, seval, ↓List.forall_mem_cons, Op.operands, hP, hG, tiA, hE]
  all_goals try (first | done | rfl | trivial)
set_option maxRecDepth 100000 in
theorem next_okX (G) (b : List Int) (a : Nat) (hib : isB b) (hl : b.length ≤ 281474976710656) (ha : a ≤ b.length) : GivesX Try.prog G 127 [.rp (u8sD b) 0, .ptr 1000 1 0 0] [(1000, ⟨1, [.dat (iD a)]⟩)] [.dat (iD (getIntM (b.drop a)).1), .dat (iD ((a : Int) + (getIntM (b.drop a)).2.1)), .dat (iD (getIntM (b.drop a)).2.2)] [(1000, ⟨1, [.dat (iD ((a : Int) + (getIntM (b.drop a)).2.1))]⟩)] := by
  have hr := getInt_rng (isB_drop hib a)
  have hdl : (b.drop a).length = b.length - a := List.length_drop
  skip
  refine gives_introX' [] [] [] Try.func127 rfl (by rfl) (by simp [Try.ntmps127]) (by kernel_rfl) (by simp [onlyL_nil, onlyL_cons, AV.only, inIds]) (by simp only [onlyOs, onlyL_nil, onlyL_cons, onlyL_append, onlyL_dats, onlyL_row, AV.only, Bool.and_true] <;> simp [inIds]) fun F hP hG hN hR => ?_
  rw [Try.ntmps127] at hN
  have hA := And.intro hN (And.intro hP (And.intro hG (And.intro hR.1 (And.intro hR.2.1 hR.2.2.1))))
  have hE := @Try.results127
  refine WS [0, 1] [1000] ?_
  have hc := gvF hP hG (getInt_ok G (b.drop a) (isB_drop hib a) (by omega))
  refine WSc [1, 5, 6, 7] [1000] ?_
  refine WS [1, 5, 7] [1000] ?_
  refine WD [2, 3, 4] [1000] [0, 1, 2, 3, 4, 5] [] ?_
  apply aw_ret
  simp only [QRet, QRetM, QRetX, retsX_nil, retsX_cons, objsAre, resA, mapO_nil, mapO_cons, vD_dat, vD_nils, vD_rp, vD_osl, vD_ptr, vD_agg, vD_fn, vD_isl, vL_dat, vL_app, viewL, avA, datsOf, fillA, seval, ↓List.forall_mem_cons, Op.operands, hP, hG, tiA, hE]
  all_goals try (first | done | rfl | trivial)
end Go.Proofs.Ytabjaaonfaejmaa

namespace Go.Proofs.Ytabjaaonfaejmaa
open Go.Av
set_option maxRecDepth 100000 in
set_option maxHeartbeats 2000000 in
theorem getInts_ok (G) (b : List Int) (hib : isB b) (hl : b.length ≤ 1099511627776) : Gives Try.prog G 108 [u8sD b] [isD (getIntsM b).1, iD (getIntsM b).2.1, iD (getIntsM b).2.2] := by
  have hr := getInt_rng hib
  skip
  refine gives_intro [] [24, 30] [] Try.func108 rfl (by rfl) (by simp [Try.ntmps108]) fun F hP hG hN hR => ?_
  rw [Try.ntmps108] at hN
  have hA := And.intro hN (And.intro hP (And.intro hG (And.intro hR.1 (And.intro hR.2.1 hR.2.2.1))))
  have hE := @Try.results108
  refine WS [0] [24, 40] ?_
  have hc := gvF hP hG (count_ok G b 1 hib (by omega) (by omega))
  refine WSc [0, 5, 6, 7] [24, 40] ?_
  apply aw_seq
  refine WS [0, 5, 6, 7, 20] [24, 40] ?_
  refine WI (fun hb => ?_) (fun hb => ?_)
  · skip
    have hv : getIntsM b = ([], 0, (countM b 1).2.2) := by unfold getIntsM; rw [if_pos hb]
    have hE := And.intro hE hv
    refine WS [2, 3, 4] [39, 40, 24] ?_
    apply aw_ret
    apply q_ret_seq
    simp only [QRet, QRetM, QRetX, retsX_nil, retsX_cons, objsAre, resA, mapO_nil, mapO_cons, vD_dat, vD_nils, vD_rp, vD_osl, vD_ptr, vD_agg, vD_fn, vD_isl, vL_dat, vL_app, viewL, avA, datsOf, fillA, seval, ↓List.forall_mem_cons, Op.operands, hP, hG, tiA, hE]
    all_goals try (first | done | rfl | trivial)
  · skip
    obtain ⟨hc1, hc2, hc3, hc4⟩ := countM_ok hib (by omega)
    obtain ⟨n, hn⟩ : ∃ n : Nat, (getIntM b).1 = (n : Int) := ⟨(getIntM b).1.toNat, by omega⟩
    obtain ⟨a0, ha0⟩ : ∃ n : Nat, (getIntM b).2.1 = (n : Int) := ⟨(getIntM b).2.1.toNat, by omega⟩
    have hv : getIntsM b = intsL b a0 n := by unfold getIntsM; rw [if_neg (by omega), hc1, hn, ha0]; rfl
    have haL : a0 ≤ b.length := by omega
    have hnL : n ≤ b.length := by omega
    have hE := And.intro hE (And.intro hc1 (And.intro hn ha0))
    apply aw_skip
    apply q_seq
    apply aw_regs [5, 6, 8] [24, 40]
    · simp (maxSteps := 2000000) (disch := omega) only [avR2, avA, datsOf, fillA, seval, ↓List.forall_mem_cons, Op.operands, hA, tiA, hE]
      (repeat' refine And.intro ?_ ?_) <;> try exact SD
      refine CallC.useX (fun _ => 24) [3] (by simp [LitD, hR.2.1]) (gvFX hP hG (reader_okX G b a0)) rfl (lentX_of hN (by first | trivial | ((try simp only [haveL, AObj.ren, AV.ren, renL, ren_row, List.map_cons, List.map_nil, objL_cons, objL_nil]) <;> ((repeat' apply And.intro) <;> first | trivial | rfl))) (by rfl)) ?_
      try simp (maxSteps := 2000000) (disch := omega) only [avR2, avA, datsOf, fillA, seval, ↓List.forall_mem_cons, Op.operands, hA, tiA, hE, avX]
      exact SC
    refine WS [5, 6, 8, 9] [39, 40, 24] ?_
    apply aw_seq
    refine WS [6, 8, 9, 25, 26] [39, 40, 24] ?_
    apply aw_block
    refine aw_new0 40 1 (by omega) ?_
    refine aw_nilE 9 40 1 rfl rfl ?_
    refine WL (ι := {i : Nat // i ≤ n ∧ (intsL b a0 i).2.2 = 0}) [8, 25] [39] (fun ⟨i, hi2⟩ => [(26, .dat (iD i)), (9, .osl 40 1 0 i), (6, .dat (iD ((intsL b a0 i).2.1 : Nat)))]) (fun ⟨i, hi2⟩ => [(24, ⟨1, [.dat (iD ((intsL b a0 i).2.1 : Nat))]⟩), (40, ⟨1, ((intsL b a0 i).1.map iD).map .dat⟩)]) (fun ⟨i, hi2⟩ => n - i) (⟨0, by omega, rfl⟩) ?_
    rintro ⟨i, hi2⟩
    dsimp only [List.cons_append, List.nil_append]
    obtain ⟨hi, hi0⟩ := id hi2
    have hil := intsL_len i hi0
    have hia := intsL_at hib haL i
    have hri := getInt_rng (isB_drop hib (intsL b a0 i).2.1)
    have hE := And.intro hE hil
    refine WS [6, 8, 9, 25, 26, 27] [39, 40, 24] ?_
    apply aw_seq
    refine WI (fun hb => ?_) (fun hb => ?_)
    · skip
      apply aw_skip
      apply q_seq
      apply aw_seq
      apply aw_block
      apply aw_regs [8, 9, 10, 11, 12, 25, 26] [39, 40, 24]
      · simp (maxSteps := 2000000) (disch := omega) only [avR2, avA, datsOf, fillA, seval, ↓List.forall_mem_cons, Op.operands, hA, tiA, hE]
        (repeat' refine And.intro ?_ ?_) <;> try exact SD
        refine CallC.useX (fun _ => 24) [] (by simp [LitD, hR.2.1]) (gvFX hP hG (next_okX G b (intsL b a0 i).2.1 hib (by omega) hia)) rfl (lentX_of hN (by first | trivial | ((try simp only [haveL, AObj.ren, AV.ren, renL, ren_row, List.map_cons, List.map_nil, objL_cons, objL_nil]) <;> ((repeat' apply And.intro) <;> first | trivial | rfl))) (by rfl)) ?_
        try simp (maxSteps := 2000000) (disch := omega) only [avR2, avA, datsOf, fillA, seval, ↓List.forall_mem_cons, Op.operands, hA, tiA, hE, avX]
        exact SC
      apply aw_seq
      refine WS [8, 9, 10, 11, 12, 25, 26, 35] [39, 40, 24] ?_
      refine WI (fun hb => ?_) (fun hb => ?_)
      · skip
        have hs : intsL b a0 (i + 1) = ([], 0, (getIntM (b.drop (intsL b a0 i).2.1)).2.2) := by rw [intsL, if_neg (by omega), if_pos hb]
        have hv2 : getIntsM b = ([], 0, (getIntM (b.drop (intsL b a0 i).2.1)).2.2) := by rw [hv, intsL_stop (i := i + 1) (by rw [hs]; exact hb) n (by omega), hs]
        have hE := And.intro hE hv2
        refine WS [2, 3, 4] [39, 40, 24] ?_
        apply aw_ret
        apply q_ret_seq
        apply q_ret_block
        apply q_ret_seq
        apply q_ret_loop
        apply q_ret_block
        apply q_ret_seq
        simp only [QRet, QRetM, QRetX, retsX_nil, retsX_cons, objsAre, resA, mapO_nil, mapO_cons, vD_dat, vD_nils, vD_rp, vD_osl, vD_ptr, vD_agg, vD_fn, vD_isl, vL_dat, vL_app, viewL, avA, datsOf, fillA, seval, ↓List.forall_mem_cons, Op.operands, hP, hG, tiA, hE]
        all_goals try (first | done | rfl | trivial)
      · skip
        have hs : intsL b a0 (i + 1) = ((intsL b a0 i).1 ++ [(getIntM (b.drop (intsL b a0 i).2.1)).1], (intsL b a0 i).2.1 + (getIntM (b.drop (intsL b a0 i).2.1)).2.1.toNat, 0) := by rw [intsL, if_neg (by omega), if_neg (by omega)]
        have hcast : (((intsL b a0 i).2.1 + (getIntM (b.drop (intsL b a0 i).2.1)).2.1.toNat : Nat) : Int) = ((intsL b a0 i).2.1 : Int) + (getIntM (b.drop (intsL b a0 i).2.1)).2.1 := by omega
        have hnx : i + 1 ≤ n ∧ (intsL b a0 (i + 1)).2.2 = 0 := ⟨by omega, by rw [hs]⟩
        have hE := And.intro hE (And.intro hs hcast)
        apply aw_skip
        apply q_seq
        refine WQ [6, 8, 9, 25, 26] [39, 40, 24] ?_
        apply q_block
        apply q_seq
        refine WQ [6, 8, 9, 25, 26] [39, 40, 24] ?_
        refine WN (⟨i + 1, hnx⟩)
    · skip
      apply aw_exit
      apply q_exit_seq
      have hin : i = n := by omega
      subst hin
      have hE := And.intro hE (And.intro hv hi0)
      apply q_exit_loop
      apply q_exit
      apply q_seq
      refine WS [2, 3, 4] [39, 40, 24] ?_
      apply aw_ret
      simp only [QRet, QRetM, QRetX, retsX_nil, retsX_cons, objsAre, resA, mapO_nil, mapO_cons, vD_dat, vD_nils, vD_rp, vD_osl, vD_ptr, vD_agg, vD_fn, vD_isl, vL_dat, vL_app, viewL, avA, datsOf, fillA, seval, ↓List.forall_mem_cons, Op.operands, hP, hG, tiA, hE]
      all_goals try (first | done | rfl | trivial)
set_option maxRecDepth 100000 in
set_option maxHeartbeats 2000000 in
theorem getStrs_ok (G) (b : List Int) (hib : isB b) (hl : b.length ≤ 1099511627776) : Gives Try.prog G 111 [u8sD b] [ssD (getStrsM b).1, iD (getStrsM b).2.1, iD (getStrsM b).2.2] := by
  have hr := getInt_rng hib
  skip
  refine gives_intro [] [] [] Try.func111 rfl (by rfl) (by simp [Try.ntmps111]) fun F hP hG hN hR => ?_
  rw [Try.ntmps111] at hN
  have hA := And.intro hN (And.intro hP (And.intro hG (And.intro hR.1 (And.intro hR.2.1 hR.2.2.1))))
  have hE := @Try.results111
  refine WS [0] [38] ?_
  have hc := gvF hP hG (count_ok G b 1 hib (by omega) (by omega))
  refine WSc [0, 5, 6, 7] [38] ?_
  apply aw_seq
  refine WS [0, 5, 6, 7, 19] [38] ?_
  refine WI (fun hb => ?_) (fun hb => ?_)
  · skip
    have hv : getStrsM b = ([], 0, (countM b 1).2.2) := by unfold getStrsM; rw [if_pos hb]
    have hE := And.intro hE hv
    refine WS [2, 3, 4] [37, 38] ?_
    apply aw_ret
    apply q_ret_seq
    simp only [QRet, QRetM, QRetX, retsX_nil, retsX_cons, objsAre, resA, mapO_nil, mapO_cons, vD_dat, vD_nils, vD_rp, vD_osl, vD_ptr, vD_agg, vD_fn, vD_isl, vL_dat, vL_app, viewL, avA, datsOf, fillA, seval, ↓List.forall_mem_cons, Op.operands, hP, hG, tiA, hE]
    all_goals try (first | done | rfl | trivial)
  · skip
    obtain ⟨hc1, hc2, hc3, hc4⟩ := countM_ok hib (by omega)
    obtain ⟨n, hn⟩ : ∃ n : Nat, (getIntM b).1 = (n : Int) := ⟨(getIntM b).1.toNat, by omega⟩
    obtain ⟨a0, ha0⟩ : ∃ n : Nat, (getIntM b).2.1 = (n : Int) := ⟨(getIntM b).2.1.toNat, by omega⟩
    have hv : getStrsM b = strsL b a0 n := by unfold getStrsM; rw [if_neg (by omega), hc1, hn, ha0]; rfl
    have haL : a0 ≤ b.length := by omega
    have hnL : n ≤ b.length := by omega
    have hE := And.intro hE (And.intro hc1 (And.intro hn ha0))
    apply aw_skip
    apply q_seq
    refine WS [0, 5, 6, 8] [37, 38] ?_
    apply aw_seq
    refine WS [0, 6, 8, 21, 22] [37, 38] ?_
    apply aw_block
    refine aw_new0 38 1 (by omega) ?_
    refine aw_nilE 8 38 1 rfl rfl ?_
    refine WL (ι := {i : Nat // i ≤ n ∧ (strsL b a0 i).2.2 = 0}) [0, 21] [37] (fun ⟨i, hi2⟩ => [(22, .dat (iD i)), (8, .osl 38 1 0 i), (6, .dat (iD ((strsL b a0 i).2.1 : Nat)))]) (fun ⟨i, hi2⟩ => [(38, ⟨1, ((strsL b a0 i).1.map sD).map .dat⟩)]) (fun ⟨i, hi2⟩ => n - i) (⟨0, by omega, rfl⟩) ?_
    rintro ⟨i, hi2⟩
    dsimp only [List.cons_append, List.nil_append]
    obtain ⟨hi, hi0⟩ := id hi2
    have hil := strsL_len i hi0
    have hia := strsL_at hib haL i
    have hri := getBytes_rng (isB_drop hib (strsL b a0 i).2.1)
    have hdl : (b.drop (strsL b a0 i).2.1).length = b.length - (strsL b a0 i).2.1 := List.length_drop
    have hE := And.intro hE hil
    refine WS [0, 6, 8, 21, 22, 23] [37, 38] ?_
    apply aw_seq
    refine WI (fun hb => ?_) (fun hb => ?_)
    · skip
      apply aw_skip
      apply q_seq
      apply aw_seq
      apply aw_block
      have hc := gvF hP hG (getBytes_ok G (b.drop (strsL b a0 i).2.1) (isB_drop hib _) (by omega))
      refine WSc [0, 6, 8, 9, 10, 11, 21, 22] [37, 38] ?_
      apply aw_seq
      refine WS [0, 6, 8, 9, 10, 11, 21, 22, 33] [37, 38] ?_
      refine WI (fun hb => ?_) (fun hb => ?_)
      · skip
        have hs : strsL b a0 (i + 1) = ([], 0, (getBytesM (b.drop (strsL b a0 i).2.1)).2.2) := by rw [strsL, if_neg (by omega), if_pos hb]
        have hv2 : getStrsM b = ([], 0, (getBytesM (b.drop (strsL b a0 i).2.1)).2.2) := by rw [hv, strsL_stop (i := i + 1) (by rw [hs]; exact hb) n (by omega), hs]
        have hE := And.intro hE hv2
        refine WS [2, 3, 4] [37, 38] ?_
        apply aw_ret
        apply q_ret_seq
        apply q_ret_block
        apply q_ret_seq
        apply q_ret_loop
        apply q_ret_block
        apply q_ret_seq
        simp only [QRet, QRetM, QRetX, retsX_nil, retsX_cons, objsAre, resA, mapO_nil, mapO_cons, vD_dat, vD_nils, vD_rp, vD_osl, vD_ptr, vD_agg, vD_fn, vD_isl, vL_dat, vL_app, viewL, avA, datsOf, fillA, seval, ↓List.forall_mem_cons, Op.operands, hP, hG, tiA, hE]
        all_goals try (first | done | rfl | trivial)
      · skip
        have hs : strsL b a0 (i + 1) = ((strsL b a0 i).1 ++ [(getBytesM (b.drop (strsL b a0 i).2.1)).1], (strsL b a0 i).2.1 + (getBytesM (b.drop (strsL b a0 i).2.1)).2.1.toNat, 0) := by rw [strsL, if_neg (by omega), if_neg (by omega)]
        have hcast : (((strsL b a0 i).2.1 + (getBytesM (b.drop (strsL b a0 i).2.1)).2.1.toNat : Nat) : Int) = ((strsL b a0 i).2.1 : Int) + (getBytesM (b.drop (strsL b a0 i).2.1)).2.1 := by omega
        have hnx : i + 1 ≤ n ∧ (strsL b a0 (i + 1)).2.2 = 0 := ⟨by omega, by rw [hs]⟩
        have hE := And.intro hE (And.intro hs hcast)
        apply aw_skip
        apply q_seq
        refine WQ [0, 6, 8, 21, 22] [37, 38] ?_
        apply q_block
        apply q_seq
        refine WQ [0, 6, 8, 21, 22] [37, 38] ?_
        refine WN (⟨i + 1, hnx⟩)
    · skip
      apply aw_exit
      apply q_exit_seq
      have hin : i = n := by omega
      subst hin
      have hE := And.intro hE (And.intro hv hi0)
      apply q_exit_loop
      apply q_exit
      apply q_seq
      refine WS [2, 3, 4] [37, 38] ?_
      apply aw_ret
      simp only [QRet, QRetM, QRetX, retsX_nil, retsX_cons, objsAre, resA, mapO_nil, mapO_cons, vD_dat, vD_nils, vD_rp, vD_osl, vD_ptr, vD_agg, vD_fn, vD_isl, vL_dat, vL_app, viewL, avA, datsOf, fillA, seval, ↓List.forall_mem_cons, Op.operands, hP, hG, tiA, hE]
      all_goals try (first | done | rfl | trivial)
end Go.Proofs.Ytabjaaonfaejmaa

