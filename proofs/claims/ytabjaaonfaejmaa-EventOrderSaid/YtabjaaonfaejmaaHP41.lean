/- Contracts: finding events. -/
import Derived.Test.YtabjaaonfaejmaaHP39
import Derived.Test.YtabjaaonfaejmaaHP40
import Derived.Test.YtabjaaonfaejmaaHAv46
import Derived.Test.YtabjaaonfaejmaaHAv51
import Derived.Test.YtabjaaonfaejmaaHAv50
import Derived.Test.YtabjaaonfaejmaaRows
import Derived.WalkKit
import Derived.ProofKit
import Derived.OpenShut
import Derived.WideKeyArgs
import Derived.Deep.DeepHandedRow
import Derived.Lib.LaidTab
set_option linter.all false
namespace Go.Proofs.Ytabjaaonfaejmaa
open Go.Av


theorem rfind_ok (G) (l : List EventM) (n : NameM) (hl : l.length ≤ 1000) : Gives Try.prog G 25 [eventsD l, nameD n] [iD (findM l n)] := by
  skip
  refine gives_intro [] [] [] Try.func25 rfl (by rfl) (by simp [Try.ntmps25]) fun F hP hG hN hR => ?_
  rw [Try.ntmps25] at hN
  have hA := And.intro hN (And.intro hP (And.intro hG (And.intro hR.1 (And.intro hR.2.1 hR.2.2.1))))
  have hE := And.intro @Try.results25 (@eqName)
  refine WS [0, 3] [3] ?_
  apply aw_seq
  refine WS [0, 3, 5] [3] ?_
  apply aw_block
  refine WL (ι := {i : Nat // i ≤ l.length ∧ ∀ j, j < i → isName n (l.getD j default) = false}) [0, 3] [3] (fun ⟨i, hif⟩ => [(5, .dat (iD i))]) (fun ⟨i, hif⟩ => []) (fun ⟨i, hif⟩ => l.length - i) (⟨0, by omega, none0⟩) ?_
  rintro ⟨i, hif⟩
  dsimp only [List.cons_append, List.nil_append]
  obtain ⟨hi, hf⟩ := id hif
  apply aw_seq
  refine WS [0, 3, 5, 9] [3] ?_
  refine WI (fun hb => ?_) (fun hb => ?_)
  · skip
    apply aw_skip
    apply q_seq
    apply aw_seq
    apply aw_block
    apply aw_rgds [0, 3, 5, 18] [3] [0, 1, 2, 3, 4, 5, 6] []
    · rw [hP]; kernel_rfl
    · exact hR
    · kernel_rfl
    · (repeat (apply PickL.cons; exact rfl)); exact PickL.nil _
    · simp (maxSteps := 2000000) (disch := omega) only [avR2, avA, datsOf, fillA, seval, ↓List.forall_mem_cons, Op.operands, hA, tiA, hE]
      (repeat' refine And.intro ?_ ?_) <;> try exact SD
      refine CallC.use (gvF hP hG (rname_ok G (l.getD i default))) rfl ?_
      try simp (maxSteps := 2000000) (disch := omega) only [avR2, avA, datsOf, fillA, seval, ↓List.forall_mem_cons, Op.operands, hA, tiA, hE]
      exact SC
    refine WI (fun hb => ?_) (fun hb => ?_)
    · skip
      have hv : findM l n = i := idxM_some (show i < l.length by omega) (by unfold isName sameName; rw [hb.1, hb.2]; simp) hf
      have hE := And.intro hE hv
      refine WS [4] [] ?_
      apply aw_ret
      apply q_ret_block
      apply q_ret_seq
      apply q_ret_loop
      apply q_ret_block
      apply q_ret_seq
      simp only [QRet, QRetM, QRetX, retsX_nil, retsX_cons, objsAre, resA, mapO_nil, mapO_cons, vD_dat, vD_nils, vD_rp, vD_osl, vD_ptr, vD_agg, vD_fn, vL_dat, vL_app, viewL, avA, datsOf, fillA, seval, ↓List.forall_mem_cons, Op.operands, hP, hG, tiA, hE]
      all_goals try (first | done | rfl | trivial)
    · skip
      have hnb : isName n (l.getD i default) = false := by unfold isName sameName; grind
      apply aw_skip
      apply q_block
      apply q_seq
      refine WQ [0, 3, 5] [3] ?_
      refine WN (⟨i + 1, by omega, allstep hif.2 hnb⟩)
  · skip
    apply aw_exit
    apply q_exit_seq
    obtain rfl : i = l.length := by omega
    have hv : findM l n = -1 := idxM_none hf
    have hE := And.intro hE hv
    apply q_exit_loop
    apply q_exit
    apply q_seq
    refine WS [4] [] ?_
    apply aw_ret
    simp only [QRet, QRetM, QRetX, retsX_nil, retsX_cons, objsAre, resA, mapO_nil, mapO_cons, vD_dat, vD_nils, vD_rp, vD_osl, vD_ptr, vD_agg, vD_fn, vL_dat, vL_app, viewL, avA, datsOf, fillA, seval, ↓List.forall_mem_cons, Op.operands, hP, hG, tiA, hE]
    all_goals try (first | done | rfl | trivial)

theorem isname_ok (G) (e : EventM) (n : NameM) : Gives Try.prog G 60 [eventD e, .ref (nameD n)] [bD (isName n e)] := by
  skip
  refine gives_intro [] [] [] Try.func60 rfl (by rfl) (by simp [Try.ntmps60]) fun F hP hG hN hR => ?_
  rw [Try.ntmps60] at hN
  have hA := And.intro hN (And.intro hP (And.intro hG (And.intro hR.1 (And.intro hR.2.1 hR.2.2.1))))
  have hE := And.intro @Try.results60 (@eqName)
  refine WS [1, 2] [2] ?_
  apply aw_rgds [3] [] [0, 1, 2, 3, 4] []
  · rw [hP]; kernel_rfl
  · exact hR
  · kernel_rfl
  · (repeat (apply PickL.cons; exact rfl)); exact PickL.nil _
  · simp (maxSteps := 2000000) (disch := omega) only [avR2, avA, datsOf, fillA, seval, ↓List.forall_mem_cons, Op.operands, hA, tiA, hE]
    (repeat' refine And.intro ?_ ?_) <;> try exact SD
    refine CallC.use (gvF hP hG (name_ok G e)) rfl ?_
    try simp (maxSteps := 2000000) (disch := omega) only [avR2, avA, datsOf, fillA, seval, ↓List.forall_mem_cons, Op.operands, hA, tiA, hE]
    exact SC
  apply aw_ret
  simp only [QRet, QRetM, QRetX, retsX_nil, retsX_cons, objsAre, resA, mapO_nil, mapO_cons, vD_dat, vD_nils, vD_rp, vD_osl, vD_ptr, vD_agg, vD_fn, vL_dat, vL_app, viewL, avA, datsOf, fillA, seval, ↓List.forall_mem_cons, Op.operands, hP, hG, tiA, hE]
  all_goals try (first | done | rfl | trivial)

theorem indexE_ok (G) (l : List EventM) (g : FuncId) (c : Dat) (p : EventM → Bool) (hl : l.length ≤ 1000) (hg : ∀ e, Gives Try.prog G g [eventD e, c] [bD (p e)]) : Gives Try.prog G 59 [eventsD l, .fn g [c]] [iD (idxM p l)] := by
  refine gives_introF [] [] [] Try.func59 rfl (by rfl) (by simp [Try.ntmps59]) fun F hP hG hN hR => ?_
  rw [Try.ntmps59] at hN
  have hA := And.intro hN (And.intro hP (And.intro hG (And.intro hR.1 (And.intro hR.2.1 hR.2.2.1))))
  have hE := @Try.results59
  refine WS [0, 1] [] ?_
  apply aw_seq
  refine WS [0, 1, 7, 8] [] ?_
  apply aw_block
  refine WL (ι := {i : Nat // i ≤ l.length ∧ ∀ j, j < i → p (l.getD j default) = false}) [0, 1, 7] [] (fun ⟨i, hif⟩ => [(8, .dat (iD i))]) (fun ⟨i, hif⟩ => []) (fun ⟨i, hif⟩ => l.length - i) (⟨0, by omega, none0⟩) ?_
  rintro ⟨i, hif⟩
  dsimp only [List.cons_append, List.nil_append]
  obtain ⟨hi, hf⟩ := id hif
  refine WS [0, 1, 7, 8, 9] [] ?_
  apply aw_seq
  refine WI (fun hb => ?_) (fun hb => ?_)
  · skip
    apply aw_skip
    apply q_seq
    apply aw_seq
    apply aw_block
    refine WS [0, 1, 5, 7, 8] [] ?_
    have hc := gvF hP hG (hg (l.getD i default))
    refine WSc [0, 1, 5, 7, 8, 16] [] ?_
    refine WI (fun hb => ?_) (fun hb => ?_)
    · skip
      have hv := idxM_some (show i < l.length by omega) hb hf
      have hE := And.intro hE hv
      refine WS [4] [] ?_
      apply aw_ret
      apply q_ret_block
      apply q_ret_seq
      apply q_ret_loop
      apply q_ret_block
      apply q_ret_seq
      simp only [QRet, QRetM, QRetX, retsX_nil, retsX_cons, objsAre, resA, mapO_nil, mapO_cons, vD_dat, vD_nils, vD_rp, vD_osl, vD_ptr, vD_agg, vD_fn, vL_dat, vL_app, viewL, avA, datsOf, fillA, seval, ↓List.forall_mem_cons, Op.operands, hP, hG, tiA, hE]
      all_goals try (first | done | rfl | trivial)
    · skip
      apply aw_skip
      apply q_block
      apply q_seq
      refine WQ [0, 1, 7, 8] [] ?_
      refine WN (⟨i + 1, by omega, allstep hif.2 hb⟩)
  · skip
    apply aw_exit
    apply q_exit_seq
    obtain rfl : i = l.length := by omega
    have hv := idxM_none hf
    have hE := And.intro hE hv
    apply q_exit_loop
    apply q_exit
    apply q_seq
    refine WS [4] [] ?_
    apply aw_ret
    simp only [QRet, QRetM, QRetX, retsX_nil, retsX_cons, objsAre, resA, mapO_nil, mapO_cons, vD_dat, vD_nils, vD_rp, vD_osl, vD_ptr, vD_agg, vD_fn, vL_dat, vL_app, viewL, avA, datsOf, fillA, seval, ↓List.forall_mem_cons, Op.operands, hP, hG, tiA, hE]
    all_goals try (first | done | rfl | trivial)

theorem find_ok (G) (l : List EventM) (n : NameM) (hl : l.length ≤ 1000) : Gives Try.prog G 24 [eventsD l, nameD n] [iD (findM l n)] := by
  refine gives_intro [] [] [] Try.func24 rfl (by rfl) (by simp [Try.ntmps24]) fun F hP hG hN hR => ?_
  rw [Try.ntmps24] at hN
  have hA := And.intro hN (And.intro hP (And.intro hG (And.intro hR.1 (And.intro hR.2.1 hR.2.2.1))))
  have hE := @Try.results24
  refine WS [0, 3] [3] ?_
  apply aw_regs [4] []
  · simp (maxSteps := 2000000) (disch := omega) only [avR2, avA, datsOf, fillA, seval, ↓List.forall_mem_cons, Op.operands, hA, tiA, hE]
    (repeat' refine And.intro ?_ ?_) <;> try exact SD
    refine CallC.use (gvF hP hG (indexE_ok G l 60 (.ref (nameD n)) (isName n) hl (fun e => isname_ok G e n))) (by simp only [callArgs, mapO_nil, mapO_cons, vD_dat, vD_nils, vD_rp, vD_osl, vD_ptr, vD_agg, vD_fn, vL_dat, vL_app, avA, datsOf, fillA, seval, ↓List.forall_mem_cons, Op.operands, hE] <;> rfl) ?_
    try simp (maxSteps := 2000000) (disch := omega) only [avR2, avA, datsOf, fillA, seval, ↓List.forall_mem_cons, Op.operands, hA, tiA, hE]
    exact SC
  apply aw_ret
  simp only [QRet, QRetM, QRetX, retsX_nil, retsX_cons, objsAre, resA, mapO_nil, mapO_cons, vD_dat, vD_nils, vD_rp, vD_osl, vD_ptr, vD_agg, vD_fn, vL_dat, vL_app, viewL, avA, datsOf, fillA, seval, ↓List.forall_mem_cons, Op.operands, hP, hG, tiA, hE]
  all_goals try (first | done | rfl | trivial)

end Go.Proofs.Ytabjaaonfaejmaa

namespace Go.Proofs.Ytabjaaonfaejmaa
open Go.Av


set_option maxRecDepth 100000 in
theorem rsort_ok (G) (l : List EventM) (hl : l.length ≤ 1000) : Gives Try.prog G 22 [eventsD l] [eventsD (sortM l)] := by
  skip
  refine gives_intro [41, 45] [] [] Try.func22 rfl (by rfl) (by simp [Try.ntmps22]) fun F hP hG hN hR => ?_
  rw [Try.ntmps22] at hN
  have hA := And.intro hN (And.intro hP (And.intro hG (And.intro hR.1 (And.intro hR.2.1 hR.2.2.1))))
  have hE := And.intro @Try.results22 (@rsN_len)
  refine WS [0] [] ?_
  refine WS [0, 3] [30, 34, 40, 41, 45] ?_
  apply aw_seq
  refine WS [0, 3, 4] [30, 34, 40, 41, 45] ?_
  apply aw_block
  refine aw_nilD 3 rfl ?_
  refine WL (ι := {i : Nat // i ≤ l.length}) [0] [30, 34, 40, 41, 45] (fun ⟨i, hi⟩ => [(3, .dat (eventsD (rsN l i))), (4, .dat (iD i))]) (fun ⟨i, hi⟩ => []) (fun ⟨i, hi⟩ => l.length - i) (⟨0, by omega⟩) ?_
  rintro ⟨i, hi⟩
  dsimp only [List.cons_append, List.nil_append]
  have hrl := rsN_len l i
  apply aw_seq
  refine WS [0, 3, 4, 10] [30, 34, 40, 41, 45] ?_
  refine WI (fun hb => ?_) (fun hb => ?_)
  · skip
    apply aw_skip
    apply q_seq
    apply aw_seq
    apply aw_block
    refine WS [0, 3, 4, 5] [30, 34, 40, 41, 45] ?_
    apply aw_seq
    apply aw_block
    refine WL (ι := {k : Nat // k ≤ i ∧ posM (l.getD i default) (rsN l i) k = posM (l.getD i default) (rsN l i) i}) [0, 3, 4] [30, 34, 40, 41, 45] (fun ⟨k, hk⟩ => [(5, .dat (iD k))]) (fun ⟨k, hk⟩ => []) (fun ⟨k, hk⟩ => k) (⟨i, by omega, rfl⟩) ?_
    rintro ⟨k, hk⟩
    dsimp only [List.cons_append, List.nil_append]
    obtain ⟨hk1, hk2⟩ := id hk
    have hj1 : ((k : Int) - 1).toNat = k - 1 := by omega
    have hE := And.intro hE hj1
    apply aw_seq
    refine WS [0, 3, 4, 5, 16] [30, 34, 40, 41, 45] ?_
    refine WI (fun hb => ?_) (fun hb => ?_)
    · skip
      apply aw_skip
      apply q_seq
      apply aw_block
      apply aw_seq
      apply aw_rgds [0, 3, 4, 5, 27] [30, 34, 40, 41, 45] [0, 1, 2, 3, 4, 5, 6, 7, 8, 9, 10] []
      · rw [hP]; kernel_rfl
      · exact hR
      · kernel_rfl
      · (repeat (apply PickL.cons; exact rfl)); exact PickL.nil _
      · simp (maxSteps := 2000000) (disch := omega) only [avR2, avA, datsOf, fillA, seval, ↓List.forall_mem_cons, Op.operands, hA, tiA, hE]
        (repeat' refine And.intro ?_ ?_) <;> try exact SD
        refine CallC.use (gvF hP hG (rbefore_ok G (l.getD i default) ((rsN l i).getD (k - 1) default))) rfl ?_
        try simp (maxSteps := 2000000) (disch := omega) only [avR2, avA, datsOf, fillA, seval, ↓List.forall_mem_cons, Op.operands, hA, tiA, hE]
        exact SC
      refine WI (fun hb => ?_) (fun hb => ?_)
      · skip
        have hpk : posM (l.getD i default) (rsN l i) k = k := posM_stop (by intro _; grind)
        apply aw_exit
        apply q_exit_seq
        apply q_exit_other (by decide)
        have hkl : k ≤ (rsN l i).length := by omega
        have htl : (List.take k (rsN l i)).length = k := by rw [List.length_take]; omega
        have hdl : (List.drop k (rsN l i)).length = i - k := by rw [List.length_drop]; omega
        have htk : List.take (k + 1) (List.map AV.dat (List.map (fun e => eventD e) (List.take k (rsN l i))) ++ [AV.dat (eventD (l.getD i default))]) = List.map AV.dat (List.map (fun e => eventD e) (List.take k (rsN l i) ++ [l.getD i default])) := by rw [List.take_of_length_le (by simp only [List.length_append, List.length_map, htl, List.length_singleton]; omega)]; simp only [List.map_append, List.map_cons, List.map_nil]
        have hkk : k + 1 + (i - k) = i + 1 := by omega
        have hins : List.take k (rsN l i) ++ [l.getD i default] ++ List.drop k (rsN l i) = rsN l (i + 1) := by rw [rsN, hrl, ← hk2, hpk]; rfl
        have hil := rsN_len l (i + 1)
        have hE := And.intro hE (And.intro htl (And.intro hdl (And.intro htk (And.intro hkk (And.intro Nat.min_self hins)))))
        apply q_exit_loop
        apply q_exit
        apply q_seq
        refine WS [0, 3, 4, 5, 6] [30, 34, 40, 41, 45] ?_
        refine WDQ [0, 3, 4] [30, 34, 40, 41, 45] [0, 1, 2, 3, 4, 5, 6, 7, 8, 9, 10, 11] [41, 45] ?_
        apply q_block
        apply q_seq
        refine aw_frz (ds := (rsN l (i + 1)).map (fun e => eventD e)) 45 hR.2.2.2 rfl (by rw [← hins]; have e := datE_map ((List.take k (rsN l i) ++ [l.getD i default] ++ List.drop k (rsN l i)).map (fun e => eventD e)); simpa only [List.map_append, List.map_cons, List.map_nil] using e) ?_
        refine WQ [0, 3, 4] [30, 34, 40, 41, 45] ?_
        refine WN (⟨i + 1, by omega⟩)
      · skip
        have hk3 : k - 1 ≤ i ∧ posM (l.getD i default) (rsN l i) (k - 1) = posM (l.getD i default) (rsN l i) i := ⟨by omega, by rw [posM_go (by omega) (by grind)]; exact hk2⟩
        apply aw_skip
        apply q_seq
        refine WQ [0, 3, 4, 5] [30, 34, 40, 41, 45] ?_
        apply q_block
        refine WN (⟨k - 1, hk3⟩)
    · skip
      have hpk : posM (l.getD i default) (rsN l i) k = k := posM_stop (by omega)
      apply aw_exit
      apply q_exit_seq
      have hkl : k ≤ (rsN l i).length := by omega
      have htl : (List.take k (rsN l i)).length = k := by rw [List.length_take]; omega
      have hdl : (List.drop k (rsN l i)).length = i - k := by rw [List.length_drop]; omega
      have htk : List.take (k + 1) (List.map AV.dat (List.map (fun e => eventD e) (List.take k (rsN l i))) ++ [AV.dat (eventD (l.getD i default))]) = List.map AV.dat (List.map (fun e => eventD e) (List.take k (rsN l i) ++ [l.getD i default])) := by rw [List.take_of_length_le (by simp only [List.length_append, List.length_map, htl, List.length_singleton]; omega)]; simp only [List.map_append, List.map_cons, List.map_nil]
      have hkk : k + 1 + (i - k) = i + 1 := by omega
      have hins : List.take k (rsN l i) ++ [l.getD i default] ++ List.drop k (rsN l i) = rsN l (i + 1) := by rw [rsN, hrl, ← hk2, hpk]; rfl
      have hil := rsN_len l (i + 1)
      have hE := And.intro hE (And.intro htl (And.intro hdl (And.intro htk (And.intro hkk (And.intro Nat.min_self hins)))))
      apply q_exit_loop
      apply q_exit
      apply q_seq
      refine WS [0, 3, 4, 5, 6] [30, 34, 40, 41, 45] ?_
      refine WDQ [0, 3, 4] [30, 34, 40, 41, 45] [0, 1, 2, 3, 4, 5, 6, 7, 8, 9, 10, 11] [41, 45] ?_
      apply q_block
      apply q_seq
      refine aw_frz (ds := (rsN l (i + 1)).map (fun e => eventD e)) 45 hR.2.2.2 rfl (by rw [← hins]; have e := datE_map ((List.take k (rsN l i) ++ [l.getD i default] ++ List.drop k (rsN l i)).map (fun e => eventD e)); simpa only [List.map_append, List.map_cons, List.map_nil] using e) ?_
      refine WQ [0, 3, 4] [30, 34, 40, 41, 45] ?_
      refine WN (⟨i + 1, by omega⟩)
  · skip
    apply aw_exit
    apply q_exit_seq
    have hend : i = l.length := by omega
    subst hend
    have hrs := rs_sort l
    have hE := And.intro hE hrs
    apply q_exit_loop
    apply q_exit
    apply q_seq
    refine WS [2] [30, 34, 40, 41, 45] ?_
    apply aw_ret
    simp only [QRet, QRetM, QRetX, retsX_nil, retsX_cons, objsAre, resA, mapO_nil, mapO_cons, vD_dat, vD_nils, vD_rp, vD_osl, vD_ptr, vD_agg, vD_fn, vL_dat, vL_app, viewL, avA, datsOf, fillA, seval, ↓List.forall_mem_cons, Op.operands, hP, hG, tiA, hE]
    all_goals try (first | done | rfl | trivial)

end Go.Proofs.Ytabjaaonfaejmaa

namespace Go.Proofs.Ytabjaaonfaejmaa
open Go.Av

/-- One event does not stand behind another one. -/
def leE (a b : EventM) : Prop := beforeM b a = false
theorem before_iff (a b : EventM) : beforeM a b = true ↔ a.Tick < b.Tick ∨ (a.Tick = b.Tick ∧ (a.By < b.By ∨ (a.By = b.By ∧ a.Seq < b.Seq))) := by
  unfold beforeM lessM evName
  dsimp only
  split
  · rw [decide_eq_true_eq]; omega
  · split
    · rw [decide_eq_true_eq]; omega
    · rw [decide_eq_true_eq]; omega
theorem leE_iff (a b : EventM) : leE a b ↔ a.Tick < b.Tick ∨ (a.Tick = b.Tick ∧ (a.By < b.By ∨ (a.By = b.By ∧ a.Seq ≤ b.Seq))) := by
  unfold leE
  rw [Bool.eq_false_iff, ne_eq, before_iff]
  omega
theorem leE_trans {a b c : EventM} (h1 : leE a b) (h2 : leE b c) : leE a c := by
  rw [leE_iff] at *
  omega
theorem before_asymm {a b : EventM} (h : beforeM a b = true) : beforeM b a = false := by
  rw [Bool.eq_false_iff, ne_eq, before_iff]
  rw [before_iff] at h
  omega
theorem before_total {a b : EventM} (h1 : beforeM a b = false) (h2 : beforeM b a = false) : evName a = evName b := by
  rw [Bool.eq_false_iff, ne_eq, before_iff] at h1 h2
  unfold evName
  rw [NameM.mk.injEq]
  omega
/-- Where an element goes: behind none that is later, ahead of none that is earlier. -/
theorem pos_after {x : EventM} {out : List EventM} : ∀ {k}, k ≤ out.length → ∀ j, posM x out k ≤ j → j < k → beforeM x (out.getD j default) = true
  | 0, _, j, _, h => absurd h (Nat.not_lt_zero j)
  | k + 1, hk, j, h1, h2 => by
    rw [posM] at h1
    split at h1
    · rename_i hb
      by_cases hj : j = k
      · rw [hj]; exact hb
      · exact pos_after (by omega) j h1 (by omega)
    · omega
theorem pos_stop {x : EventM} {out : List EventM} : ∀ {k}, 0 < posM x out k → beforeM x (out.getD (posM x out k - 1) default) = false
  | 0, h => absurd h (Nat.lt_irrefl 0)
  | k + 1, h => by
    rw [posM] at h ⊢
    split
    · rename_i hb
      rw [if_pos hb] at h
      exact pos_stop h
    · rename_i hb
      simpa using hb
theorem insR_perm (x : EventM) (out : List EventM) (p : Nat) : (insR x out p).Perm (x :: out) := by
  unfold insR
  rw [List.append_assoc]
  refine List.perm_middle.trans ?_
  show (x :: (List.take p out ++ List.drop p out)).Perm (x :: out)
  rw [List.take_append_drop]
theorem insR_sorted {x : EventM} {out : List EventM} (h : out.Pairwise leE) : (insR x out (posM x out out.length)).Pairwise leE := by
  have hp := posM_le x out out.length
  generalize hq : posM x out out.length = p at *
  have hg : ∀ j, p ≤ j → j < out.length → leE x (out.getD j default) := fun j h1 h2 => before_asymm (pos_after (Nat.le_refl _) j (by omega) h2)
  have hl : ∀ j, j < p → leE (out.getD j default) x := fun j h1 => by
    have h0 : leE (out.getD (p - 1) default) x := by
      have := pos_stop (x := x) (out := out) (k := out.length) (by omega)
      rw [hq] at this
      exact this
    by_cases hj : j = p - 1
    · rw [hj]; exact h0
    · refine leE_trans ?_ h0
      rw [List.getD_eq_getElem?_getD, List.getElem?_eq_getElem (by omega), List.getD_eq_getElem?_getD, List.getElem?_eq_getElem (by omega)]
      exact List.pairwise_iff_getElem.1 h j (p - 1) (by omega) (by omega) (by omega)
  have hm1 : ∀ y ∈ out.take p, leE y x := fun y hy => by
    obtain ⟨j, hj, rfl⟩ := List.getElem_of_mem hy
    have hj' : j < p := by simp at hj; omega
    have := hl j hj'
    rw [List.getD_eq_getElem?_getD, List.getElem?_eq_getElem (by omega)] at this
    simpa using this
  have hm2 : ∀ y ∈ out.drop p, leE x y := fun y hy => by
    obtain ⟨j, hj, rfl⟩ := List.getElem_of_mem hy
    have hj' : p + j < out.length := by simp at hj; omega
    have := hg (p + j) (by omega) hj'
    rw [List.getD_eq_getElem?_getD, List.getElem?_eq_getElem (by omega)] at this
    simpa using this
  unfold insR
  have h2 := h
  rw [← List.take_append_drop p out, List.pairwise_append] at h2
  rw [List.pairwise_append, List.pairwise_append]
  refine ⟨⟨h2.1, by simp, by simpa using hm1⟩, h2.2.1, ?_⟩
  intro a ha b hb
  rcases List.mem_append.1 ha with ha | ha
  · exact h2.2.2 a ha b hb
  · rw [List.mem_singleton.1 ha]; exact hm2 b hb
theorem rsN_perm (l : List EventM) : ∀ i, i ≤ l.length → (rsN l i).Perm (l.take i)
  | 0, _ => by rw [rsN, List.take_zero]
  | i + 1, h => by
    rw [rsN, take_step l h]
    refine (insR_perm _ _ _).trans (((rsN_perm l i (by omega)).cons _).trans ?_)
    exact List.perm_append_comm (l₁ := [_])
theorem rsN_sorted (l : List EventM) : ∀ i, (rsN l i).Pairwise leE
  | 0 => .nil
  | i + 1 => insR_sorted (rsN_sorted l i)
theorem sortM_perm (l : List EventM) : (sortM l).Perm l := by
  have := rsN_perm l l.length (Nat.le_refl _)
  rwa [rs_sort, List.take_length] at this
theorem sortM_sorted (l : List EventM) : (sortM l).Pairwise leE := by
  rw [← rs_sort]; exact rsN_sorted l _
/-- All orders of a list with different ticks are sorted to the same one. -/
theorem sort_perm {l s : List EventM} (h : l.Perm s) (hs : s.Pairwise (fun x y => x.Tick < y.Tick)) : sortM l = s := by
  have hd : ∀ a ∈ s, ∀ b ∈ s, a.Tick = b.Tick → a = b := by
    intro a ha b hb hq
    obtain ⟨i, hi, rfl⟩ := List.getElem_of_mem ha
    obtain ⟨j, hj, rfl⟩ := List.getElem_of_mem hb
    rcases Nat.lt_trichotomy i j with h | h | h
    · have := List.pairwise_iff_getElem.1 hs i j hi hj h; omega
    · subst h; rfl
    · have := List.pairwise_iff_getElem.1 hs j i hj hi h; omega
  refine List.Perm.eq_of_pairwise (le := leE) ?_ (sortM_sorted l) (hs.imp fun {a b} h => (leE_iff a b).2 (.inl h)) ((sortM_perm l).trans h)
  intro a b ha hb h1 h2
  refine hd a (((sortM_perm l).trans h).subset ha) b hb ?_
  rw [leE_iff] at h1 h2
  omega
theorem getD_lt {l : List EventM} {i : Nat} (h : i < l.length) : l.getD i default = l[i] := by
  rw [List.getD_eq_getElem?_getD, List.getElem?_eq_getElem h, Option.getD_some]
theorem rot_get {l : List EventM} {k j : Nat} (hk : k ≤ l.length) (hj : j < l.length) : (l.drop k ++ l.take k)[j]'(by simp; omega) = l.getD ((j + k) % l.length) default := by
  have hm : (j + k) % l.length < l.length := Nat.mod_lt _ (by omega)
  rw [getD_lt hm]
  by_cases h : j < l.length - k
  · rw [List.getElem_append_left (by simp; omega), List.getElem_drop]
    congr 1
    rw [Nat.mod_eq_of_lt (by omega)]; omega
  · rw [List.getElem_append_right (by simp; omega), List.getElem_take]
    congr 1
    rw [Nat.mod_eq_sub_mod (by omega), Nat.mod_eq_of_lt (by omega)]
    simp; omega
theorem turnM_perm (l : List EventM) (b : Int) : (turnM l b).Perm l := by
  by_cases h0 : l.length = 0
  · have : l = [] := List.eq_nil_of_length_eq_zero h0
    subst this
    exact .refl _
  have har := aroundM_range (n := b) (m := (l.length : Int) + 1) (by omega)
  obtain ⟨k, hk⟩ : ∃ k : Nat, aroundM b ((l.length : Int) + 1) = (k : Int) := ⟨(aroundM b ((l.length : Int) + 1)).toNat, by omega⟩
  have hx : ∀ j : Nat, turnX l.length b j = (((j + k) % l.length : Nat) : Int) := fun j => by
    unfold turnX
    rw [hk, Int.tmod_eq_emod_of_nonneg (by omega)]
    push_cast
    rfl
  have hperm : ∀ m : List EventM, (m.drop k ++ m.take k).Perm m := fun m => by
    refine List.perm_append_comm.trans ?_
    rw [List.take_append_drop]
  by_cases hb : b.tmod 2 = 0
  · have : turnM l b = l.drop k ++ l.take k := by
      refine List.ext_getElem (by simp [turnM, turnN]; omega) fun j h1 h2 => ?_
      have hj : j < l.length := by simp [turnM, turnN] at h1; omega
      rw [rot_get (by omega) hj]
      simp only [turnM, turnN, List.getElem_map, List.getElem_range, turnI]
      rw [if_pos hb, hx, Int.toNat_natCast]
    rw [this]
    exact hperm l
  · have : turnM l b = l.reverse.drop k ++ l.reverse.take k := by
      refine List.ext_getElem (by simp [turnM, turnN]; omega) fun j h1 h2 => ?_
      have hj : j < l.length := by simp [turnM, turnN] at h1; omega
      have hm : (j + k) % l.length < l.length := Nat.mod_lt _ (by omega)
      rw [rot_get (by simp; omega) (by simpa using hj)]
      rw [List.length_reverse, getD_lt (by simpa using hm), List.getElem_reverse]
      simp only [turnM, turnN, List.getElem_map, List.getElem_range, turnI]
      rw [if_neg hb, hx, getD_lt (by omega)]
      congr 1
      omega
    rw [this]
    exact (hperm _).trans (List.reverse_perm l)
theorem sort_turn (l : List Int) (b : Int) : sortM (turnM (listG l) b) = listG l := sort_perm (turnM_perm _ _) (good_sorted (listG_good l))
end Go.Proofs.Ytabjaaonfaejmaa

namespace Go.Proofs.Ytabjaaonfaejmaa
open Go.Av

abbrev zEv : EventM := exE 0 0 0 [] 0
theorem zEv_ok : OkEv zEv := okEx i64z i64z i64z i64z (by decide) (by simp)
def z385 : List EventM := List.replicate 385 zEv
theorem z385_len : z385.length = 385 := List.length_replicate
def tkM (e : EventM) (b : Int) : EventM := { e with Tick := IntKind.i64.wrap (IntKind.i64.wrap (e.Tick + b.tmod 5) - 2) }
def bentM (l : List EventM) (k : Nat) (how b : Int) : List EventM := l.set k (spoiltM (l.getD k default) how b)
def tickM (l : List EventM) (j : Nat) (b : Int) : List EventM := l.set j (tkM (l.getD j default) b)
def alsoM (l : List EventM) (how b also turn : Int) : List EventM := tickM (bentM l (aroundM b l.length).toNat how also) (aroundM turn l.length).toNat b
def listsM (l : List EventM) (how b also turn : Int) : List (List EventM) :=
  [l, turnM l turn, [], z385] ++
    if 0 < l.length then [bentM l (aroundM b l.length).toNat how also, alsoM l how b also turn, lessN l (aroundM b l.length).toNat, l ++ [l.getD (aroundM b l.length).toNat default], turnM (alsoM l how b also turn) how] else []
theorem bentM_len (l : List EventM) (k : Nat) (how b : Int) : (bentM l k how b).length = l.length := List.length_set
theorem tickM_len (l : List EventM) (j : Nat) (b : Int) : (tickM l j b).length = l.length := List.length_set
theorem alsoM_len (l : List EventM) (how b also turn : Int) : (alsoM l how b also turn).length = l.length := by rw [alsoM, tickM_len, bentM_len]
theorem lessN_len {l : List EventM} {j : Nat} (h : j < l.length) : (lessN l j).length = l.length - 1 := less_len h
theorem turnM_len (l : List EventM) (b : Int) : (turnM l b).length = l.length := turnN_len _ _ _
theorem sm_tk {k : Nat} {e : EventM} (h : SmEv k e) (b : Int) : SmEv k (tkM e b) := { h with tick := i64_wrap _ }
theorem sm_set {k : Nat} {l : List EventM} (h : ∀ e ∈ l, SmEv k e) {x : EventM} (hx : SmEv k x) {j : Nat} : ∀ e ∈ l.set j x, SmEv k e := fun e he => by
  rcases List.mem_or_eq_of_mem_set he with he | rfl
  · exact h e he
  · exact hx
theorem sm_bent {k : Nat} {l : List EventM} (h : ∀ e ∈ l, SmEv k e) (hk : k ≤ 20) {j : Nat} (hj : j < l.length) (how : Int) {b : Int} (hb : I64 b) : ∀ e ∈ bentM l j how b, SmEv (k + 1) e :=
  sm_set (fun e he => sm_up (h e he)) (sm_sp (getD_all h hj) hk hb _)
theorem sm_tick {k : Nat} {l : List EventM} (h : ∀ e ∈ l, SmEv k e) {j : Nat} (hj : j < l.length) (b : Int) : ∀ e ∈ tickM l j b, SmEv k e :=
  sm_set h (sm_tk (getD_all h hj) b)
theorem sm_also {k : Nat} {l : List EventM} (h : ∀ e ∈ l, SmEv k e) (hk : k ≤ 20) (h0 : 0 < l.length) (how b : Int) {also : Int} (turn : Int) (ha : I64 also) : ∀ e ∈ alsoM l how b also turn, SmEv (k + 1) e := by
  have r1 := aroundM_range (n := b) (m := (l.length : Int)) (by omega)
  have r2 := aroundM_range (n := turn) (m := (l.length : Int)) (by omega)
  exact sm_tick (sm_bent h hk (by omega) how ha) (by rw [bentM_len]; omega) b
theorem sm_turn {k : Nat} {l : List EventM} (h : ∀ e ∈ l, SmEv k e) (b : Int) : ∀ e ∈ turnM l b, SmEv k e := fun e he => h e ((turnM_perm l b).subset he)
theorem sm_less {k : Nat} {l : List EventM} (h : ∀ e ∈ l, SmEv k e) (j : Nat) : ∀ e ∈ lessN l j, SmEv k e := fun e he => h e (mem_less he)
/-- The events of a generated list are small. -/
theorem lsEv_sm {out : List EventM} {n t : Int} (h : LsOk out t) (hn : 0 ≤ n ∧ n ≤ 4096) (ht : 0 ≤ t ∧ t ≤ 1000) (ho : out.length ≤ 16) : SmEv 0 (lsEv out n t) :=
  have h0 := lsEv_ok h hn ht ho
  { by_ := h0.by_, seq := h0.seq, tick := h0.tick, kind := h0.kind, n := h0.n, id := h0.id, tk := h0.tk, tl := h0.tl, refs := h0.refs
    nrefs := by
      have := lsRefs_cnt out n t
      show (lsRefs out n t 3).length ≤ _
      omega
    op := smZ
    name := by show (0 : Nat) ≤ 100; omega
    see := by show (0 : Nat) ≤ 100; omega
    broader := by simp [lsEv, zTermG]
    nbroader := by show (0 : Nat) ≤ _; omega
    posts := by simp [lsEv]
    nposts := by show (0 : Nat) ≤ _; omega }
theorem lsSt_sm (l : List Int) : ∀ i, i ≤ 16 → ∀ x ∈ (lsSt l i).1, SmEv 0 x
  | 0, _ => by simp [lsSt_zero]
  | i + 1, hi => by
    have h := lsSt_ok l i (by omega)
    have ht := lsSt_tick l i
    have hl := lsSt_len l i
    intro x hx
    rw [lsSt] at hx
    rcases List.mem_append.1 hx with hx | hx
    · exact lsSt_sm l i (by omega) x hx
    · rw [List.mem_singleton.1 hx]
      exact lsEv_sm h (lsN_rng l i) (by omega) (by omega)
theorem listG_sm (l : List Int) : ∀ x ∈ listG l, SmEv 0 x := lsSt_sm l _ (by have := listN_le l; omega)
/-- What the contracts of Closed ask of a list. -/
def ClOk (x : List EventM) : Prop := (x.length < 20 ∨ 384 < x.length) ∧ x.length ≤ 1000 ∧ ∀ e ∈ sortM x, OkEv e
theorem clOk_of {k : Nat} {x : List EventM} (hk : k ≤ 20) (hl : x.length < 20) (h : ∀ e ∈ x, SmEv k e) : ClOk x := ⟨.inl hl, by omega, fun e he => sm_ev (h e (sortM_mem he)) hk⟩
theorem lists_ok {l : List EventM} (hl : l.length ≤ 8) (h : ∀ e ∈ l, SmEv 0 e) (how b : Int) {also : Int} (turn : Int) (ha : I64 also) : ∀ x ∈ listsM l how b also turn, ClOk x := by
  intro x hx
  rcases List.mem_append.1 hx with hx | hx
  · simp only [List.mem_cons, List.not_mem_nil, or_false] at hx
    rcases hx with rfl | rfl | rfl | rfl
    · exact clOk_of (k := 0) (by omega) (by omega) h
    · exact clOk_of (k := 0) (by omega) (by rw [turnM_len]; omega) (sm_turn h turn)
    · exact clOk_of (k := 0) (by omega) (by simp) (by simp)
    · refine ⟨.inr (by rw [z385_len]; omega), by rw [z385_len]; omega, fun e he => ?_⟩
      rw [List.eq_of_mem_replicate (sortM_mem he)]
      exact zEv_ok
  · split at hx
    · rename_i h0
      have r1 := aroundM_range (n := b) (m := (l.length : Int)) (by omega)
      simp only [List.mem_cons, List.not_mem_nil, or_false] at hx
      rcases hx with rfl | rfl | rfl | rfl | rfl
      · exact clOk_of (k := 1) (by omega) (by rw [bentM_len]; omega) (sm_bent h (by omega) (by omega) how ha)
      · exact clOk_of (k := 1) (by omega) (by rw [alsoM_len]; omega) (sm_also h (by omega) h0 how b turn ha)
      · exact clOk_of (k := 0) (by omega) (by rw [lessN_len (by omega)]; omega) (sm_less h _)
      · refine clOk_of (k := 0) (by omega) (by simp; omega) fun e he => ?_
        rcases List.mem_append.1 he with he | he
        · exact h e he
        · rw [List.mem_singleton.1 he]; exact getD_all h (by omega)
      · exact clOk_of (k := 1) (by omega) (by rw [turnM_len, alsoM_len]; omega) (sm_turn (sm_also h (by omega) h0 how b turn ha) how)
    · simp at hx
end Go.Proofs.Ytabjaaonfaejmaa

namespace Go.Proofs.Ytabjaaonfaejmaa
open Go.Av

def sameEvM (a b : EventM) : Bool := a.By == b.By && a.Seq == b.Seq && a.Tick == b.Tick && a.Kind == b.Kind && sameID a.ID b.ID && a.N == b.N && sameL samePostM a.Posts b.Posts && sameL sameName a.Refs b.Refs && sameTermM a.Term b.Term && sameOpM a.Op b.Op


set_option maxRecDepth 100000 in
set_option maxHeartbeats 2000000 in
theorem same_ok (G) (a b : EventM) (h : OkEv a) : Gives Try.prog G 32 [eventD a, eventD b] [bD (sameEvM a b)] := by
  have hnr := h.nrefs
  have hnb := h.nbroader
  have hnp := h.nposts
  have hsl := sameL_len (f := samePostM) (a := a.Posts) (b := b.Posts)
  skip
  refine gives_intro [] [] [] Try.func32 rfl (by rfl) (by simp [Try.ntmps32]) fun F hP hG hN hR => ?_
  rw [Try.ntmps32] at hN
  have hA := And.intro hN (And.intro hP (And.intro hG (And.intro hR.1 (And.intro hR.2.1 hR.2.2.1))))
  have hE := And.intro @Try.results32 (And.intro @eqId (@eqName))
  refine WS [2, 3] [2, 3] ?_
  apply aw_seq
  refine WS [2, 3, 54] [2, 3] ?_
  refine WI (fun hb => ?_) (fun hb => ?_)
  · skip
    have hv : sameEvM a b = false := by unfold sameEvM sameID; grind
    have hE := And.intro hE hv
    refine WS [4] [] ?_
    apply aw_ret
    apply q_ret_seq
    simp only [QRet, QRetM, QRetX, retsX_nil, retsX_cons, objsAre, resA, mapO_nil, mapO_cons, vD_dat, vD_nils, vD_rp, vD_osl, vD_ptr, vD_agg, vD_fn, vL_dat, vL_app, viewL, avA, datsOf, fillA, seval, ↓List.forall_mem_cons, Op.operands, hP, hG, tiA, hE]
    all_goals try (first | done | rfl | trivial)
    all_goals (unfold sameEvM; grind)
  · skip
    have hq : (a.By = b.By ∧ a.Seq = b.Seq ∧ a.Tick = b.Tick ∧ a.Kind = b.Kind ∧ sameID a.ID b.ID = true ∧ a.N = b.N) ∧ a.Posts.length = b.Posts.length := by unfold sameID; grind
    have hlen := hq.2
    apply aw_skip
    apply q_seq
    apply aw_seq
    refine WS [2, 3, 5] [2, 3] ?_
    apply aw_block
    refine WL (ι := {i : Nat // i ≤ a.Posts.length ∧ ∀ j, j < i → samePostM (a.Posts.getD j default) (b.Posts.getD j default) = true}) [2, 3] [2, 3] (fun ⟨i, hih⟩ => [(5, .dat (iD i))]) (fun ⟨i, hih⟩ => []) (fun ⟨i, hih⟩ => a.Posts.length - i) (⟨0, by omega, fun j h => absurd h (Nat.not_lt_zero j)⟩) ?_
    rintro ⟨i, hih⟩
    dsimp only [List.cons_append, List.nil_append]
    obtain ⟨hi, hall⟩ := id hih
    apply aw_seq
    refine WS [2, 3, 5, 59] [2, 3] ?_
    refine WI (fun hb => ?_) (fun hb => ?_)
    · skip
      apply aw_skip
      apply q_seq
      apply aw_seq
      apply aw_block
      apply aw_rgds [2, 3, 5, 73] [2, 3] [0, 1, 2, 3, 4, 5, 6, 7, 8, 9, 10, 11] []
      · rw [hP]; kernel_rfl
      · exact hR
      · kernel_rfl
      · (repeat (apply PickL.cons; exact rfl)); exact PickL.nil _
      · simp (maxSteps := 2000000) (disch := omega) only [avR2, avA, datsOf, fillA, seval, ↓List.forall_mem_cons, Op.operands, hA, tiA, hE]
        (repeat' refine And.intro ?_ ?_) <;> try exact SD
        refine CallC.use (gvF hP hG (rpost_ok G (a.Posts.getD i default) (b.Posts.getD i default) (by have := getD_all (p := fun p : PostM => p.Path.length ≤ 1000) (l := a.Posts) (fun p hp => (h.posts p hp).2.1) (i := i) (by omega); omega))) rfl ?_
        try simp (maxSteps := 2000000) (disch := omega) only [avR2, avA, datsOf, fillA, seval, ↓List.forall_mem_cons, Op.operands, hA, tiA, hE]
        exact SC
      refine WI (fun hb => ?_) (fun hb => ?_)
      · skip
        have hv : sameEvM a b = false := by
          have := sameL_bad (f := samePostM) (a := a.Posts) (b := b.Posts) i (by omega) hlen (by grind)
          unfold sameEvM; rw [this]; simp
        have hE := And.intro hE hv
        refine WS [4] [] ?_
        apply aw_ret
        apply q_ret_block
        apply q_ret_seq
        apply q_ret_loop
        apply q_ret_block
        apply q_ret_seq
        simp only [QRet, QRetM, QRetX, retsX_nil, retsX_cons, objsAre, resA, mapO_nil, mapO_cons, vD_dat, vD_nils, vD_rp, vD_osl, vD_ptr, vD_agg, vD_fn, vL_dat, vL_app, viewL, avA, datsOf, fillA, seval, ↓List.forall_mem_cons, Op.operands, hP, hG, tiA, hE]
        all_goals try (first | done | rfl | trivial)
        all_goals (unfold sameEvM; grind)
      · skip
        have hok : samePostM (a.Posts.getD i default) (b.Posts.getD i default) = true := by grind
        apply aw_skip
        apply q_block
        apply q_seq
        refine WQ [2, 3, 5] [2, 3] ?_
        refine WN (⟨i + 1, by omega, allstep hih.2 hok⟩)
    · skip
      apply aw_exit
      apply q_exit_seq
      obtain rfl : i = a.Posts.length := by omega
      have hp : sameL samePostM a.Posts b.Posts = true := sameL_all hlen hall
      apply q_exit_loop
      apply q_exit
      apply q_seq
      apply aw_regs [4] []
      · simp (maxSteps := 2000000) (disch := omega) only [avR2, avA, datsOf, fillA, seval, ↓List.forall_mem_cons, Op.operands, hA, tiA, hE]
        (repeat' refine And.intro ?_ ?_) <;> try exact SD
        refine CallC.use (gvF hP hG (rnames_ok G a.Refs b.Refs (by omega))) rfl ?_
        try simp (maxSteps := 2000000) (disch := omega) only [avR2, avA, datsOf, fillA, seval, ↓List.forall_mem_cons, Op.operands, hA, tiA, hE]
        (repeat' refine And.intro ?_ ?_) <;> try exact SD
        refine CallGC.use rfl (fun hg => ⟨by first | trivial | simp_all [gdAll], gvF hP hG (rterm_ok G a.Term b.Term (by omega))⟩) ?_
        try simp (maxSteps := 2000000) (disch := omega) only [avR2, avA, datsOf, fillA, seval, ↓List.forall_mem_cons, Op.operands, hA, tiA, hE]
        (repeat' refine And.intro ?_ ?_) <;> try exact SD
        refine CallGC.use rfl (fun hg => ⟨by first | trivial | simp_all [gdAll], gvF hP hG (rop_ok G a.Op b.Op (szOp_of h.op))⟩) ?_
        try simp (maxSteps := 2000000) (disch := omega) only [avR2, avA, datsOf, fillA, seval, ↓List.forall_mem_cons, Op.operands, hA, tiA, hE]
        exact SC
      apply aw_ret
      simp only [QRet, QRetM, QRetX, retsX_nil, retsX_cons, objsAre, resA, mapO_nil, mapO_cons, vD_dat, vD_nils, vD_rp, vD_osl, vD_ptr, vD_agg, vD_fn, vL_dat, vL_app, viewL, avA, datsOf, fillA, seval, ↓List.forall_mem_cons, Op.operands, hP, hG, tiA, hE]
      all_goals try (first | done | rfl | trivial)
      all_goals (unfold sameEvM; grind)

theorem sameAll_ok (G) (a b : List EventM) (ha : a.length ≤ 1000) (h : ∀ e ∈ a, OkEv e) : Gives Try.prog G 21 [eventsD a, eventsD b] [bD (sameL sameEvM a b)] := by
  refine gives_intro [] [] [] Try.func21 rfl (by rfl) (by simp [Try.ntmps21]) fun F hP hG hN hR => ?_
  rw [Try.ntmps21] at hN
  have hA := And.intro hN (And.intro hP (And.intro hG (And.intro hR.1 (And.intro hR.2.1 hR.2.2.1))))
  have hE := @Try.results21
  refine WS [0, 1] [] ?_
  apply aw_seq
  refine WS [0, 1, 10] [] ?_
  refine WI (fun hb => ?_) (fun hb => ?_)
  · skip
    have hv : sameL sameEvM a b = false := sameL_len (by omega)
    have hE := And.intro hE hv
    refine WS [4] [] ?_
    apply aw_ret
    apply q_ret_seq
    simp only [QRet, QRetM, QRetX, retsX_nil, retsX_cons, objsAre, resA, mapO_nil, mapO_cons, vD_dat, vD_nils, vD_rp, vD_osl, vD_ptr, vD_agg, vD_fn, vL_dat, vL_app, viewL, avA, datsOf, fillA, seval, ↓List.forall_mem_cons, Op.operands, hP, hG, tiA, hE]
    all_goals try (first | done | rfl | trivial)
  · skip
    have hlen : a.length = b.length := by omega
    apply aw_skip
    apply q_seq
    apply aw_seq
    refine WS [0, 1, 5] [] ?_
    apply aw_block
    refine WL (ι := {i : Nat // i ≤ a.length ∧ ∀ j, j < i → sameEvM (a.getD j default) (b.getD j default) = true}) [0, 1] [] (fun ⟨i, hih⟩ => [(5, .dat (iD i))]) (fun ⟨i, hih⟩ => []) (fun ⟨i, hih⟩ => a.length - i) (⟨0, by omega, fun j h => absurd h (Nat.not_lt_zero j)⟩) ?_
    rintro ⟨i, hih⟩
    dsimp only [List.cons_append, List.nil_append]
    obtain ⟨hi, hall⟩ := id hih
    apply aw_seq
    refine WS [0, 1, 5, 14] [] ?_
    refine WI (fun hb => ?_) (fun hb => ?_)
    · skip
      apply aw_skip
      apply q_seq
      apply aw_seq
      apply aw_block
      apply aw_rgds [0, 1, 5, 26] [] [0, 1, 2, 3, 4, 5, 6, 7, 8, 9] []
      · rw [hP]; kernel_rfl
      · exact hR
      · kernel_rfl
      · (repeat (apply PickL.cons; exact rfl)); exact PickL.nil _
      · simp (maxSteps := 2000000) (disch := omega) only [avR2, avA, datsOf, fillA, seval, ↓List.forall_mem_cons, Op.operands, hA, tiA, hE]
        (repeat' refine And.intro ?_ ?_) <;> try exact SD
        refine CallC.use (gvF hP hG (same_ok G (a.getD i default) (b.getD i default) (getD_all h (by omega)))) rfl ?_
        try simp (maxSteps := 2000000) (disch := omega) only [avR2, avA, datsOf, fillA, seval, ↓List.forall_mem_cons, Op.operands, hA, tiA, hE]
        exact SC
      refine WI (fun hb => ?_) (fun hb => ?_)
      · skip
        have hv : sameL sameEvM a b = false := sameL_bad i (by omega) hlen (by grind)
        have hE := And.intro hE hv
        refine WS [4] [] ?_
        apply aw_ret
        apply q_ret_block
        apply q_ret_seq
        apply q_ret_loop
        apply q_ret_block
        apply q_ret_seq
        simp only [QRet, QRetM, QRetX, retsX_nil, retsX_cons, objsAre, resA, mapO_nil, mapO_cons, vD_dat, vD_nils, vD_rp, vD_osl, vD_ptr, vD_agg, vD_fn, vL_dat, vL_app, viewL, avA, datsOf, fillA, seval, ↓List.forall_mem_cons, Op.operands, hP, hG, tiA, hE]
        all_goals try (first | done | rfl | trivial)
      · skip
        have hok : sameEvM (a.getD i default) (b.getD i default) = true := by grind
        apply aw_skip
        apply q_block
        apply q_seq
        refine WQ [0, 1, 5] [] ?_
        refine WN (⟨i + 1, by omega, allstep hih.2 hok⟩)
    · skip
      apply aw_exit
      apply q_exit_seq
      obtain rfl : i = a.length := by omega
      have hv : sameL sameEvM a b = true := sameL_all hlen hall
      have hE := And.intro hE hv
      apply q_exit_loop
      apply q_exit
      apply q_seq
      refine WS [4] [] ?_
      apply aw_ret
      simp only [QRet, QRetM, QRetX, retsX_nil, retsX_cons, objsAre, resA, mapO_nil, mapO_cons, vD_dat, vD_nils, vD_rp, vD_osl, vD_ptr, vD_agg, vD_fn, vL_dat, vL_app, viewL, avA, datsOf, fillA, seval, ↓List.forall_mem_cons, Op.operands, hP, hG, tiA, hE]
      all_goals try (first | done | rfl | trivial)

end Go.Proofs.Ytabjaaonfaejmaa

namespace Go.Proofs.Ytabjaaonfaejmaa
open Go.Av

def orderM (l : List EventM) (how b turn : Int) : List EventM := turnM l turn ++ if 0 < l.length then [spoiltM (l.getD (aroundM b l.length).toNat default) how b] else []
theorem sameL_refl {α : Type} {f : α → α → Bool} (h : ∀ x, f x x = true) : ∀ l : List α, sameL f l l = true
  | [] => rfl
  | x :: l => by rw [sameL, h, sameL_refl h l]; rfl
theorem sameStr_refl (s : ByteArray) : sameStr s s = true := by simp [sameStr]
theorem sameID_refl (s : IdM) : sameID s s = true := by simp [sameID]
theorem sameOp_refl (o : OpM) : sameOpM o o = true := by
  simp [sameOpM, sameID_refl, sameSpot, sameStr_refl, sameL_refl sameStr_refl, sameL_refl (f := samePair) (fun x => by simp [samePair]), sameL_refl sameID_refl]
theorem sameTerm_refl (t : TermM) : sameTermM t t = true := by simp [sameTermM, sameStr_refl, sameL_refl sameStr_refl]
theorem samePost_refl (t : PostM) : samePostM t t = true := by simp [samePostM, sameID_refl, sameL_refl sameStr_refl]
theorem sameEv_refl (e : EventM) : sameEvM e e = true := by
  simp [sameEvM, sameID_refl, sameL_refl samePost_refl, sameL_refl sameName_refl, sameTerm_refl, sameOp_refl]
theorem sameAll_refl (l : List EventM) : sameL sameEvM l l = true := sameL_refl sameEv_refl l
theorem orderM_len {l : List EventM} (h : l.length ≤ 8) (how b turn : Int) : (orderM l how b turn).length ≤ 9 := by
  unfold orderM
  rw [List.length_append, turnM_len]
  split <;> simp <;> omega
theorem orderM_sm {l : List EventM} (h : ∀ e ∈ l, SmEv 0 e) (how : Int) {b : Int} (turn : Int) (hb : I64 b) : ∀ e ∈ orderM l how b turn, SmEv 1 e := fun e he => by
  rcases List.mem_append.1 he with he | he
  · exact sm_up (sm_turn h turn e he)
  · split at he
    · rename_i h0
      have r1 := aroundM_range (n := b) (m := (l.length : Int)) (by omega)
      rw [List.mem_singleton.1 he]
      exact sm_sp (getD_all h (by omega)) (by omega) hb _
    · simp at he
end Go.Proofs.Ytabjaaonfaejmaa

namespace Go.Proofs.Ytabjaaonfaejmaa
open Go.Av


set_option maxRecDepth 100000 in
set_option maxHeartbeats 8000000 in
theorem order_law (G) (q : List Int) (how b turn : Int) (nm : NameM) (hq : ∀ n ∈ q, I64 n) (hh : I64 how) (hbb : I64 b) (ht : I64 turn) : Gives Try.prog G 6 [isD q, iD how, iD b, iD turn, nameD nm] [bD true] := by
  have hok := listG_sm q
  have hle := listG_le q
  have hst := sort_turn q turn
  have hs := listG_sort q
  have hq0 := listG_ok G q hq
  generalize listG q = l at *
  have hol := orderM_len hle how b turn
  have hom := orderM_sm hok how turn hbb
  have htk : List.take l.length (turnM l turn) = turnM l turn := List.take_of_length_le (by rw [turnM_len]; omega)
  have hsl : (sortM (orderM l how b turn)).length = (orderM l how b turn).length := insM_len _ _
  have hr1 := sameAll_refl (sortM (orderM l how b turn))
  have hr2 := sameAll_refl l
  skip
  skip
  refine gives_intro [] [22] [] Try.func6 rfl (by rfl) (by simp [Try.ntmps6]) fun F hP hG hN hR => ?_
  rw [Try.ntmps6] at hN
  have hA := And.intro hN (And.intro hP (And.intro hG (And.intro hR.1 (And.intro hR.2.1 hR.2.2.1))))
  have hE := And.intro @Try.results6 (And.intro @turnM_len (And.intro @htk (And.intro @nth_row (And.intro @Nat.min_self (And.intro @eqName (And.intro @hr1 (And.intro @hr2 (And.intro @hst (@hs)))))))))
  refine WS [0, 1, 2, 3, 9] [9, 22] ?_
  have hc := gvF hP hG (hq0)
  refine WSc [1, 2, 3, 9, 11] [9, 22] ?_
  apply aw_regs [1, 2, 3, 9, 11, 12] [9, 38, 39, 22]
  · simp (maxSteps := 2000000) (disch := omega) only [avR2, avA, datsOf, fillA, seval, ↓List.forall_mem_cons, Op.operands, hA, tiA, hE]
    (repeat' refine And.intro ?_ ?_) <;> try exact SD
    refine CallC.useX (fun _ => 22) [40] (by simp [LitD, hR.2.1]) (gvFX hP hG (turned_okX G l turn ht (by omega))) rfl (lentX_of hN (by first | trivial | ((try simp only [haveL, AObj.ren, AV.ren, renL, ren_row, List.map_cons, List.map_nil, objL_cons, objL_nil]) <;> ((repeat' apply And.intro) <;> first | trivial | rfl))) (by rfl)) ?_
    try simp (maxSteps := 2000000) (disch := omega) only [avR2, avA, datsOf, fillA, seval, ↓List.forall_mem_cons, Op.operands, hA, tiA, hE, avX]
    exact SC
  refine aw_meet (.of [(3, .dat (iD turn)), (9, .ptr 9 2 0 0), (11, .dat (eventsD l)), (12, .dat (eventsD (orderM l how b turn)))] [(9, ⟨2, [.dat (nameD nm)]⟩)]) ?_ ?_
  · skip
    refine WS [1, 2, 3, 9, 11, 12, 25] [9, 38, 39, 22] ?_
    refine WI (fun hb => ?_) (fun hb => ?_)
    · skip
      have r1 := aroundM_range (n := b) (m := (l.length : Int)) (by omega)
      have hom2 : orderM l how b turn = turnM l turn ++ [spoiltM (l.getD (aroundM b l.length).toNat default) how b] := by unfold orderM; rw [if_pos (by omega)]
      have htl := turnM_len l turn
      have hc := gvF hP hG (around_ok G b l.length hbb (by omega) (by unfold I64; omega))
      refine WSc [1, 2, 3, 9, 11, 12, 13] [9, 38, 39, 22] ?_
      have hc := gvF hP hG (spoilt_ok G (l.getD (aroundM b l.length).toNat default) how b (sm_ev (getD_all hok (by omega)) (by omega)) hh hbb)
      refine WQc [3, 9, 11, 12] [9, 38, 39, 22] ?_
      have hta : List.take (l.length + 1) (List.map (fun e => eventD e) (turnM l turn) ++ [eventD (spoiltM (l.getD (aroundM b l.length).toNat default) how b)]) = List.map (fun e => eventD e) (orderM l how b turn) := by
        rw [List.take_of_length_le (by simp [turnM_len]), hom2, List.map_append]
        rfl
      have hE := And.intro hE hta
      show Le F _ _
      refine le_frz (ds := (turnM l turn ++ [spoiltM (l.getD (aroundM b l.length).toNat default) how b]).map (fun e => eventD e)) 39 hR.2.2.2 rfl (by have e := datE_map ((turnM l turn ++ [spoiltM (l.getD (aroundM b l.length).toNat default) how b]).map (fun e => eventD e)); simpa only [List.map_append, List.map_cons, List.map_nil] using e) ?_
      refine Le.of ?_ ?_
      · try simp (disch := omega) only [LeE, LeO, avA, datsOf, fillA, seval, ↓List.forall_mem_cons, Op.operands, hE]
        all_goals first | done | (repeat' apply And.intro) <;> first | rfl | omega | assumption | (simp only [AV.dat.injEq, Dat.int.injEq, true_and]; omega) | (congr <;> omega)
      · try simp (disch := omega) only [LeE, LeO, avA, datsOf, fillA, seval, ↓List.forall_mem_cons, Op.operands, hE]
        all_goals first | done | (repeat' apply And.intro) <;> first | rfl | omega | assumption | (simp only [AV.dat.injEq, Dat.int.injEq, true_and]; omega) | (congr <;> omega)
    · skip
      have hom2 : orderM l how b turn = turnM l turn := by unfold orderM; rw [if_neg (by omega), List.append_nil]
      have hE := And.intro hE hom2
      refine aw_frz 22 hR.2.2.2 rfl (datE_map _) ?_
      apply aw_skip
      refine Le.of ?_ ?_
      · try simp (disch := omega) only [LeE, LeO, avA, datsOf, fillA, seval, ↓List.forall_mem_cons, Op.operands, hE]
        all_goals first | done | (repeat' apply And.intro) <;> first | rfl | omega | assumption | (simp only [AV.dat.injEq, Dat.int.injEq, true_and]; omega) | (congr <;> omega)
      · try simp (disch := omega) only [LeE, LeO, avA, datsOf, fillA, seval, ↓List.forall_mem_cons, Op.operands, hE]
        all_goals first | done | (repeat' apply And.intro) <;> first | rfl | omega | assumption | (simp only [AV.dat.injEq, Dat.int.injEq, true_and]; omega) | (congr <;> omega)
  have hc := gvF hP hG (sort_ok G (orderM l how b turn) (by omega))
  refine WSc [3, 9, 11, 12, 14] [9, 38, 39, 22] ?_
  apply aw_seq
  apply aw_regs [9, 12, 56] [9, 38, 39, 22]
  · simp (maxSteps := 2000000) (disch := omega) only [avR2, avA, datsOf, fillA, seval, ↓List.forall_mem_cons, Op.operands, hA, tiA, hE]
    (repeat' refine And.intro ?_ ?_) <;> try exact SD
    refine CallC.use (gvF hP hG (rsort_ok G (orderM l how b turn) (by omega))) rfl ?_
    try simp (maxSteps := 2000000) (disch := omega) only [avR2, avA, datsOf, fillA, seval, ↓List.forall_mem_cons, Op.operands, hA, tiA, hE]
    (repeat' refine And.intro ?_ ?_) <;> try exact SD
    refine CallC.use (gvF hP hG (sameAll_ok G (sortM (orderM l how b turn)) (sortM (orderM l how b turn)) (by omega) (fun e he => sm_ev (hom e (sortM_mem he)) (by omega)))) rfl ?_
    try simp (maxSteps := 2000000) (disch := omega) only [avR2, avA, datsOf, fillA, seval, ↓List.forall_mem_cons, Op.operands, hA, tiA, hE]
    (repeat' refine And.intro ?_ ?_) <;> try exact SD
    refine CallGC.use rfl (fun hg => ⟨by first | trivial | simp_all [gdAll], gvF hP hG (turned_ok G l turn ht (by omega))⟩) ?_
    try simp (maxSteps := 2000000) (disch := omega) only [avR2, avA, datsOf, fillA, seval, ↓List.forall_mem_cons, Op.operands, hA, tiA, hE]
    (repeat' refine And.intro ?_ ?_) <;> try exact SD
    refine CallGC.use rfl (fun hg => ⟨by first | trivial | simp_all [gdAll], gvF hP hG (sort_ok G (turnM l turn) (by rw [turnM_len]; omega))⟩) ?_
    try simp (maxSteps := 2000000) (disch := omega) only [avR2, avA, datsOf, fillA, seval, ↓List.forall_mem_cons, Op.operands, hA, tiA, hE]
    (repeat' refine And.intro ?_ ?_) <;> try exact SD
    refine CallGC.use rfl (fun hg => ⟨by first | trivial | simp_all [gdAll], gvF hP hG (sort_ok G l (by omega))⟩) ?_
    try simp (maxSteps := 2000000) (disch := omega) only [avR2, avA, datsOf, fillA, seval, ↓List.forall_mem_cons, Op.operands, hA, tiA, hE]
    (repeat' refine And.intro ?_ ?_) <;> try exact SD
    refine CallGC.use rfl (fun hg => ⟨by first | trivial | simp_all [gdAll], gvF hP hG (sameAll_ok G l l (by omega) (fun e he => sm_ev (hok e he) (by omega)))⟩) ?_
    try simp (maxSteps := 2000000) (disch := omega) only [avR2, avA, datsOf, fillA, seval, ↓List.forall_mem_cons, Op.operands, hA, tiA, hE]
    exact SC
  refine WI (fun hb => ?_) (fun hb => ?_)
  · skip
    refine WS [10] [22] ?_
    apply aw_ret
    apply q_ret_seq
    simp only [QRet, QRetM, QRetX, retsX_nil, retsX_cons, objsAre, resA, mapO_nil, mapO_cons, vD_dat, vD_nils, vD_rp, vD_osl, vD_ptr, vD_agg, vD_fn, vL_dat, vL_app, viewL, avA, datsOf, fillA, seval, ↓List.forall_mem_cons, Op.operands, hP, hG, tiA, hE]
    all_goals try (first | done | rfl | trivial)
    all_goals first | done | (have h0 : findM [] nm = -1 := rfl; simp [h0])
  · skip
    apply aw_skip
    apply q_seq
    apply aw_seq
    refine WS [9, 12, 15] [9, 38, 39, 22] ?_
    apply aw_block
    refine WL (ι := {i : Nat // i ≤ (orderM l how b turn).length}) [9, 12] [9, 38, 39, 22] (fun ⟨i, hi⟩ => [(15, .dat (iD i))]) (fun ⟨i, hi⟩ => []) (fun ⟨i, hi⟩ => (orderM l how b turn).length - i) (⟨0, by omega⟩) ?_
    rintro ⟨i, hi⟩
    dsimp only [List.cons_append, List.nil_append]
    apply aw_seq
    refine WS [9, 12, 15, 60] [9, 38, 39, 22] ?_
    refine WI (fun hb => ?_) (fun hb => ?_)
    · skip
      apply aw_skip
      apply q_seq
      apply aw_seq
      apply aw_block
      apply aw_seq
      apply aw_rgds [9, 12, 15, 90] [9, 38, 39, 22] [0, 1, 2, 3, 4, 5, 6, 7, 8, 9, 10, 11, 12, 13, 14, 15, 16, 17, 18, 19, 20, 21, 22, 23, 24, 25, 26, 27] []
      · rw [hP]; kernel_rfl
      · exact hR
      · kernel_rfl
      · (repeat (apply PickL.cons; exact rfl)); exact PickL.nil _
      · simp (maxSteps := 2000000) (disch := omega) only [avR2, avA, datsOf, fillA, seval, ↓List.forall_mem_cons, Op.operands, hA, tiA, hE]
        (repeat' refine And.intro ?_ ?_) <;> try exact SD
        refine CallC.use (gvF hP hG (name_ok G ((orderM l how b turn).getD i default))) rfl ?_
        try simp (maxSteps := 2000000) (disch := omega) only [avR2, avA, datsOf, fillA, seval, ↓List.forall_mem_cons, Op.operands, hA, tiA, hE]
        (repeat' refine And.intro ?_ ?_) <;> try exact SD
        refine CallC.use (gvF hP hG (rname_ok G ((orderM l how b turn).getD i default))) rfl ?_
        try simp (maxSteps := 2000000) (disch := omega) only [avR2, avA, datsOf, fillA, seval, ↓List.forall_mem_cons, Op.operands, hA, tiA, hE]
        (repeat' refine And.intro ?_ ?_) <;> try exact SD
        refine CallGC.use rfl (fun hg => ⟨by first | trivial | simp_all [gdAll], gvF hP hG (rname_ok G ((orderM l how b turn).getD i default))⟩) ?_
        try simp (maxSteps := 2000000) (disch := omega) only [avR2, avA, datsOf, fillA, seval, ↓List.forall_mem_cons, Op.operands, hA, tiA, hE]
        (repeat' refine And.intro ?_ ?_) <;> try exact SD
        refine CallGC.use rfl (fun hg => ⟨by first | trivial | simp_all [gdAll], gvF hP hG (find_ok G (orderM l how b turn) (evName ((orderM l how b turn).getD i default)) (by omega))⟩) ?_
        try simp (maxSteps := 2000000) (disch := omega) only [avR2, avA, datsOf, fillA, seval, ↓List.forall_mem_cons, Op.operands, hA, tiA, hE]
        (repeat' refine And.intro ?_ ?_) <;> try exact SD
        refine CallGC.use rfl (fun hg => ⟨by first | trivial | simp_all [gdAll], gvF hP hG (rname_ok G ((orderM l how b turn).getD i default))⟩) ?_
        try simp (maxSteps := 2000000) (disch := omega) only [avR2, avA, datsOf, fillA, seval, ↓List.forall_mem_cons, Op.operands, hA, tiA, hE]
        (repeat' refine And.intro ?_ ?_) <;> try exact SD
        refine CallGC.use rfl (fun hg => ⟨by first | trivial | simp_all [gdAll], gvF hP hG (rfind_ok G (orderM l how b turn) (evName ((orderM l how b turn).getD i default)) (by omega))⟩) ?_
        try simp (maxSteps := 2000000) (disch := omega) only [avR2, avA, datsOf, fillA, seval, ↓List.forall_mem_cons, Op.operands, hA, tiA, hE]
        exact SC
      refine WI (fun hb => ?_) (fun hb => ?_)
      · skip
        refine WS [10] [22] ?_
        apply aw_ret
        apply q_ret_seq
        apply q_ret_block
        apply q_ret_seq
        apply q_ret_loop
        apply q_ret_block
        apply q_ret_seq
        simp only [QRet, QRetM, QRetX, retsX_nil, retsX_cons, objsAre, resA, mapO_nil, mapO_cons, vD_dat, vD_nils, vD_rp, vD_osl, vD_ptr, vD_agg, vD_fn, vL_dat, vL_app, viewL, avA, datsOf, fillA, seval, ↓List.forall_mem_cons, Op.operands, hP, hG, tiA, hE]
        all_goals try (first | done | rfl | trivial)
        all_goals first | done | (have h0 : findM [] nm = -1 := rfl; simp [h0])
      · skip
        apply aw_skip
        apply q_seq
        refine WS [9, 12, 15, 16] [9, 38, 39, 22] ?_
        apply aw_block
        refine WL (ι := {k : Nat // k ≤ (orderM l how b turn).length}) [9, 12, 15] [9, 38, 39, 22] (fun ⟨k, hk⟩ => [(16, .dat (iD k))]) (fun ⟨k, hk⟩ => []) (fun ⟨k, hk⟩ => (orderM l how b turn).length - k) (⟨0, by omega⟩) ?_
        rintro ⟨k, hk⟩
        dsimp only [List.cons_append, List.nil_append]
        apply aw_seq
        refine WS [9, 12, 15, 16, 94] [9, 38, 39, 22] ?_
        refine WI (fun hb => ?_) (fun hb => ?_)
        · skip
          apply aw_skip
          apply q_seq
          apply aw_seq
          apply aw_block
          apply aw_rgds [9, 12, 15, 16, 17] [9, 38, 39, 22] [0, 1, 2, 3, 4, 5, 6, 7, 8, 9] []
          · rw [hP]; kernel_rfl
          · exact hR
          · kernel_rfl
          · (repeat (apply PickL.cons; exact rfl)); exact PickL.nil _
          · simp (maxSteps := 2000000) (disch := omega) only [avR2, avA, datsOf, fillA, seval, ↓List.forall_mem_cons, Op.operands, hA, tiA, hE]
            (repeat' refine And.intro ?_ ?_) <;> try exact SD
            refine CallC.use (gvF hP hG (before_ok G ((orderM l how b turn).getD i default) ((orderM l how b turn).getD k default))) rfl ?_
            try simp (maxSteps := 2000000) (disch := omega) only [avR2, avA, datsOf, fillA, seval, ↓List.forall_mem_cons, Op.operands, hA, tiA, hE]
            exact SC
          apply aw_seq
          apply aw_rgds [9, 12, 15, 16, 17, 130] [9, 38, 39, 22] [0, 1, 2, 3, 4, 5, 6, 7, 8, 9, 10, 11, 12, 13, 14, 15, 16, 17, 18, 19, 20, 21, 22, 23, 24] []
          · rw [hP]; kernel_rfl
          · exact hR
          · kernel_rfl
          · (repeat (apply PickL.cons; exact rfl)); exact PickL.nil _
          · simp (maxSteps := 2000000) (disch := omega) only [avR2, avA, datsOf, fillA, seval, ↓List.forall_mem_cons, Op.operands, hA, tiA, hE]
            (repeat' refine And.intro ?_ ?_) <;> try exact SD
            refine CallC.use (gvF hP hG (rbefore_ok G ((orderM l how b turn).getD i default) ((orderM l how b turn).getD k default))) rfl ?_
            try simp (maxSteps := 2000000) (disch := omega) only [avR2, avA, datsOf, fillA, seval, ↓List.forall_mem_cons, Op.operands, hA, tiA, hE]
            (repeat' refine And.intro ?_ ?_) <;> try exact SD
            refine CallGC.use rfl (fun hg => ⟨by first | trivial | simp_all [gdAll], gvF hP hG (before_ok G ((orderM l how b turn).getD k default) ((orderM l how b turn).getD i default))⟩) ?_
            try simp (maxSteps := 2000000) (disch := omega) only [avR2, avA, datsOf, fillA, seval, ↓List.forall_mem_cons, Op.operands, hA, tiA, hE]
            exact SC
          refine WI (fun hb => ?_) (fun hb => ?_)
          · skip
            exfalso
            have h1 := @before_asymm ((orderM l how b turn).getD i default) ((orderM l how b turn).getD k default)
            grind --STOP
          · skip
            apply aw_skip
            apply q_seq
            apply aw_rgds [9, 12, 15, 16, 157] [9, 38, 39, 22] [0, 1, 2, 3, 4, 5, 6, 7, 8, 9, 10, 11, 12, 13, 14, 15, 16, 17, 18, 19, 20, 21, 22, 23, 24, 25, 26] []
            · rw [hP]; kernel_rfl
            · exact hR
            · kernel_rfl
            · (repeat (apply PickL.cons; exact rfl)); exact PickL.nil _
            · simp (maxSteps := 2000000) (disch := omega) only [avR2, avA, datsOf, fillA, seval, ↓List.forall_mem_cons, Op.operands, hA, tiA, hE]
              (repeat' refine And.intro ?_ ?_) <;> try exact SD
              refine CallGC.use rfl (fun hg => ⟨by first | trivial | simp_all [gdAll], gvF hP hG (before_ok G ((orderM l how b turn).getD k default) ((orderM l how b turn).getD i default))⟩) ?_
              try simp (maxSteps := 2000000) (disch := omega) only [avR2, avA, datsOf, fillA, seval, ↓List.forall_mem_cons, Op.operands, hA, tiA, hE]
              (repeat' refine And.intro ?_ ?_) <;> try exact SD
              refine CallGC.use rfl (fun hg => ⟨by first | trivial | simp_all [gdAll], gvF hP hG (rname_ok G ((orderM l how b turn).getD i default))⟩) ?_
              try simp (maxSteps := 2000000) (disch := omega) only [avR2, avA, datsOf, fillA, seval, ↓List.forall_mem_cons, Op.operands, hA, tiA, hE]
              (repeat' refine And.intro ?_ ?_) <;> try exact SD
              refine CallGC.use rfl (fun hg => ⟨by first | trivial | simp_all [gdAll], gvF hP hG (rname_ok G ((orderM l how b turn).getD k default))⟩) ?_
              try simp (maxSteps := 2000000) (disch := omega) only [avR2, avA, datsOf, fillA, seval, ↓List.forall_mem_cons, Op.operands, hA, tiA, hE]
              exact SC
            refine WI (fun hb => ?_) (fun hb => ?_)
            · skip
              exfalso
              have h1 := @before_total ((orderM l how b turn).getD i default) ((orderM l how b turn).getD k default)
              grind [evName] --STOP
            · skip
              apply aw_skip
              apply q_block
              apply q_seq
              refine WQ [9, 12, 15, 16] [9, 38, 39, 22] ?_
              refine WN (⟨k + 1, by omega⟩)
        · skip
          apply aw_exit
          apply q_exit_seq
          have hend : k = (orderM l how b turn).length := by omega
          subst hend
          apply q_exit_loop
          apply q_exit
          apply q_block
          apply q_seq
          refine WQ [9, 12, 15] [9, 38, 39, 22] ?_
          refine WN (⟨i + 1, by omega⟩)
    · skip
      apply aw_exit
      apply q_exit_seq
      have hend : i = (orderM l how b turn).length := by omega
      subst hend
      apply q_exit_loop
      apply q_exit
      apply q_seq
      apply aw_rgds [10] [22] [0, 1, 2, 3, 4, 5, 6, 7, 8, 9, 10, 11, 12, 13, 14, 15] []
      · rw [hP]; kernel_rfl
      · exact hR
      · kernel_rfl
      · (repeat (apply PickL.cons; exact rfl)); exact PickL.nil _
      · simp (maxSteps := 2000000) (disch := omega) only [avR2, avA, datsOf, fillA, seval, ↓List.forall_mem_cons, Op.operands, hA, tiA, hE]
        (repeat' refine And.intro ?_ ?_) <;> try exact SD
        refine CallC.use (gvF hP hG (find_ok G (orderM l how b turn) nm (by omega))) rfl ?_
        try simp (maxSteps := 2000000) (disch := omega) only [avR2, avA, datsOf, fillA, seval, ↓List.forall_mem_cons, Op.operands, hA, tiA, hE]
        (repeat' refine And.intro ?_ ?_) <;> try exact SD
        refine CallC.use (gvF hP hG (rfind_ok G (orderM l how b turn) nm (by omega))) rfl ?_
        try simp (maxSteps := 2000000) (disch := omega) only [avR2, avA, datsOf, fillA, seval, ↓List.forall_mem_cons, Op.operands, hA, tiA, hE]
        (repeat' refine And.intro ?_ ?_) <;> try exact SD
        refine CallGC.use rfl (fun hg => ⟨by first | trivial | simp_all [gdAll], gvF hP hG (find_ok G [] nm (by simp))⟩) ?_
        try simp (maxSteps := 2000000) (disch := omega) only [avR2, avA, datsOf, fillA, seval, ↓List.forall_mem_cons, Op.operands, hA, tiA, hE]
        (repeat' refine And.intro ?_ ?_) <;> try exact SD
        refine CallGC.use rfl (fun hg => ⟨by first | trivial | simp_all [gdAll], gvF hP hG (lives_ok G)⟩) ?_
        try simp (maxSteps := 2000000) (disch := omega) only [avR2, avA, datsOf, fillA, seval, ↓List.forall_mem_cons, Op.operands, hA, tiA, hE]
        exact SC
      apply aw_ret
      simp only [QRet, QRetM, QRetX, retsX_nil, retsX_cons, objsAre, resA, mapO_nil, mapO_cons, vD_dat, vD_nils, vD_rp, vD_osl, vD_ptr, vD_agg, vD_fn, vL_dat, vL_app, viewL, avA, datsOf, fillA, seval, ↓List.forall_mem_cons, Op.operands, hP, hG, tiA, hE]
      all_goals try (first | done | rfl | trivial)
      all_goals first | done | (have h0 : findM [] nm = -1 := rfl; simp [h0])

end Go.Proofs.Ytabjaaonfaejmaa

namespace Go.Proofs.Ytabjaaonfaejmaa
open Go.Av Go.ChangeShapes Go.WideShapes Go.ChangeAt Go.RowKit

abbrev Old (w : World) : Nat → Nat → Prop := fun b _ => b < w.heap.size

theorem cell_spot {w : World} {a : Addr} {v : Value} (h : w.cell? a = some v) : a.spot = none ∧ a.block < w.heap.size := by
  unfold World.cell? at h
  split at h
  · rename_i c e f hb
    split at h
    · cases h
    · rename_i hs
      exact ⟨by simpa using hs, (Array.getElem?_eq_some_iff.1 hb).1⟩
  · cases h
theorem addr_none {a : Addr} (h : a.spot = none) (n : Nat) : a.add n = ⟨a.block, a.off + n, none⟩ := by
  obtain ⟨b, o, s⟩ := a
  simp only at h
  subst h
  exact add_none b o n
theorem add_spot {a : Addr} (h : (a.add 0).spot = none) : a.spot = none := by
  obtain ⟨b, o, s⟩ := a
  cases s with
  | none => rfl
  | some s => simp [Addr.add] at h
theorem wf_i64 {n : Int} (h : (Lit.int .i64 n).wf = true) : I64 n := by
  simp only [Lit.wf, Bool.and_eq_true, decide_eq_true_eq] at h
  unfold I64
  have h1 : IntKind.i64.min = -9223372036854775808 := by decide
  have h2 : IntKind.i64.max = 9223372036854775807 := by decide
  omega

theorem rep_ints {w : World} {b : Nat} (hb : b < w.heap.size) : ∀ (zs : List Int) (off : Nat), (∀ i, i < zs.length → w.cell? ⟨b, off + i, none⟩ = some (.int .i64 (zs.getD i 0))) → RepS (Old w) w 1 (zs.map iD) (some ⟨b, off, none⟩)
  | [], _, _ => by simp [RepS]
  | z :: zs, off, h => by
    simp only [List.map_cons, RepS]
    refine ⟨b, off, rfl, by simp, ?_, rep_ints hb zs (off + 1) fun i hi => ?_⟩
    · have := h 0 (by simp)
      simp only [RepAt]
      exact ⟨hb, by simpa using this⟩
    · have := h (i + 1) (by simp; omega)
      rw [show off + 1 + i = off + (i + 1) by omega]
      simpa using this

section
variable {H : Type} {enc : TypeId × Value → H} {P : Program} {w : World}

theorem slice_of {r : Reach} {base : Nat} {t e : TypeId} {v : Value} (ht : P.underlying t = some (.slice e)) (hv : Value.okWide P w r base t v) : ∃ a len cap, v = .slice a len cap := by
  simp only [Value.okWide, ht, Cell.okWide, Cell.ok] at hv
  cases v <;> simp at hv
  exact ⟨_, _, _, rfl⟩

theorem ints_in {r : Reach} {base : Nat} {t e : TypeId} {v : Value} {d : DataW H} {ps : List MemPlace} {sp : Nat → Bool} {held : Bool} (ht : P.underlying t = some (.slice e)) (he : P.underlying e = some (.int .i64)) (hc : P.cellsOf e = 1)
    (hv : Value.okWide P w r base t v) (hd : DataW.Trod enc P w 0 sp held t v d ps) : ∃ zs : List Int, (∀ z ∈ zs, I64 z) ∧ RepX (Old w) w (isD zs) v := by
  obtain ⟨a, len, cap, rfl⟩ := slice_of ht hv
  obtain ⟨fuel, hd⟩ := hd
  rcases open_ints ht he hc hd with ⟨h1, _⟩ | ⟨a', len', cap', zs, h1, _, hl, _, hz, _, hcell, hwf⟩
  · simp [Value.cells] at h1
    obtain ⟨rfl, rfl, rfl⟩ := h1
    refine ⟨[], by simp, ?_⟩
    simp only [RepX]
    exact ⟨1, none, 0, rfl, by simp, by simp [RepS]⟩
  · simp [Value.cells] at h1
    obtain ⟨rfl, rfl, rfl⟩ := h1
    have hlz : len ≤ zs.length := by rw [hz]; split <;> omega
    refine ⟨zs.take len, fun z hz' => wf_i64 (hwf z (List.mem_of_mem_take hz')), ?_⟩
    simp only [RepX]
    refine ⟨1, some a', cap, by simp [Nat.min_eq_left hlz], by simp [Nat.min_eq_left hlz, hl], ?_⟩
    cases zs with
    | nil => simp [RepS]
    | cons z zs =>
      obtain ⟨hs, hb⟩ := cell_spot (hcell 0 (by simp))
      have hs := add_spot hs
      rw [addr_none hs 0] at hb
      simp only at hb
      have ha : a' = ⟨a'.block, a'.off, none⟩ := by
        obtain ⟨b, o, s⟩ := a'
        simp only at hs
        subst hs
        rfl
      rw [ha]
      refine rep_ints hb _ _ fun i hi => ?_
      have h2 := hcell i (by simp at hi; simp; omega)
      rw [addr_none hs i] at h2
      rw [h2]
      simp at hi
      simp [List.getD_eq_getElem?_getD, List.getElem?_take, show i < len by omega]

theorem same_of_ext {w' : World} (h : Ext (fun _ => False) w w') {p : MemPlace} (hp : p.block < w.heap.size) : w.sameAt w' p := by
  have hb := h.block p.block hp (fun f => f)
  cases p with
  | cell b off =>
    simp only [MemPlace.block] at hb
    simp only [World.sameAt, World.cell?, hb]
  | map b =>
    simp only [MemPlace.block] at hb
    simpa only [World.sameAt] using hb

theorem all_stays (hl : laidOutB P = true) {w' : World} {sp' : Nat → Bool} (hx : Ext (fun _ => False) w w') : ∀ {ts : List TypeId} {vs : List Value} {ds : List (DataW H)} {ps : List MemPlace}, (∀ t ∈ ts, P.readableRec t = true ∧ t < P.types.size) → DataW.TrodAll enc P w 0 (fun _ => true) true ts vs ds ps → (∀ p ∈ ps, p.block < w.heap.size) → (∀ p ∈ ps, sp' p.block = true) → DataW.TrodAll enc P w' 0 sp' true ts vs ds ps
  | [], [], [], _, _, h, _, _ => h
  | _ :: _, _ :: _, _ :: _, _, ht, ⟨p, q, h1, h2, e⟩, hb, hs => ⟨p, q,
      WideElems.Trod_stays hl (ht _ (List.mem_cons.2 (Or.inl rfl))).1 (ht _ (List.mem_cons.2 (Or.inl rfl))).2 h1 (fun x hx' => same_of_ext hx (hb x (by rw [e]; exact List.mem_append_left _ hx'))) (fun x hx' => hs x (by rw [e]; exact List.mem_append_left _ hx')),
      all_stays hl hx (fun t h => ht t (List.mem_cons.2 (Or.inr h))) h2 (fun x hx' => hb x (by rw [e]; exact List.mem_append_right _ hx')) (fun x hx' => hs x (by rw [e]; exact List.mem_append_right _ hx')), e⟩

theorem frozen_ext {w' : World} (h : Ext (fun _ => False) w w') {a : Addr} (ha : a.block < w.heap.size) : w'.frozen? a = w.frozen? a := by
  simp only [World.frozen?, h.block a.block ha (fun f => f)]

theorem kept_ext {w' : World} (h : Ext (fun _ => False) w w') (may : MemPlace → Prop) : w.keptBut w' may := by
  refine ⟨h.os, h.output, fun i hi => ?_⟩
  rw [h.block i hi (fun f => f)]
  cases w.heap[i]? with
  | none => rfl
  | some o => cases o with
    | cells c t fr => exact ⟨rfl, rfl, rfl, fun _ _ => rfl⟩
    | map es clock => exact .inr ⟨rfl, rfl⟩
    | _ => rfl

/-- The call answers true and leaves its arguments alone: what such a row asks. -/
theorem post_of_ext {f : Func} {s : ChangeSpec} {apart fresh handsOn again : Bool} {W W' : World} {args : Array Value} {ds gs : List (DataW H)} {before : List MemPlace} (hl : laidOutB P = true)
    (hrd : ∀ t ∈ f.params.toList, P.readableRec t = true ∧ t < P.types.size) {tb : TypeId} (hres : f.resultTypes = #[tb]) (htb : P.underlying tb = some .bool)
    (hvars : s.vars = []) (hfn : s.fn H ds = { results := [.lit (.bool true)], args := ds })
    (hW : DataW.Whole enc P f.params.toList s.vars apart W args.toList ds gs before) (hx : Ext (fun _ => False) W W') :
    s.post enc P f apart fresh handsOn again W args (.bool true) W' := by
  have hW0 := hW
  obtain ⟨p, q, hA, hV, hpq, hz, hn⟩ := hW
  rw [hvars] at hV
  obtain ⟨rfl, rfl⟩ := trodVars_none hV
  simp only [List.append_nil] at hpq
  subst hpq
  have hlt : ∀ x ∈ before, x.block < W.heap.size := fun x h => hW0.lt x h
  have hold : ∀ x ∈ before, (fun b => decide (b < W.heap.size)) x.block = true := fun x h => by simpa using hlt x h
  have hR : ∀ (b : Nat) (sp : Nat → Bool) (hd : Bool), DataW.TrodAll enc P W' b sp hd f.resultTypes.toList ((Value.bool true).resultList f.resultTypes.size) [.lit (.bool true)] [] := fun b sp hd => by
    rw [hres]
    exact trodAll_cons_mk (shut_bool htb _) trodAll_mk0
  have hAr : ∀ sp : Nat → Bool, (∀ x ∈ before, sp x.block = true) → DataW.TrodAll enc P W' 0 sp true f.params.toList args.toList ds before := fun sp hs => all_stays hl hx hrd hA hlt hs
  refine ⟨ds, [], before, [], before, [], hW0, ?_, ?_, ?_, ?_, fun _ => ?_⟩
  · rw [List.append_nil, hfn]; exact hR _ _ _
  · rw [List.append_nil, hfn]; exact hAr _ hold
  · rw [List.append_nil, hfn, hvars]; rfl
  · exact kept_ext hx _
  · refine ⟨?_, [.lit (.bool true)] ++ ds, [], ([] ++ before) ++ [], ⟨[] ++ before, [], trodAll_append (hAr _ (fun _ _ => rfl)) (hR _ _ _), ?_, rfl, ?_, ?_⟩, ?_⟩
    · exact ok_one hres rfl (okWide_bool_mk htb _)
    · rw [hvars]; rfl
    · intro b off hp
      have hp : MemPlace.cell b off ∈ before := by simpa using hp
      rw [frozen_ext hx (hlt _ hp)]
      exact hz b off hp
    · intro ha
      simpa using hn ha
    · intro x hx' _
      simpa using hx'
end

end Go.Proofs.Ytabjaaonfaejmaa

namespace Go.Proofs.Ytabjaaonfaejmaa
open Go.Av Go.ChangeShapes Go.WideShapes Go.ChangeAt Go.RowKit

mutual
/-- How great a datum is. -/
def bulkD : Dat → Nat
  | .str s => s.size + 1
  | .sl l => bulkL l + 1
  | .agg l => bulkL l
  | _ => 1
def bulkL : List Dat → Nat
  | [] => 0
  | d :: l => bulkD d + bulkL l
end
theorem bulkL_app : ∀ a b : List Dat, bulkL (a ++ b) = bulkL a + bulkL b
  | [], b => by simp [bulkL]
  | d :: a, b => by rw [List.cons_append, bulkL, bulkL, bulkL_app a b]; omega

section
variable (P : Program)
def isAggT (t : TypeId) : Bool := match P.underlying t with
  | some (.struct _) | some (.array _ _) => true
  | _ => false
/-- An element of a slice, or an argument: a struct is one datum. -/
def elD (t : TypeId) (ds : List Dat) : Dat := if isAggT P t = true then .agg ds else ds.headD .nilp
def tiles : Nat → List Field → Nat → Bool
  | off, [], tot => off == tot
  | off, f :: fs, tot => f.offset == off && tiles (off + P.cellsOf f.type) fs tot
/-- A type of this kind, to a depth. -/
def shapeOK : Nat → TypeId → Bool
  | 0, _ => false
  | n + 1, t => match P.underlying t with
    | some (.int _) | some .bool | some .string => true
    | some (.slice e) => shapeOK n e && (0 < P.cellsOf e : Bool) && (isAggT P e || P.cellsOf e == 1)
    | some (.struct fs) => fs.toList.all (fun f => shapeOK n f.type) && tiles P 0 fs.toList (P.cellsOf t)
    | some (.array m e) => shapeOK n e && m * P.cellsOf e == P.cellsOf t
    | _ => false
def okFs (ok : TypeId → List Dat → Prop) : List Field → List Dat → Prop
  | [], ds => ds = []
  | f :: fs, ds => ∃ a b, ds = a ++ b ∧ ok f.type a ∧ okFs ok fs b
def okRep (ok : List Dat → Prop) : Nat → List Dat → Prop
  | 0, ds => ds = []
  | m + 1, ds => ∃ a b, ds = a ++ b ∧ ok a ∧ okRep ok m b
/-- Data of a type, cell for cell. -/
def okT : Nat → TypeId → List Dat → Prop
  | 0, _, _ => False
  | n + 1, t, ds => match P.underlying t with
    | some (.int k) => ∃ m, ds = [.int k m] ∧ (Lit.int k m).wf = true
    | some .bool => ∃ b, ds = [.bool b]
    | some .string => ∃ s, ds = [.str s] ∧ s.size ≤ maxLen
    | some (.slice e) => ∃ l, ds = [.sl l] ∧ l.length ≤ maxLen ∧ ∀ d ∈ l, ∃ es, okT n e es ∧ d = elD P e es
    | some (.struct fs) => okFs (okT n) fs.toList ds
    | some (.array m e) => okRep (okT n e) m ds
    | _ => False
end

theorem repL_app {S : Nat → Nat → Prop} {w : World} : ∀ {a b : List Dat} {u v : List Value}, RepL S w a u → RepL S w b v → RepL S w (a ++ b) (u ++ v)
  | [], _, _, _, h, k => by simp only [RepL] at h; subst h; simpa using k
  | d :: a, b, u, v, h, k => by
    simp only [RepL] at h
    obtain ⟨x, u', rfl, h1, h2⟩ := h
    simp only [List.cons_append, RepL]
    exact ⟨x, u' ++ v, rfl, h1, repL_app h2 k⟩
theorem repC_of {S : Nat → Nat → Prop} {w : World} {b : Nat} : ∀ {ds : List Dat} {cs : List Value} {off : Nat}, RepL S w ds cs → (∀ j v, cs[j]? = some v → S b (off + j) ∧ w.cell? ⟨b, off + j, none⟩ = some v) → RepC S w ds b off
  | [], _, _, _, _ => by simp [RepC]
  | d :: ds, cs, off, h, k => by
    simp only [RepL] at h
    obtain ⟨v, cs', rfl, h1, h2⟩ := h
    simp only [RepC]
    have k0 := k 0 v (by simp)
    refine ⟨⟨by simpa using k0.1, v, by simpa using k0.2, h1⟩, repC_of h2 fun j u hu => ?_⟩
    have := k (j + 1) u (by simpa using hu)
    rw [show off + 1 + j = off + (j + 1) by omega]
    exact this
theorem repL_len {S : Nat → Nat → Prop} {w : World} : ∀ {ds : List Dat} {cs : List Value}, RepL S w ds cs → cs.length = ds.length
  | [], _, h => by simp only [RepL] at h; subst h; rfl
  | d :: ds, cs, h => by
    simp only [RepL] at h
    obtain ⟨v, cs', rfl, h1, h2⟩ := h
    simp [repL_len h2]
theorem repL_noagg {S : Nat → Nat → Prop} {w : World} {d : Dat} {cs : List Value} (h : RepL S w [d] cs) : d.isAgg = false ∧ ∃ v, cs = [v] ∧ Rep1 S w d v := by
  simp only [RepL] at h
  obtain ⟨v, cs', rfl, h1, rfl⟩ := h
  refine ⟨?_, v, rfl, h1⟩
  cases d <;> first | rfl | (simp only [Rep1] at h1)
theorem cells_noagg {d : Dat} (h : d.isAgg = false) : d.cells = [d] := by cases d <;> first | rfl | (simp [Dat.isAgg] at h)
theorem bulk_el {P : Program} {t : TypeId} {ds : List Dat} (h : isAggT P t = true ∨ ds.length = 1) : bulkD (elD P t ds) ≤ bulkL ds := by
  unfold elD
  split
  · simp [bulkD]
  · rename_i hn
    rcases h with h | h
    · exact absurd h hn
    · match ds, h with
      | [d], _ => simp [bulkL]
theorem okT_one {P : Program} {n : Nat} {t : TypeId} {ds : List Dat} (h : okT P n t ds) (ha : isAggT P t = false) : ds.length = 1 := by
  cases n with
  | zero => exact h.elim
  | succ n =>
    unfold okT at h
    unfold isAggT at ha
    split at h
    · obtain ⟨_, rfl, _⟩ := h; rfl
    · obtain ⟨_, rfl⟩ := h; rfl
    · obtain ⟨_, rfl, _⟩ := h; rfl
    · obtain ⟨_, rfl, _⟩ := h; rfl
    · rename_i hu; rw [hu] at ha; simp at ha
    · rename_i hu; rw [hu] at ha; simp at ha
    · exact h.elim

theorem okT_int {P : Program} {n : Nat} {t : TypeId} {k : IntKind} {ds : List Dat} (hu : P.underlying t = some (.int k)) (h : okT P (n + 1) t ds) : ∃ m, ds = [.int k m] ∧ (Lit.int k m).wf = true := by
  unfold okT at h; rw [hu] at h; exact h
theorem okT_bool {P : Program} {n : Nat} {t : TypeId} {ds : List Dat} (hu : P.underlying t = some .bool) (h : okT P (n + 1) t ds) : ∃ b, ds = [.bool b] := by
  unfold okT at h; rw [hu] at h; exact h
theorem okT_str {P : Program} {n : Nat} {t : TypeId} {ds : List Dat} (hu : P.underlying t = some .string) (h : okT P (n + 1) t ds) : ∃ s, ds = [.str s] ∧ s.size ≤ maxLen := by
  unfold okT at h; rw [hu] at h; exact h
theorem okT_slice {P : Program} {n : Nat} {t e : TypeId} {ds : List Dat} (hu : P.underlying t = some (.slice e)) (h : okT P (n + 1) t ds) : ∃ l, ds = [.sl l] ∧ l.length ≤ maxLen ∧ ∀ d ∈ l, ∃ es, okT P n e es ∧ d = elD P e es := by
  unfold okT at h; rw [hu] at h; exact h
theorem okT_struct {P : Program} {n : Nat} {t : TypeId} {fs : Array Field} {ds : List Dat} (hu : P.underlying t = some (.struct fs)) (h : okT P (n + 1) t ds) : okFs (okT P n) fs.toList ds := by
  unfold okT at h; rw [hu] at h; exact h
theorem okT_array {P : Program} {n m : Nat} {t e : TypeId} {ds : List Dat} (hu : P.underlying t = some (.array m e)) (h : okT P (n + 1) t ds) : okRep (okT P n e) m ds := by
  unfold okT at h; rw [hu] at h; exact h
/-- A slice's elements, as models. -/
theorem okT_list {P : Program} {n : Nat} {t e : TypeId} {ds : List Dat} {α : Type} {f : α → Dat} {p : α → Prop} (hu : P.underlying t = some (.slice e)) (h : okT P (n + 1) t ds) (hf : ∀ es, okT P n e es → ∃ x, elD P e es = f x ∧ p x) : ∃ l : List α, ds = [.sl (l.map f)] ∧ l.length ≤ maxLen ∧ ∀ x ∈ l, p x := by
  obtain ⟨l, rfl, hl, he⟩ := okT_slice hu h
  have key : ∀ l : List Dat, (∀ d ∈ l, ∃ es, okT P n e es ∧ d = elD P e es) → ∃ m : List α, l = m.map f ∧ ∀ x ∈ m, p x := fun l => by
    induction l with
    | nil => intro _; exact ⟨[], rfl, by simp⟩
    | cons d l ih =>
      intro hd
      obtain ⟨es, h1, rfl⟩ := hd d (by simp)
      obtain ⟨x, hx, hp⟩ := hf es h1
      obtain ⟨m, rfl, hm⟩ := ih fun d h => hd d (by simp [h])
      refine ⟨x :: m, by rw [hx, List.map_cons], fun y hy => ?_⟩
      rcases List.mem_cons.1 hy with rfl | hy
      · exact hp
      · exact hm y hy
  obtain ⟨m, rfl, hm⟩ := key l he
  exact ⟨m, rfl, by simpa using hl, hm⟩
section
variable {H : Type} {enc : TypeId × Value → H} {P : Program} {w : World} {sp : Nat → Bool} {held : Bool}

theorem fields_in {n m : Nat} (ih : ∀ {t : TypeId} {cs : List Value} {x : DataW H × List MemPlace}, shapeOK P n t = true → DataW.trod enc P w 0 sp held m t cs = some x → ∃ ds, RepL (Old w) w ds cs ∧ okT P n t ds ∧ bulkL ds ≤ Rows.uptoBulk x.1)
    {cs : List Value} : ∀ (fs : List Field) (off : Nat) (xs : List (DataW H × List MemPlace)), tiles P off fs cs.length = true → fs.all (fun f => shapeOK P n f.type) = true → xs.length = fs.length →
      (∀ (i : Nat) (f : Field), fs[i]? = some f → DataW.trod enc P w 0 sp held m f.type ((cs.drop f.offset).take (P.cellsOf f.type)) = xs[i]?) →
      ∃ ds, RepL (Old w) w ds (cs.drop off) ∧ okFs (okT P n) fs ds ∧ bulkL ds ≤ Rows.uptoBulkAll (xs.map (·.1))
  | [], off, xs, ht, _, hl, _ => by
    simp only [tiles, beq_iff_eq] at ht
    have : xs = [] := List.eq_nil_of_length_eq_zero (by simpa using hl)
    subst this
    exact ⟨[], by simp [RepL, ht], rfl, by simp [bulkL]⟩
  | f :: fs, off, xs, ht, hs, hl, hx => by
    simp only [tiles, Bool.and_eq_true, beq_iff_eq] at ht
    simp only [List.all_cons, Bool.and_eq_true] at hs
    match xs, hl with
    | x :: xs, hl =>
      have h0 := hx 0 f rfl
      obtain ⟨d1, r1, o1, b1⟩ := ih hs.1 h0
      obtain ⟨d2, r2, o2, b2⟩ := fields_in ih fs (off + P.cellsOf f.type) xs ht.2 hs.2 (by simpa using hl) fun i g hg => by
        have := hx (i + 1) g (by simpa using hg)
        simpa using this
      refine ⟨d1 ++ d2, ?_, ⟨d1, d2, rfl, o1, o2⟩, ?_⟩
      · have := repL_app r1 r2
        rw [ht.1, ← List.drop_drop] at this
        rwa [List.take_append_drop] at this
      · rw [bulkL_app, List.map_cons]
        simp only [Rows.uptoBulkAll]
        omega
theorem array_in {n m c : Nat} {e : TypeId} (ih : ∀ {cs : List Value} {x : DataW H × List MemPlace}, DataW.trod enc P w 0 sp held m e cs = some x → ∃ ds, RepL (Old w) w ds cs ∧ okT P n e ds ∧ bulkL ds ≤ Rows.uptoBulk x.1) :
    ∀ (k : Nat) {cs : List Value} (xs : List (DataW H × List MemPlace)), cs.length = k * c → xs.length = k →
      (∀ (i : Nat), i < k → DataW.trod enc P w 0 sp held m e ((cs.drop (i * c)).take c) = xs[i]?) →
      ∃ ds, RepL (Old w) w ds cs ∧ okRep (okT P n e) k ds ∧ bulkL ds ≤ Rows.uptoBulkAll (xs.map (·.1))
  | 0, cs, xs, hc, hl, _ => by
    have : xs = [] := List.eq_nil_of_length_eq_zero hl
    subst this
    have : cs = [] := List.eq_nil_of_length_eq_zero (by omega)
    subst this
    exact ⟨[], by simp [RepL], rfl, by simp [bulkL]⟩
  | k + 1, cs, xs, hc, hl, hx => by
    match xs, hl with
    | x :: xs, hl =>
      have h0 := hx 0 (by omega)
      simp only [Nat.zero_mul, List.drop_zero, List.getElem?_cons_zero] at h0
      obtain ⟨d1, r1, o1, b1⟩ := ih h0
      obtain ⟨d2, r2, o2, b2⟩ := array_in (c := c) ih k (cs := cs.drop c) xs (by rw [List.length_drop, hc, Nat.succ_mul]; omega) (by simpa using hl) fun i hi => by
        have := hx (i + 1) (by omega)
        rw [List.drop_drop, show c + i * c = (i + 1) * c by rw [Nat.succ_mul]; omega]
        simpa using this
      refine ⟨d1 ++ d2, ?_, ⟨d1, d2, rfl, o1, o2⟩, ?_⟩
      · have := repL_app r1 r2
        rwa [List.take_append_drop] at this
      · rw [bulkL_app, List.map_cons]
        simp only [Rows.uptoBulkAll]
        omega
theorem bulk_list {P : Program} {e : TypeId} {f : Nat → Dat} {xs : List (DataW H × List MemPlace)} (h : ∀ i x, xs[i]? = some x → bulkD (f i) ≤ Rows.uptoBulk x.1) : bulkL ((List.range xs.length).map f) ≤ Rows.uptoBulkAll (xs.map (·.1)) := by
  induction xs generalizing f with
  | nil => simp [bulkL]
  | cons x xs ih =>
    have h0 := h 0 x rfl
    have h1 := ih (f := fun i => f (i + 1)) fun i y hy => h (i + 1) y (by simpa using hy)
    rw [List.length_cons, List.range_succ_eq_map, List.map_cons, List.map_map, bulkL, List.map_cons]
    simp only [Rows.uptoBulkAll]
    have : ((List.range xs.length).map (f ∘ Nat.succ)) = (List.range xs.length).map (fun i => f (i + 1)) := rfl
    rw [this]
    omega
theorem reads_of : ∀ (n : Nat) {t : TypeId} {cs : List Value} {x : DataW H × List MemPlace} {m : Nat}, shapeOK P n t = true → DataW.trod enc P w 0 sp held m t cs = some x → ∃ ds, RepL (Old w) w ds cs ∧ okT P n t ds ∧ bulkL ds ≤ Rows.uptoBulk x.1
  | 0, _, _, _, _, h, _ => by simp [shapeOK] at h
  | n + 1, t, cs, x, m, hs, h => by
    unfold shapeOK at hs
    unfold okT
    split at hs
    · rename_i k ht
      obtain ⟨z, rfl, rfl, hw⟩ := DataW.trod_int ht h
      exact ⟨[.int k z], by simp [RepL, Rep1], ⟨z, rfl, hw⟩, by simp [bulkL, bulkD, Rows.uptoBulk]⟩
    · rename_i ht
      obtain ⟨z, rfl, rfl⟩ := DataW.trod_bool ht h
      exact ⟨[.bool z], by simp [RepL, Rep1], ⟨z, rfl⟩, by simp [bulkL, bulkD, Rows.uptoBulk]⟩
    · rename_i ht
      obtain ⟨z, rfl, rfl, hw⟩ := DataW.trod_string ht h
      exact ⟨[.str z], by simp [RepL, Rep1], ⟨z, rfl, hw⟩, by simp [bulkL, bulkD, Rows.uptoBulk]⟩
    · rename_i e ht
      simp only [Bool.and_eq_true, decide_eq_true_eq, Bool.or_eq_true, beq_iff_eq] at hs
      obtain ⟨⟨hse, hc0⟩, hc1⟩ := hs
      rcases DataW.trod_slice ht h with ⟨rfl, rfl⟩ | ⟨a, len, cap, elems, rest, k, _, rfl, rfl, _, hlc, hcm, hlen, hel, _, _⟩
      · exact ⟨[.sl []], by simp [RepL, Rep1, RepS], ⟨[], rfl, by simp, by simp⟩, by simp [bulkL, bulkD, Rows.uptoBulk]⟩
      · have each : ∀ i, i < len → ∃ ds csi, ∃ y, elems[i]? = some y ∧ w.cells? 0 (a.add (i * P.cellsOf e)) (P.cellsOf e) = some csi ∧ RepL (Old w) w ds csi ∧ okT P n e ds ∧ bulkL ds ≤ Rows.uptoBulk y.1 := fun i hi => by
          have h2 := hel i hi
          rw [List.getElem?_eq_getElem (by omega), Option.bind_eq_some_iff] at h2
          obtain ⟨csi, h3, h4⟩ := h2
          obtain ⟨ds, r, o, b⟩ := reads_of n hse h4
          exact ⟨ds, csi, _, List.getElem?_eq_getElem (by omega), h3, r, o, b⟩
        have hs0 : 0 < len → a.spot = none ∧ a.block < w.heap.size := fun h0 => by
          obtain ⟨ds, csi, y, _, h3, _⟩ := each 0 h0
          have h5 := (World.cells?_some h3)
          have c0 := h5.2.2 0 hc0
          rw [List.getElem?_eq_getElem (by omega)] at c0
          rw [Nat.zero_mul] at c0
          have hsp := add_spot (add_spot (cell_spot c0).1)
          have hb := (cell_spot c0).2
          rw [addr_none hsp, addr_none rfl] at hb
          exact ⟨hsp, hb⟩
        let g : Nat → List Dat := fun i => if hi : i < len then (each i hi).choose else []
        have hg : ∀ i, i < len → ∃ csi, ∃ y, elems[i]? = some y ∧ w.cells? 0 (a.add (i * P.cellsOf e)) (P.cellsOf e) = some csi ∧ RepL (Old w) w (g i) csi ∧ okT P n e (g i) ∧ bulkL (g i) ≤ Rows.uptoBulk y.1 := fun i hi => by
          simp only [g, dif_pos hi]
          exact (each i hi).choose_spec
        refine ⟨[.sl ((List.range len).map fun i => elD P e (g i))], ?_, ⟨_, rfl, by simp; omega, fun d hd => ?_⟩, ?_⟩
        · simp only [RepL, Rep1]
          refine ⟨_, _, rfl, ⟨P.cellsOf e, some a, cap, by simp, by simp; omega, ?_⟩, rfl⟩
          by_cases h0 : len = 0
          · subst h0; simp [RepS]
          · obtain ⟨hsp, hb⟩ := hs0 (by omega)
            have ha : a = ⟨a.block, a.off, none⟩ := by
              obtain ⟨b, o, s⟩ := a
              simp only at hsp
              subst hsp
              rfl
            rw [ha]
            refine repS_of fun i d hd => ?_
            have hi : i < len := by simpa using (List.getElem?_eq_some_iff.1 hd).1
            rw [List.getElem?_map, List.getElem?_range hi, Option.map_some, Option.some.injEq] at hd
            subst hd
            obtain ⟨csi, y, _, h3, hr, ho, _⟩ := hg i hi
            have h5 := World.cells?_some h3
            have hcell : ∀ j v, csi[j]? = some v → Old w a.block (a.off + i * P.cellsOf e + j) ∧ w.cell? ⟨a.block, a.off + i * P.cellsOf e + j, none⟩ = some v := fun j v hv => by
              have hj : j < P.cellsOf e := by have := (List.getElem?_eq_some_iff.1 hv).1; omega
              have := h5.2.2 j hj
              rw [addr_none hsp, addr_none rfl, hv] at this
              exact ⟨hb, this⟩
            have hcl : (g i).length = P.cellsOf e := by rw [← repL_len hr]; exact h5.2.1
            have hrc := repC_of hr hcell
            unfold elD
            split
            · exact ⟨by simpa using hcl, by simpa using hrc⟩
            · rename_i hna
              have h1 := okT_one ho (by simpa using hna)
              match hgi : g i, h1 with
              | [d], _ =>
                rw [hgi] at hr hrc hcl
                have hnd := (repL_noagg hr).1
                simp only [List.headD_cons]
                rw [cells_noagg hnd]
                exact ⟨by simpa using hcl, hrc⟩
        · obtain ⟨i, hi, rfl⟩ := List.mem_map.1 hd
          obtain ⟨csi, y, _, h3, hr, ho, _⟩ := hg i (List.mem_range.1 hi)
          exact ⟨g i, ho, rfl⟩
        · have hb : bulkL ((List.range len).map fun i => elD P e (g i)) ≤ Rows.uptoBulkAll (elems.map (·.1)) := by
            rw [← hlen]
            refine bulk_list (P := P) (e := e) fun i y hy => ?_
            have hi : i < len := by rw [← hlen]; exact (List.getElem?_eq_some_iff.1 hy).1
            obtain ⟨csi, y', hy', _, _, ho, hbb⟩ := hg i hi
            rw [hy] at hy'
            cases hy'
            refine Nat.le_trans (bulk_el ?_) hbb
            by_cases hag : isAggT P e = true
            · exact .inl hag
            · exact .inr (okT_one ho (by simpa using hag))
          simp only [bulkL, bulkD, Rows.uptoBulk]
          omega
    · rename_i fs ht
      simp only [Bool.and_eq_true] at hs
      obtain ⟨xs, k, _, rfl, hl, hn, hx⟩ := DataW.trod_struct ht h
      obtain ⟨ds, r, o, b⟩ := fields_in (fun hs' h' => reads_of n hs' h') (cs := cs) fs.toList 0 xs (by rw [hl]; exact hs.2) hs.1 (by simpa using hn) (fun i f hf => hx i f (by simpa using hf))
      refine ⟨ds, by simpa using r, o, ?_⟩
      simp only [Rows.uptoBulk]
      omega
    · rename_i k e ht
      simp only [Bool.and_eq_true, beq_iff_eq] at hs
      obtain ⟨xs, j, _, rfl, hl, hn, hx⟩ := DataW.trod_array ht h
      obtain ⟨ds, r, o, b⟩ := array_in (c := P.cellsOf e) (fun h' => reads_of n hs.1 h') k (cs := cs) xs (by rw [hl, hs.2]) hn hx
      refine ⟨ds, r, o, ?_⟩
      simp only [Rows.uptoBulk]
      omega
    · cases hs
/-- A struct that is handed over. -/
theorem struct_in (n : Nat) {r : Reach} {base : Nat} {t : TypeId} {v : Value} {d : DataW H} {ps : List MemPlace} (ha : isAggT P t = true) (hs : shapeOK P n t = true) (hv : Value.okWide P w r base t v) (hd : DataW.Trod enc P w 0 sp held t v d ps) :
    ∃ ds, okT P n t ds ∧ RepX (Old w) w (.agg ds) v ∧ bulkL ds ≤ Rows.uptoBulk d := by
  obtain ⟨m, hd⟩ := hd
  have hv' : ∃ cs, v = .agg cs := by
    unfold isAggT at ha
    unfold Value.okWide at hv
    split at hv
    · obtain ⟨cs, h, _⟩ := hv; exact ⟨cs, h⟩
    · obtain ⟨cs, h, _⟩ := hv; exact ⟨cs, h⟩
    · rename_i h1 h2
      split at ha
      · rename_i fs hu; exact absurd hu (h1 fs)
      · rename_i k e hu; exact absurd hu (h2 k e)
      · cases ha
  obtain ⟨cs, rfl⟩ := hv'
  obtain ⟨ds, h1, h2, h3⟩ := reads_of n hs hd
  refine ⟨ds, h2, ?_, h3⟩
  simp only [RepX]
  exact ⟨cs, rfl, h1⟩
/-- A slice that is handed over. -/
theorem slice_in (n : Nat) {r : Reach} {base : Nat} {t e : TypeId} {v : Value} {d : DataW H} {ps : List MemPlace} (ht : P.underlying t = some (.slice e)) (hs : shapeOK P n t = true) (hv : Value.okWide P w r base t v) (hd : DataW.Trod enc P w 0 sp held t v d ps) :
    ∃ l, okT P n t [.sl l] ∧ RepX (Old w) w (.sl l) v ∧ bulkL l < Rows.uptoBulk d := by
  obtain ⟨m, hd⟩ := hd
  obtain ⟨a, len, cap, rfl⟩ := slice_of ht hv
  obtain ⟨ds, h1, h2, h3⟩ := reads_of n hs hd
  have h2' := h2
  cases n with
  | zero => exact h2.elim
  | succ n =>
    unfold okT at h2'
    rw [ht] at h2'
    obtain ⟨l, rfl, _⟩ := h2'
    obtain ⟨_, v, hv, hr⟩ := repL_noagg h1
    simp [Value.cells] at hv
    subst hv
    refine ⟨l, h2, repX_of_rep1 hr, ?_⟩
    simp only [bulkL, bulkD] at h3
    omega
end
end Go.Proofs.Ytabjaaonfaejmaa

namespace Go.Proofs.Ytabjaaonfaejmaa
open Go.Av

set_option maxRecDepth 100000 in
theorem okI {n : Nat} {ds : List Dat} (h : okT Try.prog (n + 1) 3 ds) : ∃ m, ds = [iD m] ∧ I64 m := by
  obtain ⟨m, rfl, hw⟩ := okT_int (P := Try.prog) (n := n) (t := 3) (ds := ds) Try.underlying3 h
  exact ⟨m, rfl, wf_i64 hw⟩
set_option maxRecDepth 100000 in
theorem name_of {n : Nat} {ds : List Dat} (h : okT Try.prog (n + 2) 55 ds) : ∃ nm : NameM, Dat.agg ds = nameD nm ∧ I64 nm.By ∧ I64 nm.Seq := by
  obtain ⟨a, b, rfl, h1, c, d, rfl, h2, rfl⟩ := okT_struct (P := Try.prog) (n := n + 1) (t := 55) (ds := ds) Try.underlying55 h
  obtain ⟨x, rfl, hx⟩ := okI h1
  obtain ⟨y, rfl, hy⟩ := okI h2
  exact ⟨⟨x, y⟩, rfl, hx, hy⟩
end Go.Proofs.Ytabjaaonfaejmaa

