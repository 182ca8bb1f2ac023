/- Contracts of the checks of texts and words. -/
import Derived.Test.YtabjaaonfaejmaaGreatDoorHP42
import Derived.Lib.IndexLaws
import Derived.Test.YtabjaaonfaejmaaGreatDoorHAv45
import Derived.Test.YtabjaaonfaejmaaGreatDoorHAv43
import Derived.Test.YtabjaaonfaejmaaGreatDoorHAv44
import Derived.Test.YtabjaaonfaejmaaGreatDoorHAv54
set_option linter.all false
namespace Go.Proofs.YtabjaaonfaejmaaGreatDoor
open Go.Av


theorem bad_ok (G) (s : ByteArray) (i : Nat) (hi : i < s.size) (hs : s.size ≤ 281474976710656) : Gives Tryz.prog G 126 [iD i, .ref (sD s)] [bD (badM s i)] := by
  have hi1 : ((i : Int) - 1).toNat = i - 1 := by omega
  skip
  refine gives_intro [] [] [] Tryz.func126 rfl (by rfl) (by simp [Tryz.ntmps126]) fun F hP hG hN hR => ?_
  rw [Tryz.ntmps126] at hN
  have hA := And.intro hN (And.intro hP (And.intro hG (And.intro hR.1 (And.intro hR.2.1 hR.2.2.1))))
  have hE := And.intro @Tryz.results126 (And.intro @hi1 (@badM.eq_1))
  refine WS [0, 1] [] ?_
  refine WS [3] [] ?_
  apply aw_ret
  simp only [QRet, QRetM, QRetX, retsX_nil, retsX_cons, objsAre, resA, mapO_nil, mapO_cons, vD_dat, vD_nils, vD_rp, vD_osl, vD_ptr, vD_agg, vD_fn, vD_isl, vL_dat, vL_app, viewL, avA, datsOf, fillA, seval, ↓List.forall_mem_cons, Op.operands, hP, hG, tiA, hE]
  all_goals try (first | done | rfl | trivial)

theorem tvalid_ok (G) (s : ByteArray) (hs : s.size ≤ 281474976710656) : Gives Tryz.prog G 106 [sD s] [iD (tokValidM s)] := by
  refine gives_intro [] [] [] Tryz.func106 rfl (by rfl) (by simp [Tryz.ntmps106]) fun F hP hG hN hR => ?_
  rw [Tryz.ntmps106] at hN
  have hA := And.intro hN (And.intro hP (And.intro hG (And.intro hR.1 (And.intro hR.2.1 hR.2.2.1))))
  have hE := @Tryz.results106
  refine WS [1] [1] ?_
  apply aw_seq
  refine WS [1, 7] [1] ?_
  refine WI (fun hb => ?_) (fun hb => ?_)
  · skip
    have hv : tokValidM s = 4 := by unfold tokValidM; rw [if_pos (by omega)]
    have hE := And.intro hE hv
    refine WS [2] [] ?_
    apply aw_ret
    apply q_ret_seq
    simp only [QRet, QRetM, QRetX, retsX_nil, retsX_cons, objsAre, resA, mapO_nil, mapO_cons, vD_dat, vD_nils, vD_rp, vD_osl, vD_ptr, vD_agg, vD_fn, vD_isl, vL_dat, vL_app, viewL, avA, datsOf, fillA, seval, ↓List.forall_mem_cons, Op.operands, hP, hG, tiA, hE]
    all_goals try (first | done | rfl | trivial)
  · skip
    have hn4 : ¬ 4096 < s.size := by omega
    apply aw_skip
    apply q_seq
    refine WS [1, 3] [1] ?_
    apply aw_seq
    refine WS [1, 3, 10, 11] [1] ?_
    apply aw_block
    refine WL (ι := {i : Nat // i ≤ s.size ∧ ∀ j, j < i → badM s j = false}) [1, 3, 10] [1] (fun ⟨i, hic⟩ => [(11, .dat (iD i))]) (fun ⟨i, hic⟩ => []) (fun ⟨i, hic⟩ => s.size - i) (⟨0, by omega, none0⟩) ?_
    rintro ⟨i, hic⟩
    dsimp only [List.cons_append, List.nil_append]
    obtain ⟨hi, hall⟩ := id hic
    refine WS [1, 3, 10, 11, 12] [1] ?_
    apply aw_seq
    refine WI (fun hb => ?_) (fun hb => ?_)
    · skip
      apply aw_skip
      apply q_seq
      apply aw_seq
      apply aw_block
      refine WS [1, 3, 4, 10, 11] [1] ?_
      apply aw_regs [1, 3, 10, 11, 16] [1]
      · simp (maxSteps := 2000000) (disch := omega) only [avR2, avA, datsOf, fillA, seval, ↓List.forall_mem_cons, Op.operands, hA, tiA, hE]
        (repeat' refine And.intro ?_ ?_) <;> try exact SD
        refine CallC.use (gvF hP hG (bad_ok G s i (by omega) (by omega))) (by simp only [callArgs, mapO_nil, mapO_cons, vD_dat, vD_nils, vD_rp, vD_osl, vD_ptr, vD_agg, vD_fn, vD_isl, vL_dat, vL_app, avA, datsOf, fillA, seval, ↓List.forall_mem_cons, Op.operands, hE] <;> rfl) ?_
        try simp (maxSteps := 2000000) (disch := omega) only [avR2, avA, datsOf, fillA, seval, ↓List.forall_mem_cons, Op.operands, hA, tiA, hE]
        exact SC
      refine WI (fun hb => ?_) (fun hb => ?_)
      · skip
        have hv : tokValidM s = 2 := by unfold tokValidM; rw [if_neg hn4, if_pos (.inl ⟨i, by omega, hb⟩)]
        have hE := And.intro hE hv
        refine WS [2] [] ?_
        apply aw_ret
        apply q_ret_block
        apply q_ret_seq
        apply q_ret_loop
        apply q_ret_block
        apply q_ret_seq
        simp only [QRet, QRetM, QRetX, retsX_nil, retsX_cons, objsAre, resA, mapO_nil, mapO_cons, vD_dat, vD_nils, vD_rp, vD_osl, vD_ptr, vD_agg, vD_fn, vD_isl, vL_dat, vL_app, viewL, avA, datsOf, fillA, seval, ↓List.forall_mem_cons, Op.operands, hP, hG, tiA, hE]
        all_goals try (first | done | rfl | trivial)
      · skip
        apply aw_skip
        apply q_block
        apply q_seq
        refine WQ [1, 3, 10, 11] [1] ?_
        refine WN (⟨i + 1, by omega, allstep hic.2 hb⟩)
    · skip
      apply aw_exit
      apply q_exit_seq
      obtain rfl : i = s.size := by omega
      have hno : ¬ ∃ i, i < s.size ∧ badM s i = true := fun ⟨j, h1, h2⟩ => by rw [hall j h1] at h2; cases h2
      apply q_exit_loop
      apply q_exit
      apply q_seq
      apply aw_seq
      apply aw_block
      refine WS [1, 18] [1] ?_
      refine WI (fun hb => ?_) (fun hb => ?_)
      · skip
        have hz : s = ⟨#[]⟩ := str_inj hb
        have hv : tokValidM s = 2 := by unfold tokValidM; rw [if_neg hn4, if_pos (.inr (by rw [hz]; rfl))]
        have hE := And.intro hE hv
        refine WS [2] [] ?_
        apply aw_ret
        apply q_ret_block
        apply q_ret_seq
        simp only [QRet, QRetM, QRetX, retsX_nil, retsX_cons, objsAre, resA, mapO_nil, mapO_cons, vD_dat, vD_nils, vD_rp, vD_osl, vD_ptr, vD_agg, vD_fn, vD_isl, vL_dat, vL_app, viewL, avA, datsOf, fillA, seval, ↓List.forall_mem_cons, Op.operands, hP, hG, tiA, hE]
        all_goals try (first | done | rfl | trivial)
      · skip
        have hz : s.size ≠ 0 := fun h => hb (by have : s = ⟨#[]⟩ := by { cases s with | mk d => simp only [ByteArray.size] at h; simp only [Array.size_eq_zero_iff] at h; rw [h] }; rw [this])
        have hc := gvF hP hG (split_ok G s (by omega))
        refine WSc [21] [] ?_
        refine WI (fun hb => ?_) (fun hb => ?_)
        · skip
          have hv : tokValidM s = 4 := by unfold tokValidM; rw [if_neg hn4, if_neg (by rintro (h | h); exact hno h; exact hz h), if_pos (by omega)]
          have hE := And.intro hE hv
          refine WS [2] [] ?_
          apply aw_ret
          apply q_ret_block
          apply q_ret_seq
          simp only [QRet, QRetM, QRetX, retsX_nil, retsX_cons, objsAre, resA, mapO_nil, mapO_cons, vD_dat, vD_nils, vD_rp, vD_osl, vD_ptr, vD_agg, vD_fn, vD_isl, vL_dat, vL_app, viewL, avA, datsOf, fillA, seval, ↓List.forall_mem_cons, Op.operands, hP, hG, tiA, hE]
          all_goals try (first | done | rfl | trivial)
        · skip
          have hv : tokValidM s = 0 := by unfold tokValidM; rw [if_neg hn4, if_neg (by rintro (h | h); exact hno h; exact hz h), if_neg (by omega)]
          have hE := And.intro hE hv
          apply aw_skip
          apply q_block
          apply q_seq
          refine WS [2] [] ?_
          apply aw_ret
          simp only [QRet, QRetM, QRetX, retsX_nil, retsX_cons, objsAre, resA, mapO_nil, mapO_cons, vD_dat, vD_nils, vD_rp, vD_osl, vD_ptr, vD_agg, vD_fn, vD_isl, vL_dat, vL_app, viewL, avA, datsOf, fillA, seval, ↓List.forall_mem_cons, Op.operands, hP, hG, tiA, hE]
          all_goals try (first | done | rfl | trivial)

end Go.Proofs.YtabjaaonfaejmaaGreatDoor

namespace Go.Proofs.YtabjaaonfaejmaaGreatDoor
open Go.Av

/-- Whether the character @ is in a text. -/
def hasAt (s : ByteArray) : Bool := decide (0 ≤ Lib.indexByte s.data.toList 64)
theorem hasAt_iff (s : ByteArray) : hasAt s = true ↔ ∃ i, i < s.size ∧ byteAt s i = 64 := by
  have hb : ∀ i, byteAt s i = 64 ↔ s.data.toList[i]? = some 64 := fun i => by
    unfold byteAt
    rw [Array.getElem?_toList]
    cases h : s.data[i]? with
    | none => simp
    | some c =>
      simp only [Option.getD_some, Option.some.injEq]
      constructor
      · intro h
        apply UInt8.toNat_inj.1
        have : (64 : UInt8).toNat = 64 := rfl
        omega
      · rintro rfl; rfl
  have hge := Lib.indexByte_ge s.data.toList 64
  unfold hasAt
  rw [decide_eq_true_eq]
  constructor
  · intro h
    obtain ⟨o, ho⟩ := Int.eq_ofNat_of_zero_le h
    have := (Lib.indexByte_some ho).1
    refine ⟨o, ?_, (hb o).2 this⟩
    have := (List.getElem?_eq_some_iff.1 this).1
    simpa using this
  · rintro ⟨i, hi, h⟩
    by_cases h1 : 0 ≤ Lib.indexByte s.data.toList 64
    · exact h1
    · exact absurd ((hb i).1 h) (Lib.indexByte_none (by omega) i)
/-- A word of a heading. -/
def okWordM (s : ByteArray) : Bool := decide ((s.size : Int) ≤ 24) && !hasAt s && tokValidM s == 0

theorem contains_ok (G) (s : ByteArray) : Gives Tryz.prog G 105 [sD s, sD ⟨#[64]⟩] [bD (hasAt s)] := by
  refine ⟨⟨_, _, Tryz.func105, rfl, rfl⟩, fun w S vals _ _ hr => ?_⟩
  simp only [RepV, RepX] at hr
  obtain ⟨v1, vs1, h1, rfl, v2, vs2, rfl, rfl, rfl⟩ := hr
  obtain rfl : vals = #[.string s, .string ⟨#[64]⟩] := by cases vals; simpa using h1
  refine (Tryz.strings_Contains_one s 64 w).mono ?_
  rintro e w' ⟨rfl, rfl⟩
  exact ⟨_, rfl, Ext.refl _ _, by simp only [RetRep, RepX]; rfl⟩


theorem word_ok' (G) (s : ByteArray) (hs : s.size ≤ 281474976710656) : Gives Tryz.prog G 71 [sD s] [bD (okWordM s)] := by
  refine gives_intro [] [] [] Tryz.func71 rfl (by rfl) (by simp [Tryz.ntmps71]) fun F hP hG hN hR => ?_
  rw [Tryz.ntmps71] at hN
  have hA := And.intro hN (And.intro hP (And.intro hG (And.intro hR.1 (And.intro hR.2.1 hR.2.2.1))))
  have hE := @Tryz.results71
  refine WS [0] [] ?_
  apply aw_regs [2] []
  · simp (maxSteps := 2000000) (disch := omega) only [avR2, avA, datsOf, fillA, seval, ↓List.forall_mem_cons, Op.operands, hA, tiA, hE]
    (repeat' refine And.intro ?_ ?_) <;> try exact SD
    refine CallGC.use rfl (fun hg => ⟨by first | trivial | (simp only [gdAll, AV.gd, avA, seval]; (repeat' apply And.intro) <;> first | trivial | rfl | exact hg) | simp_all [gdAll], gvF hP hG (contains_ok G s)⟩) ?_
    try simp (maxSteps := 2000000) (disch := omega) only [avR2, avA, datsOf, fillA, seval, ↓List.forall_mem_cons, Op.operands, hA, tiA, hE]
    (repeat' refine And.intro ?_ ?_) <;> try exact SD
    refine CallGC.use rfl (fun hg => ⟨by first | trivial | (simp only [gdAll, AV.gd, avA, seval]; (repeat' apply And.intro) <;> first | trivial | rfl | exact hg) | simp_all [gdAll], gvF hP hG (tvalid_ok G s hs)⟩) ?_
    try simp (maxSteps := 2000000) (disch := omega) only [avR2, avA, datsOf, fillA, seval, ↓List.forall_mem_cons, Op.operands, hA, tiA, hE]
    exact SC
  apply aw_ret
  simp only [QRet, QRetM, QRetX, retsX_nil, retsX_cons, objsAre, resA, mapO_nil, mapO_cons, vD_dat, vD_nils, vD_rp, vD_osl, vD_ptr, vD_agg, vD_fn, vD_isl, vL_dat, vL_app, viewL, avA, datsOf, fillA, seval, ↓List.forall_mem_cons, Op.operands, hP, hG, tiA, hE, okWordM]
  all_goals try (first | done | rfl | trivial)

theorem notword_ok (G) (s : ByteArray) (hs : s.size ≤ 281474976710656) : Gives Tryz.prog G 108 [sD s] [bD (!okWordM s)] := by
  refine gives_intro [] [] [] Tryz.func108 rfl (by rfl) (by simp [Tryz.ntmps108]) fun F hP hG hN hR => ?_
  rw [Tryz.ntmps108] at hN
  have hA := And.intro hN (And.intro hP (And.intro hG (And.intro hR.1 (And.intro hR.2.1 hR.2.2.1))))
  have hE := @Tryz.results108
  refine WS [0] [] ?_
  have hc := gvF hP hG (word_ok' G s hs)
  refine WSc [2] [] ?_
  apply aw_ret
  simp only [QRet, QRetM, QRetX, retsX_nil, retsX_cons, objsAre, resA, mapO_nil, mapO_cons, vD_dat, vD_nils, vD_rp, vD_osl, vD_ptr, vD_agg, vD_fn, vD_isl, vL_dat, vL_app, viewL, avA, datsOf, fillA, seval, ↓List.forall_mem_cons, Op.operands, hP, hG, tiA, hE]
  all_goals try (first | done | rfl | trivial)

theorem index_ok (G) (l : List ByteArray) (g : FuncId) (p : ByteArray → Bool) (hl : l.length ≤ 281474976710656) (hg : ∀ o ∈ l, Gives Tryz.prog G g [sD o] [bD (p o)]) : Gives Tryz.prog G 128 [ssD l, .fn g []] [iD (idxM p l)] := by
  refine gives_introF [] [] [] Tryz.func128 rfl (by rfl) (by simp [Tryz.ntmps128]) fun F hP hG hN hR => ?_
  rw [Tryz.ntmps128] at hN
  have hA := And.intro hN (And.intro hP (And.intro hG (And.intro hR.1 (And.intro hR.2.1 hR.2.2.1))))
  have hE := @Tryz.results128
  refine WS [0, 1] [] ?_
  apply aw_seq
  refine WS [0, 1, 7, 8] [] ?_
  apply aw_block
  refine WL (ι := {i : Nat // i ≤ l.length ∧ ∀ j, j < i → p (l.getD j default) = false}) [0, 1, 7] [] (fun ⟨i, hif⟩ => [(8, .dat (iD i))]) (fun ⟨i, hif⟩ => []) (fun ⟨i, hif⟩ => l.length - i) (⟨0, by omega, none0⟩) ?_
  rintro ⟨i, hif⟩
  dsimp only [List.cons_append, List.nil_append]
  obtain ⟨hi, hf⟩ := id hif
  refine WS [0, 1, 7, 8, 9] [] ?_
  apply aw_seq
  refine WI (fun hb => ?_) (fun hb => ?_)
  · skip
    apply aw_skip
    apply q_seq
    apply aw_seq
    apply aw_block
    refine WS [0, 1, 5, 7, 8] [] ?_
    have hc := gvF hP hG (hg (l.getD i default) (getD_all (p := fun o => o ∈ l) (fun o h => h) (by omega)))
    refine WSc [0, 1, 5, 7, 8, 16] [] ?_
    refine WI (fun hb => ?_) (fun hb => ?_)
    · skip
      have hv := idxM_some (show i < l.length by omega) hb hf
      have hE := And.intro hE hv
      refine WS [4] [] ?_
      apply aw_ret
      apply q_ret_block
      apply q_ret_seq
      apply q_ret_loop
      apply q_ret_block
      apply q_ret_seq
      simp only [QRet, QRetM, QRetX, retsX_nil, retsX_cons, objsAre, resA, mapO_nil, mapO_cons, vD_dat, vD_nils, vD_rp, vD_osl, vD_ptr, vD_agg, vD_fn, vD_isl, vL_dat, vL_app, viewL, avA, datsOf, fillA, seval, ↓List.forall_mem_cons, Op.operands, hP, hG, tiA, hE]
      all_goals try (first | done | rfl | trivial)
    · skip
      apply aw_skip
      apply q_block
      apply q_seq
      refine WQ [0, 1, 7, 8] [] ?_
      refine WN (⟨i + 1, by omega, allstep hif.2 hb⟩)
  · skip
    apply aw_exit
    apply q_exit_seq
    obtain rfl : i = l.length := by omega
    have hv := idxM_none hf
    have hE := And.intro hE hv
    apply q_exit_loop
    apply q_exit
    apply q_seq
    refine WS [4] [] ?_
    apply aw_ret
    simp only [QRet, QRetM, QRetX, retsX_nil, retsX_cons, objsAre, resA, mapO_nil, mapO_cons, vD_dat, vD_nils, vD_rp, vD_osl, vD_ptr, vD_agg, vD_fn, vD_isl, vL_dat, vL_app, viewL, avA, datsOf, fillA, seval, ↓List.forall_mem_cons, Op.operands, hP, hG, tiA, hE]
    all_goals try (first | done | rfl | trivial)

theorem containsF_ok (G) (l : List ByteArray) (g : FuncId) (p : ByteArray → Bool) (hl : l.length ≤ 281474976710656) (hg : ∀ o ∈ l, Gives Tryz.prog G g [sD o] [bD (p o)]) : Gives Tryz.prog G 107 [ssD l, .fn g []] [bD (decide (0 ≤ idxM p l))] := by
  refine gives_introF [] [] [] Tryz.func107 rfl (by rfl) (by simp [Tryz.ntmps107]) fun F hP hG hN hR => ?_
  rw [Tryz.ntmps107] at hN
  have hA := And.intro hN (And.intro hP (And.intro hG (And.intro hR.1 (And.intro hR.2.1 hR.2.2.1))))
  have hE := @Tryz.results107
  refine WS [0, 1] [] ?_
  have hc := gvF hP hG (index_ok G l g p hl hg)
  refine WSc [4] [] ?_
  apply aw_ret
  simp only [QRet, QRetM, QRetX, retsX_nil, retsX_cons, objsAre, resA, mapO_nil, mapO_cons, vD_dat, vD_nils, vD_rp, vD_osl, vD_ptr, vD_agg, vD_fn, vD_isl, vL_dat, vL_app, viewL, avA, datsOf, fillA, seval, ↓List.forall_mem_cons, Op.operands, hP, hG, tiA, hE]
  all_goals try (first | done | rfl | trivial)

/-- All words of a list. -/
def okWordsM (l : List ByteArray) : Bool := l.all okWordM
theorem okWords_idx (l : List ByteArray) : (!decide (0 ≤ idxM (fun s => !okWordM s) l)) = okWordsM l := by
  have h := idxM_nonneg (p := fun s => !okWordM s) (l := l)
  unfold okWordsM
  rw [Bool.eq_iff_iff]
  simp only [Bool.not_eq_true', decide_eq_false_iff_not, h, List.any_eq_true, List.all_eq_true]
  constructor
  · intro h x hx
    rcases hw : okWordM x with _ | _
    · exact absurd ⟨x, hx, by simp [hw]⟩ h
    · rfl
  · rintro h ⟨x, hx, hw⟩
    simp [h x hx] at hw

theorem words_ok (G) (l : List ByteArray) (hl : l.length ≤ 281474976710656) (hs : ∀ s ∈ l, s.size ≤ 281474976710656) : Gives Tryz.prog G 72 [ssD l] [bD (okWordsM l)] := by
  skip
  refine gives_intro [] [] [] Tryz.func72 rfl (by rfl) (by simp [Tryz.ntmps72]) fun F hP hG hN hR => ?_
  rw [Tryz.ntmps72] at hN
  have hA := And.intro hN (And.intro hP (And.intro hG (And.intro hR.1 (And.intro hR.2.1 hR.2.2.1))))
  have hE := And.intro @Tryz.results72 (@okWords_idx)
  refine WS [0] [] ?_
  have hc := gvF hP hG (containsF_ok G l 108 (fun s => !okWordM s) hl (fun o ho => notword_ok G o (hs o ho)))
  refine WSc [2] [] ?_
  apply aw_ret
  simp only [QRet, QRetM, QRetX, retsX_nil, retsX_cons, objsAre, resA, mapO_nil, mapO_cons, vD_dat, vD_nils, vD_rp, vD_osl, vD_ptr, vD_agg, vD_fn, vD_isl, vL_dat, vL_app, viewL, avA, datsOf, fillA, seval, ↓List.forall_mem_cons, Op.operands, hP, hG, tiA, hE]
  all_goals try (first | done | rfl | trivial)

theorem rtvalid_ok (G) (s : ByteArray) (hs : s.size ≤ 281474976710656) : Gives Tryz.prog G 109 [sD s] [iD (tokValidM s)] := by
  have hi1 : ((s.size : Int) - 1).toNat = s.size - 1 := by omega
  skip
  refine gives_intro [] [] [] Tryz.func109 rfl (by rfl) (by simp [Tryz.ntmps109]) fun F hP hG hN hR => ?_
  rw [Tryz.ntmps109] at hN
  have hA := And.intro hN (And.intro hP (And.intro hG (And.intro hR.1 (And.intro hR.2.1 hR.2.2.1))))
  have hE := And.intro @Tryz.results109 (@hi1)
  refine WS [0] [] ?_
  apply aw_seq
  refine WS [0, 6] [] ?_
  refine WI (fun hb => ?_) (fun hb => ?_)
  · skip
    have hv : tokValidM s = 4 := by unfold tokValidM; rw [if_pos (by omega)]
    have hE := And.intro hE hv
    refine WS [2] [] ?_
    apply aw_ret
    apply q_ret_seq
    simp only [QRet, QRetM, QRetX, retsX_nil, retsX_cons, objsAre, resA, mapO_nil, mapO_cons, vD_dat, vD_nils, vD_rp, vD_osl, vD_ptr, vD_agg, vD_fn, vD_isl, vL_dat, vL_app, viewL, avA, datsOf, fillA, seval, ↓List.forall_mem_cons, Op.operands, hP, hG, tiA, hE]
    all_goals try (first | done | rfl | trivial)
  · skip
    have hn4 : ¬ 4096 < s.size := by omega
    apply aw_skip
    apply q_seq
    apply aw_seq
    refine WS [0, 22] [] ?_
    refine WI (fun hb => ?_) (fun hb => ?_)
    · skip
      have hv : tokValidM s = 2 := by
        unfold tokValidM
        rw [if_neg hn4, if_pos]
        rcases Nat.eq_zero_or_pos s.size with h | h
        · exact .inr h
        · refine .inl ?_
          by_cases h0 : byteAt s 0 = 32
          · exact ⟨0, h, by simp [badM, h0]⟩
          · refine ⟨s.size - 1, by omega, ?_⟩
            have h1 : byteAt s (s.size - 1) = 32 := by grind
            have h2 : ((s.size - 1 : Nat) : Int) = (s.size : Int) - 1 := by omega
            simp [badM, h1, h2]
      have hE := And.intro hE hv
      refine WS [2] [] ?_
      apply aw_ret
      apply q_ret_seq
      simp only [QRet, QRetM, QRetX, retsX_nil, retsX_cons, objsAre, resA, mapO_nil, mapO_cons, vD_dat, vD_nils, vD_rp, vD_osl, vD_ptr, vD_agg, vD_fn, vD_isl, vL_dat, vL_app, viewL, avA, datsOf, fillA, seval, ↓List.forall_mem_cons, Op.operands, hP, hG, tiA, hE]
      all_goals try (first | done | rfl | trivial)
    · skip
      have hz : s.size ≠ 0 := by grind
      have h0 : byteAt s 0 ≠ 32 := by grind
      have hl0 : byteAt s (s.size - 1) ≠ 32 := by grind
      apply aw_skip
      apply q_seq
      apply aw_seq
      refine WS [0, 3] [] ?_
      apply aw_block
      refine WL (ι := {i : Nat // i ≤ s.size ∧ ∀ j, j < i → badM s j = false}) [0] [] (fun ⟨i, hic⟩ => [(3, .dat (iD i))]) (fun ⟨i, hic⟩ => []) (fun ⟨i, hic⟩ => s.size - i) (⟨0, by omega, none0⟩) ?_
      rintro ⟨i, hic⟩
      dsimp only [List.cons_append, List.nil_append]
      obtain ⟨hi, hall⟩ := id hic
      have hi2 : ((i : Int) - 1).toNat = i - 1 := by omega
      have hE := And.intro hE hi2
      apply aw_seq
      refine WS [0, 3, 26] [] ?_
      refine WI (fun hb => ?_) (fun hb => ?_)
      · skip
        apply aw_skip
        apply q_seq
        apply aw_seq
        apply aw_block
        refine WS [0, 3, 55] [] ?_
        refine WI (fun hb => ?_) (fun hb => ?_)
        · skip
          have hbd : badM s i = true := by
            unfold badM
            grind
          have hv : tokValidM s = 2 := by unfold tokValidM; rw [if_neg hn4, if_pos (.inl ⟨i, by omega, hbd⟩)]
          have hE := And.intro hE hv
          refine WS [2] [] ?_
          apply aw_ret
          apply q_ret_block
          apply q_ret_seq
          apply q_ret_loop
          apply q_ret_block
          apply q_ret_seq
          simp only [QRet, QRetM, QRetX, retsX_nil, retsX_cons, objsAre, resA, mapO_nil, mapO_cons, vD_dat, vD_nils, vD_rp, vD_osl, vD_ptr, vD_agg, vD_fn, vD_isl, vL_dat, vL_app, viewL, avA, datsOf, fillA, seval, ↓List.forall_mem_cons, Op.operands, hP, hG, tiA, hE]
          all_goals try (first | done | rfl | trivial)
        · skip
          have hnb : badM s i = false := by
            have hz0 : i = 0 → byteAt s i = byteAt s 0 := fun h => by rw [h]
            have hz1 : i = s.size - 1 → byteAt s i = byteAt s (s.size - 1) := fun h => by rw [h]
            unfold badM
            grind
          apply aw_skip
          apply q_block
          apply q_seq
          refine WQ [0, 3] [] ?_
          refine WN (⟨i + 1, by omega, allstep hic.2 hnb⟩)
      · skip
        apply aw_exit
        apply q_exit_seq
        obtain rfl : i = s.size := by omega
        have hno : ¬ ∃ i, i < s.size ∧ badM s i = true := fun ⟨j, h1, h2⟩ => by rw [hall j h1] at h2; cases h2
        apply q_exit_loop
        apply q_exit
        apply q_seq
        apply aw_seq
        have hc := gvF hP hG (rsplit_ok G s (by omega))
        refine WSc [59] [] ?_
        refine WI (fun hb => ?_) (fun hb => ?_)
        · skip
          have hv : tokValidM s = 4 := by unfold tokValidM; rw [if_neg hn4, if_neg (by rintro (h | h); exact hno h; exact hz h), if_pos (by omega)]
          have hE := And.intro hE hv
          refine WS [2] [] ?_
          apply aw_ret
          apply q_ret_seq
          simp only [QRet, QRetM, QRetX, retsX_nil, retsX_cons, objsAre, resA, mapO_nil, mapO_cons, vD_dat, vD_nils, vD_rp, vD_osl, vD_ptr, vD_agg, vD_fn, vD_isl, vL_dat, vL_app, viewL, avA, datsOf, fillA, seval, ↓List.forall_mem_cons, Op.operands, hP, hG, tiA, hE]
          all_goals try (first | done | rfl | trivial)
        · skip
          have hv : tokValidM s = 0 := by unfold tokValidM; rw [if_neg hn4, if_neg (by rintro (h | h); exact hno h; exact hz h), if_neg (by omega)]
          have hE := And.intro hE hv
          apply aw_skip
          apply q_seq
          refine WS [2] [] ?_
          apply aw_ret
          simp only [QRet, QRetM, QRetX, retsX_nil, retsX_cons, objsAre, resA, mapO_nil, mapO_cons, vD_dat, vD_nils, vD_rp, vD_osl, vD_ptr, vD_agg, vD_fn, vD_isl, vL_dat, vL_app, viewL, avA, datsOf, fillA, seval, ↓List.forall_mem_cons, Op.operands, hP, hG, tiA, hE]
          all_goals try (first | done | rfl | trivial)

theorem rword_ok (G) (s : ByteArray) (hs : s.size ≤ 281474976710656) : Gives Tryz.prog G 76 [sD s] [bD (okWordM s)] := by
  refine gives_intro [] [] [] Tryz.func76 rfl (by rfl) (by simp [Tryz.ntmps76]) fun F hP hG hN hR => ?_
  rw [Tryz.ntmps76] at hN
  have hA := And.intro hN (And.intro hP (And.intro hG (And.intro hR.1 (And.intro hR.2.1 hR.2.2.1))))
  have hE := @Tryz.results76
  refine WS [0] [] ?_
  apply aw_seq
  apply aw_regs [0, 11] []
  · simp (maxSteps := 2000000) (disch := omega) only [avR2, avA, datsOf, fillA, seval, ↓List.forall_mem_cons, Op.operands, hA, tiA, hE]
    (repeat' refine And.intro ?_ ?_) <;> try exact SD
    refine CallGC.use rfl (fun hg => ⟨by first | trivial | (simp only [gdAll, AV.gd, avA, seval]; (repeat' apply And.intro) <;> first | trivial | rfl | exact hg) | simp_all [gdAll], gvF hP hG (rtvalid_ok G s hs)⟩) ?_
    try simp (maxSteps := 2000000) (disch := omega) only [avR2, avA, datsOf, fillA, seval, ↓List.forall_mem_cons, Op.operands, hA, tiA, hE]
    exact SC
  refine WI (fun hb => ?_) (fun hb => ?_)
  · skip
    have hv : okWordM s = false := by
      unfold okWordM
      grind
    have hE := And.intro hE hv
    refine WS [2] [] ?_
    apply aw_ret
    apply q_ret_seq
    simp only [QRet, QRetM, QRetX, retsX_nil, retsX_cons, objsAre, resA, mapO_nil, mapO_cons, vD_dat, vD_nils, vD_rp, vD_osl, vD_ptr, vD_agg, vD_fn, vD_isl, vL_dat, vL_app, viewL, avA, datsOf, fillA, seval, ↓List.forall_mem_cons, Op.operands, hP, hG, tiA, hE]
    all_goals try (first | done | rfl | trivial)
  · skip
    apply aw_skip
    apply q_seq
    apply aw_seq
    refine WS [0, 3] [] ?_
    apply aw_block
    refine WL (ι := {i : Nat // i ≤ s.size ∧ ∀ j, j < i → ¬ byteAt s j = 64}) [0] [] (fun ⟨i, hic⟩ => [(3, .dat (iD i))]) (fun ⟨i, hic⟩ => []) (fun ⟨i, hic⟩ => s.size - i) (⟨0, by omega, none0⟩) ?_
    rintro ⟨i, hic⟩
    dsimp only [List.cons_append, List.nil_append]
    obtain ⟨hi, hall⟩ := id hic
    apply aw_seq
    refine WS [0, 3, 15] [] ?_
    refine WI (fun hb => ?_) (fun hb => ?_)
    · skip
      apply aw_skip
      apply q_seq
      apply aw_seq
      apply aw_block
      refine WS [0, 3, 21] [] ?_
      refine WI (fun hb => ?_) (fun hb => ?_)
      · skip
        have ha := (hasAt_iff s).2 ⟨i, by omega, hb⟩
        have hv : okWordM s = false := by
          unfold okWordM
          simp [ha]
        have hE := And.intro hE hv
        refine WS [2] [] ?_
        apply aw_ret
        apply q_ret_block
        apply q_ret_seq
        apply q_ret_loop
        apply q_ret_block
        apply q_ret_seq
        simp only [QRet, QRetM, QRetX, retsX_nil, retsX_cons, objsAre, resA, mapO_nil, mapO_cons, vD_dat, vD_nils, vD_rp, vD_osl, vD_ptr, vD_agg, vD_fn, vD_isl, vL_dat, vL_app, viewL, avA, datsOf, fillA, seval, ↓List.forall_mem_cons, Op.operands, hP, hG, tiA, hE]
        all_goals try (first | done | rfl | trivial)
      · skip
        apply aw_skip
        apply q_block
        apply q_seq
        refine WQ [0, 3] [] ?_
        refine WN (⟨i + 1, by omega, allstep hic.2 hb⟩)
    · skip
      apply aw_exit
      apply q_exit_seq
      obtain rfl : i = s.size := by omega
      have ha : hasAt s = false := by
        cases h : hasAt s
        · rfl
        · obtain ⟨j, h1, h2⟩ := (hasAt_iff s).1 h
          exact absurd h2 (hall j h1)
      have hv : okWordM s = true := by
        unfold okWordM
        grind
      have hE := And.intro hE hv
      apply q_exit_loop
      apply q_exit
      apply q_seq
      refine WS [2] [] ?_
      apply aw_ret
      simp only [QRet, QRetM, QRetX, retsX_nil, retsX_cons, objsAre, resA, mapO_nil, mapO_cons, vD_dat, vD_nils, vD_rp, vD_osl, vD_ptr, vD_agg, vD_fn, vD_isl, vL_dat, vL_app, viewL, avA, datsOf, fillA, seval, ↓List.forall_mem_cons, Op.operands, hP, hG, tiA, hE]
      all_goals try (first | done | rfl | trivial)

theorem rwords_ok (G) (l : List ByteArray) (hl : l.length ≤ 281474976710656) (hs : ∀ s ∈ l, s.size ≤ 281474976710656) : Gives Tryz.prog G 77 [ssD l] [bD (okWordsM l)] := by
  refine gives_intro [] [] [] Tryz.func77 rfl (by rfl) (by simp [Tryz.ntmps77]) fun F hP hG hN hR => ?_
  rw [Tryz.ntmps77] at hN
  have hA := And.intro hN (And.intro hP (And.intro hG (And.intro hR.1 (And.intro hR.2.1 hR.2.2.1))))
  have hE := @Tryz.results77
  refine WS [0] [] ?_
  apply aw_seq
  refine WS [0, 3] [] ?_
  apply aw_block
  refine WL (ι := {i : Nat // i ≤ l.length ∧ ∀ j, j < i → okWordM (l.getD j default) = true}) [0] [] (fun ⟨i, hic⟩ => [(3, .dat (iD i))]) (fun ⟨i, hic⟩ => []) (fun ⟨i, hic⟩ => l.length - i) (⟨0, by omega, none0⟩) ?_
  rintro ⟨i, hic⟩
  dsimp only [List.cons_append, List.nil_append]
  obtain ⟨hi, hall⟩ := id hic
  apply aw_seq
  refine WS [0, 3, 7] [] ?_
  refine WI (fun hb => ?_) (fun hb => ?_)
  · skip
    apply aw_skip
    apply q_seq
    apply aw_seq
    apply aw_block
    have hc := gvF hP hG (rword_ok G (l.getD i default) (getD_all hs (by omega)))
    refine WSc [0, 3, 15] [] ?_
    refine WI (fun hb => ?_) (fun hb => ?_)
    · skip
      have hv : okWordsM l = false := by
        unfold okWordsM
        rw [List.all_eq_false]
        exact ⟨l.getD i default, getD_all (p := fun o => o ∈ l) (fun o h => h) (by omega), by rw [hb]; exact Bool.false_ne_true⟩
      have hE := And.intro hE hv
      refine WS [2] [] ?_
      apply aw_ret
      apply q_ret_block
      apply q_ret_seq
      apply q_ret_loop
      apply q_ret_block
      apply q_ret_seq
      simp only [QRet, QRetM, QRetX, retsX_nil, retsX_cons, objsAre, resA, mapO_nil, mapO_cons, vD_dat, vD_nils, vD_rp, vD_osl, vD_ptr, vD_agg, vD_fn, vD_isl, vL_dat, vL_app, viewL, avA, datsOf, fillA, seval, ↓List.forall_mem_cons, Op.operands, hP, hG, tiA, hE]
      all_goals try (first | done | rfl | trivial)
    · skip
      apply aw_skip
      apply q_block
      apply q_seq
      refine WQ [0, 3] [] ?_
      refine WN (⟨i + 1, by omega, allstep hic.2 hb⟩)
  · skip
    apply aw_exit
    apply q_exit_seq
    obtain rfl : i = l.length := by omega
    have hv : okWordsM l = true := by
      unfold okWordsM
      rw [List.all_eq_true]
      intro x hx
      obtain ⟨j, hj, rfl⟩ := List.getElem_of_mem hx
      have := hall j hj
      rwa [List.getD_eq_getElem?_getD, List.getElem?_eq_getElem hj] at this
    have hE := And.intro hE hv
    apply q_exit_loop
    apply q_exit
    apply q_seq
    refine WS [2] [] ?_
    apply aw_ret
    simp only [QRet, QRetM, QRetX, retsX_nil, retsX_cons, objsAre, resA, mapO_nil, mapO_cons, vD_dat, vD_nils, vD_rp, vD_osl, vD_ptr, vD_agg, vD_fn, vD_isl, vL_dat, vL_app, viewL, avA, datsOf, fillA, seval, ↓List.forall_mem_cons, Op.operands, hP, hG, tiA, hE]
    all_goals try (first | done | rfl | trivial)

end Go.Proofs.YtabjaaonfaejmaaGreatDoor

namespace Go.Proofs.YtabjaaonfaejmaaGreatDoor
open Go.Av

/-- The first i lists, one behind the other. -/
def catN {α : Type} (ls : List (List α)) (i : Nat) : List α := (preM ls i).flatten
theorem catN_zero {α : Type} (ls : List (List α)) : catN ls 0 = [] := rfl
theorem catN_succ {α : Type} (ls : List (List α)) (i : Nat) (h : i < ls.length) : catN ls (i + 1) = catN ls i ++ ls.getD i default := by
  simp [catN, preM_succ ls i h]
theorem catN_lsucc {α : Type} (ls : List (List α)) (i : Nat) (h : i < ls.length) : (catN ls (i + 1)).length = (catN ls i).length + (ls.getD i default).length := by
  rw [catN_succ ls i h, List.length_append]
theorem catN_all {α : Type} (ls : List (List α)) : catN ls ls.length = ls.flatten := by simp [catN, preM_all]
theorem catN_le {α : Type} {ls : List (List α)} (hs : ∀ l ∈ ls, l.length ≤ 1000000) {i : Nat} (h : i ≤ ls.length) : (catN ls i).length ≤ 1000000 * i := by
  have : ∀ k : List (List α), (∀ l ∈ k, l.length ≤ 1000000) → k.flatten.length ≤ 1000000 * k.length := fun k hk => by
    induction k with
    | nil => simp
    | cons x k ih =>
      have h1 := hk x (by simp)
      have h2 := ih fun l hl => hk l (by simp [hl])
      rw [List.flatten_cons, List.length_append, List.length_cons]
      omega
  have h2 := this (preM ls i) fun l hl => hs l (List.mem_of_mem_take hl)
  rw [preM_len ls i h] at h2
  exact h2


theorem growB_okX (G) (n : Int) (h0 : 0 ≤ n) (hn : n ≤ 1000000000000) : GivesX Tryz.prog G 115 [.nils, .dat (iD n)] [] [.osl 22 1 0 0] [(22, ⟨1, []⟩)] := by
  skip
  refine gives_introX' [] [] [] Tryz.func115 rfl (by rfl) (by simp [Tryz.ntmps115]) (by kernel_rfl) (by simp [onlyL_nil, onlyL_cons, AV.only, inIds]) (by simp only [onlyOs, onlyL_nil, onlyL_cons, onlyL_append, onlyL_dats, onlyL_row, AV.only, Bool.and_true] <;> simp [inIds]) fun F hP hG hN hR => ?_
  rw [Tryz.ntmps115] at hN
  have hA := And.intro hN (And.intro hP (And.intro hG (And.intro hR.1 (And.intro hR.2.1 hR.2.2.1))))
  have hE := And.intro @Tryz.results115 (@IntWalk.i64_in)
  refine WS [0, 1] [22] ?_
  apply aw_seq
  refine WS [0, 1, 6] [22] ?_
  refine WI (fun hb => ?_) (fun hb => ?_)
  · skip
    exfalso
    omega --STOP
  · skip
    apply aw_skip
    apply q_seq
    apply aw_seq
    refine aw_lists ?_
    apply al_seg
    · (iterate 2 apply Seg.cons); exact Seg.nil _
    · simp (maxSteps := 2000000) (disch := omega) only [avR2, avA, datsOf, fillA, seval, ↓List.forall_mem_cons, Op.operands, hA, tiA, hE, KeptS]
      exact SC
    refine al_step rfl (capN_ok rfl rfl (by rw [hN]; omega) (by rw [hP]; exact ti47) rfl rfl) ?_
    rw [of_put]
    apply al_last [0, 1] [22]
    · simp (maxSteps := 2000000) (disch := omega) only [avR2, avA, datsOf, fillA, seval, ↓List.forall_mem_cons, Op.operands, hA, tiA, hE]
      exact SC
    refine WS [0, 1, 16] [22] ?_
    refine WI (fun hb => ?_) (fun hb => ?_)
    · skip
      refine aw_list ?_
      apply al_seg
      · (iterate 2 apply Seg.cons); exact Seg.nil _
      · simp (maxSteps := 2000000) (disch := omega) only [avR2, avA, datsOf, fillA, seval, ↓List.forall_mem_cons, Op.operands, hA, tiA, hE, KeptS]
        exact SC
      refine al_step rfl (capN_ok rfl rfl (by rw [hN]; omega) (by rw [hP]; exact ti47) rfl rfl) ?_
      rw [of_put]
      apply al_seg
      · (iterate 2 apply Seg.cons); exact Seg.nil _
      · simp (maxSteps := 2000000) (disch := omega) only [avR2, avA, datsOf, fillA, seval, ↓List.forall_mem_cons, Op.operands, hA, tiA, hE, KeptS]
        exact SC
      refine al_step rfl (appendZ_ok rfl rfl (by rw [hN]; omega) (by rw [hP]; exact ti47) rfl (by rw [hP]; exact ti3) rfl (by rw [hP]; exact ti5) rfl rfl rfl rfl rfl (by omega) (by omega) (by dsimp only; omega)) ?_
      simp only [avA, seval]
      apply al_last [0] [22]
      · simp (maxSteps := 2000000) (disch := omega) only [avR2, avA, datsOf, fillA, seval, ↓List.forall_mem_cons, Op.operands, hA, tiA, hE]
        exact SC
      apply q_seq
      refine WS [4] [22] ?_
      apply aw_ret
      simp only [QRet, QRetM, QRetX, retsX_nil, retsX_cons, objsAre, resA, mapO_nil, mapO_cons, vD_dat, vD_nils, vD_rp, vD_osl, vD_ptr, vD_agg, vD_fn, vD_isl, vL_dat, vL_app, viewL, avA, datsOf, fillA, seval, ↓List.forall_mem_cons, Op.operands, hP, hG, tiA, hE]
      all_goals try (first | done | rfl | trivial)
    · skip
      refine aw_new0 22 1 (by omega) ?_
      refine aw_nilE 0 22 1 rfl rfl ?_
      
      apply aw_skip
      apply q_seq
      refine WS [4] [22] ?_
      apply aw_ret
      simp only [QRet, QRetM, QRetX, retsX_nil, retsX_cons, objsAre, resA, mapO_nil, mapO_cons, vD_dat, vD_nils, vD_rp, vD_osl, vD_ptr, vD_agg, vD_fn, vD_isl, vL_dat, vL_app, viewL, avA, datsOf, fillA, seval, ↓List.forall_mem_cons, Op.operands, hP, hG, tiA, hE]
      all_goals try (first | done | rfl | trivial)

theorem growS_okX (G) (n : Int) (h0 : 0 ≤ n) (hn : n ≤ 1000000000000) : GivesX Tryz.prog G 83 [.nils, .dat (iD n)] [] [.osl 22 1 0 0] [(22, ⟨1, []⟩)] := by
  skip
  refine gives_introX' [] [] [] Tryz.func83 rfl (by rfl) (by simp [Tryz.ntmps83]) (by kernel_rfl) (by simp [onlyL_nil, onlyL_cons, AV.only, inIds]) (by simp only [onlyOs, onlyL_nil, onlyL_cons, onlyL_append, onlyL_dats, onlyL_row, AV.only, Bool.and_true] <;> simp [inIds]) fun F hP hG hN hR => ?_
  rw [Tryz.ntmps83] at hN
  have hA := And.intro hN (And.intro hP (And.intro hG (And.intro hR.1 (And.intro hR.2.1 hR.2.2.1))))
  have hE := And.intro @Tryz.results83 (@IntWalk.i64_in)
  refine WS [0, 1] [22] ?_
  apply aw_seq
  refine WS [0, 1, 6] [22] ?_
  refine WI (fun hb => ?_) (fun hb => ?_)
  · skip
    exfalso
    omega --STOP
  · skip
    apply aw_skip
    apply q_seq
    apply aw_seq
    refine aw_lists ?_
    apply al_seg
    · (iterate 2 apply Seg.cons); exact Seg.nil _
    · simp (maxSteps := 2000000) (disch := omega) only [avR2, avA, datsOf, fillA, seval, ↓List.forall_mem_cons, Op.operands, hA, tiA, hE, KeptS]
      exact SC
    refine al_step rfl (capN_ok rfl rfl (by rw [hN]; omega) (by rw [hP]; exact ti28) rfl rfl) ?_
    rw [of_put]
    apply al_last [0, 1] [22]
    · simp (maxSteps := 2000000) (disch := omega) only [avR2, avA, datsOf, fillA, seval, ↓List.forall_mem_cons, Op.operands, hA, tiA, hE]
      exact SC
    refine WS [0, 1, 16] [22] ?_
    refine WI (fun hb => ?_) (fun hb => ?_)
    · skip
      refine aw_list ?_
      apply al_seg
      · (iterate 2 apply Seg.cons); exact Seg.nil _
      · simp (maxSteps := 2000000) (disch := omega) only [avR2, avA, datsOf, fillA, seval, ↓List.forall_mem_cons, Op.operands, hA, tiA, hE, KeptS]
        exact SC
      refine al_step rfl (capN_ok rfl rfl (by rw [hN]; omega) (by rw [hP]; exact ti28) rfl rfl) ?_
      rw [of_put]
      apply al_seg
      · (iterate 2 apply Seg.cons); exact Seg.nil _
      · simp (maxSteps := 2000000) (disch := omega) only [avR2, avA, datsOf, fillA, seval, ↓List.forall_mem_cons, Op.operands, hA, tiA, hE, KeptS]
        exact SC
      refine al_step rfl (appendZ_ok rfl rfl (by rw [hN]; omega) (by rw [hP]; exact ti28) rfl (by rw [hP]; exact ti3) rfl (by rw [hP]; exact ti9) rfl rfl rfl rfl rfl (by omega) (by omega) (by dsimp only; omega)) ?_
      simp only [avA, seval]
      apply al_last [0] [22]
      · simp (maxSteps := 2000000) (disch := omega) only [avR2, avA, datsOf, fillA, seval, ↓List.forall_mem_cons, Op.operands, hA, tiA, hE]
        exact SC
      apply q_seq
      refine WS [4] [22] ?_
      apply aw_ret
      simp only [QRet, QRetM, QRetX, retsX_nil, retsX_cons, objsAre, resA, mapO_nil, mapO_cons, vD_dat, vD_nils, vD_rp, vD_osl, vD_ptr, vD_agg, vD_fn, vD_isl, vL_dat, vL_app, viewL, avA, datsOf, fillA, seval, ↓List.forall_mem_cons, Op.operands, hP, hG, tiA, hE]
      all_goals try (first | done | rfl | trivial)
    · skip
      refine aw_new0 22 1 (by omega) ?_
      refine aw_nilE 0 22 1 rfl rfl ?_
      
      apply aw_skip
      apply q_seq
      refine WS [4] [22] ?_
      apply aw_ret
      simp only [QRet, QRetM, QRetX, retsX_nil, retsX_cons, objsAre, resA, mapO_nil, mapO_cons, vD_dat, vD_nils, vD_rp, vD_osl, vD_ptr, vD_agg, vD_fn, vD_isl, vL_dat, vL_app, viewL, avA, datsOf, fillA, seval, ↓List.forall_mem_cons, Op.operands, hP, hG, tiA, hE]
      all_goals try (first | done | rfl | trivial)

theorem concatB_ok (G) (ls : List (List Int)) (hl : ls.length ≤ 1000000) (hs : ∀ l ∈ ls, l.length ≤ 1000000) (hq : ls.flatten.length ≤ 1000000) : Gives Tryz.prog G 82 [.sl (ls.map fun l => u8sD l)] [u8sD ls.flatten] := by
  skip
  skip
  refine gives_intro [] [24] [] Tryz.func82 rfl (by rfl) (by simp [Tryz.ntmps82]) fun F hP hG hN hR => ?_
  rw [Tryz.ntmps82] at hN
  have hA := And.intro hN (And.intro hP (And.intro hG (And.intro hR.1 (And.intro hR.2.1 hR.2.2.1))))
  have hE := And.intro @Tryz.results82 (And.intro @catN_zero (@IntWalk.i64_in))
  refine WS [0] [33] ?_
  refine WS [0, 3] [33] ?_
  apply aw_seq
  refine WS [0, 3, 9, 10, 11] [33] ?_
  apply aw_block
  refine WL (ι := {i : Nat // i ≤ ls.length}) [0, 9, 10] [33] (fun ⟨i, hi⟩ => [(3, .dat (iD (catN ls i).length)), (11, .dat (iD i))]) (fun ⟨i, hi⟩ => []) (fun ⟨i, hi⟩ => ls.length - i) (⟨0, by omega⟩) ?_
  rintro ⟨i, hi⟩
  dsimp only [List.cons_append, List.nil_append]
  refine WS [0, 3, 9, 10, 11, 12] [33] ?_
  apply aw_seq
  refine WI (fun hb => ?_) (fun hb => ?_)
  · skip
    have hx := getD_all hs (i := i) (by omega)
    have hle := catN_le hs hi
    have hsc := catN_lsucc ls i (by omega)
    have hE := And.intro hE hsc
    apply aw_skip
    apply q_seq
    apply aw_seq
    apply aw_block
    refine WS [0, 3, 5, 9, 10, 11] [33] ?_
    refine WS [0, 3, 9, 10, 11] [33] ?_
    refine WS [0, 3, 9, 10, 11, 20] [33] ?_
    refine WI (fun hb => ?_) (fun hb => ?_)
    · skip
      exfalso
      omega --STOP
    · skip
      apply aw_skip
      apply q_block
      apply q_seq
      refine WQ [0, 3, 9, 10, 11] [33] ?_
      refine WN (⟨i + 1, by omega⟩)
  · skip
    apply aw_exit
    apply q_exit_seq
    have hend : i = ls.length := by omega
    subst hend
    have hf := catN_all ls
    have hE := And.intro hE hf
    apply q_exit_loop
    apply q_exit
    apply q_seq
    apply aw_regs [0, 6] [33]
    · simp (maxSteps := 2000000) (disch := omega) only [avR2, avA, datsOf, fillA, seval, ↓List.forall_mem_cons, Op.operands, hA, tiA, hE]
      (repeat' refine And.intro ?_ ?_) <;> try exact SD
      refine CallC.useX (fun _ => 33) [22] (by simp [LitD, hR.2.1]) (gvFX hP hG (growB_okX G ls.flatten.length (by omega) (by omega))) rfl (lentX_of hN (by first | trivial | ((try simp only [haveL, AObj.ren, AV.ren, renL, ren_row, List.map_cons, List.map_nil, objL_cons, objL_nil]) <;> ((repeat' apply And.intro) <;> first | trivial | rfl))) (by rfl)) ?_
      try simp (maxSteps := 2000000) (disch := omega) only [avR2, avA, datsOf, fillA, seval, ↓List.forall_mem_cons, Op.operands, hA, tiA, hE, avX]
      exact SC
    apply aw_seq
    refine WS [6, 25, 26, 27] [33] ?_
    apply aw_block
    refine WL (ι := {i : Nat // i ≤ ls.length}) [25, 26] [] (fun ⟨i, hi⟩ => [(6, .osl 33 1 0 (catN ls i).length), (27, .dat (iD i))]) (fun ⟨i, hi⟩ => [(33, ⟨1, ((catN ls i).map u8D).map .dat⟩)]) (fun ⟨i, hi⟩ => ls.length - i) (⟨0, by omega⟩) ?_
    rintro ⟨i, hi⟩
    dsimp only [List.cons_append, List.nil_append]
    refine WS [6, 25, 26, 27, 28] [33] ?_
    apply aw_seq
    refine WI (fun hb => ?_) (fun hb => ?_)
    · skip
      have hx := getD_all hs (i := i) (by omega)
      have hle := catN_le hs hi
      have hsc := catN_succ ls i (by omega)
      have hE := And.intro hE hsc
      
      apply aw_skip
      apply q_seq
      apply aw_seq
      apply aw_block
      refine WS [6, 8, 25, 26, 27] [33] ?_
      refine WQ [6, 25, 26, 27] [33] ?_
      apply q_block
      apply q_seq
      refine WQ [6, 25, 26, 27] [33] ?_
      refine WN (⟨i + 1, by omega⟩)
    · skip
      apply aw_exit
      apply q_exit_seq
      have hend : i = ls.length := by omega
      subst hend
      apply q_exit_loop
      apply q_exit
      apply q_seq
      refine WS [2] [33] ?_
      apply aw_ret
      simp only [QRet, QRetM, QRetX, retsX_nil, retsX_cons, objsAre, resA, mapO_nil, mapO_cons, vD_dat, vD_nils, vD_rp, vD_osl, vD_ptr, vD_agg, vD_fn, vD_isl, vL_dat, vL_app, viewL, avA, datsOf, fillA, seval, ↓List.forall_mem_cons, Op.operands, hP, hG, tiA, hE]
      all_goals try (first | done | rfl | trivial)

theorem concatS_ok (G) (ls : List (List ByteArray)) (hl : ls.length ≤ 1000000) (hs : ∀ l ∈ ls, l.length ≤ 1000000) (hq : ls.flatten.length ≤ 1000000) : Gives Tryz.prog G 43 [.sl (ls.map fun l => ssD l)] [ssD ls.flatten] := by
  skip
  skip
  refine gives_intro [] [24] [] Tryz.func43 rfl (by rfl) (by simp [Tryz.ntmps43]) fun F hP hG hN hR => ?_
  rw [Tryz.ntmps43] at hN
  have hA := And.intro hN (And.intro hP (And.intro hG (And.intro hR.1 (And.intro hR.2.1 hR.2.2.1))))
  have hE := And.intro @Tryz.results43 (And.intro @catN_zero (@IntWalk.i64_in))
  refine WS [0] [33] ?_
  refine WS [0, 3] [33] ?_
  apply aw_seq
  refine WS [0, 3, 9, 10, 11] [33] ?_
  apply aw_block
  refine WL (ι := {i : Nat // i ≤ ls.length}) [0, 9, 10] [33] (fun ⟨i, hi⟩ => [(3, .dat (iD (catN ls i).length)), (11, .dat (iD i))]) (fun ⟨i, hi⟩ => []) (fun ⟨i, hi⟩ => ls.length - i) (⟨0, by omega⟩) ?_
  rintro ⟨i, hi⟩
  dsimp only [List.cons_append, List.nil_append]
  refine WS [0, 3, 9, 10, 11, 12] [33] ?_
  apply aw_seq
  refine WI (fun hb => ?_) (fun hb => ?_)
  · skip
    have hx := getD_all hs (i := i) (by omega)
    have hle := catN_le hs hi
    have hsc := catN_lsucc ls i (by omega)
    have hE := And.intro hE hsc
    apply aw_skip
    apply q_seq
    apply aw_seq
    apply aw_block
    refine WS [0, 3, 5, 9, 10, 11] [33] ?_
    refine WS [0, 3, 9, 10, 11] [33] ?_
    refine WS [0, 3, 9, 10, 11, 20] [33] ?_
    refine WI (fun hb => ?_) (fun hb => ?_)
    · skip
      exfalso
      omega --STOP
    · skip
      apply aw_skip
      apply q_block
      apply q_seq
      refine WQ [0, 3, 9, 10, 11] [33] ?_
      refine WN (⟨i + 1, by omega⟩)
  · skip
    apply aw_exit
    apply q_exit_seq
    have hend : i = ls.length := by omega
    subst hend
    have hf := catN_all ls
    have hE := And.intro hE hf
    apply q_exit_loop
    apply q_exit
    apply q_seq
    apply aw_regs [0, 6] [33]
    · simp (maxSteps := 2000000) (disch := omega) only [avR2, avA, datsOf, fillA, seval, ↓List.forall_mem_cons, Op.operands, hA, tiA, hE]
      (repeat' refine And.intro ?_ ?_) <;> try exact SD
      refine CallC.useX (fun _ => 33) [22] (by simp [LitD, hR.2.1]) (gvFX hP hG (growS_okX G ls.flatten.length (by omega) (by omega))) rfl (lentX_of hN (by first | trivial | ((try simp only [haveL, AObj.ren, AV.ren, renL, ren_row, List.map_cons, List.map_nil, objL_cons, objL_nil]) <;> ((repeat' apply And.intro) <;> first | trivial | rfl))) (by rfl)) ?_
      try simp (maxSteps := 2000000) (disch := omega) only [avR2, avA, datsOf, fillA, seval, ↓List.forall_mem_cons, Op.operands, hA, tiA, hE, avX]
      exact SC
    apply aw_seq
    refine WS [6, 25, 26, 27] [33] ?_
    apply aw_block
    refine WL (ι := {i : Nat // i ≤ ls.length}) [25, 26] [] (fun ⟨i, hi⟩ => [(6, .osl 33 1 0 (catN ls i).length), (27, .dat (iD i))]) (fun ⟨i, hi⟩ => [(33, ⟨1, ((catN ls i).map Dat.str).map .dat⟩)]) (fun ⟨i, hi⟩ => ls.length - i) (⟨0, by omega⟩) ?_
    rintro ⟨i, hi⟩
    dsimp only [List.cons_append, List.nil_append]
    refine WS [6, 25, 26, 27, 28] [33] ?_
    apply aw_seq
    refine WI (fun hb => ?_) (fun hb => ?_)
    · skip
      have hx := getD_all hs (i := i) (by omega)
      have hle := catN_le hs hi
      have hsc := catN_succ ls i (by omega)
      have hE := And.intro hE hsc
      
      apply aw_skip
      apply q_seq
      apply aw_seq
      apply aw_block
      refine WS [6, 8, 25, 26, 27] [33] ?_
      refine WQ [6, 25, 26, 27] [33] ?_
      apply q_block
      apply q_seq
      refine WQ [6, 25, 26, 27] [33] ?_
      refine WN (⟨i + 1, by omega⟩)
    · skip
      apply aw_exit
      apply q_exit_seq
      have hend : i = ls.length := by omega
      subst hend
      apply q_exit_loop
      apply q_exit
      apply q_seq
      refine WS [2] [33] ?_
      apply aw_ret
      simp only [QRet, QRetM, QRetX, retsX_nil, retsX_cons, objsAre, resA, mapO_nil, mapO_cons, vD_dat, vD_nils, vD_rp, vD_osl, vD_ptr, vD_agg, vD_fn, vD_isl, vL_dat, vL_app, viewL, avA, datsOf, fillA, seval, ↓List.forall_mem_cons, Op.operands, hP, hG, tiA, hE]
      all_goals try (first | done | rfl | trivial)

end Go.Proofs.YtabjaaonfaejmaaGreatDoor

namespace Go.Proofs.YtabjaaonfaejmaaGreatDoor
open Go.Av


theorem wint_okX (G) (n : Int) (hn : I64 n) : GivesX Tryz.prog G 44 [.dat (iD n)] [] [.osl 45 1 0 (kM n + 1)] [(45, ⟨1, ((intM n).map u8D).map .dat⟩)] := by
  have hr := negM_range hn
  have hk := kM_le hn
  skip
  refine gives_introX' [29] [] [] Tryz.func44 rfl (by rfl) (by simp [Tryz.ntmps44]) (by kernel_rfl) (by simp [onlyL_nil, onlyL_cons, AV.only, inIds]) (by simp only [onlyOs, onlyL_nil, onlyL_cons, onlyL_append, onlyL_dats, onlyL_row, AV.only, Bool.and_true] <;> simp [inIds]) fun F hP hG hN hR => ?_
  rw [Tryz.ntmps44] at hN
  have hA := And.intro hN (And.intro hP (And.intro hG (And.intro hR.1 (And.intro hR.2.1 hR.2.2.1))))
  have hE := And.intro @Tryz.results44 (And.intro @IntWalk.u64_in (And.intro @intN_zero (And.intro @intN_succ (And.intro @intN_len (And.intro @xor_flip (And.intro @IntWalk.u8_in (And.intro @digM.eq_1 (@intM_eq))))))))
  refine WS [0] [] ?_
  apply aw_scope
  refine WS [0, 3, 4] [] ?_
  refine aw_meet (.of [(3, .dat (.int .u64 (negM n))), (4, .dat (u8D (flipM n 0)))] []) ?_ ?_
  · skip
    refine WS [3, 4, 11] [] ?_
    refine WI (fun hb => ?_) (fun hb => ?_)
    · skip
      have h1 := not_u64i hn hb
      have h2 : flipM n 0 = 255 := by unfold flipM; rw [if_pos hb]; rfl
      have hE := And.intro hE (And.intro h1 h2)
      refine WQ [3, 4] [] ?_
      refine Le.of ?_ ?_
      · try simp (disch := omega) only [LeE, LeO, avA, datsOf, fillA, seval, ↓List.forall_mem_cons, Op.operands, hE]
        all_goals first | done | (repeat' apply And.intro) <;> first | rfl | omega | assumption | (simp only [AV.dat.injEq, Dat.int.injEq, true_and]; omega) | (congr <;> omega)
      · try simp (disch := omega) only [LeE, LeO, avA, datsOf, fillA, seval, ↓List.forall_mem_cons, Op.operands, hE]
        all_goals first | done | (repeat' apply And.intro) <;> first | rfl | omega | assumption | (simp only [AV.dat.injEq, Dat.int.injEq, true_and]; omega) | (congr <;> omega)
    · skip
      have h1 : negM n = n := by unfold negM; rw [if_neg (by omega)]
      have h2 : flipM n 0 = 0 := by unfold flipM; rw [if_neg (by omega)]
      have hE := And.intro hE (And.intro h1 h2)
      apply aw_skip
      refine Le.of ?_ ?_
      · try simp (disch := omega) only [LeE, LeO, avA, datsOf, fillA, seval, ↓List.forall_mem_cons, Op.operands, hE]
        all_goals first | done | (repeat' apply And.intro) <;> first | rfl | omega | assumption | (simp only [AV.dat.injEq, Dat.int.injEq, true_and]; omega) | (congr <;> omega)
      · try simp (disch := omega) only [LeE, LeO, avA, datsOf, fillA, seval, ↓List.forall_mem_cons, Op.operands, hE]
        all_goals first | done | (repeat' apply And.intro) <;> first | rfl | omega | assumption | (simp only [AV.dat.injEq, Dat.int.injEq, true_and]; omega) | (congr <;> omega)
  refine WS [3, 4, 5] [] ?_
  apply aw_seq
  apply aw_label
  apply q_seq
  apply aw_seq
  apply aw_block
  refine WL (ι := {k : Nat // kM n ≤ k ∧ k ≤ 8}) [3, 4] [] (fun ⟨k, hkk⟩ => [(5, .dat (iD k))]) (fun ⟨k, hkk⟩ => []) (fun ⟨k, hkk⟩ => k) (⟨8, by omega⟩) ?_
  rintro ⟨k, hkk⟩
  dsimp only [List.cons_append, List.nil_append]
  obtain ⟨hk1, hk8⟩ := hkk
  apply aw_seq
  refine WS [3, 4, 5, 15] [] ?_
  refine WI (fun hb => ?_) (fun hb => ?_)
  · skip
    have hs := shr_digit (m := negM n) (j := k - 1) hr.1 (by omega)
    rw [show ((k - 1 : Nat) : Int) = (k : Int) - 1 by omega] at hs
    have hd := digs_iff (negM n).toNat (k - 1)
    apply aw_skip
    apply q_seq
    apply aw_block
    apply aw_seq
    refine WS [3, 4, 5, 21] [] ?_
    refine WI (fun hb => ?_) (fun hb => ?_)
    · skip
      have hkk : k = kM n := by
        rw [hs] at hb
        have := hd.1 (by omega)
        unfold kM at *
        omega
      subst hkk
      apply aw_exit
      apply q_exit_seq
      apply q_exit_other (by decide)
      apply q_exit_loop
      apply q_exit
      apply q_seq
      refine WS [3, 4, 5, 6] [29, 44, 45] ?_
      apply aw_seq
      refine WS [3, 4, 6, 7] [29, 44, 45] ?_
      apply aw_block
      refine aw_swap 29 45 (by omega) (by omega) ?_
      refine WL (ι := {j : Nat // j ≤ kM n}) [3, 4] [29, 44] (fun ⟨j, hj⟩ => [(6, .osl 45 1 0 (j + 1)), (7, .dat (iD (kM n - 1 - j)))]) (fun ⟨j, hj⟩ => [(45, ⟨1, ((intN n j).map u8D).map .dat⟩)]) (fun ⟨j, hj⟩ => kM n - j) (⟨0, by omega⟩) ?_
      rintro ⟨j, hj⟩
      dsimp only [List.cons_append, List.nil_append]
      have hl := intN_len n j
      apply aw_seq
      refine WS [3, 4, 6, 7, 33] [29, 44, 45] ?_
      refine WI (fun hb => ?_) (fun hb => ?_)
      · skip
        have hs2 := shr_digit (m := negM n) (j := kM n - 1 - j) hr.1 (by omega)
        rw [show ((kM n - 1 - j : Nat) : Int) = (kM n : Int) - 1 - j by omega] at hs2
        have h8 := wrap8_nat ((negM n).toNat / 256 ^ (kM n - 1 - j))
        have hE := And.intro hE (And.intro hs2 h8)
        apply aw_skip
        apply q_seq
        apply aw_seq
        apply aw_block
        refine WQ [3, 4, 6, 7] [29, 44, 45] ?_
        apply q_block
        apply q_seq
        refine WQ [3, 4, 6, 7] [29, 44, 45] ?_
        refine WN (⟨j + 1, by omega⟩)
      · skip
        apply aw_exit
        apply q_exit_seq
        have hend : j = kM n := by omega
        subst hend
        apply q_exit_loop
        apply q_exit
        apply q_seq
        refine WS [2] [29, 44, 45] ?_
        apply aw_ret
        apply q_ret_scope
        simp only [QRet, QRetM, QRetX, retsX_nil, retsX_cons, objsAre, resA, mapO_nil, mapO_cons, vD_dat, vD_nils, vD_rp, vD_osl, vD_ptr, vD_agg, vD_fn, vD_isl, vL_dat, vL_app, viewL, avA, datsOf, fillA, seval, ↓List.forall_mem_cons, Op.operands, hP, hG, tiA, hE]
        all_goals try (first | done | rfl | trivial)
    · skip
      have hkk : kM n ≤ k - 1 := by
        rw [hs] at hb
        have := mt hd.2 (by omega)
        unfold kM at *
        omega
      apply aw_skip
      apply q_seq
      refine WQ [3, 4, 5] [] ?_
      apply q_block
      refine WN (⟨k - 1, by omega⟩)
  · skip
    apply aw_exit
    apply q_exit_seq
    apply q_exit_loop
    apply q_exit
    apply q_seq
    refine WS [3, 4, 5, 6] [29, 44, 45] ?_
    apply aw_seq
    refine WS [3, 4, 6, 7] [29, 44, 45] ?_
    apply aw_block
    refine aw_swap 29 45 (by omega) (by omega) ?_
    refine WL (ι := {j : Nat // j ≤ kM n}) [3, 4] [29, 44] (fun ⟨j, hj⟩ => [(6, .osl 45 1 0 (j + 1)), (7, .dat (iD (kM n - 1 - j)))]) (fun ⟨j, hj⟩ => [(45, ⟨1, ((intN n j).map u8D).map .dat⟩)]) (fun ⟨j, hj⟩ => kM n - j) (⟨0, by omega⟩) ?_
    rintro ⟨j, hj⟩
    dsimp only [List.cons_append, List.nil_append]
    have hl := intN_len n j
    apply aw_seq
    refine WS [3, 4, 6, 7, 33] [29, 44, 45] ?_
    refine WI (fun hb => ?_) (fun hb => ?_)
    · skip
      have hs2 := shr_digit (m := negM n) (j := kM n - 1 - j) hr.1 (by omega)
      rw [show ((kM n - 1 - j : Nat) : Int) = (kM n : Int) - 1 - j by omega] at hs2
      have h8 := wrap8_nat ((negM n).toNat / 256 ^ (kM n - 1 - j))
      have hE := And.intro hE (And.intro hs2 h8)
      apply aw_skip
      apply q_seq
      apply aw_seq
      apply aw_block
      refine WQ [3, 4, 6, 7] [29, 44, 45] ?_
      apply q_block
      apply q_seq
      refine WQ [3, 4, 6, 7] [29, 44, 45] ?_
      refine WN (⟨j + 1, by omega⟩)
    · skip
      apply aw_exit
      apply q_exit_seq
      have hend : j = kM n := by omega
      subst hend
      apply q_exit_loop
      apply q_exit
      apply q_seq
      refine WS [2] [29, 44, 45] ?_
      apply aw_ret
      apply q_ret_scope
      simp only [QRet, QRetM, QRetX, retsX_nil, retsX_cons, objsAre, resA, mapO_nil, mapO_cons, vD_dat, vD_nils, vD_rp, vD_osl, vD_ptr, vD_agg, vD_fn, vD_isl, vL_dat, vL_app, viewL, avA, datsOf, fillA, seval, ↓List.forall_mem_cons, Op.operands, hP, hG, tiA, hE]
      all_goals try (first | done | rfl | trivial)

end Go.Proofs.YtabjaaonfaejmaaGreatDoor

namespace Go.Proofs.YtabjaaonfaejmaaGreatDoor
open Go.Av

theorem bytesM_len (s : ByteArray) : (bytesM s).length = kM s.size + 1 + s.size := by simp [bytesM, intM_len, strB_len]
theorem intsN_zero (l : List Int) : intsN l 0 = intM l.length := by simp [intsN, preM_zero]
theorem intsN_succ (l : List Int) (i : Nat) (h : i < l.length) : intsN l (i + 1) = intsN l i ++ intM (l.getD i default) := by
  simp [intsN, preM_succ l i h, List.flatMap_append, List.append_assoc]
theorem flat_le {α : Type} (f : α → List Int) (c : Nat) : ∀ l : List α, (∀ x ∈ l, (f x).length ≤ c) → (l.flatMap f).length ≤ c * l.length
  | [], _ => by simp
  | x :: l, h => by
    have h1 := h x (by simp)
    have h2 := flat_le f c l fun y hy => h y (by simp [hy])
    rw [List.flatMap_cons, List.length_append, List.length_cons, Nat.mul_succ]
    omega
theorem mem_preM {α : Type} {l : List α} {i : Nat} {x : α} (h : x ∈ preM l i) : x ∈ l := List.mem_of_mem_take h
theorem intM_le {n : Int} (h : I64 n) : (intM n).length ≤ 9 := by
  rw [intM_len]
  have := kM_le h
  omega
theorem intsN_le {l : List Int} (h : ∀ x ∈ l, I64 x) {i : Nat} (hi : i ≤ l.length) (hl : l.length ≤ 1000000) : (intsN l i).length ≤ 9 + 9 * i := by
  have h1 := flat_le intM 9 (preM l i) fun x hx => intM_le (h x (mem_preM hx))
  have h2 : (intM (l.length : Int)).length ≤ 9 := intM_le (by unfold I64; omega)
  rw [preM_len l i hi] at h1
  simp only [intsN, List.length_append]
  omega
theorem strsN_zero (l : List ByteArray) : strsN l 0 = intM l.length := by simp [strsN, preM_zero]
theorem strsN_succ (l : List ByteArray) (i : Nat) (h : i < l.length) : strsN l (i + 1) = strsN l i ++ bytesM (l.getD i default) := by
  simp [strsN, preM_succ l i h, List.flatMap_append, List.append_assoc]
theorem bytesM_le {s : ByteArray} (h : s.size ≤ 1000000) : (bytesM s).length ≤ 1000009 := by
  rw [bytesM_len]
  have := kM_le (n := s.size) (by unfold I64; omega)
  omega
theorem strsN_le {l : List ByteArray} (h : ∀ s ∈ l, s.size ≤ 1000000) {i : Nat} (hi : i ≤ l.length) (hl : l.length ≤ 1000000) : (strsN l i).length ≤ 9 + 1000009 * i := by
  have h1 := flat_le bytesM 1000009 (preM l i) fun x hx => bytesM_le (h x (mem_preM hx))
  have h2 : (intM (l.length : Int)).length ≤ 9 := intM_le (by unfold I64; omega)
  rw [preM_len l i hi] at h1
  simp only [strsN, List.length_append]
  omega

theorem wint_ok (G) (n : Int) (hn : I64 n) : Gives Tryz.prog G 44 [iD n] [u8sD (intM n)] := (wint_okX G n hn).row (intM_len n).symm


theorem wbytes_okX (G) (s : ByteArray) (hs : s.size ≤ 1000000) : GivesX Tryz.prog G 51 [.dat (sD s)] [] [.osl 7 1 0 (bytesM s).length] [(7, ⟨1, ((bytesM s).map u8D).map .dat⟩)] := by
  have hk := kM_le (n := s.size) (by unfold I64; omega)
  have hil := intM_len s.size
  skip
  skip
  refine gives_introX' [] [5] [] Tryz.func51 rfl (by rfl) (by simp [Tryz.ntmps51]) (by kernel_rfl) (by simp [onlyL_nil, onlyL_cons, AV.only, inIds]) (by simp only [onlyOs, onlyL_nil, onlyL_cons, onlyL_append, onlyL_dats, onlyL_row, AV.only, Bool.and_true] <;> simp [inIds]) fun F hP hG hN hR => ?_
  rw [Tryz.ntmps51] at hN
  have hA := And.intro hN (And.intro hP (And.intro hG (And.intro hR.1 (And.intro hR.2.1 hR.2.2.1))))
  have hE := And.intro @Tryz.results51 (And.intro @IntWalk.i64_in (And.intro @strB_len (@intM_len)))
  refine WS [0] [5] ?_
  apply aw_regs [2] [7, 5]
  · simp (maxSteps := 2000000) (disch := omega) only [avR2, avA, datsOf, fillA, seval, ↓List.forall_mem_cons, Op.operands, hA, tiA, hE]
    (repeat' refine And.intro ?_ ?_) <;> try exact SD
    refine CallC.useX (fun _ => 5) [45] (by simp [LitD, hR.2.1]) (gvFX hP hG (wint_okX G s.size (by unfold I64; omega))) rfl (lentX_of hN (by first | trivial | ((try simp only [haveL, AObj.ren, AV.ren, renL, ren_row, List.map_cons, List.map_nil, objL_cons, objL_nil]) <;> ((repeat' apply And.intro) <;> first | trivial | rfl))) (by rfl)) ?_
    try simp (maxSteps := 2000000) (disch := omega) only [avR2, avA, datsOf, fillA, seval, ↓List.forall_mem_cons, Op.operands, hA, tiA, hE, avX]
    exact SC
  apply aw_ret
  simp only [QRet, QRetM, QRetX, retsX_nil, retsX_cons, objsAre, resA, mapO_nil, mapO_cons, vD_dat, vD_nils, vD_rp, vD_osl, vD_ptr, vD_agg, vD_fn, vD_isl, vL_dat, vL_app, viewL, avA, datsOf, fillA, seval, ↓List.forall_mem_cons, Op.operands, hP, hG, tiA, hE, bytesM, List.length_append, List.map_append]
  all_goals try (first | done | rfl | trivial)

theorem wbytes_ok (G) (s : ByteArray) (hs : s.size ≤ 1000000) : Gives Tryz.prog G 51 [sD s] [u8sD (bytesM s)] := (wbytes_okX G s hs).row rfl

theorem wints_okX (G) (l : List Int) (hl : ∀ x ∈ l, I64 x) (hn : l.length ≤ 1000000) : GivesX Tryz.prog G 39 [.dat (isD l)] [] [.osl 18 1 0 (intsM l).length] [(18, ⟨1, ((intsM l).map u8D).map .dat⟩)] := by
  have hk := kM_le (n := l.length) (by unfold I64; omega)
  have hil := intM_len l.length
  skip
  skip
  refine gives_introX' [] [8, 17] [] Tryz.func39 rfl (by rfl) (by simp [Tryz.ntmps39]) (by kernel_rfl) (by simp [onlyL_nil, onlyL_cons, AV.only, inIds]) (by simp only [onlyOs, onlyL_nil, onlyL_cons, onlyL_append, onlyL_dats, onlyL_row, AV.only, Bool.and_true] <;> simp [inIds]) fun F hP hG hN hR => ?_
  rw [Tryz.ntmps39] at hN
  have hA := And.intro hN (And.intro hP (And.intro hG (And.intro hR.1 (And.intro hR.2.1 hR.2.2.1))))
  have hE := And.intro @Tryz.results39 (And.intro @intsN_zero (And.intro @intM_len (@intsM.eq_1)))
  refine WS [0] [18] ?_
  apply aw_regs [0, 3] [18]
  · simp (maxSteps := 2000000) (disch := omega) only [avR2, avA, datsOf, fillA, seval, ↓List.forall_mem_cons, Op.operands, hA, tiA, hE]
    (repeat' refine And.intro ?_ ?_) <;> try exact SD
    refine CallC.useX (fun _ => 18) [45] (by simp [LitD, hR.2.1]) (gvFX hP hG (wint_okX G l.length (by unfold I64; omega))) rfl (lentX_of hN (by first | trivial | ((try simp only [haveL, AObj.ren, AV.ren, renL, ren_row, List.map_cons, List.map_nil, objL_cons, objL_nil]) <;> ((repeat' apply And.intro) <;> first | trivial | rfl))) (by rfl)) ?_
    try simp (maxSteps := 2000000) (disch := omega) only [avR2, avA, datsOf, fillA, seval, ↓List.forall_mem_cons, Op.operands, hA, tiA, hE, avX]
    exact SC
  apply aw_seq
  refine WS [3, 9, 10, 11] [18] ?_
  apply aw_block
  refine WL (ι := {i : Nat // i ≤ l.length}) [9, 10] [] (fun ⟨i, hi⟩ => [(3, .osl 18 1 0 (intsN l i).length), (11, .dat (iD i))]) (fun ⟨i, hi⟩ => [(18, ⟨1, ((intsN l i).map u8D).map .dat⟩)]) (fun ⟨i, hi⟩ => l.length - i) (⟨0, by omega⟩) ?_
  rintro ⟨i, hi⟩
  dsimp only [List.cons_append, List.nil_append]
  refine WS [3, 9, 10, 11, 12] [18] ?_
  apply aw_seq
  refine WI (fun hb => ?_) (fun hb => ?_)
  · skip
    have hx := getD_all hl (i := i) (by omega)
    have hle := intsN_le hl hi hn
    have hkx := kM_le hx
    have hixl := intM_len (l.getD i default)
    have hsc := intsN_succ l i (by omega)
    have hE := And.intro hE hsc
    apply aw_skip
    apply q_seq
    apply aw_seq
    apply aw_block
    refine WS [3, 5, 9, 10, 11] [18] ?_
    apply aw_reg [3, 9, 10, 11] [18]
    · simp (maxSteps := 2000000) (disch := omega) only [avR2, avA, datsOf, fillA, seval, ↓List.forall_mem_cons, Op.operands, hA, tiA, hE]
      (repeat' refine And.intro ?_ ?_) <;> try exact SD
      refine CallC.useX (fun _ => 17) [45] (by simp [LitD, hR.2.1]) (gvFX hP hG (wint_okX G (l.getD i default) hx)) rfl (lentX_of hN (by first | trivial | ((try simp only [haveL, AObj.ren, AV.ren, renL, ren_row, List.map_cons, List.map_nil, objL_cons, objL_nil]) <;> ((repeat' apply And.intro) <;> first | trivial | rfl))) (by rfl)) ?_
      try simp (maxSteps := 2000000) (disch := omega) only [avR2, avA, datsOf, fillA, seval, ↓List.forall_mem_cons, Op.operands, hA, tiA, hE, avX]
      exact SC
    apply q_block
    apply q_seq
    refine WQ [3, 9, 10, 11] [18] ?_
    refine WN (⟨i + 1, by omega⟩)
  · skip
    apply aw_exit
    apply q_exit_seq
    have hend : i = l.length := by omega
    subst hend
    apply q_exit_loop
    apply q_exit
    apply q_seq
    refine WS [2] [18] ?_
    apply aw_ret
    simp only [QRet, QRetM, QRetX, retsX_nil, retsX_cons, objsAre, resA, mapO_nil, mapO_cons, vD_dat, vD_nils, vD_rp, vD_osl, vD_ptr, vD_agg, vD_fn, vD_isl, vL_dat, vL_app, viewL, avA, datsOf, fillA, seval, ↓List.forall_mem_cons, Op.operands, hP, hG, tiA, hE]
    all_goals try (first | done | rfl | trivial)

end Go.Proofs.YtabjaaonfaejmaaGreatDoor

namespace Go.Proofs.YtabjaaonfaejmaaGreatDoor
open Go.Av

/-- What is left of a number behind i digits. -/
def mN (n : Int) (i : Nat) : Nat := (negM n).toNat / 256 ^ i
theorem mN_zero {n : Int} (h : I64 n) : (mN n 0 : Int) = negM n := by
  have := negM_range h
  simp [mN]
  omega
theorem mN_succ (n : Int) (i : Nat) : mN n (i + 1) = mN n i / 256 := by simp [mN, Nat.pow_succ, Nat.div_div_eq_div_mul]
theorem mN_iff (n : Int) (i : Nat) : 0 < mN n i ↔ i < kM n := digs_iff _ _
theorem mN_quo (n : Int) (i : Nat) : Int.tdiv (mN n i : Int) 256 = (mN n (i + 1) : Int) := by
  rw [mN_succ, Int.tdiv_eq_ediv_of_nonneg (by omega)]
  omega
theorem mN_rem (n : Int) (i : Nat) : Int.tmod (mN n i : Int) 256 = ((mN n i % 256 : Nat) : Int) := by
  rw [Int.tmod_eq_emod_of_nonneg (by omega)]
  omega
theorem mN_lt {n : Int} (h : I64 n) (i : Nat) : mN n i < 9223372036854775808 := by
  have := negM_range h
  have := Nat.div_le_self (negM n).toNat (256 ^ i)
  unfold mN
  omega
/-- The digits, from the least one on. -/
def digN (n : Int) (i : Nat) : List Int := (List.range i).map fun j => ((mN n j % 256 : Nat) : Int)
theorem digN_zero (n : Int) : digN n 0 = [] := rfl
theorem digN_succ (n : Int) (i : Nat) : digN n (i + 1) = digN n i ++ [((mN n i % 256 : Nat) : Int)] := by simp [digN, List.range_succ]
theorem digN_len (n : Int) (i : Nat) : (digN n i).length = i := by simp [digN]
theorem digN_get {n : Int} {i k : Nat} (h : i < k) : (digN n k).getD i default = ((mN n i % 256 : Nat) : Int) := by
  simp [digN, List.getD_eq_getElem?_getD, h]
theorem digM_mN (n : Int) (i : Nat) : digM n i = flipM n ((mN n i % 256 : Nat) : Int) := rfl


theorem rint_okX (G) (n : Int) (hn : I64 n) : GivesX Tryz.prog G 50 [.dat (iD n)] [] [.osl 57 1 0 (kM n + 1)] [(57, ⟨1, ((intM n).map u8D).map .dat⟩)] := by
  have hr := negM_range hn
  have hk := kM_le hn
  have hm0 := mN_zero hn
  unfold I64 at hn
  skip
  refine gives_introX' [] [] [] Tryz.func50 rfl (by rfl) (by simp [Tryz.ntmps50]) (by kernel_rfl) (by simp [onlyL_nil, onlyL_cons, AV.only, inIds]) (by simp only [onlyOs, onlyL_nil, onlyL_cons, onlyL_append, onlyL_dats, onlyL_row, AV.only, Bool.and_true] <;> simp [inIds]) fun F hP hG hN hR => ?_
  rw [Tryz.ntmps50] at hN
  have hA := And.intro hN (And.intro hP (And.intro hG (And.intro hR.1 (And.intro hR.2.1 hR.2.2.1))))
  have hE := And.intro @Tryz.results50 (And.intro @IntWalk.i64_in (And.intro @IntWalk.u8_in (And.intro @intN_zero (And.intro @intN_succ (And.intro @intN_len (And.intro @digM_mN (And.intro @intM_eq (And.intro @digN_zero (And.intro @digN_succ (And.intro @digN_len (And.intro @mN_quo (@mN_rem))))))))))))
  refine WS [0] [] ?_
  refine WS [0, 3] [] ?_
  refine aw_meet (.of [(0, .dat (iD n)), (3, .dat (iD (negM n)))] []) ?_ ?_
  · skip
    refine WS [0, 3, 11] [] ?_
    refine WI (fun hb => ?_) (fun hb => ?_)
    · skip
      have h1 : -1 - n = negM n := by unfold negM; rw [if_pos hb]
      have hE := And.intro hE h1
      refine WQ [0, 3] [] ?_
      refine Le.of ?_ ?_
      · try simp (disch := omega) only [LeE, LeO, avA, datsOf, fillA, seval, ↓List.forall_mem_cons, Op.operands, hE]
        all_goals first | done | (repeat' apply And.intro) <;> first | rfl | omega | assumption | (simp only [AV.dat.injEq, Dat.int.injEq, true_and]; omega) | (congr <;> omega)
      · try simp (disch := omega) only [LeE, LeO, avA, datsOf, fillA, seval, ↓List.forall_mem_cons, Op.operands, hE]
        all_goals first | done | (repeat' apply And.intro) <;> first | rfl | omega | assumption | (simp only [AV.dat.injEq, Dat.int.injEq, true_and]; omega) | (congr <;> omega)
    · skip
      have h1 : negM n = n := by unfold negM; rw [if_neg (by omega)]
      have hE := And.intro hE h1
      apply aw_skip
      refine Le.of ?_ ?_
      · try simp (disch := omega) only [LeE, LeO, avA, datsOf, fillA, seval, ↓List.forall_mem_cons, Op.operands, hE]
        all_goals first | done | (repeat' apply And.intro) <;> first | rfl | omega | assumption | (simp only [AV.dat.injEq, Dat.int.injEq, true_and]; omega) | (congr <;> omega)
      · try simp (disch := omega) only [LeE, LeO, avA, datsOf, fillA, seval, ↓List.forall_mem_cons, Op.operands, hE]
        all_goals first | done | (repeat' apply And.intro) <;> first | rfl | omega | assumption | (simp only [AV.dat.injEq, Dat.int.injEq, true_and]; omega) | (congr <;> omega)
  refine WS [0, 3, 4] [20, 21] ?_
  apply aw_seq
  apply aw_block
  refine aw_new0 21 1 (by omega) ?_
  refine aw_nilE 4 21 1 rfl rfl ?_
  refine WL (ι := {i : Nat // i ≤ kM n}) [0] [20] (fun ⟨i, hi⟩ => [(3, .dat (iD (mN n i))), (4, .osl 21 1 0 i)]) (fun ⟨i, hi⟩ => [(21, ⟨1, ((digN n i).map u8D).map .dat⟩)]) (fun ⟨i, hi⟩ => kM n - i) (⟨0, by omega⟩) ?_
  rintro ⟨i, hi⟩
  dsimp only [List.cons_append, List.nil_append]
  have hl := digN_len n i
  have hmi := mN_iff n i
  have hml := mN_lt hn i
  have hml2 := mN_lt hn (i + 1)
  apply aw_seq
  refine WS [0, 3, 4, 15] [20, 21] ?_
  refine WI (fun hb => ?_) (fun hb => ?_)
  · skip
    apply aw_skip
    apply q_seq
    apply aw_block
    refine WS [0, 3, 4] [20, 21] ?_
    refine WQ [0, 3, 4] [20, 21] ?_
    apply q_block
    refine WN (⟨i + 1, by omega⟩)
  · skip
    apply aw_exit
    apply q_exit_seq
    have hend : i = kM n := by omega
    subst hend
    apply q_exit_loop
    apply q_exit
    apply q_seq
    refine WS [0, 4, 5] [20, 21] ?_
    refine WS [0, 4, 5, 6] [20, 21, 32, 33, 38, 39, 56, 57] ?_
    apply aw_seq
    refine WS [0, 4, 5, 6, 27] [20, 21, 32, 33, 38, 39, 56, 57] ?_
    refine WI (fun hb => ?_) (fun hb => ?_)
    · skip
      have h3 : flipM n (128 + (kM n : Int)) = 128 + (kM n : Int) := by unfold flipM; rw [if_neg (by omega)]
      have hE := And.intro hE h3
      refine WQ [0, 4, 5, 6] [20, 21, 32, 33, 38, 39, 56, 57] ?_
      apply q_seq
      apply aw_seq
      refine WS [0, 4, 6, 7] [20, 21, 32, 33, 38, 39, 56, 57] ?_
      apply aw_block
      refine aw_swap 33 57 (by omega) (by omega) ?_
      refine WL (ι := {j : Nat // j ≤ kM n}) [0, 4] [20, 21, 32, 33, 38, 39, 56] (fun ⟨j, hj⟩ => [(6, .osl 57 1 0 (j + 1)), (7, .dat (iD (kM n - 1 - j)))]) (fun ⟨j, hj⟩ => [(57, ⟨1, ((intN n j).map u8D).map .dat⟩)]) (fun ⟨j, hj⟩ => kM n - j) (⟨0, by omega⟩) ?_
      rintro ⟨j, hj⟩
      dsimp only [List.cons_append, List.nil_append]
      have hl2 := intN_len n j
      apply aw_seq
      refine WS [0, 4, 6, 7, 43] [20, 21, 32, 33, 38, 39, 56, 57] ?_
      refine WI (fun hb => ?_) (fun hb => ?_)
      · skip
        have hg : (digN n (kM n)).getD ((kM n : Int) - 1 - j).toNat default = ((mN n (kM n - 1 - j) % 256 : Nat) : Int) := by
          rw [show ((kM n : Int) - 1 - j).toNat = kM n - 1 - j by omega]
          exact digN_get (by omega)
        have hE := And.intro hE hg
        apply aw_skip
        apply q_seq
        apply aw_seq
        apply aw_block
        refine WS [0, 4, 6, 7, 8] [20, 21, 32, 33, 38, 39, 56, 57] ?_
        apply aw_seq
        refine WS [0, 4, 6, 7, 8, 51] [20, 21, 32, 33, 38, 39, 56, 57] ?_
        refine WI (fun hb => ?_) (fun hb => ?_)
        · skip
          have h4 : ∀ x : Int, flipM n x = 255 - x := fun x => by unfold flipM; rw [if_pos (by omega)]
          have hE := And.intro hE h4
          refine WQ [0, 4, 6, 7, 8] [20, 21, 32, 33, 38, 39, 56, 57] ?_
          apply q_seq
          refine WQ [0, 4, 6, 7] [20, 21, 32, 33, 38, 39, 56, 57] ?_
          apply q_block
          apply q_seq
          refine WQ [0, 4, 6, 7] [20, 21, 32, 33, 38, 39, 56, 57] ?_
          refine WN (⟨j + 1, by omega⟩)
        · skip
          have h4 : ∀ x : Int, flipM n x = x := fun x => by unfold flipM; rw [if_neg (by omega)]
          have hE := And.intro hE h4
          apply aw_skip
          apply q_seq
          refine WQ [0, 4, 6, 7] [20, 21, 32, 33, 38, 39, 56, 57] ?_
          apply q_block
          apply q_seq
          refine WQ [0, 4, 6, 7] [20, 21, 32, 33, 38, 39, 56, 57] ?_
          refine WN (⟨j + 1, by omega⟩)
      · skip
        apply aw_exit
        apply q_exit_seq
        have hend : j = kM n := by omega
        subst hend
        apply q_exit_loop
        apply q_exit
        apply q_seq
        refine WS [2] [20, 21, 32, 33, 38, 39, 56, 57] ?_
        apply aw_ret
        simp only [QRet, QRetM, QRetX, retsX_nil, retsX_cons, objsAre, resA, mapO_nil, mapO_cons, vD_dat, vD_nils, vD_rp, vD_osl, vD_ptr, vD_agg, vD_fn, vD_isl, vL_dat, vL_app, viewL, avA, datsOf, fillA, seval, ↓List.forall_mem_cons, Op.operands, hP, hG, tiA, hE]
        all_goals try (first | done | rfl | trivial)
    · skip
      have h3 : flipM n (128 + (kM n : Int)) = 127 - (kM n : Int) := by unfold flipM; rw [if_pos (by omega)]; omega
      have hE := And.intro hE h3
      refine WQ [0, 4, 5, 6] [20, 21, 32, 33, 38, 39, 56, 57] ?_
      apply q_seq
      apply aw_seq
      refine WS [0, 4, 6, 7] [20, 21, 32, 33, 38, 39, 56, 57] ?_
      apply aw_block
      refine aw_swap 39 57 (by omega) (by omega) ?_
      refine WL (ι := {j : Nat // j ≤ kM n}) [0, 4] [20, 21, 32, 33, 38, 39, 56] (fun ⟨j, hj⟩ => [(6, .osl 57 1 0 (j + 1)), (7, .dat (iD (kM n - 1 - j)))]) (fun ⟨j, hj⟩ => [(57, ⟨1, ((intN n j).map u8D).map .dat⟩)]) (fun ⟨j, hj⟩ => kM n - j) (⟨0, by omega⟩) ?_
      rintro ⟨j, hj⟩
      dsimp only [List.cons_append, List.nil_append]
      have hl2 := intN_len n j
      apply aw_seq
      refine WS [0, 4, 6, 7, 43] [20, 21, 32, 33, 38, 39, 56, 57] ?_
      refine WI (fun hb => ?_) (fun hb => ?_)
      · skip
        have hg : (digN n (kM n)).getD ((kM n : Int) - 1 - j).toNat default = ((mN n (kM n - 1 - j) % 256 : Nat) : Int) := by
          rw [show ((kM n : Int) - 1 - j).toNat = kM n - 1 - j by omega]
          exact digN_get (by omega)
        have hE := And.intro hE hg
        apply aw_skip
        apply q_seq
        apply aw_seq
        apply aw_block
        refine WS [0, 4, 6, 7, 8] [20, 21, 32, 33, 38, 39, 56, 57] ?_
        apply aw_seq
        refine WS [0, 4, 6, 7, 8, 51] [20, 21, 32, 33, 38, 39, 56, 57] ?_
        refine WI (fun hb => ?_) (fun hb => ?_)
        · skip
          have h4 : ∀ x : Int, flipM n x = 255 - x := fun x => by unfold flipM; rw [if_pos (by omega)]
          have hE := And.intro hE h4
          refine WQ [0, 4, 6, 7, 8] [20, 21, 32, 33, 38, 39, 56, 57] ?_
          apply q_seq
          refine WQ [0, 4, 6, 7] [20, 21, 32, 33, 38, 39, 56, 57] ?_
          apply q_block
          apply q_seq
          refine WQ [0, 4, 6, 7] [20, 21, 32, 33, 38, 39, 56, 57] ?_
          refine WN (⟨j + 1, by omega⟩)
        · skip
          have h4 : ∀ x : Int, flipM n x = x := fun x => by unfold flipM; rw [if_neg (by omega)]
          have hE := And.intro hE h4
          apply aw_skip
          apply q_seq
          refine WQ [0, 4, 6, 7] [20, 21, 32, 33, 38, 39, 56, 57] ?_
          apply q_block
          apply q_seq
          refine WQ [0, 4, 6, 7] [20, 21, 32, 33, 38, 39, 56, 57] ?_
          refine WN (⟨j + 1, by omega⟩)
      · skip
        apply aw_exit
        apply q_exit_seq
        have hend : j = kM n := by omega
        subst hend
        apply q_exit_loop
        apply q_exit
        apply q_seq
        refine WS [2] [20, 21, 32, 33, 38, 39, 56, 57] ?_
        apply aw_ret
        simp only [QRet, QRetM, QRetX, retsX_nil, retsX_cons, objsAre, resA, mapO_nil, mapO_cons, vD_dat, vD_nils, vD_rp, vD_osl, vD_ptr, vD_agg, vD_fn, vD_isl, vL_dat, vL_app, viewL, avA, datsOf, fillA, seval, ↓List.forall_mem_cons, Op.operands, hP, hG, tiA, hE]
        all_goals try (first | done | rfl | trivial)

theorem rint_ok (G) (n : Int) (hn : I64 n) : Gives Tryz.prog G 50 [iD n] [u8sD (intM n)] := (rint_okX G n hn).row (intM_len n).symm


end Go.Proofs.YtabjaaonfaejmaaGreatDoor

namespace Go.Proofs.YtabjaaonfaejmaaGreatDoor
open Go.Av
theorem eqPair : eqA2 Tryz.prog 119 := .inl (by unfold eqAr; kernel_rfl)
theorem eqName : eqA2 Tryz.prog 65 := .inr (by unfold eqS2; kernel_rfl)
theorem eqId : eqS3 Tryz.prog 25 := by unfold eqS3; kernel_rfl
theorem eqSpot : eqS3 Tryz.prog 27 := by unfold eqS3; kernel_rfl


theorem rsame_ok (G) (a b : List Int) (ha : a.length ≤ 281474976710656) : Gives Tryz.prog G 15 [.sl (a.map u8D), .sl (b.map u8D)] [bD (sameL (fun x y : Int => x == y) a b)] := by
  refine gives_intro [] [] [] Tryz.func15 rfl (by rfl) (by simp [Tryz.ntmps15]) fun F hP hG hN hR => ?_
  rw [Tryz.ntmps15] at hN
  have hA := And.intro hN (And.intro hP (And.intro hG (And.intro hR.1 (And.intro hR.2.1 hR.2.2.1))))
  have hE := @Tryz.results15
  refine WS [0, 1] [] ?_
  apply aw_seq
  refine WS [0, 1, 10] [] ?_
  refine WI (fun hb => ?_) (fun hb => ?_)
  · skip
    have hv : sameL (fun x y : Int => x == y) a b = false := sameL_len (by omega)
    have hE := And.intro hE hv
    refine WS [4] [] ?_
    apply aw_ret
    apply q_ret_seq
    simp only [QRet, QRetM, QRetX, retsX_nil, retsX_cons, objsAre, resA, mapO_nil, mapO_cons, vD_dat, vD_nils, vD_rp, vD_osl, vD_ptr, vD_agg, vD_fn, vD_isl, vL_dat, vL_app, viewL, avA, datsOf, fillA, seval, ↓List.forall_mem_cons, Op.operands, hP, hG, tiA, hE]
    all_goals try (first | done | rfl | trivial)
  · skip
    have hlen : a.length = b.length := by omega
    apply aw_skip
    apply q_seq
    apply aw_seq
    refine WS [0, 1, 5] [] ?_
    apply aw_block
    refine WL (ι := {i : Nat // i ≤ a.length ∧ ∀ j, j < i → (fun x y : Int => x == y) (a.getD j default) (b.getD j default) = true}) [0, 1] [] (fun ⟨i, hih⟩ => [(5, .dat (iD i))]) (fun ⟨i, hih⟩ => []) (fun ⟨i, hih⟩ => a.length - i) (⟨0, by omega, fun j h => absurd h (Nat.not_lt_zero j)⟩) ?_
    rintro ⟨i, hih⟩
    dsimp only [List.cons_append, List.nil_append]
    obtain ⟨hi, hall⟩ := id hih
    apply aw_seq
    refine WS [0, 1, 5, 14] [] ?_
    refine WI (fun hb => ?_) (fun hb => ?_)
    · skip
      skip
      apply aw_skip
      apply q_seq
      apply aw_seq
      apply aw_block
      refine WD [0, 1, 5, 25] [] [0, 1, 2, 3, 4, 5, 6, 7, 8] [] ?_
      refine WI (fun hb => ?_) (fun hb => ?_)
      · skip
        have hv : sameL (fun x y : Int => x == y) a b = false := sameL_bad i (by omega) hlen (by simp only [beq_eq_false_iff_ne]; exact hb)
        have hE := And.intro hE hv
        refine WS [4] [] ?_
        apply aw_ret
        apply q_ret_block
        apply q_ret_seq
        apply q_ret_loop
        apply q_ret_block
        apply q_ret_seq
        simp only [QRet, QRetM, QRetX, retsX_nil, retsX_cons, objsAre, resA, mapO_nil, mapO_cons, vD_dat, vD_nils, vD_rp, vD_osl, vD_ptr, vD_agg, vD_fn, vD_isl, vL_dat, vL_app, viewL, avA, datsOf, fillA, seval, ↓List.forall_mem_cons, Op.operands, hP, hG, tiA, hE]
        all_goals try (first | done | rfl | trivial)
      · skip
        have hok : (fun x y : Int => x == y) (a.getD i default) (b.getD i default) = true := (by simp only [beq_iff_eq]; exact hb)
        apply aw_skip
        apply q_block
        apply q_seq
        refine WQ [0, 1, 5] [] ?_
        refine WN (⟨i + 1, by omega, allstep hih.2 hok⟩)
    · skip
      apply aw_exit
      apply q_exit_seq
      obtain rfl : i = a.length := by omega
      have hv : sameL (fun x y : Int => x == y) a b = true := sameL_all hlen hall
      have hE := And.intro hE hv
      apply q_exit_loop
      apply q_exit
      apply q_seq
      refine WS [4] [] ?_
      apply aw_ret
      simp only [QRet, QRetM, QRetX, retsX_nil, retsX_cons, objsAre, resA, mapO_nil, mapO_cons, vD_dat, vD_nils, vD_rp, vD_osl, vD_ptr, vD_agg, vD_fn, vD_isl, vL_dat, vL_app, viewL, avA, datsOf, fillA, seval, ↓List.forall_mem_cons, Op.operands, hP, hG, tiA, hE]
      all_goals try (first | done | rfl | trivial)

theorem rtexts_ok (G) (a b : List ByteArray) (ha : a.length ≤ 281474976710656) : Gives Tryz.prog G 98 [.sl (a.map sD), .sl (b.map sD)] [bD (sameL sameStr a b)] := by
  refine gives_intro [] [] [] Tryz.func98 rfl (by rfl) (by simp [Tryz.ntmps98]) fun F hP hG hN hR => ?_
  rw [Tryz.ntmps98] at hN
  have hA := And.intro hN (And.intro hP (And.intro hG (And.intro hR.1 (And.intro hR.2.1 hR.2.2.1))))
  have hE := @Tryz.results98
  refine WS [0, 1] [] ?_
  apply aw_seq
  refine WS [0, 1, 10] [] ?_
  refine WI (fun hb => ?_) (fun hb => ?_)
  · skip
    have hv : sameL sameStr a b = false := sameL_len (by omega)
    have hE := And.intro hE hv
    refine WS [4] [] ?_
    apply aw_ret
    apply q_ret_seq
    simp only [QRet, QRetM, QRetX, retsX_nil, retsX_cons, objsAre, resA, mapO_nil, mapO_cons, vD_dat, vD_nils, vD_rp, vD_osl, vD_ptr, vD_agg, vD_fn, vD_isl, vL_dat, vL_app, viewL, avA, datsOf, fillA, seval, ↓List.forall_mem_cons, Op.operands, hP, hG, tiA, hE]
    all_goals try (first | done | rfl | trivial)
  · skip
    have hlen : a.length = b.length := by omega
    apply aw_skip
    apply q_seq
    apply aw_seq
    refine WS [0, 1, 5] [] ?_
    apply aw_block
    refine WL (ι := {i : Nat // i ≤ a.length ∧ ∀ j, j < i → sameStr (a.getD j default) (b.getD j default) = true}) [0, 1] [] (fun ⟨i, hih⟩ => [(5, .dat (iD i))]) (fun ⟨i, hih⟩ => []) (fun ⟨i, hih⟩ => a.length - i) (⟨0, by omega, fun j h => absurd h (Nat.not_lt_zero j)⟩) ?_
    rintro ⟨i, hih⟩
    dsimp only [List.cons_append, List.nil_append]
    obtain ⟨hi, hall⟩ := id hih
    apply aw_seq
    refine WS [0, 1, 5, 14] [] ?_
    refine WI (fun hb => ?_) (fun hb => ?_)
    · skip
      skip
      apply aw_skip
      apply q_seq
      apply aw_seq
      apply aw_block
      refine WD [0, 1, 5, 25] [] [0, 1, 2, 3, 4, 5, 6, 7, 8] [] ?_
      refine WI (fun hb => ?_) (fun hb => ?_)
      · skip
        have hv : sameL sameStr a b = false := sameL_bad i (by omega) hlen (by simp only [sameStr, decide_eq_false_iff_not]; exact fun h => hb (congrArg ByteArray.toList h))
        have hE := And.intro hE hv
        refine WS [4] [] ?_
        apply aw_ret
        apply q_ret_block
        apply q_ret_seq
        apply q_ret_loop
        apply q_ret_block
        apply q_ret_seq
        simp only [QRet, QRetM, QRetX, retsX_nil, retsX_cons, objsAre, resA, mapO_nil, mapO_cons, vD_dat, vD_nils, vD_rp, vD_osl, vD_ptr, vD_agg, vD_fn, vD_isl, vL_dat, vL_app, viewL, avA, datsOf, fillA, seval, ↓List.forall_mem_cons, Op.operands, hP, hG, tiA, hE]
        all_goals try (first | done | rfl | trivial)
      · skip
        have hok : sameStr (a.getD i default) (b.getD i default) = true := (by simp only [sameStr, decide_eq_true_eq]; exact str_inj hb)
        apply aw_skip
        apply q_block
        apply q_seq
        refine WQ [0, 1, 5] [] ?_
        refine WN (⟨i + 1, by omega, allstep hih.2 hok⟩)
    · skip
      apply aw_exit
      apply q_exit_seq
      obtain rfl : i = a.length := by omega
      have hv : sameL sameStr a b = true := sameL_all hlen hall
      have hE := And.intro hE hv
      apply q_exit_loop
      apply q_exit
      apply q_seq
      refine WS [4] [] ?_
      apply aw_ret
      simp only [QRet, QRetM, QRetX, retsX_nil, retsX_cons, objsAre, resA, mapO_nil, mapO_cons, vD_dat, vD_nils, vD_rp, vD_osl, vD_ptr, vD_agg, vD_fn, vD_isl, vL_dat, vL_app, viewL, avA, datsOf, fillA, seval, ↓List.forall_mem_cons, Op.operands, hP, hG, tiA, hE]
      all_goals try (first | done | rfl | trivial)

theorem rpairs_ok (G) (a b : List (Int × Int)) (ha : a.length ≤ 281474976710656) : Gives Tryz.prog G 100 [.sl (a.map pairD), .sl (b.map pairD)] [bD (sameL samePair a b)] := by
  skip
  refine gives_intro [] [] [] Tryz.func100 rfl (by rfl) (by simp [Tryz.ntmps100]) fun F hP hG hN hR => ?_
  rw [Tryz.ntmps100] at hN
  have hA := And.intro hN (And.intro hP (And.intro hG (And.intro hR.1 (And.intro hR.2.1 hR.2.2.1))))
  have hE := And.intro @Tryz.results100 (@eqPair)
  refine WS [0, 1] [] ?_
  apply aw_seq
  refine WS [0, 1, 10] [] ?_
  refine WI (fun hb => ?_) (fun hb => ?_)
  · skip
    have hv : sameL samePair a b = false := sameL_len (by omega)
    have hE := And.intro hE hv
    refine WS [4] [] ?_
    apply aw_ret
    apply q_ret_seq
    simp only [QRet, QRetM, QRetX, retsX_nil, retsX_cons, objsAre, resA, mapO_nil, mapO_cons, vD_dat, vD_nils, vD_rp, vD_osl, vD_ptr, vD_agg, vD_fn, vD_isl, vL_dat, vL_app, viewL, avA, datsOf, fillA, seval, ↓List.forall_mem_cons, Op.operands, hP, hG, tiA, hE]
    all_goals try (first | done | rfl | trivial)
  · skip
    have hlen : a.length = b.length := by omega
    apply aw_skip
    apply q_seq
    apply aw_seq
    refine WS [0, 1, 5] [] ?_
    apply aw_block
    refine WL (ι := {i : Nat // i ≤ a.length ∧ ∀ j, j < i → samePair (a.getD j default) (b.getD j default) = true}) [0, 1] [] (fun ⟨i, hih⟩ => [(5, .dat (iD i))]) (fun ⟨i, hih⟩ => []) (fun ⟨i, hih⟩ => a.length - i) (⟨0, by omega, fun j h => absurd h (Nat.not_lt_zero j)⟩) ?_
    rintro ⟨i, hih⟩
    dsimp only [List.cons_append, List.nil_append]
    obtain ⟨hi, hall⟩ := id hih
    apply aw_seq
    refine WS [0, 1, 5, 14] [] ?_
    refine WI (fun hb => ?_) (fun hb => ?_)
    · skip
      skip
      apply aw_skip
      apply q_seq
      apply aw_seq
      apply aw_block
      refine WD [0, 1, 5, 25] [] [0, 1, 2, 3, 4, 5, 6, 7, 8] [] ?_
      refine WI (fun hb => ?_) (fun hb => ?_)
      · skip
        have hv : sameL samePair a b = false := sameL_bad i (by omega) hlen (by simpa [samePair] using hb)
        have hE := And.intro hE hv
        refine WS [4] [] ?_
        apply aw_ret
        apply q_ret_block
        apply q_ret_seq
        apply q_ret_loop
        apply q_ret_block
        apply q_ret_seq
        simp only [QRet, QRetM, QRetX, retsX_nil, retsX_cons, objsAre, resA, mapO_nil, mapO_cons, vD_dat, vD_nils, vD_rp, vD_osl, vD_ptr, vD_agg, vD_fn, vD_isl, vL_dat, vL_app, viewL, avA, datsOf, fillA, seval, ↓List.forall_mem_cons, Op.operands, hP, hG, tiA, hE]
        all_goals try (first | done | rfl | trivial)
      · skip
        have hok : samePair (a.getD i default) (b.getD i default) = true := (by simpa [samePair] using hb)
        apply aw_skip
        apply q_block
        apply q_seq
        refine WQ [0, 1, 5] [] ?_
        refine WN (⟨i + 1, by omega, allstep hih.2 hok⟩)
    · skip
      apply aw_exit
      apply q_exit_seq
      obtain rfl : i = a.length := by omega
      have hv : sameL samePair a b = true := sameL_all hlen hall
      have hE := And.intro hE hv
      apply q_exit_loop
      apply q_exit
      apply q_seq
      refine WS [4] [] ?_
      apply aw_ret
      simp only [QRet, QRetM, QRetX, retsX_nil, retsX_cons, objsAre, resA, mapO_nil, mapO_cons, vD_dat, vD_nils, vD_rp, vD_osl, vD_ptr, vD_agg, vD_fn, vD_isl, vL_dat, vL_app, viewL, avA, datsOf, fillA, seval, ↓List.forall_mem_cons, Op.operands, hP, hG, tiA, hE]
      all_goals try (first | done | rfl | trivial)

theorem rnames_ok (G) (a b : List NameM) (ha : a.length ≤ 281474976710656) : Gives Tryz.prog G 62 [.sl (a.map nameD), .sl (b.map nameD)] [bD (sameL sameName a b)] := by
  skip
  refine gives_intro [] [] [] Tryz.func62 rfl (by rfl) (by simp [Tryz.ntmps62]) fun F hP hG hN hR => ?_
  rw [Tryz.ntmps62] at hN
  have hA := And.intro hN (And.intro hP (And.intro hG (And.intro hR.1 (And.intro hR.2.1 hR.2.2.1))))
  have hE := And.intro @Tryz.results62 (@eqName)
  refine WS [0, 1] [] ?_
  apply aw_seq
  refine WS [0, 1, 10] [] ?_
  refine WI (fun hb => ?_) (fun hb => ?_)
  · skip
    have hv : sameL sameName a b = false := sameL_len (by omega)
    have hE := And.intro hE hv
    refine WS [4] [] ?_
    apply aw_ret
    apply q_ret_seq
    simp only [QRet, QRetM, QRetX, retsX_nil, retsX_cons, objsAre, resA, mapO_nil, mapO_cons, vD_dat, vD_nils, vD_rp, vD_osl, vD_ptr, vD_agg, vD_fn, vD_isl, vL_dat, vL_app, viewL, avA, datsOf, fillA, seval, ↓List.forall_mem_cons, Op.operands, hP, hG, tiA, hE]
    all_goals try (first | done | rfl | trivial)
  · skip
    have hlen : a.length = b.length := by omega
    apply aw_skip
    apply q_seq
    apply aw_seq
    refine WS [0, 1, 5] [] ?_
    apply aw_block
    refine WL (ι := {i : Nat // i ≤ a.length ∧ ∀ j, j < i → sameName (a.getD j default) (b.getD j default) = true}) [0, 1] [] (fun ⟨i, hih⟩ => [(5, .dat (iD i))]) (fun ⟨i, hih⟩ => []) (fun ⟨i, hih⟩ => a.length - i) (⟨0, by omega, fun j h => absurd h (Nat.not_lt_zero j)⟩) ?_
    rintro ⟨i, hih⟩
    dsimp only [List.cons_append, List.nil_append]
    obtain ⟨hi, hall⟩ := id hih
    apply aw_seq
    refine WS [0, 1, 5, 14] [] ?_
    refine WI (fun hb => ?_) (fun hb => ?_)
    · skip
      skip
      apply aw_skip
      apply q_seq
      apply aw_seq
      apply aw_block
      refine WD [0, 1, 5, 25] [] [0, 1, 2, 3, 4, 5, 6, 7, 8] [] ?_
      refine WI (fun hb => ?_) (fun hb => ?_)
      · skip
        have hv : sameL sameName a b = false := sameL_bad i (by omega) hlen (by simpa [sameName] using hb)
        have hE := And.intro hE hv
        refine WS [4] [] ?_
        apply aw_ret
        apply q_ret_block
        apply q_ret_seq
        apply q_ret_loop
        apply q_ret_block
        apply q_ret_seq
        simp only [QRet, QRetM, QRetX, retsX_nil, retsX_cons, objsAre, resA, mapO_nil, mapO_cons, vD_dat, vD_nils, vD_rp, vD_osl, vD_ptr, vD_agg, vD_fn, vD_isl, vL_dat, vL_app, viewL, avA, datsOf, fillA, seval, ↓List.forall_mem_cons, Op.operands, hP, hG, tiA, hE]
        all_goals try (first | done | rfl | trivial)
      · skip
        have hok : sameName (a.getD i default) (b.getD i default) = true := (by simpa [sameName] using hb)
        apply aw_skip
        apply q_block
        apply q_seq
        refine WQ [0, 1, 5] [] ?_
        refine WN (⟨i + 1, by omega, allstep hih.2 hok⟩)
    · skip
      apply aw_exit
      apply q_exit_seq
      obtain rfl : i = a.length := by omega
      have hv : sameL sameName a b = true := sameL_all hlen hall
      have hE := And.intro hE hv
      apply q_exit_loop
      apply q_exit
      apply q_seq
      refine WS [4] [] ?_
      apply aw_ret
      simp only [QRet, QRetM, QRetX, retsX_nil, retsX_cons, objsAre, resA, mapO_nil, mapO_cons, vD_dat, vD_nils, vD_rp, vD_osl, vD_ptr, vD_agg, vD_fn, vD_isl, vL_dat, vL_app, viewL, avA, datsOf, fillA, seval, ↓List.forall_mem_cons, Op.operands, hP, hG, tiA, hE]
      all_goals try (first | done | rfl | trivial)

theorem stexts_ok (G) (a b : List ByteArray) (ha : a.length ≤ 281474976710656) : Gives Tryz.prog G 102 [.sl (a.map sD), .sl (b.map sD)] [bD (sameL sameStr a b)] := by
  refine gives_intro [] [] [] Tryz.func102 rfl (by rfl) (by simp [Tryz.ntmps102]) fun F hP hG hN hR => ?_
  rw [Tryz.ntmps102] at hN
  have hA := And.intro hN (And.intro hP (And.intro hG (And.intro hR.1 (And.intro hR.2.1 hR.2.2.1))))
  have hE := @Tryz.results102
  refine WS [0, 1] [] ?_
  apply aw_seq
  refine WS [0, 1, 10] [] ?_
  refine WI (fun hb => ?_) (fun hb => ?_)
  · skip
    have hv : sameL sameStr a b = false := sameL_len (by omega)
    have hE := And.intro hE hv
    refine WS [4] [] ?_
    apply aw_ret
    apply q_ret_seq
    simp only [QRet, QRetM, QRetX, retsX_nil, retsX_cons, objsAre, resA, mapO_nil, mapO_cons, vD_dat, vD_nils, vD_rp, vD_osl, vD_ptr, vD_agg, vD_fn, vD_isl, vL_dat, vL_app, viewL, avA, datsOf, fillA, seval, ↓List.forall_mem_cons, Op.operands, hP, hG, tiA, hE]
    all_goals try (first | done | rfl | trivial)
  · skip
    have hlen : a.length = b.length := by omega
    apply aw_skip
    apply q_seq
    apply aw_seq
    refine WS [0, 1, 12, 13] [] ?_
    apply aw_block
    refine WL (ι := {i : Nat // i ≤ a.length ∧ ∀ j, j < i → sameStr (a.getD j default) (b.getD j default) = true}) [0, 1, 12] [] (fun ⟨i, hih⟩ => [(13, .dat (iD i))]) (fun ⟨i, hih⟩ => []) (fun ⟨i, hih⟩ => a.length - i) (⟨0, by omega, fun j h => absurd h (Nat.not_lt_zero j)⟩) ?_
    rintro ⟨i, hih⟩
    dsimp only [List.cons_append, List.nil_append]
    obtain ⟨hi, hall⟩ := id hih
    refine WS [0, 1, 12, 13, 14] [] ?_
    apply aw_seq
    refine WI (fun hb => ?_) (fun hb => ?_)
    · skip
      skip
      apply aw_skip
      apply q_seq
      apply aw_seq
      apply aw_block
      refine WS [0, 1, 5, 12, 13] [] ?_
      refine WD [0, 1, 12, 13, 24] [] [0, 1, 2, 3, 4, 5, 6, 7, 8] [] ?_
      refine WI (fun hb => ?_) (fun hb => ?_)
      · skip
        have hv : sameL sameStr a b = false := sameL_bad i (by omega) hlen (by simp only [sameStr, decide_eq_false_iff_not]; exact fun h => hb (congrArg ByteArray.toList h))
        have hE := And.intro hE hv
        refine WS [4] [] ?_
        apply aw_ret
        apply q_ret_block
        apply q_ret_seq
        apply q_ret_loop
        apply q_ret_block
        apply q_ret_seq
        simp only [QRet, QRetM, QRetX, retsX_nil, retsX_cons, objsAre, resA, mapO_nil, mapO_cons, vD_dat, vD_nils, vD_rp, vD_osl, vD_ptr, vD_agg, vD_fn, vD_isl, vL_dat, vL_app, viewL, avA, datsOf, fillA, seval, ↓List.forall_mem_cons, Op.operands, hP, hG, tiA, hE]
        all_goals try (first | done | rfl | trivial)
      · skip
        have hok : sameStr (a.getD i default) (b.getD i default) = true := (by simp only [sameStr, decide_eq_true_eq]; exact str_inj hb)
        apply aw_skip
        apply q_block
        apply q_seq
        refine WQ [0, 1, 12, 13] [] ?_
        refine WN (⟨i + 1, by omega, allstep hih.2 hok⟩)
    · skip
      apply aw_exit
      apply q_exit_seq
      obtain rfl : i = a.length := by omega
      have hv : sameL sameStr a b = true := sameL_all hlen hall
      have hE := And.intro hE hv
      apply q_exit_loop
      apply q_exit
      apply q_seq
      refine WS [4] [] ?_
      apply aw_ret
      simp only [QRet, QRetM, QRetX, retsX_nil, retsX_cons, objsAre, resA, mapO_nil, mapO_cons, vD_dat, vD_nils, vD_rp, vD_osl, vD_ptr, vD_agg, vD_fn, vD_isl, vL_dat, vL_app, viewL, avA, datsOf, fillA, seval, ↓List.forall_mem_cons, Op.operands, hP, hG, tiA, hE]
      all_goals try (first | done | rfl | trivial)

theorem spairs_ok (G) (a b : List (Int × Int)) (ha : a.length ≤ 281474976710656) : Gives Tryz.prog G 103 [.sl (a.map pairD), .sl (b.map pairD)] [bD (sameL samePair a b)] := by
  skip
  refine gives_intro [] [] [] Tryz.func103 rfl (by rfl) (by simp [Tryz.ntmps103]) fun F hP hG hN hR => ?_
  rw [Tryz.ntmps103] at hN
  have hA := And.intro hN (And.intro hP (And.intro hG (And.intro hR.1 (And.intro hR.2.1 hR.2.2.1))))
  have hE := And.intro @Tryz.results103 (@eqPair)
  refine WS [0, 1] [] ?_
  apply aw_seq
  refine WS [0, 1, 10] [] ?_
  refine WI (fun hb => ?_) (fun hb => ?_)
  · skip
    have hv : sameL samePair a b = false := sameL_len (by omega)
    have hE := And.intro hE hv
    refine WS [4] [] ?_
    apply aw_ret
    apply q_ret_seq
    simp only [QRet, QRetM, QRetX, retsX_nil, retsX_cons, objsAre, resA, mapO_nil, mapO_cons, vD_dat, vD_nils, vD_rp, vD_osl, vD_ptr, vD_agg, vD_fn, vD_isl, vL_dat, vL_app, viewL, avA, datsOf, fillA, seval, ↓List.forall_mem_cons, Op.operands, hP, hG, tiA, hE]
    all_goals try (first | done | rfl | trivial)
  · skip
    have hlen : a.length = b.length := by omega
    apply aw_skip
    apply q_seq
    apply aw_seq
    refine WS [0, 1, 12, 13] [] ?_
    apply aw_block
    refine WL (ι := {i : Nat // i ≤ a.length ∧ ∀ j, j < i → samePair (a.getD j default) (b.getD j default) = true}) [0, 1, 12] [] (fun ⟨i, hih⟩ => [(13, .dat (iD i))]) (fun ⟨i, hih⟩ => []) (fun ⟨i, hih⟩ => a.length - i) (⟨0, by omega, fun j h => absurd h (Nat.not_lt_zero j)⟩) ?_
    rintro ⟨i, hih⟩
    dsimp only [List.cons_append, List.nil_append]
    obtain ⟨hi, hall⟩ := id hih
    refine WS [0, 1, 12, 13, 14] [] ?_
    apply aw_seq
    refine WI (fun hb => ?_) (fun hb => ?_)
    · skip
      skip
      apply aw_skip
      apply q_seq
      apply aw_seq
      apply aw_block
      refine WS [0, 1, 5, 12, 13] [] ?_
      refine WD [0, 1, 12, 13, 24] [] [0, 1, 2, 3, 4, 5, 6, 7, 8] [] ?_
      refine WI (fun hb => ?_) (fun hb => ?_)
      · skip
        have hv : sameL samePair a b = false := sameL_bad i (by omega) hlen (by simpa [samePair] using hb)
        have hE := And.intro hE hv
        refine WS [4] [] ?_
        apply aw_ret
        apply q_ret_block
        apply q_ret_seq
        apply q_ret_loop
        apply q_ret_block
        apply q_ret_seq
        simp only [QRet, QRetM, QRetX, retsX_nil, retsX_cons, objsAre, resA, mapO_nil, mapO_cons, vD_dat, vD_nils, vD_rp, vD_osl, vD_ptr, vD_agg, vD_fn, vD_isl, vL_dat, vL_app, viewL, avA, datsOf, fillA, seval, ↓List.forall_mem_cons, Op.operands, hP, hG, tiA, hE]
        all_goals try (first | done | rfl | trivial)
      · skip
        have hok : samePair (a.getD i default) (b.getD i default) = true := (by simpa [samePair] using hb)
        apply aw_skip
        apply q_block
        apply q_seq
        refine WQ [0, 1, 12, 13] [] ?_
        refine WN (⟨i + 1, by omega, allstep hih.2 hok⟩)
    · skip
      apply aw_exit
      apply q_exit_seq
      obtain rfl : i = a.length := by omega
      have hv : sameL samePair a b = true := sameL_all hlen hall
      have hE := And.intro hE hv
      apply q_exit_loop
      apply q_exit
      apply q_seq
      refine WS [4] [] ?_
      apply aw_ret
      simp only [QRet, QRetM, QRetX, retsX_nil, retsX_cons, objsAre, resA, mapO_nil, mapO_cons, vD_dat, vD_nils, vD_rp, vD_osl, vD_ptr, vD_agg, vD_fn, vD_isl, vL_dat, vL_app, viewL, avA, datsOf, fillA, seval, ↓List.forall_mem_cons, Op.operands, hP, hG, tiA, hE]
      all_goals try (first | done | rfl | trivial)

theorem sids_ok (G) (a b : List IdM) (ha : a.length ≤ 281474976710656) : Gives Tryz.prog G 104 [.sl (a.map idD), .sl (b.map idD)] [bD (sameL sameID a b)] := by
  skip
  refine gives_intro [] [] [] Tryz.func104 rfl (by rfl) (by simp [Tryz.ntmps104]) fun F hP hG hN hR => ?_
  rw [Tryz.ntmps104] at hN
  have hA := And.intro hN (And.intro hP (And.intro hG (And.intro hR.1 (And.intro hR.2.1 hR.2.2.1))))
  have hE := And.intro @Tryz.results104 (@eqId)
  refine WS [0, 1] [] ?_
  apply aw_seq
  refine WS [0, 1, 10] [] ?_
  refine WI (fun hb => ?_) (fun hb => ?_)
  · skip
    have hv : sameL sameID a b = false := sameL_len (by omega)
    have hE := And.intro hE hv
    refine WS [4] [] ?_
    apply aw_ret
    apply q_ret_seq
    simp only [QRet, QRetM, QRetX, retsX_nil, retsX_cons, objsAre, resA, mapO_nil, mapO_cons, vD_dat, vD_nils, vD_rp, vD_osl, vD_ptr, vD_agg, vD_fn, vD_isl, vL_dat, vL_app, viewL, avA, datsOf, fillA, seval, ↓List.forall_mem_cons, Op.operands, hP, hG, tiA, hE]
    all_goals try (first | done | rfl | trivial)
  · skip
    have hlen : a.length = b.length := by omega
    apply aw_skip
    apply q_seq
    apply aw_seq
    refine WS [0, 1, 12, 13] [] ?_
    apply aw_block
    refine WL (ι := {i : Nat // i ≤ a.length ∧ ∀ j, j < i → sameID (a.getD j default) (b.getD j default) = true}) [0, 1, 12] [] (fun ⟨i, hih⟩ => [(13, .dat (iD i))]) (fun ⟨i, hih⟩ => []) (fun ⟨i, hih⟩ => a.length - i) (⟨0, by omega, fun j h => absurd h (Nat.not_lt_zero j)⟩) ?_
    rintro ⟨i, hih⟩
    dsimp only [List.cons_append, List.nil_append]
    obtain ⟨hi, hall⟩ := id hih
    refine WS [0, 1, 12, 13, 14] [] ?_
    apply aw_seq
    refine WI (fun hb => ?_) (fun hb => ?_)
    · skip
      skip
      apply aw_skip
      apply q_seq
      apply aw_seq
      apply aw_block
      refine WS [0, 1, 5, 12, 13] [] ?_
      refine WD [0, 1, 12, 13, 24] [] [0, 1, 2, 3, 4, 5, 6, 7, 8] [] ?_
      refine WI (fun hb => ?_) (fun hb => ?_)
      · skip
        have hv : sameL sameID a b = false := sameL_bad i (by omega) hlen (by simpa [sameID] using hb)
        have hE := And.intro hE hv
        refine WS [4] [] ?_
        apply aw_ret
        apply q_ret_block
        apply q_ret_seq
        apply q_ret_loop
        apply q_ret_block
        apply q_ret_seq
        simp only [QRet, QRetM, QRetX, retsX_nil, retsX_cons, objsAre, resA, mapO_nil, mapO_cons, vD_dat, vD_nils, vD_rp, vD_osl, vD_ptr, vD_agg, vD_fn, vD_isl, vL_dat, vL_app, viewL, avA, datsOf, fillA, seval, ↓List.forall_mem_cons, Op.operands, hP, hG, tiA, hE]
        all_goals try (first | done | rfl | trivial)
      · skip
        have hok : sameID (a.getD i default) (b.getD i default) = true := (by simpa [sameID] using hb)
        apply aw_skip
        apply q_block
        apply q_seq
        refine WQ [0, 1, 12, 13] [] ?_
        refine WN (⟨i + 1, by omega, allstep hih.2 hok⟩)
    · skip
      apply aw_exit
      apply q_exit_seq
      obtain rfl : i = a.length := by omega
      have hv : sameL sameID a b = true := sameL_all hlen hall
      have hE := And.intro hE hv
      
      apply q_exit_loop
      apply q_exit
      apply q_seq
      refine WS [4] [] ?_
      apply aw_ret
      simp only [QRet, QRetM, QRetX, retsX_nil, retsX_cons, objsAre, resA, mapO_nil, mapO_cons, vD_dat, vD_nils, vD_rp, vD_osl, vD_ptr, vD_agg, vD_fn, vD_isl, vL_dat, vL_app, viewL, avA, datsOf, fillA, seval, ↓List.forall_mem_cons, Op.operands, hP, hG, tiA, hE]
      all_goals try (first | done | rfl | trivial)

end Go.Proofs.YtabjaaonfaejmaaGreatDoor

namespace Go.Proofs.YtabjaaonfaejmaaGreatDoor
open Go.Av


theorem wstrs_okX (G) (l : List ByteArray) (hl : ∀ s ∈ l, s.size ≤ 1000000) (hn : l.length ≤ 1000000) : GivesX Tryz.prog G 42 [.dat (ssD l)] [] [.osl 18 1 0 (strsM l).length] [(18, ⟨1, ((strsM l).map u8D).map .dat⟩)] := by
  have hk := kM_le (n := l.length) (by unfold I64; omega)
  have hil := intM_len l.length
  skip
  skip
  refine gives_introX' [] [8, 17] [] Tryz.func42 rfl (by rfl) (by simp [Tryz.ntmps42]) (by kernel_rfl) (by simp [onlyL_nil, onlyL_cons, AV.only, inIds]) (by simp only [onlyOs, onlyL_nil, onlyL_cons, onlyL_append, onlyL_dats, onlyL_row, AV.only, Bool.and_true] <;> simp [inIds]) fun F hP hG hN hR => ?_
  rw [Tryz.ntmps42] at hN
  have hA := And.intro hN (And.intro hP (And.intro hG (And.intro hR.1 (And.intro hR.2.1 hR.2.2.1))))
  have hE := And.intro @Tryz.results42 (And.intro @strsN_zero (And.intro @intM_len (@strsM.eq_1)))
  refine WS [0] [18] ?_
  apply aw_regs [0, 3] [18]
  · simp (maxSteps := 2000000) (disch := omega) only [avR2, avA, datsOf, fillA, seval, ↓List.forall_mem_cons, Op.operands, hA, tiA, hE]
    (repeat' refine And.intro ?_ ?_) <;> try exact SD
    refine CallC.useX (fun _ => 18) [45] (by simp [LitD, hR.2.1]) (gvFX hP hG (wint_okX G l.length (by unfold I64; omega))) rfl (lentX_of hN (by first | trivial | ((try simp only [haveL, AObj.ren, AV.ren, renL, ren_row, List.map_cons, List.map_nil, objL_cons, objL_nil]) <;> ((repeat' apply And.intro) <;> first | trivial | rfl))) (by rfl)) ?_
    try simp (maxSteps := 2000000) (disch := omega) only [avR2, avA, datsOf, fillA, seval, ↓List.forall_mem_cons, Op.operands, hA, tiA, hE, avX]
    exact SC
  apply aw_seq
  refine WS [3, 9, 10, 11] [18] ?_
  apply aw_block
  refine WL (ι := {i : Nat // i ≤ l.length}) [9, 10] [] (fun ⟨i, hi⟩ => [(3, .osl 18 1 0 (strsN l i).length), (11, .dat (iD i))]) (fun ⟨i, hi⟩ => [(18, ⟨1, ((strsN l i).map u8D).map .dat⟩)]) (fun ⟨i, hi⟩ => l.length - i) (⟨0, by omega⟩) ?_
  rintro ⟨i, hi⟩
  dsimp only [List.cons_append, List.nil_append]
  refine WS [3, 9, 10, 11, 12] [18] ?_
  apply aw_seq
  refine WI (fun hb => ?_) (fun hb => ?_)
  · skip
    have hx := getD_all hl (i := i) (by omega)
    have hle := strsN_le hl hi hn
    have hixl := bytesM_le hx
    have hsc := strsN_succ l i (by omega)
    have hE := And.intro hE hsc
    apply aw_skip
    apply q_seq
    apply aw_seq
    apply aw_block
    refine WS [3, 5, 9, 10, 11] [18] ?_
    apply aw_reg [3, 9, 10, 11] [18]
    · simp (maxSteps := 2000000) (disch := omega) only [avR2, avA, datsOf, fillA, seval, ↓List.forall_mem_cons, Op.operands, hA, tiA, hE]
      (repeat' refine And.intro ?_ ?_) <;> try exact SD
      refine CallC.useX (fun _ => 17) [7] (by simp [LitD, hR.2.1]) (gvFX hP hG (wbytes_okX G (l.getD i default) hx)) rfl (lentX_of hN (by first | trivial | ((try simp only [haveL, AObj.ren, AV.ren, renL, ren_row, List.map_cons, List.map_nil, objL_cons, objL_nil]) <;> ((repeat' apply And.intro) <;> first | trivial | rfl))) (by rfl)) ?_
      try simp (maxSteps := 2000000) (disch := omega) only [avR2, avA, datsOf, fillA, seval, ↓List.forall_mem_cons, Op.operands, hA, tiA, hE, avX]
      exact SC
    apply q_block
    apply q_seq
    refine WQ [3, 9, 10, 11] [18] ?_
    refine WN (⟨i + 1, by omega⟩)
  · skip
    apply aw_exit
    apply q_exit_seq
    have hend : i = l.length := by omega
    subst hend
    apply q_exit_loop
    apply q_exit
    apply q_seq
    refine WS [2] [18] ?_
    apply aw_ret
    simp only [QRet, QRetM, QRetX, retsX_nil, retsX_cons, objsAre, resA, mapO_nil, mapO_cons, vD_dat, vD_nils, vD_rp, vD_osl, vD_ptr, vD_agg, vD_fn, vD_isl, vL_dat, vL_app, viewL, avA, datsOf, fillA, seval, ↓List.forall_mem_cons, Op.operands, hP, hG, tiA, hE]
    all_goals try (first | done | rfl | trivial)

theorem wstrs_ok (G) (l : List ByteArray) (hl : ∀ s ∈ l, s.size ≤ 1000000) (hn : l.length ≤ 1000000) : Gives Tryz.prog G 42 [ssD l] [u8sD (strsM l)] := (wstrs_okX G l hl hn).row rfl
theorem wints_ok (G) (l : List Int) (hl : ∀ x ∈ l, I64 x) (hn : l.length ≤ 1000000) : Gives Tryz.prog G 39 [isD l] [u8sD (intsM l)] := (wints_okX G l hl hn).row rfl

theorem rbytes_okX (G) (s : ByteArray) (hs : s.size ≤ 1000000) : GivesX Tryz.prog G 85 [.dat (sD s)] [] [.osl 8 1 0 (bytesM s).length] [(8, ⟨1, ((bytesM s).map u8D).map .dat⟩)] := by
  have hk := kM_le (n := s.size) (by unfold I64; omega)
  have hil := intM_len s.size
  have hsl := strB_len s
  skip
  skip
  refine gives_introX' [] [5] [] Tryz.func85 rfl (by rfl) (by simp [Tryz.ntmps85]) (by kernel_rfl) (by simp [onlyL_nil, onlyL_cons, AV.only, inIds]) (by simp only [onlyOs, onlyL_nil, onlyL_cons, onlyL_append, onlyL_dats, onlyL_row, AV.only, Bool.and_true] <;> simp [inIds]) fun F hP hG hN hR => ?_
  rw [Tryz.ntmps85] at hN
  have hA := And.intro hN (And.intro hP (And.intro hG (And.intro hR.1 (And.intro hR.2.1 hR.2.2.1))))
  have hE := And.intro @Tryz.results85 (And.intro @IntWalk.i64_in (And.intro @strB_len (@intM_len)))
  refine WS [0] [5] ?_
  refine aw_lists ?_
  apply al_seg
  · (iterate 4 apply Seg.cons); exact Seg.nil _
  · simp (maxSteps := 2000000) (disch := omega) only [avR2, avA, datsOf, fillA, seval, ↓List.forall_mem_cons, Op.operands, hA, tiA, hE, KeptS]
    (repeat' refine And.intro ?_ ?_) <;> try exact SD
    refine CallC.useX (fun _ => 5) [57] (by simp [LitD, hR.2.1]) (gvFX hP hG (rint_okX G s.size (by unfold I64; omega))) rfl (lentX_of hN (by first | trivial | ((try simp only [haveL, AObj.ren, AV.ren, renL, ren_row, List.map_cons, List.map_nil, objL_cons, objL_nil]) <;> ((repeat' apply And.intro) <;> first | trivial | rfl))) (by rfl)) ?_
    try simp (maxSteps := 2000000) (disch := omega) only [avR2, avA, datsOf, fillA, seval, ↓List.forall_mem_cons, Op.operands, hA, tiA, hE, KeptS, avX]
    exact SC
  refine al_step rfl (conv_sb_ok rfl rfl (by rw [hN]; omega) (by rw [hP]; exact ti9) (by rw [hP]; exact ti47) rfl (by rw [hP]; exact ti5) rfl rfl) ?_
  rw [of_put]
  apply al_last [2] [8, 5]
  · simp (maxSteps := 2000000) (disch := omega) only [avR2, avA, datsOf, fillA, seval, ↓List.forall_mem_cons, Op.operands, hA, tiA, hE]
    exact SC
  apply q_seq
  apply aw_ret
  simp only [QRet, QRetM, QRetX, retsX_nil, retsX_cons, objsAre, resA, mapO_nil, mapO_cons, vD_dat, vD_nils, vD_rp, vD_osl, vD_ptr, vD_agg, vD_fn, vD_isl, vL_dat, vL_app, viewL, avA, datsOf, fillA, seval, ↓List.forall_mem_cons, Op.operands, hP, hG, tiA, hE, bytesM, List.length_append, List.map_append]
  all_goals try (first | done | rfl | trivial)

theorem rbytes_ok (G) (s : ByteArray) (hs : s.size ≤ 1000000) : Gives Tryz.prog G 85 [sD s] [u8sD (bytesM s)] := (rbytes_okX G s hs).row rfl

theorem rints_okX (G) (l : List Int) (hl : ∀ x ∈ l, I64 x) (hn : l.length ≤ 1000000) : GivesX Tryz.prog G 47 [.dat (isD l)] [] [.osl 20 1 0 (intsM l).length] [(20, ⟨1, ((intsM l).map u8D).map .dat⟩)] := by
  have hk := kM_le (n := l.length) (by unfold I64; omega)
  have hil := intM_len l.length
  skip
  skip
  refine gives_introX' [] [7, 19] [] Tryz.func47 rfl (by rfl) (by simp [Tryz.ntmps47]) (by kernel_rfl) (by simp [onlyL_nil, onlyL_cons, AV.only, inIds]) (by simp only [onlyOs, onlyL_nil, onlyL_cons, onlyL_append, onlyL_dats, onlyL_row, AV.only, Bool.and_true] <;> simp [inIds]) fun F hP hG hN hR => ?_
  rw [Tryz.ntmps47] at hN
  have hA := And.intro hN (And.intro hP (And.intro hG (And.intro hR.1 (And.intro hR.2.1 hR.2.2.1))))
  have hE := And.intro @Tryz.results47 (And.intro @intsN_zero (And.intro @intM_len (@intsM.eq_1)))
  refine WS [0] [20] ?_
  apply aw_regs [0, 3] [20]
  · simp (maxSteps := 2000000) (disch := omega) only [avR2, avA, datsOf, fillA, seval, ↓List.forall_mem_cons, Op.operands, hA, tiA, hE]
    (repeat' refine And.intro ?_ ?_) <;> try exact SD
    refine CallC.useX (fun _ => 20) [57] (by simp [LitD, hR.2.1]) (gvFX hP hG (rint_okX G l.length (by unfold I64; omega))) rfl (lentX_of hN (by first | trivial | ((try simp only [haveL, AObj.ren, AV.ren, renL, ren_row, List.map_cons, List.map_nil, objL_cons, objL_nil]) <;> ((repeat' apply And.intro) <;> first | trivial | rfl))) (by rfl)) ?_
    try simp (maxSteps := 2000000) (disch := omega) only [avR2, avA, datsOf, fillA, seval, ↓List.forall_mem_cons, Op.operands, hA, tiA, hE, avX]
    exact SC
  apply aw_seq
  refine WS [0, 3, 4] [20] ?_
  apply aw_block
  refine WL (ι := {i : Nat // i ≤ l.length}) [0] [] (fun ⟨i, hi⟩ => [(3, .osl 20 1 0 (intsN l i).length), (4, .dat (iD i))]) (fun ⟨i, hi⟩ => [(20, ⟨1, ((intsN l i).map u8D).map .dat⟩)]) (fun ⟨i, hi⟩ => l.length - i) (⟨0, by omega⟩) ?_
  rintro ⟨i, hi⟩
  dsimp only [List.cons_append, List.nil_append]
  apply aw_seq
  refine WS [0, 3, 4, 11] [20] ?_
  refine WI (fun hb => ?_) (fun hb => ?_)
  · skip
    have hx := getD_all hl (i := i) (by omega)
    have hle := intsN_le hl hi hn
    have hkx := kM_le hx
    have hixl := intM_len (l.getD i default)
    have hsc := intsN_succ l i (by omega)
    have hE := And.intro hE hsc
    apply aw_skip
    apply q_seq
    apply aw_seq
    apply aw_block
    apply aw_reg [0, 3, 4] [20]
    · simp (maxSteps := 2000000) (disch := omega) only [avR2, avA, datsOf, fillA, seval, ↓List.forall_mem_cons, Op.operands, hA, tiA, hE]
      (repeat' refine And.intro ?_ ?_) <;> try exact SD
      refine CallC.useX (fun _ => 19) [57] (by simp [LitD, hR.2.1]) (gvFX hP hG (rint_okX G (l.getD i default) hx)) rfl (lentX_of hN (by first | trivial | ((try simp only [haveL, AObj.ren, AV.ren, renL, ren_row, List.map_cons, List.map_nil, objL_cons, objL_nil]) <;> ((repeat' apply And.intro) <;> first | trivial | rfl))) (by rfl)) ?_
      try simp (maxSteps := 2000000) (disch := omega) only [avR2, avA, datsOf, fillA, seval, ↓List.forall_mem_cons, Op.operands, hA, tiA, hE, avX]
      exact SC
    apply q_block
    apply q_seq
    refine WQ [0, 3, 4] [20] ?_
    refine WN (⟨i + 1, by omega⟩)
  · skip
    apply aw_exit
    apply q_exit_seq
    have hend : i = l.length := by omega
    subst hend
    apply q_exit_loop
    apply q_exit
    apply q_seq
    refine WS [2] [20] ?_
    apply aw_ret
    simp only [QRet, QRetM, QRetX, retsX_nil, retsX_cons, objsAre, resA, mapO_nil, mapO_cons, vD_dat, vD_nils, vD_rp, vD_osl, vD_ptr, vD_agg, vD_fn, vD_isl, vL_dat, vL_app, viewL, avA, datsOf, fillA, seval, ↓List.forall_mem_cons, Op.operands, hP, hG, tiA, hE]
    all_goals try (first | done | rfl | trivial)

theorem rints_ok (G) (l : List Int) (hl : ∀ x ∈ l, I64 x) (hn : l.length ≤ 1000000) : Gives Tryz.prog G 47 [isD l] [u8sD (intsM l)] := (rints_okX G l hl hn).row rfl

theorem rstrs_okX (G) (l : List ByteArray) (hl : ∀ s ∈ l, s.size ≤ 1000000) (hn : l.length ≤ 1000000) : GivesX Tryz.prog G 49 [.dat (ssD l)] [] [.osl 20 1 0 (strsM l).length] [(20, ⟨1, ((strsM l).map u8D).map .dat⟩)] := by
  have hk := kM_le (n := l.length) (by unfold I64; omega)
  have hil := intM_len l.length
  skip
  skip
  refine gives_introX' [] [7, 19] [] Tryz.func49 rfl (by rfl) (by simp [Tryz.ntmps49]) (by kernel_rfl) (by simp [onlyL_nil, onlyL_cons, AV.only, inIds]) (by simp only [onlyOs, onlyL_nil, onlyL_cons, onlyL_append, onlyL_dats, onlyL_row, AV.only, Bool.and_true] <;> simp [inIds]) fun F hP hG hN hR => ?_
  rw [Tryz.ntmps49] at hN
  have hA := And.intro hN (And.intro hP (And.intro hG (And.intro hR.1 (And.intro hR.2.1 hR.2.2.1))))
  have hE := And.intro @Tryz.results49 (And.intro @strsN_zero (And.intro @intM_len (@strsM.eq_1)))
  refine WS [0] [20] ?_
  apply aw_regs [0, 3] [20]
  · simp (maxSteps := 2000000) (disch := omega) only [avR2, avA, datsOf, fillA, seval, ↓List.forall_mem_cons, Op.operands, hA, tiA, hE]
    (repeat' refine And.intro ?_ ?_) <;> try exact SD
    refine CallC.useX (fun _ => 20) [57] (by simp [LitD, hR.2.1]) (gvFX hP hG (rint_okX G l.length (by unfold I64; omega))) rfl (lentX_of hN (by first | trivial | ((try simp only [haveL, AObj.ren, AV.ren, renL, ren_row, List.map_cons, List.map_nil, objL_cons, objL_nil]) <;> ((repeat' apply And.intro) <;> first | trivial | rfl))) (by rfl)) ?_
    try simp (maxSteps := 2000000) (disch := omega) only [avR2, avA, datsOf, fillA, seval, ↓List.forall_mem_cons, Op.operands, hA, tiA, hE, avX]
    exact SC
  apply aw_seq
  refine WS [0, 3, 4] [20] ?_
  apply aw_block
  refine WL (ι := {i : Nat // i ≤ l.length}) [0] [] (fun ⟨i, hi⟩ => [(3, .osl 20 1 0 (strsN l i).length), (4, .dat (iD i))]) (fun ⟨i, hi⟩ => [(20, ⟨1, ((strsN l i).map u8D).map .dat⟩)]) (fun ⟨i, hi⟩ => l.length - i) (⟨0, by omega⟩) ?_
  rintro ⟨i, hi⟩
  dsimp only [List.cons_append, List.nil_append]
  apply aw_seq
  refine WS [0, 3, 4, 11] [20] ?_
  refine WI (fun hb => ?_) (fun hb => ?_)
  · skip
    have hx := getD_all hl (i := i) (by omega)
    have hle := strsN_le hl hi hn
    have hixl := bytesM_le hx
    have hsc := strsN_succ l i (by omega)
    have hE := And.intro hE hsc
    apply aw_skip
    apply q_seq
    apply aw_seq
    apply aw_block
    apply aw_reg [0, 3, 4] [20]
    · simp (maxSteps := 2000000) (disch := omega) only [avR2, avA, datsOf, fillA, seval, ↓List.forall_mem_cons, Op.operands, hA, tiA, hE]
      (repeat' refine And.intro ?_ ?_) <;> try exact SD
      refine CallC.useX (fun _ => 19) [8] (by simp [LitD, hR.2.1]) (gvFX hP hG (rbytes_okX G (l.getD i default) hx)) rfl (lentX_of hN (by first | trivial | ((try simp only [haveL, AObj.ren, AV.ren, renL, ren_row, List.map_cons, List.map_nil, objL_cons, objL_nil]) <;> ((repeat' apply And.intro) <;> first | trivial | rfl))) (by rfl)) ?_
      try simp (maxSteps := 2000000) (disch := omega) only [avR2, avA, datsOf, fillA, seval, ↓List.forall_mem_cons, Op.operands, hA, tiA, hE, avX]
      exact SC
    apply q_block
    apply q_seq
    refine WQ [0, 3, 4] [20] ?_
    refine WN (⟨i + 1, by omega⟩)
  · skip
    apply aw_exit
    apply q_exit_seq
    have hend : i = l.length := by omega
    subst hend
    apply q_exit_loop
    apply q_exit
    apply q_seq
    refine WS [2] [20] ?_
    apply aw_ret
    simp only [QRet, QRetM, QRetX, retsX_nil, retsX_cons, objsAre, resA, mapO_nil, mapO_cons, vD_dat, vD_nils, vD_rp, vD_osl, vD_ptr, vD_agg, vD_fn, vD_isl, vL_dat, vL_app, viewL, avA, datsOf, fillA, seval, ↓List.forall_mem_cons, Op.operands, hP, hG, tiA, hE]
    all_goals try (first | done | rfl | trivial)

theorem rstrs_ok (G) (l : List ByteArray) (hl : ∀ s ∈ l, s.size ≤ 1000000) (hn : l.length ≤ 1000000) : Gives Tryz.prog G 49 [ssD l] [u8sD (strsM l)] := (rstrs_okX G l hl hn).row rfl

theorem at_ok (G) (l : List Int) (i m : Int) (hl : ∀ x ∈ l, I64 x) (hm : 0 < m) (hmr : I64 m) : Gives Tryz.prog G 24 [isD l, iD i, iD m] [iD (atM l i m)] := by
  unfold atM
  refine gives_intro [] [] [] Tryz.func24 rfl (by rfl) (by simp [Tryz.ntmps24]) fun F hP hG hN hR => ?_
  rw [Tryz.ntmps24] at hN
  have hA := And.intro hN (And.intro hP (And.intro hG (And.intro hR.1 (And.intro hR.2.1 hR.2.2.1))))
  have hE := @Tryz.results24
  refine WS [0, 1, 2] [] ?_
  apply aw_seq
  refine WS [0, 1, 2, 14] [] ?_
  refine WI (fun hb => ?_) (fun hb => ?_)
  · skip
    rw [if_pos (by omega)]
    refine WS [6] [] ?_
    apply aw_ret
    apply q_ret_seq
    simp only [QRet, QRetM, QRetX, retsX_nil, retsX_cons, objsAre, resA, mapO_nil, mapO_cons, vD_dat, vD_nils, vD_rp, vD_osl, vD_ptr, vD_agg, vD_fn, vD_isl, vL_dat, vL_app, viewL, avA, datsOf, fillA, seval, ↓List.forall_mem_cons, Op.operands, hP, hG, tiA, hE]
    all_goals try (first | done | rfl | trivial)
  · skip
    rw [if_neg (by omega)]
    apply aw_skip
    apply q_seq
    have hc := gvF hP hG (around_ok _ (l.getD i.toNat default) m (getD_all hl (by omega)) hm hmr)
    refine WSc [6] [] ?_
    apply aw_ret
    simp only [QRet, QRetM, QRetX, retsX_nil, retsX_cons, objsAre, resA, mapO_nil, mapO_cons, vD_dat, vD_nils, vD_rp, vD_osl, vD_ptr, vD_agg, vD_fn, vD_isl, vL_dat, vL_app, viewL, avA, datsOf, fillA, seval, ↓List.forall_mem_cons, Op.operands, hP, hG, tiA, hE]
    all_goals try (first | done | rfl | trivial)

end Go.Proofs.YtabjaaonfaejmaaGreatDoor

namespace Go.Proofs.YtabjaaonfaejmaaGreatDoor
open Go.Av

theorem pairI_ok {o : OpM} (h : OkOp o) : ∀ x ∈ o.Pairs.flatMap pairI, I64 x := fun x hx => by
  obtain ⟨p, hp, hx⟩ := List.mem_flatMap.1 hx
  have := h.pairs p hp
  simp only [pairI, List.mem_cons, List.not_mem_nil, or_false] at hx
  rcases hx with rfl | rfl
  · exact this.1
  · exact this.2
theorem idI_ok {o : OpM} (h : OkOp o) : ∀ x ∈ o.Refs.flatMap idI, I64 x := fun x hx => by
  obtain ⟨p, hp, hx⟩ := List.mem_flatMap.1 hx
  have := h.refs p hp
  simp only [idI, List.mem_cons, List.not_mem_nil, or_false] at hx
  rcases hx with rfl | rfl | rfl
  · exact this.1
  · exact this.2.1
  · exact this.2.2
theorem opB_parts {o : OpM} (h : OkOp o) : ∀ l ∈ [intsM (headL o), bytesM o.Text, strsM o.Texts, intsM (o.Pairs.flatMap pairI), intsM (o.Refs.flatMap idI)], l.length ≤ 1000000 := by
  have := h.all
  simp only [opB, List.length_append] at this
  simp only [List.forall_mem_cons]
  exact ⟨by omega, by omega, by omega, by omega, by omega, by simp⟩
theorem opB_flat (o : OpM) : [intsM (headL o), bytesM o.Text, strsM o.Texts, intsM (o.Pairs.flatMap pairI), intsM (o.Refs.flatMap idI)].flatten = opB o := by
  simp [opB, List.append_assoc]


theorem wop_ok (G) (o : OpM) (h : OkOp o) : Gives Tryz.prog G 41 [opD o] [u8sD (opB o)] := by
  have hpl := flatN_len (f := pairI) (k := 2) (fun _ => rfl) o.Pairs
  have hrl := flatN_len (f := idI) (k := 3) (fun _ => rfl) o.Refs
  have hnp := h.npairs
  have hnr := h.nrefs
  have hob := opB_flat o
  skip
  refine gives_intro [] [] [] Tryz.func41 rfl (by rfl) (by simp [Tryz.ntmps41]) fun F hP hG hN hR => ?_
  rw [Tryz.ntmps41] at hN
  have hA := And.intro hN (And.intro hP (And.intro hG (And.intro hR.1 (And.intro hR.2.1 hR.2.2.1))))
  have hE := And.intro @Tryz.results41 (And.intro @flatN_zero (@hob))
  refine WS [1] [1] ?_
  refine WS [1, 3, 4] [1, 22, 23, 39, 40] ?_
  apply aw_seq
  refine WS [1, 3, 4, 11, 12, 13] [1, 22, 23, 39, 40] ?_
  apply aw_block
  refine aw_new0 23 1 (by omega) ?_
  refine aw_nilE 3 23 1 rfl rfl ?_
  refine WL (ι := {i : Nat // i ≤ o.Pairs.length}) [1, 4, 11, 12] [1, 22, 39, 40] (fun ⟨i, hi⟩ => [(3, .osl 23 1 0 (flatN pairI o.Pairs i).length), (13, .dat (iD i))]) (fun ⟨i, hi⟩ => [(23, ⟨1, ((flatN pairI o.Pairs i).map iD).map .dat⟩)]) (fun ⟨i, hi⟩ => o.Pairs.length - i) (⟨0, by omega⟩) ?_
  rintro ⟨i, hi⟩
  dsimp only [List.cons_append, List.nil_append]
  have hl := hpl i hi
  refine WS [1, 3, 4, 11, 12, 13, 14] [1, 22, 23, 39, 40] ?_
  apply aw_seq
  refine WI (fun hb => ?_) (fun hb => ?_)
  · skip
    have hl2 := hpl (i + 1) (by omega)
    have hsc := flatN_succ pairI o.Pairs i (by omega)
    have hE := And.intro hE (And.intro hsc (pairI.eq_1 (o.Pairs.getD i default)))
    apply aw_skip
    apply q_seq
    apply aw_seq
    apply aw_block
    refine WS [1, 3, 4, 6, 11, 12, 13] [1, 6, 22, 23, 39, 40] ?_
    refine WQ [1, 3, 4, 11, 12, 13] [1, 22, 23, 39, 40] ?_
    apply q_block
    apply q_seq
    refine WQ [1, 3, 4, 11, 12, 13] [1, 22, 23, 39, 40] ?_
    refine WN (⟨i + 1, by omega⟩)
  · skip
    apply aw_exit
    apply q_exit_seq
    have hend : i = o.Pairs.length := by omega
    subst hend
    have hf := flatN_all pairI o.Pairs
    have hE := And.intro hE hf
    apply q_exit_loop
    apply q_exit
    apply q_seq
    apply aw_seq
    refine WS [1, 3, 4, 26, 27, 28] [1, 22, 23, 39, 40] ?_
    apply aw_block
    refine aw_new0 40 1 (by omega) ?_
    refine aw_nilE 4 40 1 rfl rfl ?_
    refine WL (ι := {i : Nat // i ≤ o.Refs.length}) [1, 3, 26, 27] [1, 22, 23, 39] (fun ⟨i, hi⟩ => [(4, .osl 40 1 0 (flatN idI o.Refs i).length), (28, .dat (iD i))]) (fun ⟨i, hi⟩ => [(40, ⟨1, ((flatN idI o.Refs i).map iD).map .dat⟩)]) (fun ⟨i, hi⟩ => o.Refs.length - i) (⟨0, by omega⟩) ?_
    rintro ⟨i, hi⟩
    dsimp only [List.cons_append, List.nil_append]
    have hl := hrl i hi
    refine WS [1, 3, 4, 26, 27, 28, 29] [1, 22, 23, 39, 40] ?_
    apply aw_seq
    refine WI (fun hb => ?_) (fun hb => ?_)
    · skip
      have hl2 := hrl (i + 1) (by omega)
      have hsc := flatN_succ idI o.Refs i (by omega)
      have hE := And.intro hE (And.intro hsc (idI.eq_1 (o.Refs.getD i default)))
      apply aw_skip
      apply q_seq
      apply aw_seq
      apply aw_block
      refine WS [1, 3, 4, 8, 26, 27, 28] [1, 8, 22, 23, 39, 40] ?_
      refine WQ [1, 3, 4, 26, 27, 28] [1, 22, 23, 39, 40] ?_
      apply q_block
      apply q_seq
      refine WQ [1, 3, 4, 26, 27, 28] [1, 22, 23, 39, 40] ?_
      refine WN (⟨i + 1, by omega⟩)
    · skip
      apply aw_exit
      apply q_exit_seq
      have hend : i = o.Refs.length := by omega
      subst hend
      have hf2 := flatN_all idI o.Refs
      have hE := And.intro hE hf2
      apply q_exit_loop
      apply q_exit
      apply q_seq
      refine aw_frz 23 hR.2.2.2 rfl (datE_map _) ?_
      refine aw_frz 40 hR.2.2.2 rfl (by simp only [frz_dats]; exact datE_map _) ?_
      have hc := gvF hP hG (wints_ok G (headL o) h.head (by simp [headL]))
      refine WSc [1, 3, 4, 9] [1, 22, 23, 39, 40] ?_
      apply aw_rgds [2] [] [0, 1, 2, 3, 4, 5, 6, 7, 8, 9, 10, 11, 12, 13] []
      · rw [hP]; kernel_rfl
      · exact hR
      · kernel_rfl
      · (repeat (apply PickL.cons; exact rfl)); exact PickL.nil _
      · simp (maxSteps := 2000000) (disch := omega) only [avR2, avA, datsOf, fillA, seval, ↓List.forall_mem_cons, Op.operands, hA, tiA, hE]
        (repeat' refine And.intro ?_ ?_) <;> try exact SD
        refine CallC.use (gvF hP hG (wbytes_ok G o.Text (by have := h.text; omega))) rfl ?_
        try simp (maxSteps := 2000000) (disch := omega) only [avR2, avA, datsOf, fillA, seval, ↓List.forall_mem_cons, Op.operands, hA, tiA, hE]
        (repeat' refine And.intro ?_ ?_) <;> try exact SD
        refine CallC.use (gvF hP hG (wstrs_ok G o.Texts (fun s hs => by have := h.texts s hs; omega) (by have := h.ntexts; omega))) rfl ?_
        try simp (maxSteps := 2000000) (disch := omega) only [avR2, avA, datsOf, fillA, seval, ↓List.forall_mem_cons, Op.operands, hA, tiA, hE]
        (repeat' refine And.intro ?_ ?_) <;> try exact SD
        refine CallC.use (gvF hP hG (wints_ok G (o.Pairs.flatMap pairI) (pairI_ok h) (by rw [← flatN_all pairI, hpl _ (Nat.le_refl _)]; omega))) rfl ?_
        try simp (maxSteps := 2000000) (disch := omega) only [avR2, avA, datsOf, fillA, seval, ↓List.forall_mem_cons, Op.operands, hA, tiA, hE]
        (repeat' refine And.intro ?_ ?_) <;> try exact SD
        refine CallC.use (gvF hP hG (wints_ok G (o.Refs.flatMap idI) (idI_ok h) (by rw [← flatN_all idI, hrl _ (Nat.le_refl _)]; omega))) rfl ?_
        try simp (maxSteps := 2000000) (disch := omega) only [avR2, avA, datsOf, fillA, seval, ↓List.forall_mem_cons, Op.operands, hA, tiA, hE]
        (repeat' refine And.intro ?_ ?_) <;> try exact SD
        refine CallC.use (gvF hP hG (concatB_ok G [intsM (headL o), bytesM o.Text, strsM o.Texts, intsM (o.Pairs.flatMap pairI), intsM (o.Refs.flatMap idI)] (by simp) (opB_parts h) (by rw [hob]; exact h.all))) rfl ?_
        try simp (maxSteps := 2000000) (disch := omega) only [avR2, avA, datsOf, fillA, seval, ↓List.forall_mem_cons, Op.operands, hA, tiA, hE]
        exact SC
      apply aw_ret
      simp only [QRet, QRetM, QRetX, retsX_nil, retsX_cons, objsAre, resA, mapO_nil, mapO_cons, vD_dat, vD_nils, vD_rp, vD_osl, vD_ptr, vD_agg, vD_fn, vD_isl, vL_dat, vL_app, viewL, avA, datsOf, fillA, seval, ↓List.forall_mem_cons, Op.operands, hP, hG, tiA, hE]
      all_goals try (first | done | rfl | trivial)

theorem rpairsI_ok (G) (l : List (Int × Int)) (hl : l.length ≤ 100000) : Gives Tryz.prog G 86 [pairsD l] [isD (l.flatMap pairI)] := by
  have hpl := flatN_len (f := pairI) (k := 2) (fun _ => rfl) l
  skip
  skip
  refine gives_intro [23] [] [] Tryz.func86 rfl (by rfl) (by simp [Tryz.ntmps86]) fun F hP hG hN hR => ?_
  rw [Tryz.ntmps86] at hN
  have hA := And.intro hN (And.intro hP (And.intro hG (And.intro hR.1 (And.intro hR.2.1 hR.2.2.1))))
  have hE := And.intro @Tryz.results86 (@flatN_zero)
  refine WS [0] [3] ?_
  refine WS [0, 3] [22, 23, 3] ?_
  apply aw_seq
  refine WS [0, 3, 4] [22, 23, 3] ?_
  apply aw_block
  refine aw_new0 3 1 (by omega) ?_
  refine aw_nilE 3 3 1 rfl rfl ?_
  refine WL (ι := {i : Nat // i ≤ l.length}) [0] [22, 23] (fun ⟨i, hi⟩ => [(3, .osl 3 1 0 (flatN pairI l i).length), (4, .dat (iD i))]) (fun ⟨i, hi⟩ => [(3, ⟨1, ((flatN pairI l i).map iD).map .dat⟩)]) (fun ⟨i, hi⟩ => l.length - i) (⟨0, by omega⟩) ?_
  rintro ⟨i, hi⟩
  dsimp only [List.cons_append, List.nil_append]
  have hl1 := hpl i hi
  apply aw_seq
  refine WS [0, 3, 4, 8] [22, 23, 3] ?_
  refine WI (fun hb => ?_) (fun hb => ?_)
  · skip
    have hl2 := hpl (i + 1) (by omega)
    have hsc := flatN_succ pairI l i (by omega)
    have hE := And.intro hE (And.intro hsc (pairI.eq_1 (l.getD i default)))
    apply aw_skip
    apply q_seq
    apply aw_seq
    apply aw_block
    refine WDQ [0, 3, 4] [22, 23, 3] [0, 1, 2, 3, 4, 5, 6, 7, 8, 9, 10, 11, 12, 13] [23] ?_
    apply q_block
    apply q_seq
    refine aw_swap 23 3 (by omega) (by omega) ?_
    refine WQ [0, 3, 4] [22, 23, 3] ?_
    refine WN (⟨i + 1, by omega⟩)
  · skip
    apply aw_exit
    apply q_exit_seq
    have hend : i = l.length := by omega
    subst hend
    have hf := flatN_all pairI l
    have hE := And.intro hE hf
    apply q_exit_loop
    apply q_exit
    apply q_seq
    refine WS [2] [22, 23, 3] ?_
    apply aw_ret
    simp only [QRet, QRetM, QRetX, retsX_nil, retsX_cons, objsAre, resA, mapO_nil, mapO_cons, vD_dat, vD_nils, vD_rp, vD_osl, vD_ptr, vD_agg, vD_fn, vD_isl, vL_dat, vL_app, viewL, avA, datsOf, fillA, seval, ↓List.forall_mem_cons, Op.operands, hP, hG, tiA, hE]
    all_goals try (first | done | rfl | trivial)

theorem rflat_ok (G) (l : List IdM) (hl : l.length ≤ 100000) : Gives Tryz.prog G 87 [idsD l] [isD (l.flatMap idI)] := by
  have hpl := flatN_len (f := idI) (k := 3) (fun _ => rfl) l
  skip
  skip
  refine gives_intro [28] [] [] Tryz.func87 rfl (by rfl) (by simp [Tryz.ntmps87]) fun F hP hG hN hR => ?_
  rw [Tryz.ntmps87] at hN
  have hA := And.intro hN (And.intro hP (And.intro hG (And.intro hR.1 (And.intro hR.2.1 hR.2.2.1))))
  have hE := And.intro @Tryz.results87 (@flatN_zero)
  refine WS [0] [3] ?_
  refine WS [0, 3] [27, 28, 3] ?_
  apply aw_seq
  refine WS [0, 3, 4] [27, 28, 3] ?_
  apply aw_block
  refine aw_new0 3 1 (by omega) ?_
  refine aw_nilE 3 3 1 rfl rfl ?_
  refine WL (ι := {i : Nat // i ≤ l.length}) [0] [27, 28] (fun ⟨i, hi⟩ => [(3, .osl 3 1 0 (flatN idI l i).length), (4, .dat (iD i))]) (fun ⟨i, hi⟩ => [(3, ⟨1, ((flatN idI l i).map iD).map .dat⟩)]) (fun ⟨i, hi⟩ => l.length - i) (⟨0, by omega⟩) ?_
  rintro ⟨i, hi⟩
  dsimp only [List.cons_append, List.nil_append]
  have hl1 := hpl i hi
  apply aw_seq
  refine WS [0, 3, 4, 8] [27, 28, 3] ?_
  refine WI (fun hb => ?_) (fun hb => ?_)
  · skip
    have hl2 := hpl (i + 1) (by omega)
    have hsc := flatN_succ idI l i (by omega)
    have hE := And.intro hE (And.intro hsc (idI.eq_1 (l.getD i default)))
    apply aw_skip
    apply q_seq
    apply aw_seq
    apply aw_block
    refine WDQ [0, 3, 4] [27, 28, 3] [0, 1, 2, 3, 4, 5, 6, 7, 8, 9, 10, 11, 12, 13, 14, 15, 16, 17, 18] [28] ?_
    apply q_block
    apply q_seq
    refine aw_swap 28 3 (by omega) (by omega) ?_
    refine WQ [0, 3, 4] [27, 28, 3] ?_
    refine WN (⟨i + 1, by omega⟩)
  · skip
    apply aw_exit
    apply q_exit_seq
    have hend : i = l.length := by omega
    subst hend
    have hf := flatN_all idI l
    have hE := And.intro hE hf
    apply q_exit_loop
    apply q_exit
    apply q_seq
    refine WS [2] [27, 28, 3] ?_
    apply aw_ret
    simp only [QRet, QRetM, QRetX, retsX_nil, retsX_cons, objsAre, resA, mapO_nil, mapO_cons, vD_dat, vD_nils, vD_rp, vD_osl, vD_ptr, vD_agg, vD_fn, vD_isl, vL_dat, vL_app, viewL, avA, datsOf, fillA, seval, ↓List.forall_mem_cons, Op.operands, hP, hG, tiA, hE]
    all_goals try (first | done | rfl | trivial)

set_option maxRecDepth 100000 in
theorem rop_enc_ok (G) (o : OpM) (h : OkOp o) : Gives Tryz.prog G 48 [opD o] [u8sD (opB o)] := by
  have hpl := flatN_len (f := pairI) (k := 2) (fun _ => rfl) o.Pairs o.Pairs.length (Nat.le_refl _)
  have hrl := flatN_len (f := idI) (k := 3) (fun _ => rfl) o.Refs o.Refs.length (Nat.le_refl _)
  rw [flatN_all] at hpl hrl
  have hnp := h.npairs
  have hnr := h.nrefs
  have hall := h.all
  simp only [opB, List.length_append] at hall
  have c1 : (List.map AV.dat (List.map u8D (intsM (headL o))) ++ List.map AV.dat (List.map u8D (bytesM o.Text))).length = (intsM (headL o)).length + (bytesM o.Text).length := by simp only [List.length_append, List.length_map]
  have c2 : (List.map AV.dat (List.map u8D (intsM (headL o))) ++ List.map AV.dat (List.map u8D (bytesM o.Text)) ++ List.map AV.dat (List.map u8D (strsM o.Texts))).length = (intsM (headL o)).length + (bytesM o.Text).length + (strsM o.Texts).length := by simp only [List.length_append, List.length_map]
  have c3 : (List.map AV.dat (List.map u8D (intsM (headL o))) ++ List.map AV.dat (List.map u8D (bytesM o.Text)) ++ List.map AV.dat (List.map u8D (strsM o.Texts)) ++ List.map AV.dat (List.map u8D (intsM (o.Pairs.flatMap pairI)))).length = (intsM (headL o)).length + (bytesM o.Text).length + (strsM o.Texts).length + (intsM (o.Pairs.flatMap pairI)).length := by simp only [List.length_append, List.length_map]
  have c4 : (List.map AV.dat (List.map u8D (intsM (headL o))) ++ List.map AV.dat (List.map u8D (bytesM o.Text)) ++ List.map AV.dat (List.map u8D (strsM o.Texts)) ++ List.map AV.dat (List.map u8D (intsM (o.Pairs.flatMap pairI))) ++ List.map AV.dat (List.map u8D (intsM (o.Refs.flatMap idI)))).length = (intsM (headL o)).length + (bytesM o.Text).length + (strsM o.Texts).length + (intsM (o.Pairs.flatMap pairI)).length + (intsM (o.Refs.flatMap idI)).length := by simp only [List.length_append, List.length_map]
  skip
  skip
  refine gives_intro [45, 49, 55, 60] [40] [] Tryz.func48 rfl (by rfl) (by simp [Tryz.ntmps48]) fun F hP hG hN hR => ?_
  rw [Tryz.ntmps48] at hN
  have hA := And.intro hN (And.intro hP (And.intro hG (And.intro hR.1 (And.intro hR.2.1 hR.2.2.1))))
  have hE := And.intro @Tryz.results48 (And.intro @Nat.min_self (@List.take_of_length_le.{0}))
  refine WS [1] [1, 40] ?_
  apply aw_regs [1, 3] [1, 45, 49, 40]
  · simp (maxSteps := 2000000) (disch := omega) only [avR2, avA, datsOf, fillA, seval, ↓List.forall_mem_cons, Op.operands, hA, tiA, hE]
    (repeat' refine And.intro ?_ ?_) <;> try exact SD
    refine CallC.useX (fun _ => 40) [20] (by simp [LitD, hR.2.1]) (gvFX hP hG (rints_okX G (headL o) h.head (by simp [headL]))) rfl (lentX_of hN (by first | trivial | ((try simp only [haveL, AObj.ren, AV.ren, renL, ren_row, List.map_cons, List.map_nil, objL_cons, objL_nil]) <;> ((repeat' apply And.intro) <;> first | trivial | rfl))) (by rfl)) ?_
    try simp (maxSteps := 2000000) (disch := omega) only [avR2, avA, datsOf, fillA, seval, ↓List.forall_mem_cons, Op.operands, hA, tiA, hE, avX]
    exact SC
  apply aw_rgds [1, 3] [1, 45, 49, 40] [0, 1, 2, 3, 4, 5, 6, 7, 8, 9] [45, 49]
  · rw [hP]; kernel_rfl
  · exact hR
  · kernel_rfl
  · (repeat (apply PickL.cons; exact rfl)); exact PickL.nil _
  · simp (maxSteps := 2000000) (disch := omega) only [avR2, avA, datsOf, fillA, seval, ↓List.forall_mem_cons, Op.operands, hA, tiA, hE]
    (repeat' refine And.intro ?_ ?_) <;> try exact SD
    refine CallC.use (gvF hP hG (rbytes_ok G o.Text (by have := h.text; omega))) rfl ?_
    try simp (maxSteps := 2000000) (disch := omega) only [avR2, avA, datsOf, fillA, seval, ↓List.forall_mem_cons, Op.operands, hA, tiA, hE]
    (repeat' refine And.intro ?_ ?_) <;> try exact SD
    refine CallC.use (gvF hP hG (rstrs_ok G o.Texts (fun s hs => by have := h.texts s hs; omega) (by have := h.ntexts; omega))) rfl ?_
    try simp (maxSteps := 2000000) (disch := omega) only [avR2, avA, datsOf, fillA, seval, ↓List.forall_mem_cons, Op.operands, hA, tiA, hE]
    exact SC
  apply aw_rgds [2] [45, 49, 55, 60, 40] [0, 1, 2, 3, 4, 5, 6, 7, 8, 9, 10, 11] [55, 60]
  · rw [hP]; kernel_rfl
  · exact hR
  · kernel_rfl
  · (repeat (apply PickL.cons; exact rfl)); exact PickL.nil _
  · simp (maxSteps := 2000000) (disch := omega) only [avR2, avA, datsOf, fillA, seval, ↓List.forall_mem_cons, Op.operands, hA, tiA, hE]
    (repeat' refine And.intro ?_ ?_) <;> try exact SD
    refine CallC.use (gvF hP hG (rpairsI_ok G o.Pairs hnp)) rfl ?_
    try simp (maxSteps := 2000000) (disch := omega) only [avR2, avA, datsOf, fillA, seval, ↓List.forall_mem_cons, Op.operands, hA, tiA, hE]
    (repeat' refine And.intro ?_ ?_) <;> try exact SD
    refine CallC.use (gvF hP hG (rints_ok G (o.Pairs.flatMap pairI) (pairI_ok h) (by omega))) rfl ?_
    try simp (maxSteps := 2000000) (disch := omega) only [avR2, avA, datsOf, fillA, seval, ↓List.forall_mem_cons, Op.operands, hA, tiA, hE]
    (repeat' refine And.intro ?_ ?_) <;> try exact SD
    refine CallC.use (gvF hP hG (rflat_ok G o.Refs hnr)) rfl ?_
    try simp (maxSteps := 2000000) (disch := omega) only [avR2, avA, datsOf, fillA, seval, ↓List.forall_mem_cons, Op.operands, hA, tiA, hE]
    (repeat' refine And.intro ?_ ?_) <;> try exact SD
    refine CallC.use (gvF hP hG (rints_ok G (o.Refs.flatMap idI) (idI_ok h) (by omega))) rfl ?_
    try simp (maxSteps := 2000000) (disch := omega) only [avR2, avA, datsOf, fillA, seval, ↓List.forall_mem_cons, Op.operands, hA, tiA, hE]
    exact SC
  apply aw_ret
  simp only [QRet, QRetM, QRetX, retsX_nil, retsX_cons, objsAre, resA, mapO_nil, mapO_cons, vD_dat, vD_nils, vD_rp, vD_osl, vD_ptr, vD_agg, vD_fn, vD_isl, vL_dat, vL_app, viewL, avA, datsOf, fillA, seval, ↓List.forall_mem_cons, Op.operands, hP, hG, tiA, hE, opB]
  all_goals try (first | done | rfl | trivial)
  simp only [← List.map_append, datE_map]
  rfl

end Go.Proofs.YtabjaaonfaejmaaGreatDoor

namespace Go.Proofs.YtabjaaonfaejmaaGreatDoor
open Go.Av

/-- Lengths that fit. -/
structure SzTerm (t : TermM) : Prop where
  broader : t.Broader.length ≤ 281474976710656
structure SzOp (o : OpM) : Prop where
  texts : o.Texts.length ≤ 281474976710656
  pairs : o.Pairs.length ≤ 281474976710656
  refs : o.Refs.length ≤ 281474976710656


theorem rsid_ok (G) (a b : IdM) : Gives Tryz.prog G 99 [idD a, idD b] [bD (sameID a b)] := by
  refine gives_intro [] [] [] Tryz.func99 rfl (by rfl) (by simp [Tryz.ntmps99]) fun F hP hG hN hR => ?_
  rw [Tryz.ntmps99] at hN
  have hA := And.intro hN (And.intro hP (And.intro hG (And.intro hR.1 (And.intro hR.2.1 hR.2.2.1))))
  have hE := @Tryz.results99
  refine WS [2, 3] [2, 3] ?_
  refine WS [4] [] ?_
  apply aw_ret
  simp only [QRet, QRetM, QRetX, retsX_nil, retsX_cons, objsAre, resA, mapO_nil, mapO_cons, vD_dat, vD_nils, vD_rp, vD_osl, vD_ptr, vD_agg, vD_fn, vD_isl, vL_dat, vL_app, viewL, avA, datsOf, fillA, seval, ↓List.forall_mem_cons, Op.operands, hP, hG, tiA, hE, sameID]
  all_goals try (first | done | rfl | trivial)

theorem rids_ok (G) (a b : List IdM) (ha : a.length ≤ 281474976710656) : Gives Tryz.prog G 101 [idsD a, idsD b] [bD (sameL sameID a b)] := by
  refine gives_intro [] [] [] Tryz.func101 rfl (by rfl) (by simp [Tryz.ntmps101]) fun F hP hG hN hR => ?_
  rw [Tryz.ntmps101] at hN
  have hA := And.intro hN (And.intro hP (And.intro hG (And.intro hR.1 (And.intro hR.2.1 hR.2.2.1))))
  have hE := @Tryz.results101
  refine WS [0, 1] [] ?_
  apply aw_seq
  refine WS [0, 1, 10] [] ?_
  refine WI (fun hb => ?_) (fun hb => ?_)
  · skip
    have hv : sameL sameID a b = false := sameL_len (by omega)
    have hE := And.intro hE hv
    refine WS [4] [] ?_
    apply aw_ret
    apply q_ret_seq
    simp only [QRet, QRetM, QRetX, retsX_nil, retsX_cons, objsAre, resA, mapO_nil, mapO_cons, vD_dat, vD_nils, vD_rp, vD_osl, vD_ptr, vD_agg, vD_fn, vD_isl, vL_dat, vL_app, viewL, avA, datsOf, fillA, seval, ↓List.forall_mem_cons, Op.operands, hP, hG, tiA, hE]
    all_goals try (first | done | rfl | trivial)
  · skip
    have hlen : a.length = b.length := by omega
    apply aw_skip
    apply q_seq
    apply aw_seq
    refine WS [0, 1, 5] [] ?_
    apply aw_block
    refine WL (ι := {i : Nat // i ≤ a.length ∧ ∀ j, j < i → sameID (a.getD j default) (b.getD j default) = true}) [0, 1] [] (fun ⟨i, hih⟩ => [(5, .dat (iD i))]) (fun ⟨i, hih⟩ => []) (fun ⟨i, hih⟩ => a.length - i) (⟨0, by omega, fun j h => absurd h (Nat.not_lt_zero j)⟩) ?_
    rintro ⟨i, hih⟩
    dsimp only [List.cons_append, List.nil_append]
    obtain ⟨hi, hall⟩ := id hih
    apply aw_seq
    refine WS [0, 1, 5, 14] [] ?_
    refine WI (fun hb => ?_) (fun hb => ?_)
    · skip
      apply aw_skip
      apply q_seq
      apply aw_seq
      apply aw_block
      apply aw_rgds [0, 1, 5, 26] [] [0, 1, 2, 3, 4, 5, 6, 7, 8, 9] []
      · rw [hP]; kernel_rfl
      · exact hR
      · kernel_rfl
      · (repeat (apply PickL.cons; exact rfl)); exact PickL.nil _
      · simp (maxSteps := 2000000) (disch := omega) only [avR2, avA, datsOf, fillA, seval, ↓List.forall_mem_cons, Op.operands, hA, tiA, hE]
        (repeat' refine And.intro ?_ ?_) <;> try exact SD
        refine CallC.use (gvF hP hG (rsid_ok G (a.getD i default) (b.getD i default))) rfl ?_
        try simp (maxSteps := 2000000) (disch := omega) only [avR2, avA, datsOf, fillA, seval, ↓List.forall_mem_cons, Op.operands, hA, tiA, hE]
        exact SC
      refine WI (fun hb => ?_) (fun hb => ?_)
      · skip
        have hv : sameL sameID a b = false := sameL_bad i (by omega) hlen hb
        have hE := And.intro hE hv
        refine WS [4] [] ?_
        apply aw_ret
        apply q_ret_block
        apply q_ret_seq
        apply q_ret_loop
        apply q_ret_block
        apply q_ret_seq
        simp only [QRet, QRetM, QRetX, retsX_nil, retsX_cons, objsAre, resA, mapO_nil, mapO_cons, vD_dat, vD_nils, vD_rp, vD_osl, vD_ptr, vD_agg, vD_fn, vD_isl, vL_dat, vL_app, viewL, avA, datsOf, fillA, seval, ↓List.forall_mem_cons, Op.operands, hP, hG, tiA, hE]
        all_goals try (first | done | rfl | trivial)
      · skip
        have hok : sameID (a.getD i default) (b.getD i default) = true := hb
        apply aw_skip
        apply q_block
        apply q_seq
        refine WQ [0, 1, 5] [] ?_
        refine WN (⟨i + 1, by omega, allstep hih.2 hok⟩)
    · skip
      apply aw_exit
      apply q_exit_seq
      obtain rfl : i = a.length := by omega
      have hv : sameL sameID a b = true := sameL_all hlen hall
      have hE := And.intro hE hv
      apply q_exit_loop
      apply q_exit
      apply q_seq
      refine WS [4] [] ?_
      apply aw_ret
      simp only [QRet, QRetM, QRetX, retsX_nil, retsX_cons, objsAre, resA, mapO_nil, mapO_cons, vD_dat, vD_nils, vD_rp, vD_osl, vD_ptr, vD_agg, vD_fn, vD_isl, vL_dat, vL_app, viewL, avA, datsOf, fillA, seval, ↓List.forall_mem_cons, Op.operands, hP, hG, tiA, hE]
      all_goals try (first | done | rfl | trivial)

theorem sterm_ok (G) (t u : TermM) (ht : t.Broader.length ≤ 281474976710656) : Gives Tryz.prog G 69 [termD t, termD u] [bD (sameTermM t u)] := by
  skip
  refine gives_intro [] [] [] Tryz.func69 rfl (by rfl) (by simp [Tryz.ntmps69]) fun F hP hG hN hR => ?_
  rw [Tryz.ntmps69] at hN
  have hA := And.intro hN (And.intro hP (And.intro hG (And.intro hR.1 (And.intro hR.2.1 hR.2.2.1))))
  have hE := And.intro @Tryz.results69 (@str_beq)
  refine WS [2, 3] [2, 3] ?_
  apply aw_regs [4] []
  · simp (maxSteps := 2000000) (disch := omega) only [avR2, avA, datsOf, fillA, seval, ↓List.forall_mem_cons, Op.operands, hA, tiA, hE]
    (repeat' refine And.intro ?_ ?_) <;> try exact SD
    refine CallGC.use rfl (fun hg => ⟨by first | trivial | (simp only [gdAll, AV.gd, avA, seval]; (repeat' apply And.intro) <;> first | trivial | rfl | exact hg) | simp_all [gdAll], gvF hP hG (stexts_ok G t.Broader u.Broader ht)⟩) ?_
    try simp (maxSteps := 2000000) (disch := omega) only [avR2, avA, datsOf, fillA, seval, ↓List.forall_mem_cons, Op.operands, hA, tiA, hE]
    exact SC
  apply aw_ret
  simp only [QRet, QRetM, QRetX, retsX_nil, retsX_cons, objsAre, resA, mapO_nil, mapO_cons, vD_dat, vD_nils, vD_rp, vD_osl, vD_ptr, vD_agg, vD_fn, vD_isl, vL_dat, vL_app, viewL, avA, datsOf, fillA, seval, ↓List.forall_mem_cons, Op.operands, hP, hG, tiA, hE, sameTermM]
  all_goals try (first | done | rfl | trivial)

theorem rterm_ok (G) (t u : TermM) (ht : t.Broader.length ≤ 281474976710656) : Gives Tryz.prog G 63 [termD t, termD u] [bD (sameTermM t u)] := by
  skip
  refine gives_intro [] [] [] Tryz.func63 rfl (by rfl) (by simp [Tryz.ntmps63]) fun F hP hG hN hR => ?_
  rw [Tryz.ntmps63] at hN
  have hA := And.intro hN (And.intro hP (And.intro hG (And.intro hR.1 (And.intro hR.2.1 hR.2.2.1))))
  have hE := And.intro @Tryz.results63 (@str_beq)
  refine WS [2, 3] [2, 3] ?_
  apply aw_regs [4] []
  · simp (maxSteps := 2000000) (disch := omega) only [avR2, avA, datsOf, fillA, seval, ↓List.forall_mem_cons, Op.operands, hA, tiA, hE]
    (repeat' refine And.intro ?_ ?_) <;> try exact SD
    refine CallGC.use rfl (fun hg => ⟨by first | trivial | (simp only [gdAll, AV.gd, avA, seval]; (repeat' apply And.intro) <;> first | trivial | rfl | exact hg) | simp_all [gdAll], gvF hP hG (rtexts_ok G t.Broader u.Broader ht)⟩) ?_
    try simp (maxSteps := 2000000) (disch := omega) only [avR2, avA, datsOf, fillA, seval, ↓List.forall_mem_cons, Op.operands, hA, tiA, hE]
    exact SC
  apply aw_ret
  simp only [QRet, QRetM, QRetX, retsX_nil, retsX_cons, objsAre, resA, mapO_nil, mapO_cons, vD_dat, vD_nils, vD_rp, vD_osl, vD_ptr, vD_agg, vD_fn, vD_isl, vL_dat, vL_app, viewL, avA, datsOf, fillA, seval, ↓List.forall_mem_cons, Op.operands, hP, hG, tiA, hE, sameTermM]
  all_goals try (first | done | rfl | trivial)

theorem rpost_ok (G) (p q : PostM) (ht : p.Path.length ≤ 281474976710656) : Gives Tryz.prog G 61 [postD p, postD q] [bD (samePostM p q)] := by
  skip
  refine gives_intro [] [] [] Tryz.func61 rfl (by rfl) (by simp [Tryz.ntmps61]) fun F hP hG hN hR => ?_
  rw [Tryz.ntmps61] at hN
  have hA := And.intro hN (And.intro hP (And.intro hG (And.intro hR.1 (And.intro hR.2.1 hR.2.2.1))))
  have hE := And.intro @Tryz.results61 (@eqId)
  refine WS [2, 3] [2, 3] ?_
  apply aw_regs [4] []
  · simp (maxSteps := 2000000) (disch := omega) only [avR2, avA, datsOf, fillA, seval, ↓List.forall_mem_cons, Op.operands, hA, tiA, hE]
    (repeat' refine And.intro ?_ ?_) <;> try exact SD
    refine CallGC.use rfl (fun hg => ⟨by first | trivial | (simp only [gdAll, AV.gd, avA, seval]; (repeat' apply And.intro) <;> first | trivial | rfl | exact hg) | simp_all [gdAll], gvF hP hG (rtexts_ok G p.Path q.Path ht)⟩) ?_
    try simp (maxSteps := 2000000) (disch := omega) only [avR2, avA, datsOf, fillA, seval, ↓List.forall_mem_cons, Op.operands, hA, tiA, hE]
    exact SC
  apply aw_ret
  simp only [QRet, QRetM, QRetX, retsX_nil, retsX_cons, objsAre, resA, mapO_nil, mapO_cons, vD_dat, vD_nils, vD_rp, vD_osl, vD_ptr, vD_agg, vD_fn, vD_isl, vL_dat, vL_app, viewL, avA, datsOf, fillA, seval, ↓List.forall_mem_cons, Op.operands, hP, hG, tiA, hE, samePostM, sameID]
  all_goals try (first | done | rfl | trivial)

set_option maxRecDepth 100000 in
theorem sop_ok (G) (o p : OpM) (h : SzOp o) : Gives Tryz.prog G 68 [opD o, opD p] [bD (sameOpM o p)] := by
  skip
  refine gives_intro [] [] [] Tryz.func68 rfl (by rfl) (by simp [Tryz.ntmps68]) fun F hP hG hN hR => ?_
  rw [Tryz.ntmps68] at hN
  have hA := And.intro hN (And.intro hP (And.intro hG (And.intro hR.1 (And.intro hR.2.1 hR.2.2.1))))
  have hE := And.intro @Tryz.results68 (And.intro @eqId (And.intro @eqSpot (@str_beq)))
  refine WS [2, 3] [2, 3] ?_
  refine aw_lit (by simp only [List.append_eq, List.cons_append, List.nil_append]; exact rfl) ?_
  apply aw_regs [4] []
  · simp (maxSteps := 2000000) (disch := omega) only [avR2, avA, datsOf, fillA, seval, ↓List.forall_mem_cons, Op.operands, hA, tiA, hE]
    (repeat' refine And.intro ?_ ?_) <;> try exact SD
    refine CallGC.use rfl (fun hg => ⟨by first | trivial | (simp only [gdAll, AV.gd, avA, seval]; (repeat' apply And.intro) <;> first | trivial | rfl | exact hg) | simp_all [gdAll], gvF hP hG (stexts_ok G o.Texts p.Texts h.texts)⟩) ?_
    try simp (maxSteps := 2000000) (disch := omega) only [avR2, avA, datsOf, fillA, seval, ↓List.forall_mem_cons, Op.operands, hA, tiA, hE]
    (repeat' refine And.intro ?_ ?_) <;> try exact SD
    refine CallGC.use rfl (fun hg => ⟨by first | trivial | (simp only [gdAll, AV.gd, avA, seval]; (repeat' apply And.intro) <;> first | trivial | rfl | exact hg) | simp_all [gdAll], gvF hP hG (spairs_ok G o.Pairs p.Pairs h.pairs)⟩) ?_
    try simp (maxSteps := 2000000) (disch := omega) only [avR2, avA, datsOf, fillA, seval, ↓List.forall_mem_cons, Op.operands, hA, tiA, hE]
    (repeat' refine And.intro ?_ ?_) <;> try exact SD
    refine CallGC.use rfl (fun hg => ⟨by first | trivial | (simp only [gdAll, AV.gd, avA, seval]; (repeat' apply And.intro) <;> first | trivial | rfl | exact hg) | simp_all [gdAll], gvF hP hG (sids_ok G o.Refs p.Refs h.refs)⟩) ?_
    try simp (maxSteps := 2000000) (disch := omega) only [avR2, avA, datsOf, fillA, seval, ↓List.forall_mem_cons, Op.operands, hA, tiA, hE]
    exact SC
  apply aw_ret
  simp only [QRet, QRetM, QRetX, retsX_nil, retsX_cons, objsAre, resA, mapO_nil, mapO_cons, vD_dat, vD_nils, vD_rp, vD_osl, vD_ptr, vD_agg, vD_fn, vD_isl, vL_dat, vL_app, viewL, avA, datsOf, fillA, seval, ↓List.forall_mem_cons, Op.operands, hP, hG, tiA, hE, sameOpM, sameID, sameSpot]
  all_goals try (first | done | rfl | trivial)

set_option maxRecDepth 100000 in
theorem rop_ok (G) (o p : OpM) (h : SzOp o) : Gives Tryz.prog G 64 [opD o, opD p] [bD (sameOpM o p)] := by
  skip
  refine gives_intro [] [] [] Tryz.func64 rfl (by rfl) (by simp [Tryz.ntmps64]) fun F hP hG hN hR => ?_
  rw [Tryz.ntmps64] at hN
  have hA := And.intro hN (And.intro hP (And.intro hG (And.intro hR.1 (And.intro hR.2.1 hR.2.2.1))))
  have hE := And.intro @Tryz.results64 (And.intro @eqSpot (@str_beq))
  refine WS [2, 3] [2, 3] ?_
  apply aw_seq
  apply aw_regs [2, 3, 53] [2, 3]
  · simp (maxSteps := 2000000) (disch := omega) only [avR2, avA, datsOf, fillA, seval, ↓List.forall_mem_cons, Op.operands, hA, tiA, hE]
    (repeat' refine And.intro ?_ ?_) <;> try exact SD
    refine CallGC.use rfl (fun hg => ⟨by first | trivial | (simp only [gdAll, AV.gd, avA, seval]; (repeat' apply And.intro) <;> first | trivial | rfl | exact hg) | simp_all [gdAll], gvF hP hG (rsid_ok G o.At p.At)⟩) ?_
    try simp (maxSteps := 2000000) (disch := omega) only [avR2, avA, datsOf, fillA, seval, ↓List.forall_mem_cons, Op.operands, hA, tiA, hE]
    (repeat' refine And.intro ?_ ?_) <;> try exact SD
    refine CallGC.use rfl (fun hg => ⟨by first | trivial | (simp only [gdAll, AV.gd, avA, seval]; (repeat' apply And.intro) <;> first | trivial | rfl | exact hg) | simp_all [gdAll], gvF hP hG (rsid_ok G o.To p.To)⟩) ?_
    try simp (maxSteps := 2000000) (disch := omega) only [avR2, avA, datsOf, fillA, seval, ↓List.forall_mem_cons, Op.operands, hA, tiA, hE]
    exact SC
  refine WI (fun hb => ?_) (fun hb => ?_)
  · skip
    have hv : sameOpM o p = false := by
      unfold sameOpM sameSpot
      grind
    have hE := And.intro hE hv
    refine WS [4] [] ?_
    apply aw_ret
    apply q_ret_seq
    simp only [QRet, QRetM, QRetX, retsX_nil, retsX_cons, objsAre, resA, mapO_nil, mapO_cons, vD_dat, vD_nils, vD_rp, vD_osl, vD_ptr, vD_agg, vD_fn, vD_isl, vL_dat, vL_app, viewL, avA, datsOf, fillA, seval, ↓List.forall_mem_cons, Op.operands, hP, hG, tiA, hE]
    all_goals try (first | done | rfl | trivial)
  · skip
    have hv : sameOpM o p = (sameStr o.Text p.Text && sameL sameStr o.Texts p.Texts && sameL samePair o.Pairs p.Pairs && sameL sameID o.Refs p.Refs) := by
      unfold sameOpM sameSpot
      grind
    have hE := And.intro hE hv
    apply aw_skip
    apply q_seq
    apply aw_regs [4] []
    · simp (maxSteps := 2000000) (disch := omega) only [avR2, avA, datsOf, fillA, seval, ↓List.forall_mem_cons, Op.operands, hA, tiA, hE]
      (repeat' refine And.intro ?_ ?_) <;> try exact SD
      refine CallGC.use rfl (fun hg => ⟨by first | trivial | (simp only [gdAll, AV.gd, avA, seval]; (repeat' apply And.intro) <;> first | trivial | rfl | exact hg) | simp_all [gdAll], gvF hP hG (rtexts_ok G o.Texts p.Texts h.texts)⟩) ?_
      try simp (maxSteps := 2000000) (disch := omega) only [avR2, avA, datsOf, fillA, seval, ↓List.forall_mem_cons, Op.operands, hA, tiA, hE]
      (repeat' refine And.intro ?_ ?_) <;> try exact SD
      refine CallGC.use rfl (fun hg => ⟨by first | trivial | (simp only [gdAll, AV.gd, avA, seval]; (repeat' apply And.intro) <;> first | trivial | rfl | exact hg) | simp_all [gdAll], gvF hP hG (rpairs_ok G o.Pairs p.Pairs h.pairs)⟩) ?_
      try simp (maxSteps := 2000000) (disch := omega) only [avR2, avA, datsOf, fillA, seval, ↓List.forall_mem_cons, Op.operands, hA, tiA, hE]
      (repeat' refine And.intro ?_ ?_) <;> try exact SD
      refine CallGC.use rfl (fun hg => ⟨by first | trivial | (simp only [gdAll, AV.gd, avA, seval]; (repeat' apply And.intro) <;> first | trivial | rfl | exact hg) | simp_all [gdAll], gvF hP hG (rids_ok G o.Refs p.Refs h.refs)⟩) ?_
      try simp (maxSteps := 2000000) (disch := omega) only [avR2, avA, datsOf, fillA, seval, ↓List.forall_mem_cons, Op.operands, hA, tiA, hE]
      exact SC
    apply aw_ret
    simp only [QRet, QRetM, QRetX, retsX_nil, retsX_cons, objsAre, resA, mapO_nil, mapO_cons, vD_dat, vD_nils, vD_rp, vD_osl, vD_ptr, vD_agg, vD_fn, vD_isl, vL_dat, vL_app, viewL, avA, datsOf, fillA, seval, ↓List.forall_mem_cons, Op.operands, hP, hG, tiA, hE]
    all_goals try (first | done | rfl | trivial)

end Go.Proofs.YtabjaaonfaejmaaGreatDoor

namespace Go.Proofs.YtabjaaonfaejmaaGreatDoor
open Go.Av


theorem of_ok (G) (k : Int) : Gives Tryz.prog G 40 [iD k] [usesD (ofM k)] := by
  refine gives_intro [] [] [] Tryz.func40 rfl (by rfl) (by simp [Tryz.ntmps40]) fun F hP hG hN hR => ?_
  rw [Tryz.ntmps40] at hN
  have hA := And.intro hN (And.intro hP (And.intro hG (And.intro hR.1 (And.intro hR.2.1 hR.2.2.1))))
  have hE := @Tryz.results40
  refine WS [0, 2] [2] ?_
  apply aw_seq
  refine WS [2, 3] [2] ?_
  apply aw_block
  refine WS [2, 3, 4] [2] ?_
  refine WI (fun hb => ?_) (fun hb => ?_)
  · skip
    refine WS [2] [2] ?_
    apply aw_ret
    apply q_ret_block
    apply q_ret_seq
    simp only [QRet, QRetM, QRetX, retsX_nil, retsX_cons, objsAre, resA, mapO_nil, mapO_cons, vD_dat, vD_nils, vD_rp, vD_osl, vD_ptr, vD_agg, vD_fn, vD_isl, vL_dat, vL_app, viewL, avA, datsOf, fillA, seval, ↓List.forall_mem_cons, Op.operands, hP, hG, tiA, hE]
    all_goals try (first | done | rfl | trivial)
    all_goals (simp [ofM, *])
  · skip
    refine WS [2, 3, 7] [2] ?_
    refine WI (fun hb => ?_) (fun hb => ?_)
    · skip
      refine WS [2] [2] ?_
      apply aw_ret
      apply q_ret_block
      apply q_ret_seq
      simp only [QRet, QRetM, QRetX, retsX_nil, retsX_cons, objsAre, resA, mapO_nil, mapO_cons, vD_dat, vD_nils, vD_rp, vD_osl, vD_ptr, vD_agg, vD_fn, vD_isl, vL_dat, vL_app, viewL, avA, datsOf, fillA, seval, ↓List.forall_mem_cons, Op.operands, hP, hG, tiA, hE]
      all_goals try (first | done | rfl | trivial)
      all_goals (simp [ofM, *])
    · skip
      apply aw_seq
      refine WS [2, 3, 10] [2] ?_
      refine WI (fun hb => ?_) (fun hb => ?_)
      · skip
        apply aw_skip
        apply q_seq
        refine aw_ift (by first | exact rfl | (simp only [evA_tmp, of_env, envL_cons, envL_nil]; simp [*])) ?_
        refine WS [2] [2] ?_
        apply aw_ret
        apply q_ret_block
        apply q_ret_seq
        simp only [QRet, QRetM, QRetX, retsX_nil, retsX_cons, objsAre, resA, mapO_nil, mapO_cons, vD_dat, vD_nils, vD_rp, vD_osl, vD_ptr, vD_agg, vD_fn, vD_isl, vL_dat, vL_app, viewL, avA, datsOf, fillA, seval, ↓List.forall_mem_cons, Op.operands, hP, hG, tiA, hE]
        all_goals try (first | done | rfl | trivial)
        all_goals (simp [ofM, *])
      · skip
        refine WQ [2, 3, 10] [2] ?_
        apply q_seq
        refine WI (fun hb => ?_) (fun hb => ?_)
        · skip
          refine WS [2] [2] ?_
          apply aw_ret
          apply q_ret_block
          apply q_ret_seq
          simp only [QRet, QRetM, QRetX, retsX_nil, retsX_cons, objsAre, resA, mapO_nil, mapO_cons, vD_dat, vD_nils, vD_rp, vD_osl, vD_ptr, vD_agg, vD_fn, vD_isl, vL_dat, vL_app, viewL, avA, datsOf, fillA, seval, ↓List.forall_mem_cons, Op.operands, hP, hG, tiA, hE]
          all_goals try (first | done | rfl | trivial)
          all_goals (simp [ofM, *])
        · skip
          apply aw_seq
          refine WS [2, 3, 14] [2] ?_
          refine WI (fun hb => ?_) (fun hb => ?_)
          · skip
            apply aw_skip
            apply q_seq
            refine aw_ift (by first | exact rfl | (simp only [evA_tmp, of_env, envL_cons, envL_nil]; simp [*])) ?_
            refine WS [2] [2] ?_
            apply aw_ret
            apply q_ret_block
            apply q_ret_seq
            simp only [QRet, QRetM, QRetX, retsX_nil, retsX_cons, objsAre, resA, mapO_nil, mapO_cons, vD_dat, vD_nils, vD_rp, vD_osl, vD_ptr, vD_agg, vD_fn, vD_isl, vL_dat, vL_app, viewL, avA, datsOf, fillA, seval, ↓List.forall_mem_cons, Op.operands, hP, hG, tiA, hE]
            all_goals try (first | done | rfl | trivial)
            all_goals (simp [ofM, *])
          · skip
            refine WQ [2, 14] [2] ?_
            apply q_seq
            refine WI (fun hb => ?_) (fun hb => ?_)
            · skip
              refine WS [2] [2] ?_
              apply aw_ret
              apply q_ret_block
              apply q_ret_seq
              simp only [QRet, QRetM, QRetX, retsX_nil, retsX_cons, objsAre, resA, mapO_nil, mapO_cons, vD_dat, vD_nils, vD_rp, vD_osl, vD_ptr, vD_agg, vD_fn, vD_isl, vL_dat, vL_app, viewL, avA, datsOf, fillA, seval, ↓List.forall_mem_cons, Op.operands, hP, hG, tiA, hE]
              all_goals try (first | done | rfl | trivial)
              all_goals (simp [ofM, *])
            · skip
              apply aw_skip
              apply q_block
              apply q_seq
              refine WS [2] [2] ?_
              apply aw_ret
              simp only [QRet, QRetM, QRetX, retsX_nil, retsX_cons, objsAre, resA, mapO_nil, mapO_cons, vD_dat, vD_nils, vD_rp, vD_osl, vD_ptr, vD_agg, vD_fn, vD_isl, vL_dat, vL_app, viewL, avA, datsOf, fillA, seval, ↓List.forall_mem_cons, Op.operands, hP, hG, tiA, hE]
              all_goals try (first | done | rfl | trivial)
              all_goals (simp [ofM, *])

theorem rpossible_ok (G) (n : NameM) : Gives Tryz.prog G 73 [nameD n] [bD (possibleM n)] := by
  refine gives_intro [] [] [] Tryz.func73 rfl (by rfl) (by simp [Tryz.ntmps73]) fun F hP hG hN hR => ?_
  rw [Tryz.ntmps73] at hN
  have hA := And.intro hN (And.intro hP (And.intro hG (And.intro hR.1 (And.intro hR.2.1 hR.2.2.1))))
  have hE := @Tryz.results73
  refine WS [1] [1] ?_
  refine WS [2] [] ?_
  apply aw_ret
  simp only [QRet, QRetM, QRetX, retsX_nil, retsX_cons, objsAre, resA, mapO_nil, mapO_cons, vD_dat, vD_nils, vD_rp, vD_osl, vD_ptr, vD_agg, vD_fn, vD_isl, vL_dat, vL_app, viewL, avA, datsOf, fillA, seval, ↓List.forall_mem_cons, Op.operands, hP, hG, tiA, hE, possibleM]
  all_goals try (first | done | rfl | trivial)
  all_goals grind

theorem rless_ok (G) (a b : NameM) : Gives Tryz.prog G 75 [nameD a, nameD b] [bD (lessM a b)] := by
  refine gives_intro [] [] [] Tryz.func75 rfl (by rfl) (by simp [Tryz.ntmps75]) fun F hP hG hN hR => ?_
  rw [Tryz.ntmps75] at hN
  have hA := And.intro hN (And.intro hP (And.intro hG (And.intro hR.1 (And.intro hR.2.1 hR.2.2.1))))
  have hE := @Tryz.results75
  refine WS [2, 3] [2, 3] ?_
  refine WS [4] [] ?_
  apply aw_ret
  simp only [QRet, QRetM, QRetX, retsX_nil, retsX_cons, objsAre, resA, mapO_nil, mapO_cons, vD_dat, vD_nils, vD_rp, vD_osl, vD_ptr, vD_agg, vD_fn, vD_isl, vL_dat, vL_app, viewL, avA, datsOf, fillA, seval, ↓List.forall_mem_cons, Op.operands, hP, hG, tiA, hE, lessM]
  all_goals try (first | done | rfl | trivial)
  all_goals grind

theorem rname_ok (G) (e : EventM) : Gives Tryz.prog G 25 [eventD e] [nameD (evName e)] := by
  refine gives_intro [] [] [] Tryz.func25 rfl (by rfl) (by simp [Tryz.ntmps25]) fun F hP hG hN hR => ?_
  rw [Tryz.ntmps25] at hN
  have hA := And.intro hN (And.intro hP (And.intro hG (And.intro hR.1 (And.intro hR.2.1 hR.2.2.1))))
  have hE := @Tryz.results25
  refine WS [1, 2] [1, 2] ?_
  refine WS [2] [2] ?_
  apply aw_ret
  simp only [QRet, QRetM, QRetX, retsX_nil, retsX_cons, objsAre, resA, mapO_nil, mapO_cons, vD_dat, vD_nils, vD_rp, vD_osl, vD_ptr, vD_agg, vD_fn, vD_isl, vL_dat, vL_app, viewL, avA, datsOf, fillA, seval, ↓List.forall_mem_cons, Op.operands, hP, hG, tiA, hE, evName]
  all_goals try (first | done | rfl | trivial)

theorem before_ok (G) (a b : EventM) : Gives Tryz.prog G 46 [eventD a, eventD b] [bD (beforeM a b)] := by
  refine gives_intro [] [] [] Tryz.func46 rfl (by rfl) (by simp [Tryz.ntmps46]) fun F hP hG hN hR => ?_
  rw [Tryz.ntmps46] at hN
  have hA := And.intro hN (And.intro hP (And.intro hG (And.intro hR.1 (And.intro hR.2.1 hR.2.2.1))))
  have hE := @Tryz.results46
  refine WS [2, 3] [2, 3] ?_
  apply aw_seq
  refine WS [2, 3, 9] [2, 3] ?_
  refine WI (fun hb => ?_) (fun hb => ?_)
  · skip
    have hl : beforeM a b = decide (a.Tick < b.Tick) := by unfold beforeM; rw [if_pos hb]
    have hE := And.intro hE hl
    refine WS [4] [] ?_
    apply aw_ret
    apply q_ret_seq
    simp only [QRet, QRetM, QRetX, retsX_nil, retsX_cons, objsAre, resA, mapO_nil, mapO_cons, vD_dat, vD_nils, vD_rp, vD_osl, vD_ptr, vD_agg, vD_fn, vD_isl, vL_dat, vL_app, viewL, avA, datsOf, fillA, seval, ↓List.forall_mem_cons, Op.operands, hP, hG, tiA, hE]
    all_goals try (first | done | rfl | trivial)
  · skip
    have hl : beforeM a b = lessM (evName a) (evName b) := by unfold beforeM; rw [if_neg (by omega)]
    have hE := And.intro hE hl
    apply aw_skip
    apply q_seq
    apply aw_rgds [4] [] [0, 1, 2, 3, 4, 5] []
    · rw [hP]; kernel_rfl
    · exact hR
    · kernel_rfl
    · (repeat (apply PickL.cons; exact rfl)); exact PickL.nil _
    · simp (maxSteps := 2000000) (disch := omega) only [avR2, avA, datsOf, fillA, seval, ↓List.forall_mem_cons, Op.operands, hA, tiA, hE]
      (repeat' refine And.intro ?_ ?_) <;> try exact SD
      refine CallC.use (gvF hP hG (name_ok G a)) rfl ?_
      try simp (maxSteps := 2000000) (disch := omega) only [avR2, avA, datsOf, fillA, seval, ↓List.forall_mem_cons, Op.operands, hA, tiA, hE]
      (repeat' refine And.intro ?_ ?_) <;> try exact SD
      refine CallC.use (gvF hP hG (name_ok G b)) rfl ?_
      try simp (maxSteps := 2000000) (disch := omega) only [avR2, avA, datsOf, fillA, seval, ↓List.forall_mem_cons, Op.operands, hA, tiA, hE]
      (repeat' refine And.intro ?_ ?_) <;> try exact SD
      refine CallC.use (gvF hP hG (less_ok G (evName a) (evName b))) rfl ?_
      try simp (maxSteps := 2000000) (disch := omega) only [avR2, avA, datsOf, fillA, seval, ↓List.forall_mem_cons, Op.operands, hA, tiA, hE]
      exact SC
    apply aw_ret
    simp only [QRet, QRetM, QRetX, retsX_nil, retsX_cons, objsAre, resA, mapO_nil, mapO_cons, vD_dat, vD_nils, vD_rp, vD_osl, vD_ptr, vD_agg, vD_fn, vD_isl, vL_dat, vL_app, viewL, avA, datsOf, fillA, seval, ↓List.forall_mem_cons, Op.operands, hP, hG, tiA, hE]
    all_goals try (first | done | rfl | trivial)

theorem word_ok (G) (n : Int) (hn : I64 n) : Gives Tryz.prog G 27 [iD n] [sD (wordM n)] := by
  have hr := aroundM_range (n := n) (m := 8) (by omega)
  have hw : ([.str ⟨#[97, 110, 110, 97]⟩, .str ⟨#[114, 111, 109, 101]⟩, .str ⟨#[107, 105, 110, 103]⟩, .str ⟨#[107, 105, 110, 103, 32, 97, 110, 110, 97]⟩, .str ⟨#[111, 100, 101]⟩, .str ⟨#[108, 121, 114, 101, 32, 111, 102, 32, 114, 111, 109, 101]⟩, .str ⟨#[120, 32, 49, 50]⟩, .str ⟨#[116, 104, 101, 32, 101, 110, 100, 46]⟩] : List Dat) = wordsL.map Dat.str := rfl
  have hwl : wordsL.length = 8 := rfl
  skip
  refine gives_intro [] [] [] Tryz.func27 rfl (by rfl) (by simp [Tryz.ntmps27]) fun F hP hG hN hR => ?_
  rw [Tryz.ntmps27] at hN
  have hA := And.intro hN (And.intro hP (And.intro hG (And.intro hR.1 (And.intro hR.2.1 hR.2.2.1))))
  have hE := And.intro @Tryz.results27 (And.intro (And.intro hw hwl) (@wordM.eq_1))
  refine WS [0] [] ?_
  refine WS [0, 3] [4] ?_
  have hc := gvF hP hG (around_ok G n 8 hn (by omega) (by unfold I64; omega))
  refine WSc [2] [] ?_
  apply aw_ret
  simp only [QRet, QRetM, QRetX, retsX_nil, retsX_cons, objsAre, resA, mapO_nil, mapO_cons, vD_dat, vD_nils, vD_rp, vD_osl, vD_ptr, vD_agg, vD_fn, vD_isl, vL_dat, vL_app, viewL, avA, datsOf, fillA, seval, ↓List.forall_mem_cons, Op.operands, hP, hG, tiA, hE]
  all_goals try (first | done | rfl | trivial)

end Go.Proofs.YtabjaaonfaejmaaGreatDoor

namespace Go.Proofs.YtabjaaonfaejmaaGreatDoor
open Go.Av

abbrev zOp : OpM := ⟨0, ⟨0, 0, 0⟩, ⟨0, 0, 0⟩, ⟨0, 0, 0⟩, 0, 0, 0, ⟨#[]⟩, [], [], []⟩
abbrev zTerm : TermM := ⟨⟨#[]⟩, 0, 0, ⟨#[]⟩, []⟩
abbrev zID : IdM := ⟨0, 0, 0⟩

def limM (e : EventM) : Bool := decide (16 < e.Refs.length) || decide (16 < e.Posts.length) || decide (8 < e.Term.Broader.length) || ((ofM e.Kind).op && decide (65536 < (opB e.Op).length))
def bad1 (e : EventM) : Bool := !possibleM (evName e) || !withinM e.Tick 1048576 || !withinM e.Kind 6
def bad2 (e : EventM) : Bool := (!(ofM e.Kind).op && !sameOpM e.Op zOp) || (!(ofM e.Kind).term && !sameTermM e.Term zTerm)
def bad3 (e : EventM) : Bool := (!(ofM e.Kind).id && !sameID e.ID zID) || (!(ofM e.Kind).posts && decide (0 < e.Posts.length)) || (!(ofM e.Kind).n && decide (e.N ≠ 0))
def badRef (e : EventM) (i : Nat) : Bool := !possibleM (e.Refs.getD i default) || sameName (e.Refs.getD i default) (evName e) || (decide (0 < i) && !lessM (e.Refs.getD (i - 1) default) (e.Refs.getD i default))
def bad5 (e : EventM) : Bool := (ofM e.Kind).term && (!okWordM e.Term.Name || (!sameStr e.Term.See ⟨#[]⟩ && !okWordM e.Term.See) || !withinM e.Term.Kind 2 || !withinM e.Term.Lang 3 || !okWordsM e.Term.Broader)
def badPost (e : EventM) (i : Nat) : Bool := !sameID (e.Posts.getD i default).ID e.ID || decide ((e.Posts.getD i default).Path.length = 0) || decide (4 < (e.Posts.getD i default).Path.length) || !okWordsM (e.Posts.getD i default).Path
/-- What Valid returns. -/
def validM (e : EventM) : Int :=
  if limM e = true then 4
  else if bad1 e = true ∨ bad2 e = true ∨ bad3 e = true ∨ withinM e.N 1048576 = false then 1
  else if ∃ i, i < e.Refs.length ∧ badRef e i = true then 1
  else if bad5 e = true then 1
  else if ∃ i, i < e.Posts.length ∧ badPost e i = true then 1
  else 0

/-- An event whose parts fit into memory, and are not great. -/
structure OkEv (e : EventM) : Prop where
  by_ : I64 e.By
  seq : I64 e.Seq
  tick : I64 e.Tick
  kind : I64 e.Kind
  n : I64 e.N
  id : idOK e.ID
  tk : I64 e.Term.Kind
  tl : I64 e.Term.Lang
  refs : ∀ r ∈ e.Refs, I64 r.By ∧ I64 r.Seq
  nrefs : e.Refs.length ≤ 100000
  op : OkOp e.Op
  name : e.Term.Name.size ≤ 900000
  see : e.Term.See.size ≤ 900000
  broader : ∀ s ∈ e.Term.Broader, s.size ≤ 900000
  nbroader : e.Term.Broader.length ≤ 100000
  posts : ∀ p ∈ e.Posts, idOK p.ID ∧ p.Path.length ≤ 3000 ∧ ∀ s ∈ p.Path, s.size ≤ 900000
  nposts : e.Posts.length ≤ 1000

theorem of_op (k : Int) : (ofM k).op = decide (k = 0) := by unfold ofM; grind
theorem of_term (k : Int) : (ofM k).term = decide (k = 2) := by unfold ofM; grind
theorem of_id (k : Int) : (ofM k).id = (decide (k = 3) || decide (k = 4) || decide (k = 5) || decide (k = 6)) := by unfold ofM; grind
theorem of_posts (k : Int) : (ofM k).posts = (decide (k = 3) || decide (k = 4)) := by unfold ofM; grind
theorem of_n (k : Int) : (ofM k).n = (decide (k = 5) || decide (k = 6)) := by unfold ofM; grind

theorem valid_lim {e : EventM} (h : limM e = true) : validM e = 4 := by unfold validM; rw [if_pos h]
theorem valid_123 {e : EventM} (h0 : limM e = false) (h : bad1 e = true ∨ bad2 e = true ∨ bad3 e = true ∨ withinM e.N 1048576 = false) : validM e = 1 := by
  unfold validM; rw [if_neg (by simp [h0]), if_pos h]
theorem valid_ref {e : EventM} (h0 : limM e = false) (h : bad1 e = false ∧ bad2 e = false ∧ bad3 e = false ∧ withinM e.N 1048576 = true) {i : Nat} (hi : i < e.Refs.length) (hb : badRef e i = true) : validM e = 1 := by
  unfold validM; rw [if_neg (by simp [h0]), if_neg (by simp [h]), if_pos ⟨i, hi, hb⟩]
theorem valid_5 {e : EventM} (h0 : limM e = false) (h : bad1 e = false ∧ bad2 e = false ∧ bad3 e = false ∧ withinM e.N 1048576 = true) (hr : ∀ i, i < e.Refs.length → badRef e i = false) (h5 : bad5 e = true) : validM e = 1 := by
  unfold validM; rw [if_neg (by simp [h0]), if_neg (by simp [h]), if_neg (by rintro ⟨i, h1, h2⟩; rw [hr i h1] at h2; cases h2), if_pos h5]
theorem valid_post {e : EventM} (h0 : limM e = false) (h : bad1 e = false ∧ bad2 e = false ∧ bad3 e = false ∧ withinM e.N 1048576 = true) (hr : ∀ i, i < e.Refs.length → badRef e i = false) (h5 : bad5 e = false) {i : Nat} (hi : i < e.Posts.length) (hb : badPost e i = true) : validM e = 1 := by
  unfold validM; rw [if_neg (by simp [h0]), if_neg (by simp [h]), if_neg (by rintro ⟨i, h1, h2⟩; rw [hr i h1] at h2; cases h2), if_neg (by simp [h5]), if_pos ⟨i, hi, hb⟩]
theorem valid_all {e : EventM} (h0 : limM e = false) (h : bad1 e = false ∧ bad2 e = false ∧ bad3 e = false ∧ withinM e.N 1048576 = true) (hr : ∀ i, i < e.Refs.length → badRef e i = false) (h5 : bad5 e = false) (hp : ∀ i, i < e.Posts.length → badPost e i = false) : validM e = 0 := by
  unfold validM; rw [if_neg (by simp [h0]), if_neg (by simp [h]), if_neg (by rintro ⟨i, h1, h2⟩; rw [hr i h1] at h2; cases h2), if_neg (by simp [h5]), if_neg (by rintro ⟨i, h1, h2⟩; rw [hp i h1] at h2; cases h2)]
theorem szOp_of {o : OpM} (h : OkOp o) : SzOp o := ⟨by have := h.ntexts; omega, by have := h.npairs; omega, by have := h.nrefs; omega⟩

def postB (p : PostM) : List Int := intM (if p.Main = true then 1 else 0) ++ strsM p.Path
/-- The bytes of an event, behind its head. -/
def tailB (e : EventM) : List Int :=
  if e.Kind = 0 then opB e.Op
  else if e.Kind = 2 then intsM [e.Term.Kind, e.Term.Lang] ++ strsM (e.Term.Name :: e.Term.See :: e.Term.Broader)
  else if e.Kind = 3 ∨ e.Kind = 4 then intsM (idI e.ID) ++ intM e.Posts.length ++ e.Posts.flatMap postB
  else if e.Kind = 5 ∨ e.Kind = 6 then intsM (idI e.ID ++ [e.N])
  else []
def headB (e : EventM) : List Int := intsM [e.By, e.Seq, e.Tick, e.Kind] ++ intsM (e.Refs.flatMap nameI)
def evB (e : EventM) : List Int := headB e ++ tailB e
theorem intsM_le {l : List Int} (h : ∀ x ∈ l, I64 x) (hl : l.length ≤ 1000000) : (intsM l).length ≤ 9 + 9 * l.length := intsN_le h (Nat.le_refl _) hl
theorem strsM_le {l : List ByteArray} (h : ∀ s ∈ l, s.size ≤ 1000000) (hl : l.length ≤ 1000000) : (strsM l).length ≤ 9 + 1000009 * l.length := strsN_le h (Nat.le_refl _) hl
theorem postB_le {p : PostM} (h : p.Path.length ≤ 3000 ∧ ∀ s ∈ p.Path, s.size ≤ 900000) : (postB p).length ≤ 3000030000 := by
  have h1 := strsM_le (l := p.Path) (fun s hs => by have := h.2 s hs; omega) (by omega)
  have h2 : (intM (if p.Main = true then 1 else 0)).length ≤ 9 := intM_le (by split <;> (unfold I64; omega))
  have h3 : 1000009 * p.Path.length ≤ 1000009 * 3000 := Nat.mul_le_mul_left _ h.1
  simp only [postB, List.length_append]
  omega
theorem postsB_le {e : EventM} (h : OkEv e) (i : Nat) (hi : i ≤ e.Posts.length) : (flatN postB e.Posts i).length ≤ 3000030000 * i := by
  have h1 := flat_le postB 3000030000 (preM e.Posts i) fun p hp => postB_le (h.posts p (mem_preM hp)).2
  rw [preM_len _ _ hi] at h1
  exact h1
theorem nameI_ok {e : EventM} (h : OkEv e) : ∀ x ∈ e.Refs.flatMap nameI, I64 x := fun x hx => by
  obtain ⟨p, hp, hx⟩ := List.mem_flatMap.1 hx
  have := h.refs p hp
  simp only [nameI, List.mem_cons, List.not_mem_nil, or_false] at hx
  rcases hx with rfl | rfl
  · exact this.1
  · exact this.2

end Go.Proofs.YtabjaaonfaejmaaGreatDoor

namespace Go.Proofs.YtabjaaonfaejmaaGreatDoor
open Go.Av

theorem tr6 {α : Type} {f : α → Dat} (A B C D E F : List α) (n : Nat) (h : A.length + B.length + C.length + D.length + E.length + F.length ≤ n) : List.take n (List.map AV.dat (List.map f A) ++ List.map AV.dat (List.map f B) ++ List.map AV.dat (List.map f C) ++ List.map AV.dat (List.map f D) ++ List.map AV.dat (List.map f E) ++ List.map AV.dat (List.map f F)) = List.map AV.dat (List.map f A) ++ List.map AV.dat (List.map f B) ++ List.map AV.dat (List.map f C) ++ List.map AV.dat (List.map f D) ++ List.map AV.dat (List.map f E) ++ List.map AV.dat (List.map f F) := List.take_of_length_le (by simpa [Nat.add_assoc] using h)
theorem tr7 {α : Type} {f : α → Dat} (A B C D E F G : List α) (n : Nat) (h : A.length + B.length + C.length + D.length + E.length + F.length + G.length ≤ n) : List.take n (List.map AV.dat (List.map f A) ++ List.map AV.dat (List.map f B) ++ List.map AV.dat (List.map f C) ++ List.map AV.dat (List.map f D) ++ List.map AV.dat (List.map f E) ++ List.map AV.dat (List.map f F) ++ List.map AV.dat (List.map f G)) = List.map AV.dat (List.map f A) ++ List.map AV.dat (List.map f B) ++ List.map AV.dat (List.map f C) ++ List.map AV.dat (List.map f D) ++ List.map AV.dat (List.map f E) ++ List.map AV.dat (List.map f F) ++ List.map AV.dat (List.map f G) := List.take_of_length_le (by simpa [Nat.add_assoc] using h)


set_option maxRecDepth 100000 in
set_option maxHeartbeats 2000000 in
theorem wev_ok (G) (e : EventM) (h : OkEv e) : Gives Tryz.prog G 12 [eventD e] [u8sD (evB e)] := by
  have hnr := h.nrefs
  have hnp := h.nposts
  have hnb := h.nbroader
  have hpl := flatN_len (f := nameI) (k := 2) (fun _ => rfl) e.Refs
  have hrl := hpl e.Refs.length (Nat.le_refl _)
  rw [flatN_all] at hrl
  have hhd : ∀ x ∈ [e.By, e.Seq, e.Tick, e.Kind], I64 x := by
    simp only [List.forall_mem_cons]
    exact ⟨h.by_, h.seq, h.tick, h.kind, by simp⟩
  have hid : ∀ x ∈ idI e.ID, I64 x := by
    simp only [idI, List.forall_mem_cons]
    exact ⟨h.id.1, h.id.2.1, h.id.2.2, by simp⟩
  have hb1 := intsM_le hhd (by simp)
  have hb2 := intsM_le (nameI_ok h) (by omega)
  simp only [List.length_cons, List.length_nil] at hb1
  rw [hrl] at hb2
  have hoa := h.op.all
  have o1 := of_op e.Kind
  have o2 := of_term e.Kind
  have o4 := of_posts e.Kind
  have o5 := of_n e.Kind
  skip
  skip
  refine gives_intro [] [21, 50, 130] [] Tryz.func12 rfl (by rfl) (by simp [Tryz.ntmps12]) fun F hP hG hN hR => ?_
  rw [Tryz.ntmps12] at hN
  have hA := And.intro hN (And.intro hP (And.intro hG (And.intro hR.1 (And.intro hR.2.1 hR.2.2.1))))
  have hE := And.intro @Tryz.results12 (And.intro @flatN_zero (And.intro @Nat.min_self (And.intro @tr2 (And.intro @tr3 (@tr4)))))
  refine WS [1] [1, 21] ?_
  apply aw_regs [1, 3] [1, 40, 61, 74, 89, 96, 102, 115, 120, 132, 21]
  · simp (maxSteps := 2000000) (disch := omega) only [avR2, avA, datsOf, fillA, seval, ↓List.forall_mem_cons, Op.operands, hA, tiA, hE]
    (repeat' refine And.intro ?_ ?_) <;> try exact SD
    refine CallC.useX (fun _ => 21) [18] (by simp [LitD, hR.2.1]) (gvFX hP hG (wints_okX G [e.By, e.Seq, e.Tick, e.Kind] hhd (by simp))) rfl (lentX_of hN (by first | trivial | ((try simp only [haveL, AObj.ren, AV.ren, renL, ren_row, List.map_cons, List.map_nil, objL_cons, objL_nil]) <;> ((repeat' apply And.intro) <;> first | trivial | rfl))) (by rfl)) ?_
    try simp (maxSteps := 2000000) (disch := omega) only [avR2, avA, datsOf, fillA, seval, ↓List.forall_mem_cons, Op.operands, hA, tiA, hE, avX]
    exact SC
  refine WS [1, 3, 4] [1, 34, 35, 40, 61, 74, 89, 96, 102, 115, 120, 132, 21] ?_
  apply aw_seq
  refine WS [1, 3, 4, 23, 24, 25] [1, 34, 35, 40, 61, 74, 89, 96, 102, 115, 120, 132, 21] ?_
  apply aw_block
  refine aw_new0 35 1 (by omega) ?_
  refine aw_nilE 4 35 1 rfl rfl ?_
  refine WL (ι := {i : Nat // i ≤ e.Refs.length}) [1, 3, 23, 24] [1, 34, 40, 61, 74, 89, 96, 102, 115, 120, 132, 21] (fun ⟨i, hi⟩ => [(4, .osl 35 1 0 (flatN nameI e.Refs i).length), (25, .dat (iD i))]) (fun ⟨i, hi⟩ => [(35, ⟨1, ((flatN nameI e.Refs i).map iD).map .dat⟩)]) (fun ⟨i, hi⟩ => e.Refs.length - i) (⟨0, by omega⟩) ?_
  rintro ⟨i, hi⟩
  dsimp only [List.cons_append, List.nil_append]
  have hl := hpl i hi
  refine WS [1, 3, 4, 23, 24, 25, 26] [1, 34, 35, 40, 61, 74, 89, 96, 102, 115, 120, 132, 21] ?_
  apply aw_seq
  refine WI (fun hb => ?_) (fun hb => ?_)
  · skip
    have hl2 := hpl (i + 1) (by omega)
    have hsc := flatN_succ nameI e.Refs i (by omega)
    have hE := And.intro hE (And.intro hsc (nameI.eq_1 (e.Refs.getD i default)))
    apply aw_skip
    apply q_seq
    apply aw_seq
    apply aw_block
    refine WS [1, 3, 4, 6, 23, 24, 25] [1, 6, 34, 35, 40, 61, 74, 89, 96, 102, 115, 120, 132, 21] ?_
    refine WQ [1, 3, 4, 23, 24, 25] [1, 34, 35, 40, 61, 74, 89, 96, 102, 115, 120, 132, 21] ?_
    apply q_block
    apply q_seq
    refine WQ [1, 3, 4, 23, 24, 25] [1, 34, 35, 40, 61, 74, 89, 96, 102, 115, 120, 132, 21] ?_
    refine WN (⟨i + 1, by omega⟩)
  · skip
    apply aw_exit
    apply q_exit_seq
    have hend : i = e.Refs.length := by omega
    subst hend
    have hf := flatN_all nameI e.Refs
    have hE := And.intro hE hf
    apply q_exit_loop
    apply q_exit
    apply q_seq
    refine aw_frz 35 hR.2.2.2 rfl (datE_map _) ?_
    have hc := gvF hP hG (wints_ok G (e.Refs.flatMap nameI) (nameI_ok h) (by omega))
    refine WSc [1, 3] [1, 40, 61, 74, 89, 96, 102, 115, 120, 132, 21] ?_
    refine WS [1, 3, 7] [1, 40, 50, 61, 74, 89, 96, 102, 115, 120, 132, 21] ?_
    apply aw_seq
    have hc := gvF hP hG (of_ok G e.Kind)
    refine WSc [1, 3, 7, 8] [1, 8, 40, 50, 61, 74, 89, 96, 102, 115, 120, 132, 21] ?_
    apply aw_block
    refine WS [1, 3, 7, 8, 54] [1, 8, 40, 50, 61, 74, 89, 96, 102, 115, 120, 132, 21] ?_
    refine WI (fun hb => ?_) (fun hb => ?_)
    · skip
      have hk : e.Kind = 0 := by grind
      have hv : evB e = intsM [e.By, e.Seq, e.Tick, e.Kind] ++ intsM (e.Refs.flatMap nameI) ++ opB e.Op := by
        unfold evB headB tailB
        rw [if_pos hk]
      have hE := And.intro hE hv
      have hc := gvF hP hG (wop_ok G e.Op h.op)
      refine WQc [3] [40, 61, 74, 89, 96, 102, 115, 120, 132, 21] ?_
      apply q_block
      apply q_seq
      refine WS [2] [40, 61, 74, 89, 96, 102, 115, 120, 132, 21] ?_
      apply aw_ret
      simp only [QRet, QRetM, QRetX, retsX_nil, retsX_cons, objsAre, resA, mapO_nil, mapO_cons, vD_dat, vD_nils, vD_rp, vD_osl, vD_ptr, vD_agg, vD_fn, vD_isl, vL_dat, vL_app, viewL, avA, datsOf, fillA, seval, ↓List.forall_mem_cons, Op.operands, hP, hG, tiA, hE]
      all_goals try (first | done | rfl | trivial)
      all_goals (simp only [← List.map_append, datE_map] <;> rfl)
    · skip
      refine WS [1, 3, 7, 8, 62] [1, 8, 40, 50, 61, 74, 89, 96, 102, 115, 120, 132, 21] ?_
      refine WI (fun hb => ?_) (fun hb => ?_)
      · skip
        have hk : e.Kind = 2 := by grind
        have hk0 : e.Kind ≠ 0 := by omega
        have hv : evB e = intsM [e.By, e.Seq, e.Tick, e.Kind] ++ intsM (e.Refs.flatMap nameI) ++ intsM [e.Term.Kind, e.Term.Lang] ++ strsM (e.Term.Name :: e.Term.See :: e.Term.Broader) := by
          unfold evB headB tailB
          rw [if_neg hk0, if_pos hk]
          simp only [List.append_assoc]
        have hE := And.intro hE hv
        have htk : ∀ x ∈ [e.Term.Kind, e.Term.Lang], I64 x := by
          simp only [List.forall_mem_cons]
          exact ⟨h.tk, h.tl, by simp⟩
        have hts : ∀ s ∈ e.Term.Name :: e.Term.See :: e.Term.Broader, s.size ≤ 1000000 := by
          simp only [List.forall_mem_cons]
          exact ⟨by have := h.name; omega, by have := h.see; omega, fun s hs => by have := h.broader s hs; omega⟩
        have hb3 := intsM_le htk (by simp)
        have hb4 := strsM_le hts (by simp; omega)
        simp only [List.length_cons, List.length_nil] at hb3 hb4
        have hfl : ([[e.Term.Name, e.Term.See], e.Term.Broader] : List (List ByteArray)).flatten = e.Term.Name :: e.Term.See :: e.Term.Broader := by simp
        have hE := And.intro hE hfl
        have hc := gvF hP hG (wints_ok G [e.Term.Kind, e.Term.Lang] htk (by simp))
        refine WSc [1, 3] [1, 40, 61, 74, 89, 96, 102, 115, 120, 132, 21] ?_
        apply aw_reg [3] [40, 61, 74, 89, 96, 102, 115, 120, 132, 21]
        · simp (maxSteps := 2000000) (disch := omega) only [avR2, avA, datsOf, fillA, seval, ↓List.forall_mem_cons, Op.operands, hA, tiA, hE]
          (repeat' refine And.intro ?_ ?_) <;> try exact SD
          refine CallC.use (gvF hP hG (concatS_ok G [[e.Term.Name, e.Term.See], e.Term.Broader] (by simp) (by simp; omega) (by simp; omega))) rfl ?_
          try simp (maxSteps := 2000000) (disch := omega) only [avR2, avA, datsOf, fillA, seval, ↓List.forall_mem_cons, Op.operands, hA, tiA, hE]
          (repeat' refine And.intro ?_ ?_) <;> try exact SD
          refine CallC.use (gvF hP hG (wstrs_ok G (e.Term.Name :: e.Term.See :: e.Term.Broader) hts (by simp; omega))) rfl ?_
          try simp (maxSteps := 2000000) (disch := omega) only [avR2, avA, datsOf, fillA, seval, ↓List.forall_mem_cons, Op.operands, hA, tiA, hE]
          exact SC
        apply q_block
        apply q_seq
        refine WS [2] [40, 61, 74, 89, 96, 102, 115, 120, 132, 21] ?_
        apply aw_ret
        simp only [QRet, QRetM, QRetX, retsX_nil, retsX_cons, objsAre, resA, mapO_nil, mapO_cons, vD_dat, vD_nils, vD_rp, vD_osl, vD_ptr, vD_agg, vD_fn, vD_isl, vL_dat, vL_app, viewL, avA, datsOf, fillA, seval, ↓List.forall_mem_cons, Op.operands, hP, hG, tiA, hE]
        all_goals try (first | done | rfl | trivial)
        all_goals (simp only [← List.map_append, datE_map] <;> rfl)
      · skip
        refine WS [1, 3, 7, 8, 90] [1, 8, 40, 50, 61, 74, 89, 96, 102, 115, 120, 132, 21] ?_
        refine WI (fun hb => ?_) (fun hb => ?_)
        · skip
          have hk : e.Kind = 3 ∨ e.Kind = 4 := by grind
          have hk0 : e.Kind ≠ 0 := by omega
          have hk2 : e.Kind ≠ 2 := by omega
          have hv : evB e = intsM [e.By, e.Seq, e.Tick, e.Kind] ++ intsM (e.Refs.flatMap nameI) ++ intsM (idI e.ID) ++ intM e.Posts.length ++ e.Posts.flatMap postB := by
            unfold evB headB tailB
            rw [if_neg hk0, if_neg hk2, if_pos hk]
            simp only [List.append_assoc]
          have hE := And.intro hE hv
          have hb3 : (intsM (idI e.ID)).length ≤ 36 := intsM_le hid (by simp [idI])
          have hb4 : (intM (e.Posts.length : Int)).length ≤ 9 := intM_le (by unfold I64; omega)
          refine aw_litD 7 rfl ?_
          have hc := gvF hP hG (wints_ok G (idI e.ID) hid (by simp [idI]))
          refine WSc [1, 3] [1, 40, 61, 74, 89, 96, 102, 115, 120, 132, 21] ?_
          have hc := gvF hP hG (wint_ok G e.Posts.length (by unfold I64; omega))
          refine WSc [1, 3] [1, 40, 61, 74, 89, 96, 102, 115, 120, 132, 21] ?_
          refine WS [3, 104, 105, 106] [40, 61, 74, 89, 96, 102, 115, 120, 132, 21] ?_
          apply aw_block
          refine aw_swap 102 120 (by omega) (by omega) ?_
          have hE := And.intro hE (And.intro (tr5 (α := Int) (f := u8D)) (And.intro (tr6 (α := Int) (f := u8D)) (tr7 (α := Int) (f := u8D))))
          refine WL (ι := {i : Nat // i ≤ e.Posts.length}) [104, 105] [40, 61, 74, 89, 96, 102, 115, 132, 21] (fun ⟨i, hi⟩ => [(3, .osl 120 1 0 ((intsM [e.By, e.Seq, e.Tick, e.Kind]).length + (intsM (e.Refs.flatMap nameI)).length + (intsM (idI e.ID)).length + (intM e.Posts.length).length + (flatN postB e.Posts i).length)), (106, .dat (iD i))]) (fun ⟨i, hi⟩ => [(120, ⟨1, ((intsM [e.By, e.Seq, e.Tick, e.Kind] ++ intsM (e.Refs.flatMap nameI) ++ intsM (idI e.ID) ++ intM e.Posts.length ++ flatN postB e.Posts i).map u8D).map .dat⟩)]) (fun ⟨i, hi⟩ => e.Posts.length - i) (⟨0, by omega⟩) ?_
          rintro ⟨i, hi⟩
          dsimp only [List.cons_append, List.nil_append]
          have hpi := postsB_le h i hi
          refine WS [3, 104, 105, 106, 107] [40, 61, 74, 89, 96, 102, 115, 120, 132, 21] ?_
          apply aw_seq
          refine WI (fun hb => ?_) (fun hb => ?_)
          · skip
            have hsc := flatN_succ postB e.Posts i (by omega)
            have hpp := getD_all h.posts (i := i) (by omega)
            have hsl : (flatN postB e.Posts (i + 1)).length = (flatN postB e.Posts i).length + (postB (e.Posts.getD i default)).length := by rw [hsc, List.length_append]
            have hps := strsM_le (l := (e.Posts.getD i default).Path) (fun s hs => by have := hpp.2.2 s hs; omega) (by omega)
            apply aw_skip
            apply q_seq
            apply aw_seq
            apply aw_block
            refine WS [3, 10, 104, 105, 106] [10, 40, 61, 74, 89, 96, 102, 115, 120, 132, 21] ?_
            refine WS [3, 10, 11, 104, 105, 106] [10, 40, 61, 74, 89, 96, 102, 115, 120, 132, 21] ?_
            apply aw_seq
            refine WS [3, 10, 11, 104, 105, 106, 111] [10, 40, 61, 74, 89, 96, 102, 115, 120, 132, 21] ?_
            refine WI (fun hb => ?_) (fun hb => ?_)
            · skip
              have hpb : postB (e.Posts.getD i default) = intM 1 ++ strsM (e.Posts.getD i default).Path := by unfold postB; rw [if_pos hb]
              have him : (intM 1).length ≤ 9 := intM_le (by unfold I64; omega)
              have hsx : ∀ X : List Int, X ++ flatN postB e.Posts (i + 1) = X ++ flatN postB e.Posts i ++ intM 1 ++ strsM (e.Posts.getD i default).Path := fun X => by rw [hsc, hpb]; simp only [List.append_assoc]
              rw [hpb, List.length_append, ← Nat.add_assoc] at hsl
              have hsy : ∀ Y : Nat, Y + (flatN postB e.Posts (i + 1)).length = Y + (flatN postB e.Posts i).length + (intM 1).length + (strsM (e.Posts.getD i default).Path).length := fun Y => by omega
              have hE := And.intro hE (And.intro hsx hsy)
              refine WQ [3, 10, 11, 104, 105, 106] [10, 40, 61, 74, 89, 96, 102, 115, 120, 132, 21] ?_
              apply q_seq
              have hc := gvF hP hG (wint_ok G 1 (by unfold I64; omega))
              refine WSc [3, 10, 104, 105, 106] [10, 40, 61, 74, 89, 96, 102, 115, 120, 132, 21] ?_
              have hc := gvF hP hG (wstrs_ok G (e.Posts.getD i default).Path (fun s hs => by have := hpp.2.2 s hs; omega) (by omega))
              refine WQc [3, 104, 105, 106] [40, 61, 74, 89, 96, 102, 115, 120, 132, 21] ?_
              apply q_block
              apply q_seq
              refine WQ [3, 104, 105, 106] [40, 61, 74, 89, 96, 102, 115, 120, 132, 21] ?_
              refine WN (⟨i + 1, by omega⟩)
            · skip
              have hpb : postB (e.Posts.getD i default) = intM 0 ++ strsM (e.Posts.getD i default).Path := by unfold postB; rw [if_neg (by rw [hb]; exact Bool.false_ne_true)]
              have him : (intM 0).length ≤ 9 := intM_le (by unfold I64; omega)
              have hsx : ∀ X : List Int, X ++ flatN postB e.Posts (i + 1) = X ++ flatN postB e.Posts i ++ intM 0 ++ strsM (e.Posts.getD i default).Path := fun X => by rw [hsc, hpb]; simp only [List.append_assoc]
              rw [hpb, List.length_append, ← Nat.add_assoc] at hsl
              have hsy : ∀ Y : Nat, Y + (flatN postB e.Posts (i + 1)).length = Y + (flatN postB e.Posts i).length + (intM 0).length + (strsM (e.Posts.getD i default).Path).length := fun Y => by omega
              have hE := And.intro hE (And.intro hsx hsy)
              apply aw_skip
              apply q_seq
              have hc := gvF hP hG (wint_ok G 0 (by unfold I64; omega))
              refine WSc [3, 10, 104, 105, 106] [10, 40, 61, 74, 89, 96, 102, 115, 120, 132, 21] ?_
              have hc := gvF hP hG (wstrs_ok G (e.Posts.getD i default).Path (fun s hs => by have := hpp.2.2 s hs; omega) (by omega))
              refine WQc [3, 104, 105, 106] [40, 61, 74, 89, 96, 102, 115, 120, 132, 21] ?_
              apply q_block
              apply q_seq
              refine WQ [3, 104, 105, 106] [40, 61, 74, 89, 96, 102, 115, 120, 132, 21] ?_
              refine WN (⟨i + 1, by omega⟩)
          · skip
            apply aw_exit
            apply q_exit_seq
            have hend : i = e.Posts.length := by omega
            subst hend
            have hf2 := flatN_all postB e.Posts
            have hE := And.intro hE hf2
            apply q_exit_loop
            apply q_exit
            apply q_block
            apply q_seq
            refine WS [2] [40, 61, 74, 89, 96, 102, 115, 120, 132, 21] ?_
            apply aw_ret
            simp only [QRet, QRetM, QRetX, retsX_nil, retsX_cons, objsAre, resA, mapO_nil, mapO_cons, vD_dat, vD_nils, vD_rp, vD_osl, vD_ptr, vD_agg, vD_fn, vD_isl, vL_dat, vL_app, viewL, avA, datsOf, fillA, seval, ↓List.forall_mem_cons, Op.operands, hP, hG, tiA, hE]
            all_goals try (first | done | rfl | trivial)
            all_goals (simp only [← List.map_append, datE_map] <;> rfl)
        · skip
          refine WS [1, 3, 7, 122] [1, 40, 50, 61, 74, 89, 96, 102, 115, 120, 132, 21] ?_
          refine WI (fun hb => ?_) (fun hb => ?_)
          · skip
            have hk : e.Kind = 5 ∨ e.Kind = 6 := by grind
            have hk0 : e.Kind ≠ 0 := by omega
            have hk2 : e.Kind ≠ 2 := by omega
            have hk3 : ¬ (e.Kind = 3 ∨ e.Kind = 4) := by omega
            have hv : evB e = intsM [e.By, e.Seq, e.Tick, e.Kind] ++ intsM (e.Refs.flatMap nameI) ++ intsM (idI e.ID ++ [e.N]) := by
              unfold evB headB tailB
              rw [if_neg hk0, if_neg hk2, if_neg hk3, if_pos hk]
            have hE := And.intro hE hv
            have hin : ∀ x ∈ idI e.ID ++ [e.N], I64 x := by
              simp only [idI, List.cons_append, List.nil_append, List.forall_mem_cons]
              exact ⟨h.id.1, h.id.2.1, h.id.2.2, h.n, by simp⟩
            have hb3 : (intsM (idI e.ID ++ [e.N])).length ≤ 45 := intsM_le hin (by simp [idI])
            have hc := gvF hP hG (wints_ok G (idI e.ID ++ [e.N]) hin (by simp [idI]))
            refine WQc [3] [40, 61, 74, 89, 96, 102, 115, 120, 132, 21] ?_
            apply q_block
            apply q_seq
            refine WS [2] [40, 61, 74, 89, 96, 102, 115, 120, 132, 21] ?_
            apply aw_ret
            simp only [QRet, QRetM, QRetX, retsX_nil, retsX_cons, objsAre, resA, mapO_nil, mapO_cons, vD_dat, vD_nils, vD_rp, vD_osl, vD_ptr, vD_agg, vD_fn, vD_isl, vL_dat, vL_app, viewL, avA, datsOf, fillA, seval, ↓List.forall_mem_cons, Op.operands, hP, hG, tiA, hE]
            all_goals try (first | done | rfl | trivial)
            all_goals (simp only [← List.map_append, datE_map] <;> rfl)
          · skip
            have hv : evB e = intsM [e.By, e.Seq, e.Tick, e.Kind] ++ intsM (e.Refs.flatMap nameI) := by
              unfold evB headB tailB
              rw [if_neg (by grind), if_neg (by grind), if_neg (by grind), if_neg (by grind)]
              simp only [List.append_nil]
            have hE := And.intro hE hv
            apply aw_skip
            apply q_block
            apply q_seq
            refine WS [2] [40, 61, 74, 89, 96, 102, 115, 120, 132, 21] ?_
            apply aw_ret
            simp only [QRet, QRetM, QRetX, retsX_nil, retsX_cons, objsAre, resA, mapO_nil, mapO_cons, vD_dat, vD_nils, vD_rp, vD_osl, vD_ptr, vD_agg, vD_fn, vD_isl, vL_dat, vL_app, viewL, avA, datsOf, fillA, seval, ↓List.forall_mem_cons, Op.operands, hP, hG, tiA, hE]
            all_goals try (first | done | rfl | trivial)
            all_goals (simp only [← List.map_append, datE_map] <;> rfl)

end Go.Proofs.YtabjaaonfaejmaaGreatDoor

namespace Go.Proofs.YtabjaaonfaejmaaGreatDoor
open Go.Av


set_option maxRecDepth 100000 in
set_option maxHeartbeats 2000000 in
theorem renc_ok (G) (e : EventM) (h : OkEv e) : Gives Tryz.prog G 14 [eventD e] [u8sD (evB e)] := by
  have hnr := h.nrefs
  have hnp := h.nposts
  have hnb := h.nbroader
  have hpl := flatN_len (f := nameI) (k := 2) (fun _ => rfl) e.Refs
  have hrl := hpl e.Refs.length (Nat.le_refl _)
  rw [flatN_all] at hrl
  have hhd : ∀ x ∈ [e.By, e.Seq, e.Tick, e.Kind], I64 x := by
    simp only [List.forall_mem_cons]
    exact ⟨h.by_, h.seq, h.tick, h.kind, by simp⟩
  have hid : ∀ x ∈ idI e.ID, I64 x := by
    simp only [idI, List.forall_mem_cons]
    exact ⟨h.id.1, h.id.2.1, h.id.2.2, by simp⟩
  have hb1 := intsM_le hhd (by simp)
  have hb2 := intsM_le (nameI_ok h) (by omega)
  simp only [List.length_cons, List.length_nil] at hb1
  rw [hrl] at hb2
  have hoa := h.op.all
  skip
  skip
  refine gives_intro [39] [17, 72, 76] [] Tryz.func14 rfl (by rfl) (by simp [Tryz.ntmps14]) fun F hP hG hN hR => ?_
  rw [Tryz.ntmps14] at hN
  have hA := And.intro hN (And.intro hP (And.intro hG (And.intro hR.1 (And.intro hR.2.1 hR.2.2.1))))
  have hE := And.intro @Tryz.results14 (And.intro @flatN_zero (And.intro @Nat.min_self (And.intro @tr2 (And.intro @tr3 (@tr4)))))
  refine WS [1] [1, 17, 4] ?_
  apply aw_regs [1, 3] [1, 43, 52, 64, 78, 94, 100, 117, 126, 144, 17, 4]
  · simp (maxSteps := 2000000) (disch := omega) only [avR2, avA, datsOf, fillA, seval, ↓List.forall_mem_cons, Op.operands, hA, tiA, hE]
    (repeat' refine And.intro ?_ ?_) <;> try exact SD
    refine CallC.useX (fun _ => 17) [20] (by simp [LitD, hR.2.1]) (gvFX hP hG (rints_okX G [e.By, e.Seq, e.Tick, e.Kind] hhd (by simp))) rfl (lentX_of hN (by first | trivial | ((try simp only [haveL, AObj.ren, AV.ren, renL, ren_row, List.map_cons, List.map_nil, objL_cons, objL_nil]) <;> ((repeat' apply And.intro) <;> first | trivial | rfl))) (by rfl)) ?_
    try simp (maxSteps := 2000000) (disch := omega) only [avR2, avA, datsOf, fillA, seval, ↓List.forall_mem_cons, Op.operands, hA, tiA, hE, avX]
    exact SC
  refine WS [1, 3, 4] [1, 38, 39, 43, 52, 64, 78, 94, 100, 117, 126, 144, 17, 4] ?_
  apply aw_seq
  refine WS [1, 3, 4, 5] [1, 38, 39, 43, 52, 64, 78, 94, 100, 117, 126, 144, 17, 4] ?_
  apply aw_block
  refine aw_new0 4 1 (by omega) ?_
  refine aw_nilE 4 4 1 rfl rfl ?_
  refine WL (ι := {i : Nat // i ≤ e.Refs.length}) [1, 3] [1, 38, 39, 43, 52, 64, 78, 94, 100, 117, 126, 144, 17] (fun ⟨i, hi⟩ => [(4, .osl 4 1 0 (flatN nameI e.Refs i).length), (5, .dat (iD i))]) (fun ⟨i, hi⟩ => [(4, ⟨1, ((flatN nameI e.Refs i).map iD).map .dat⟩)]) (fun ⟨i, hi⟩ => e.Refs.length - i) (⟨0, by omega⟩) ?_
  rintro ⟨i, hi⟩
  dsimp only [List.cons_append, List.nil_append]
  have hl := hpl i hi
  apply aw_seq
  refine WS [1, 3, 4, 5, 22] [1, 38, 39, 43, 52, 64, 78, 94, 100, 117, 126, 144, 17, 4] ?_
  refine WI (fun hb => ?_) (fun hb => ?_)
  · skip
    have hl2 := hpl (i + 1) (by omega)
    have hsc := flatN_succ nameI e.Refs i (by omega)
    have hE := And.intro hE (And.intro hsc (nameI.eq_1 (e.Refs.getD i default)))
    apply aw_skip
    apply q_seq
    apply aw_seq
    apply aw_block
    refine WDQ [1, 3, 4, 5] [1, 38, 39, 43, 52, 64, 78, 94, 100, 117, 126, 144, 17, 4] [0, 1, 2, 3, 4, 5, 6, 7, 8, 9, 10, 11, 12, 13, 14, 15] [39] ?_
    apply q_block
    apply q_seq
    refine aw_swap 39 4 (by omega) (by omega) ?_
    refine WQ [1, 3, 4, 5] [1, 38, 39, 43, 52, 64, 78, 94, 100, 117, 126, 144, 17, 4] ?_
    refine WN (⟨i + 1, by omega⟩)
  · skip
    apply aw_exit
    apply q_exit_seq
    have hend : i = e.Refs.length := by omega
    subst hend
    have hf := flatN_all nameI e.Refs
    have hE := And.intro hE hf
    apply q_exit_loop
    apply q_exit
    apply q_seq
    refine aw_frz 4 hR.2.2.2 rfl (datE_map _) ?_
    have hc := gvF hP hG (rints_ok G (e.Refs.flatMap nameI) (nameI_ok h) (by omega))
    refine WSc [1, 3] [1, 43, 52, 64, 78, 94, 100, 117, 126, 144, 17, 4] ?_
    apply aw_seq
    refine WS [1, 3, 45] [1, 43, 52, 64, 78, 94, 100, 117, 126, 144, 17, 4] ?_
    apply aw_block
    refine WS [1, 3, 45, 46] [1, 43, 52, 64, 78, 94, 100, 117, 126, 144, 17, 4] ?_
    refine WI (fun hb => ?_) (fun hb => ?_)
    · skip
      have hk : e.Kind = 0 := by omega
      have hv : evB e = intsM [e.By, e.Seq, e.Tick, e.Kind] ++ intsM (e.Refs.flatMap nameI) ++ opB e.Op := by
        unfold evB headB tailB
        rw [if_pos hk]
      have hE := And.intro hE hv
      have hc := gvF hP hG (rop_enc_ok G e.Op h.op)
      refine WQc [3] [43, 52, 64, 78, 94, 100, 117, 126, 144, 17, 4] ?_
      apply q_block
      apply q_seq
      refine WS [2] [43, 52, 64, 78, 94, 100, 117, 126, 144, 17, 4] ?_
      apply aw_ret
      simp only [QRet, QRetM, QRetX, retsX_nil, retsX_cons, objsAre, resA, mapO_nil, mapO_cons, vD_dat, vD_nils, vD_rp, vD_osl, vD_ptr, vD_agg, vD_fn, vD_isl, vL_dat, vL_app, viewL, avA, datsOf, fillA, seval, ↓List.forall_mem_cons, Op.operands, hP, hG, tiA, hE]
      all_goals try (first | done | rfl | trivial)
      all_goals (simp only [← List.map_append, datE_map] <;> rfl)
    · skip
      refine WS [1, 3, 45, 53] [1, 43, 52, 64, 78, 94, 100, 117, 126, 144, 17, 4] ?_
      refine WI (fun hb => ?_) (fun hb => ?_)
      · skip
        have hk : e.Kind = 2 := by omega
        have hk0 : e.Kind ≠ 0 := by omega
        have hv : evB e = intsM [e.By, e.Seq, e.Tick, e.Kind] ++ intsM (e.Refs.flatMap nameI) ++ intsM [e.Term.Kind, e.Term.Lang] ++ strsM (e.Term.Name :: e.Term.See :: e.Term.Broader) := by
          unfold evB headB tailB
          rw [if_neg hk0, if_pos hk]
          simp only [List.append_assoc]
        have hE := And.intro hE hv
        have htk : ∀ x ∈ [e.Term.Kind, e.Term.Lang], I64 x := by
          simp only [List.forall_mem_cons]
          exact ⟨h.tk, h.tl, by simp⟩
        have hts : ∀ s ∈ e.Term.Name :: e.Term.See :: e.Term.Broader, s.size ≤ 1000000 := by
          simp only [List.forall_mem_cons]
          exact ⟨by have := h.name; omega, by have := h.see; omega, fun s hs => by have := h.broader s hs; omega⟩
        have hb3 := intsM_le htk (by simp)
        have hb4 := strsM_le hts (by simp; omega)
        simp only [List.length_cons, List.length_nil] at hb3 hb4
        have hc := gvF hP hG (rints_ok G [e.Term.Kind, e.Term.Lang] htk (by simp))
        refine WSc [1, 3] [1, 43, 52, 64, 78, 94, 100, 117, 126, 144, 17, 4] ?_
        have hc := gvF hP hG (rstrs_ok G (e.Term.Name :: e.Term.See :: e.Term.Broader) hts (by simp; omega))
        refine WQc [3] [43, 52, 64, 78, 94, 100, 117, 126, 144, 17, 4] ?_
        apply q_block
        apply q_seq
        refine WS [2] [43, 52, 64, 78, 94, 100, 117, 126, 144, 17, 4] ?_
        apply aw_ret
        simp only [QRet, QRetM, QRetX, retsX_nil, retsX_cons, objsAre, resA, mapO_nil, mapO_cons, vD_dat, vD_nils, vD_rp, vD_osl, vD_ptr, vD_agg, vD_fn, vD_isl, vL_dat, vL_app, viewL, avA, datsOf, fillA, seval, ↓List.forall_mem_cons, Op.operands, hP, hG, tiA, hE]
        all_goals try (first | done | rfl | trivial)
        all_goals (simp only [← List.map_append, datE_map] <;> rfl)
      · skip
        apply aw_seq
        refine WS [1, 3, 45, 79] [1, 43, 52, 64, 78, 94, 100, 117, 126, 144, 17, 4] ?_
        refine WI (fun hb => ?_) (fun hb => ?_)
        · skip
          have hk : e.Kind = 3 ∨ e.Kind = 4 := by omega
          have hk0 : e.Kind ≠ 0 := by omega
          have hk2 : e.Kind ≠ 2 := by omega
          have hv : evB e = intsM [e.By, e.Seq, e.Tick, e.Kind] ++ intsM (e.Refs.flatMap nameI) ++ intsM (idI e.ID) ++ intM e.Posts.length ++ e.Posts.flatMap postB := by
            unfold evB headB tailB
            rw [if_neg hk0, if_neg hk2, if_pos hk]
            simp only [List.append_assoc]
          have hE := And.intro hE hv
          have hb3 : (intsM (idI e.ID)).length ≤ 36 := intsM_le hid (by simp [idI])
          have hb4 : (intM (e.Posts.length : Int)).length ≤ 9 := intM_le (by unfold I64; omega)
          apply aw_skip
          apply q_seq
          refine aw_ift (by first | exact rfl | (simp only [evA_tmp, of_env, envL_cons, envL_nil]; simp [*])) ?_
          have hc := gvF hP hG (rints_ok G (idI e.ID) hid (by simp [idI]))
          refine WSc [1, 3] [1, 43, 52, 64, 78, 94, 100, 117, 126, 144, 17, 4] ?_
          have hc := gvF hP hG (rint_ok G e.Posts.length (by unfold I64; omega))
          refine WSc [1, 3] [1, 43, 52, 64, 78, 94, 100, 117, 126, 144, 17, 4] ?_
          refine WS [1, 3, 6] [1, 43, 52, 64, 78, 94, 100, 117, 126, 144, 17, 4] ?_
          apply aw_block
          refine aw_swap 100 126 (by omega) (by omega) ?_
          have hE := And.intro hE (And.intro (tr5 (α := Int) (f := u8D)) (And.intro (tr6 (α := Int) (f := u8D)) (tr7 (α := Int) (f := u8D))))
          refine WL (ι := {i : Nat // i ≤ e.Posts.length}) [1] [1, 43, 52, 64, 78, 94, 100, 117, 144, 17, 4] (fun ⟨i, hi⟩ => [(3, .osl 126 1 0 ((intsM [e.By, e.Seq, e.Tick, e.Kind]).length + (intsM (e.Refs.flatMap nameI)).length + (intsM (idI e.ID)).length + (intM e.Posts.length).length + (flatN postB e.Posts i).length)), (6, .dat (iD i))]) (fun ⟨i, hi⟩ => [(126, ⟨1, ((intsM [e.By, e.Seq, e.Tick, e.Kind] ++ intsM (e.Refs.flatMap nameI) ++ intsM (idI e.ID) ++ intM e.Posts.length ++ flatN postB e.Posts i).map u8D).map .dat⟩)]) (fun ⟨i, hi⟩ => e.Posts.length - i) (⟨0, by omega⟩) ?_
          rintro ⟨i, hi⟩
          dsimp only [List.cons_append, List.nil_append]
          have hpi := postsB_le h i hi
          apply aw_seq
          refine WS [1, 3, 6, 105] [1, 43, 52, 64, 78, 94, 100, 117, 126, 144, 17, 4] ?_
          refine WI (fun hb => ?_) (fun hb => ?_)
          · skip
            have hsc := flatN_succ postB e.Posts i (by omega)
            have hpp := getD_all h.posts (i := i) (by omega)
            have hsl : (flatN postB e.Posts (i + 1)).length = (flatN postB e.Posts i).length + (postB (e.Posts.getD i default)).length := by rw [hsc, List.length_append]
            have hps := strsM_le (l := (e.Posts.getD i default).Path) (fun s hs => by have := hpp.2.2 s hs; omega) (by omega)
            apply aw_skip
            apply q_seq
            apply aw_seq
            apply aw_block
            refine WS [1, 3, 6, 7] [1, 43, 52, 64, 78, 94, 100, 117, 126, 144, 17, 4] ?_
            apply aw_seq
            refine WS [1, 3, 6, 7, 113] [1, 43, 52, 64, 78, 94, 100, 117, 126, 144, 17, 4] ?_
            refine WI (fun hb => ?_) (fun hb => ?_)
            · skip
              have hpb : postB (e.Posts.getD i default) = intM 1 ++ strsM (e.Posts.getD i default).Path := by unfold postB; rw [if_pos hb]
              have him : (intM 1).length ≤ 9 := intM_le (by unfold I64; omega)
              have hsx : ∀ X : List Int, X ++ flatN postB e.Posts (i + 1) = X ++ flatN postB e.Posts i ++ intM 1 ++ strsM (e.Posts.getD i default).Path := fun X => by rw [hsc, hpb]; simp only [List.append_assoc]
              rw [hpb, List.length_append, ← Nat.add_assoc] at hsl
              have hsy : ∀ Y : Nat, Y + (flatN postB e.Posts (i + 1)).length = Y + (flatN postB e.Posts i).length + (intM 1).length + (strsM (e.Posts.getD i default).Path).length := fun Y => by omega
              have hE := And.intro hE (And.intro hsx hsy)
              refine WQ [1, 3, 6, 7] [1, 43, 52, 64, 78, 94, 100, 117, 126, 144, 17, 4] ?_
              apply q_seq
              have hc := gvF hP hG (rint_ok G 1 (by unfold I64; omega))
              refine WSc [1, 3, 6] [1, 43, 52, 64, 78, 94, 100, 117, 126, 144, 17, 4] ?_
              have hc := gvF hP hG (rstrs_ok G (e.Posts.getD i default).Path (fun s hs => by have := hpp.2.2 s hs; omega) (by omega))
              refine WQc [1, 3, 6] [1, 43, 52, 64, 78, 94, 100, 117, 126, 144, 17, 4] ?_
              apply q_block
              apply q_seq
              refine WQ [1, 3, 6] [1, 43, 52, 64, 78, 94, 100, 117, 126, 144, 17, 4] ?_
              refine WN (⟨i + 1, by omega⟩)
            · skip
              have hpb : postB (e.Posts.getD i default) = intM 0 ++ strsM (e.Posts.getD i default).Path := by unfold postB; rw [if_neg (by rw [hb]; exact Bool.false_ne_true)]
              have him : (intM 0).length ≤ 9 := intM_le (by unfold I64; omega)
              have hsx : ∀ X : List Int, X ++ flatN postB e.Posts (i + 1) = X ++ flatN postB e.Posts i ++ intM 0 ++ strsM (e.Posts.getD i default).Path := fun X => by rw [hsc, hpb]; simp only [List.append_assoc]
              rw [hpb, List.length_append, ← Nat.add_assoc] at hsl
              have hsy : ∀ Y : Nat, Y + (flatN postB e.Posts (i + 1)).length = Y + (flatN postB e.Posts i).length + (intM 0).length + (strsM (e.Posts.getD i default).Path).length := fun Y => by omega
              have hE := And.intro hE (And.intro hsx hsy)
              apply aw_skip
              apply q_seq
              have hc := gvF hP hG (rint_ok G 0 (by unfold I64; omega))
              refine WSc [1, 3, 6] [1, 43, 52, 64, 78, 94, 100, 117, 126, 144, 17, 4] ?_
              have hc := gvF hP hG (rstrs_ok G (e.Posts.getD i default).Path (fun s hs => by have := hpp.2.2 s hs; omega) (by omega))
              refine WQc [1, 3, 6] [1, 43, 52, 64, 78, 94, 100, 117, 126, 144, 17, 4] ?_
              apply q_block
              apply q_seq
              refine WQ [1, 3, 6] [1, 43, 52, 64, 78, 94, 100, 117, 126, 144, 17, 4] ?_
              refine WN (⟨i + 1, by omega⟩)
          · skip
            apply aw_exit
            apply q_exit_seq
            have hend : i = e.Posts.length := by omega
            subst hend
            have hf2 := flatN_all postB e.Posts
            have hE := And.intro hE hf2
            apply q_exit_loop
            apply q_exit
            apply q_block
            apply q_seq
            refine WS [2] [43, 52, 64, 78, 94, 100, 117, 126, 144, 17, 4] ?_
            apply aw_ret
            simp only [QRet, QRetM, QRetX, retsX_nil, retsX_cons, objsAre, resA, mapO_nil, mapO_cons, vD_dat, vD_nils, vD_rp, vD_osl, vD_ptr, vD_agg, vD_fn, vD_isl, vL_dat, vL_app, viewL, avA, datsOf, fillA, seval, ↓List.forall_mem_cons, Op.operands, hP, hG, tiA, hE]
            all_goals try (first | done | rfl | trivial)
            all_goals (simp only [← List.map_append, datE_map] <;> rfl)
        · skip
          by_cases h4 : e.Kind = 4
          · skip
            have hk : e.Kind = 3 ∨ e.Kind = 4 := by omega
            have hk0 : e.Kind ≠ 0 := by omega
            have hk2 : e.Kind ≠ 2 := by omega
            have hv : evB e = intsM [e.By, e.Seq, e.Tick, e.Kind] ++ intsM (e.Refs.flatMap nameI) ++ intsM (idI e.ID) ++ intM e.Posts.length ++ e.Posts.flatMap postB := by
              unfold evB headB tailB
              rw [if_neg hk0, if_neg hk2, if_pos hk]
              simp only [List.append_assoc]
            have hE := And.intro hE hv
            have hb3 : (intsM (idI e.ID)).length ≤ 36 := intsM_le hid (by simp [idI])
            have hb4 : (intM (e.Posts.length : Int)).length ≤ 9 := intM_le (by unfold I64; omega)
            refine WQ [1, 3, 45, 79] [1, 43, 52, 64, 78, 94, 100, 117, 126, 144, 17, 4] ?_
            apply q_seq
            refine aw_ift (by first | exact rfl | (simp only [evA_tmp, of_env, envL_cons, envL_nil]; simp [*])) ?_
            have hc := gvF hP hG (rints_ok G (idI e.ID) hid (by simp [idI]))
            refine WSc [1, 3] [1, 43, 52, 64, 78, 94, 100, 117, 126, 144, 17, 4] ?_
            have hc := gvF hP hG (rint_ok G e.Posts.length (by unfold I64; omega))
            refine WSc [1, 3] [1, 43, 52, 64, 78, 94, 100, 117, 126, 144, 17, 4] ?_
            refine WS [1, 3, 6] [1, 43, 52, 64, 78, 94, 100, 117, 126, 144, 17, 4] ?_
            apply aw_block
            refine aw_swap 100 126 (by omega) (by omega) ?_
            have hE := And.intro hE (And.intro (tr5 (α := Int) (f := u8D)) (And.intro (tr6 (α := Int) (f := u8D)) (tr7 (α := Int) (f := u8D))))
            refine WL (ι := {i : Nat // i ≤ e.Posts.length}) [1] [1, 43, 52, 64, 78, 94, 100, 117, 144, 17, 4] (fun ⟨i, hi⟩ => [(3, .osl 126 1 0 ((intsM [e.By, e.Seq, e.Tick, e.Kind]).length + (intsM (e.Refs.flatMap nameI)).length + (intsM (idI e.ID)).length + (intM e.Posts.length).length + (flatN postB e.Posts i).length)), (6, .dat (iD i))]) (fun ⟨i, hi⟩ => [(126, ⟨1, ((intsM [e.By, e.Seq, e.Tick, e.Kind] ++ intsM (e.Refs.flatMap nameI) ++ intsM (idI e.ID) ++ intM e.Posts.length ++ flatN postB e.Posts i).map u8D).map .dat⟩)]) (fun ⟨i, hi⟩ => e.Posts.length - i) (⟨0, by omega⟩) ?_
            rintro ⟨i, hi⟩
            dsimp only [List.cons_append, List.nil_append]
            have hpi := postsB_le h i hi
            apply aw_seq
            refine WS [1, 3, 6, 105] [1, 43, 52, 64, 78, 94, 100, 117, 126, 144, 17, 4] ?_
            refine WI (fun hb => ?_) (fun hb => ?_)
            · skip
              have hsc := flatN_succ postB e.Posts i (by omega)
              have hpp := getD_all h.posts (i := i) (by omega)
              have hsl : (flatN postB e.Posts (i + 1)).length = (flatN postB e.Posts i).length + (postB (e.Posts.getD i default)).length := by rw [hsc, List.length_append]
              have hps := strsM_le (l := (e.Posts.getD i default).Path) (fun s hs => by have := hpp.2.2 s hs; omega) (by omega)
              apply aw_skip
              apply q_seq
              apply aw_seq
              apply aw_block
              refine WS [1, 3, 6, 7] [1, 43, 52, 64, 78, 94, 100, 117, 126, 144, 17, 4] ?_
              apply aw_seq
              refine WS [1, 3, 6, 7, 113] [1, 43, 52, 64, 78, 94, 100, 117, 126, 144, 17, 4] ?_
              refine WI (fun hb => ?_) (fun hb => ?_)
              · skip
                have hpb : postB (e.Posts.getD i default) = intM 1 ++ strsM (e.Posts.getD i default).Path := by unfold postB; rw [if_pos hb]
                have him : (intM 1).length ≤ 9 := intM_le (by unfold I64; omega)
                have hsx : ∀ X : List Int, X ++ flatN postB e.Posts (i + 1) = X ++ flatN postB e.Posts i ++ intM 1 ++ strsM (e.Posts.getD i default).Path := fun X => by rw [hsc, hpb]; simp only [List.append_assoc]
                rw [hpb, List.length_append, ← Nat.add_assoc] at hsl
                have hsy : ∀ Y : Nat, Y + (flatN postB e.Posts (i + 1)).length = Y + (flatN postB e.Posts i).length + (intM 1).length + (strsM (e.Posts.getD i default).Path).length := fun Y => by omega
                have hE := And.intro hE (And.intro hsx hsy)
                refine WQ [1, 3, 6, 7] [1, 43, 52, 64, 78, 94, 100, 117, 126, 144, 17, 4] ?_
                apply q_seq
                have hc := gvF hP hG (rint_ok G 1 (by unfold I64; omega))
                refine WSc [1, 3, 6] [1, 43, 52, 64, 78, 94, 100, 117, 126, 144, 17, 4] ?_
                have hc := gvF hP hG (rstrs_ok G (e.Posts.getD i default).Path (fun s hs => by have := hpp.2.2 s hs; omega) (by omega))
                refine WQc [1, 3, 6] [1, 43, 52, 64, 78, 94, 100, 117, 126, 144, 17, 4] ?_
                apply q_block
                apply q_seq
                refine WQ [1, 3, 6] [1, 43, 52, 64, 78, 94, 100, 117, 126, 144, 17, 4] ?_
                refine WN (⟨i + 1, by omega⟩)
              · skip
                have hpb : postB (e.Posts.getD i default) = intM 0 ++ strsM (e.Posts.getD i default).Path := by unfold postB; rw [if_neg (by rw [hb]; exact Bool.false_ne_true)]
                have him : (intM 0).length ≤ 9 := intM_le (by unfold I64; omega)
                have hsx : ∀ X : List Int, X ++ flatN postB e.Posts (i + 1) = X ++ flatN postB e.Posts i ++ intM 0 ++ strsM (e.Posts.getD i default).Path := fun X => by rw [hsc, hpb]; simp only [List.append_assoc]
                rw [hpb, List.length_append, ← Nat.add_assoc] at hsl
                have hsy : ∀ Y : Nat, Y + (flatN postB e.Posts (i + 1)).length = Y + (flatN postB e.Posts i).length + (intM 0).length + (strsM (e.Posts.getD i default).Path).length := fun Y => by omega
                have hE := And.intro hE (And.intro hsx hsy)
                apply aw_skip
                apply q_seq
                have hc := gvF hP hG (rint_ok G 0 (by unfold I64; omega))
                refine WSc [1, 3, 6] [1, 43, 52, 64, 78, 94, 100, 117, 126, 144, 17, 4] ?_
                have hc := gvF hP hG (rstrs_ok G (e.Posts.getD i default).Path (fun s hs => by have := hpp.2.2 s hs; omega) (by omega))
                refine WQc [1, 3, 6] [1, 43, 52, 64, 78, 94, 100, 117, 126, 144, 17, 4] ?_
                apply q_block
                apply q_seq
                refine WQ [1, 3, 6] [1, 43, 52, 64, 78, 94, 100, 117, 126, 144, 17, 4] ?_
                refine WN (⟨i + 1, by omega⟩)
            · skip
              apply aw_exit
              apply q_exit_seq
              have hend : i = e.Posts.length := by omega
              subst hend
              have hf2 := flatN_all postB e.Posts
              have hE := And.intro hE hf2
              apply q_exit_loop
              apply q_exit
              apply q_block
              apply q_seq
              refine WS [2] [43, 52, 64, 78, 94, 100, 117, 126, 144, 17, 4] ?_
              apply aw_ret
              simp only [QRet, QRetM, QRetX, retsX_nil, retsX_cons, objsAre, resA, mapO_nil, mapO_cons, vD_dat, vD_nils, vD_rp, vD_osl, vD_ptr, vD_agg, vD_fn, vD_isl, vL_dat, vL_app, viewL, avA, datsOf, fillA, seval, ↓List.forall_mem_cons, Op.operands, hP, hG, tiA, hE]
              all_goals try (first | done | rfl | trivial)
              all_goals (simp only [← List.map_append, datE_map] <;> rfl)
          · skip
            refine WQ [1, 3, 45, 79] [1, 43, 52, 64, 78, 94, 100, 117, 126, 144, 17, 4] ?_
            apply q_seq
            refine aw_iff (by first | exact rfl | (simp only [evA_tmp, of_env, envL_cons, envL_nil]; simp [*])) ?_
            apply aw_seq
            refine WS [1, 3, 45, 127] [1, 43, 52, 64, 78, 94, 100, 117, 126, 144, 17, 4] ?_
            refine WI (fun hb => ?_) (fun hb => ?_)
            · skip
              have hk : e.Kind = 5 ∨ e.Kind = 6 := by omega
              have hk0 : e.Kind ≠ 0 := by omega
              have hk2 : e.Kind ≠ 2 := by omega
              have hk3 : ¬ (e.Kind = 3 ∨ e.Kind = 4) := by omega
              have hv : evB e = intsM [e.By, e.Seq, e.Tick, e.Kind] ++ intsM (e.Refs.flatMap nameI) ++ intsM (idI e.ID ++ [e.N]) := by
                unfold evB headB tailB
                rw [if_neg hk0, if_neg hk2, if_neg hk3, if_pos hk]
              have hE := And.intro hE hv
              have hin : ∀ x ∈ idI e.ID ++ [e.N], I64 x := by
                simp only [idI, List.cons_append, List.nil_append, List.forall_mem_cons]
                exact ⟨h.id.1, h.id.2.1, h.id.2.2, h.n, by simp⟩
              have hb3 : (intsM (idI e.ID ++ [e.N])).length ≤ 45 := intsM_le hin (by simp [idI])
              apply aw_skip
              apply q_seq
              refine aw_ift (by first | exact rfl | (simp only [evA_tmp, of_env, envL_cons, envL_nil]; simp [*])) ?_
              have hc := gvF hP hG (rints_ok G (idI e.ID ++ [e.N]) hin (by simp [idI]))
              refine WQc [3] [43, 52, 64, 78, 94, 100, 117, 126, 144, 17, 4] ?_
              apply q_block
              apply q_seq
              refine WS [2] [43, 52, 64, 78, 94, 100, 117, 126, 144, 17, 4] ?_
              apply aw_ret
              simp only [QRet, QRetM, QRetX, retsX_nil, retsX_cons, objsAre, resA, mapO_nil, mapO_cons, vD_dat, vD_nils, vD_rp, vD_osl, vD_ptr, vD_agg, vD_fn, vD_isl, vL_dat, vL_app, viewL, avA, datsOf, fillA, seval, ↓List.forall_mem_cons, Op.operands, hP, hG, tiA, hE]
              all_goals try (first | done | rfl | trivial)
              all_goals (simp only [← List.map_append, datE_map] <;> rfl)
            · skip
              by_cases h6 : e.Kind = 6
              · skip
                have hk : e.Kind = 5 ∨ e.Kind = 6 := by omega
                have hk0 : e.Kind ≠ 0 := by omega
                have hk2 : e.Kind ≠ 2 := by omega
                have hk3 : ¬ (e.Kind = 3 ∨ e.Kind = 4) := by omega
                have hv : evB e = intsM [e.By, e.Seq, e.Tick, e.Kind] ++ intsM (e.Refs.flatMap nameI) ++ intsM (idI e.ID ++ [e.N]) := by
                  unfold evB headB tailB
                  rw [if_neg hk0, if_neg hk2, if_neg hk3, if_pos hk]
                have hE := And.intro hE hv
                have hin : ∀ x ∈ idI e.ID ++ [e.N], I64 x := by
                  simp only [idI, List.cons_append, List.nil_append, List.forall_mem_cons]
                  exact ⟨h.id.1, h.id.2.1, h.id.2.2, h.n, by simp⟩
                have hb3 : (intsM (idI e.ID ++ [e.N])).length ≤ 45 := intsM_le hin (by simp [idI])
                refine WQ [1, 3, 127] [1, 43, 52, 64, 78, 94, 100, 117, 126, 144, 17, 4] ?_
                apply q_seq
                refine aw_ift (by first | exact rfl | (simp only [evA_tmp, of_env, envL_cons, envL_nil]; simp [*])) ?_
                have hc := gvF hP hG (rints_ok G (idI e.ID ++ [e.N]) hin (by simp [idI]))
                refine WQc [3] [43, 52, 64, 78, 94, 100, 117, 126, 144, 17, 4] ?_
                apply q_block
                apply q_seq
                refine WS [2] [43, 52, 64, 78, 94, 100, 117, 126, 144, 17, 4] ?_
                apply aw_ret
                simp only [QRet, QRetM, QRetX, retsX_nil, retsX_cons, objsAre, resA, mapO_nil, mapO_cons, vD_dat, vD_nils, vD_rp, vD_osl, vD_ptr, vD_agg, vD_fn, vD_isl, vL_dat, vL_app, viewL, avA, datsOf, fillA, seval, ↓List.forall_mem_cons, Op.operands, hP, hG, tiA, hE]
                all_goals try (first | done | rfl | trivial)
                all_goals (simp only [← List.map_append, datE_map] <;> rfl)
              · skip
                have hv : evB e = intsM [e.By, e.Seq, e.Tick, e.Kind] ++ intsM (e.Refs.flatMap nameI) := by
                  unfold evB headB tailB
                  rw [if_neg (by omega), if_neg (by omega), if_neg (by omega), if_neg (by omega)]
                  simp only [List.append_nil]
                have hE := And.intro hE hv
                refine WQ [1, 3, 127] [1, 43, 52, 64, 78, 94, 100, 117, 126, 144, 17, 4] ?_
                apply q_seq
                refine aw_iff (by first | exact rfl | (simp only [evA_tmp, of_env, envL_cons, envL_nil]; simp [*])) ?_
                apply aw_skip
                apply q_block
                apply q_seq
                refine WS [2] [43, 52, 64, 78, 94, 100, 117, 126, 144, 17, 4] ?_
                apply aw_ret
                simp only [QRet, QRetM, QRetX, retsX_nil, retsX_cons, objsAre, resA, mapO_nil, mapO_cons, vD_dat, vD_nils, vD_rp, vD_osl, vD_ptr, vD_agg, vD_fn, vD_isl, vL_dat, vL_app, viewL, avA, datsOf, fillA, seval, ↓List.forall_mem_cons, Op.operands, hP, hG, tiA, hE]
                all_goals try (first | done | rfl | trivial)
                all_goals (simp only [← List.map_append, datE_map] <;> rfl)

end Go.Proofs.YtabjaaonfaejmaaGreatDoor

namespace Go.Proofs.YtabjaaonfaejmaaGreatDoor
open Go.Av


set_option maxRecDepth 100000 in
set_option maxHeartbeats 2000000 in
theorem rneedless_ok (G) (e : EventM) (h : OkEv e) : Gives Tryz.prog G 74 [eventD e] [bD (!bad2 e && !bad3 e)] := by
  have hoz := szOp_of h.op
  have hnb := h.nbroader
  have hnp := h.nposts
  have o1 := of_op e.Kind
  have o2 := of_term e.Kind
  have o3 := of_id e.Kind
  have o4 := of_posts e.Kind
  have o5 := of_n e.Kind
  skip
  refine gives_intro [] [] [] Tryz.func74 rfl (by rfl) (by simp [Tryz.ntmps74]) fun F hP hG hN hR => ?_
  rw [Tryz.ntmps74] at hN
  have hA := And.intro hN (And.intro hP (And.intro hG (And.intro hR.1 (And.intro hR.2.1 hR.2.2.1))))
  have hE := And.intro @Tryz.results74 (And.intro @eqId (@str_beq))
  refine WS [1] [1] ?_
  refine WS [1, 3] [1] ?_
  apply aw_seq
  apply aw_regs [1, 3, 43] [1]
  · simp (maxSteps := 2000000) (disch := omega) only [avR2, avA, datsOf, fillA, seval, ↓List.forall_mem_cons, Op.operands, hA, tiA, hE]
    (repeat' refine And.intro ?_ ?_) <;> try exact SD
    refine CallGC.use rfl (fun hg => ⟨by first | trivial | (simp only [gdAll, AV.gd, avA, seval]; (repeat' apply And.intro) <;> first | trivial | rfl | exact hg) | simp_all [gdAll], gvF hP hG (rop_ok G e.Op zOp hoz)⟩) ?_
    try simp (maxSteps := 2000000) (disch := omega) only [avR2, avA, datsOf, fillA, seval, ↓List.forall_mem_cons, Op.operands, hA, tiA, hE]
    (repeat' refine And.intro ?_ ?_) <;> try exact SD
    refine CallGC.use rfl (fun hg => ⟨by first | trivial | (simp only [gdAll, AV.gd, avA, seval]; (repeat' apply And.intro) <;> first | trivial | rfl | exact hg) | simp_all [gdAll], gvF hP hG (rterm_ok G e.Term zTerm (by omega))⟩) ?_
    try simp (maxSteps := 2000000) (disch := omega) only [avR2, avA, datsOf, fillA, seval, ↓List.forall_mem_cons, Op.operands, hA, tiA, hE]
    exact SC
  refine WI (fun hb => ?_) (fun hb => ?_)
  · skip
    have hv : (!bad2 e && !bad3 e) = false := by unfold bad2; grind
    have hE := And.intro hE hv
    refine WS [2] [] ?_
    apply aw_ret
    apply q_ret_seq
    simp only [QRet, QRetM, QRetX, retsX_nil, retsX_cons, objsAre, resA, mapO_nil, mapO_cons, vD_dat, vD_nils, vD_rp, vD_osl, vD_ptr, vD_agg, vD_fn, vD_isl, vL_dat, vL_app, viewL, avA, datsOf, fillA, seval, ↓List.forall_mem_cons, Op.operands, hP, hG, tiA, hE]
    all_goals try (first | done | rfl | trivial)
    all_goals grind
  · skip
    have h2 : bad2 e = false := by unfold bad2; grind
    apply aw_skip
    apply q_seq
    apply aw_seq
    refine WS [1, 67] [1] ?_
    refine WI (fun hb => ?_) (fun hb => ?_)
    · skip
      have hv : (!bad2 e && !bad3 e) = false := by unfold bad3 sameID; grind
      have hE := And.intro hE hv
      refine WS [2] [] ?_
      apply aw_ret
      apply q_ret_seq
      simp only [QRet, QRetM, QRetX, retsX_nil, retsX_cons, objsAre, resA, mapO_nil, mapO_cons, vD_dat, vD_nils, vD_rp, vD_osl, vD_ptr, vD_agg, vD_fn, vD_isl, vL_dat, vL_app, viewL, avA, datsOf, fillA, seval, ↓List.forall_mem_cons, Op.operands, hP, hG, tiA, hE]
      all_goals try (first | done | rfl | trivial)
      all_goals grind
    · skip
      have hv : (!bad2 e && !bad3 e) = ((ofM e.Kind).n || e.N == 0) := by unfold bad3 sameID; grind
      have hE := And.intro hE (And.intro hv o5)
      apply aw_skip
      apply q_seq
      refine WS [2] [] ?_
      apply aw_ret
      simp only [QRet, QRetM, QRetX, retsX_nil, retsX_cons, objsAre, resA, mapO_nil, mapO_cons, vD_dat, vD_nils, vD_rp, vD_osl, vD_ptr, vD_agg, vD_fn, vD_isl, vL_dat, vL_app, viewL, avA, datsOf, fillA, seval, ↓List.forall_mem_cons, Op.operands, hP, hG, tiA, hE]
      all_goals try (first | done | rfl | trivial)
      all_goals grind

set_option maxRecDepth 100000 in
set_option maxHeartbeats 2000000 in
theorem rvalid_ok (G) (e : EventM) (h : OkEv e) : Gives Tryz.prog G 31 [eventD e] [iD (validM e)] := by
  have hnr := h.nrefs
  have hnp := h.nposts
  have hnb := h.nbroader
  have hol := h.op.all
  have o1 := of_op e.Kind
  have o2 := of_term e.Kind
  skip
  refine gives_intro [] [] [] Tryz.func31 rfl (by rfl) (by simp [Tryz.ntmps31]) fun F hP hG hN hR => ?_
  rw [Tryz.ntmps31] at hN
  have hA := And.intro hN (And.intro hP (And.intro hG (And.intro hR.1 (And.intro hR.2.1 hR.2.2.1))))
  have hE := And.intro @Tryz.results31 (And.intro @eqName (And.intro @eqId (@str_beq)))
  refine WS [1] [1] ?_
  apply aw_seq
  apply aw_regs [1, 35] [1]
  · simp (maxSteps := 2000000) (disch := omega) only [avR2, avA, datsOf, fillA, seval, ↓List.forall_mem_cons, Op.operands, hA, tiA, hE]
    (repeat' refine And.intro ?_ ?_) <;> try exact SD
    refine CallGC.use rfl (fun hg => ⟨by first | trivial | (simp only [gdAll, AV.gd, avA, seval]; (repeat' apply And.intro) <;> first | trivial | rfl | exact hg) | simp_all [gdAll], gvF hP hG (rop_enc_ok G e.Op h.op)⟩) ?_
    try simp (maxSteps := 2000000) (disch := omega) only [avR2, avA, datsOf, fillA, seval, ↓List.forall_mem_cons, Op.operands, hA, tiA, hE]
    exact SC
  refine WI (fun hb => ?_) (fun hb => ?_)
  · skip
    have hv := valid_lim (e := e) (by unfold limM; grind)
    have hE := And.intro hE hv
    refine WS [2] [] ?_
    apply aw_ret
    apply q_ret_seq
    simp only [QRet, QRetM, QRetX, retsX_nil, retsX_cons, objsAre, resA, mapO_nil, mapO_cons, vD_dat, vD_nils, vD_rp, vD_osl, vD_ptr, vD_agg, vD_fn, vD_isl, vL_dat, vL_app, viewL, avA, datsOf, fillA, seval, ↓List.forall_mem_cons, Op.operands, hP, hG, tiA, hE]
    all_goals try (first | done | rfl | trivial)
  · skip
    have h0 : limM e = false := by unfold limM; grind
    apply aw_skip
    apply q_seq
    apply aw_seq
    apply aw_regs [1, 74] [1]
    · simp (maxSteps := 2000000) (disch := omega) only [avR2, avA, datsOf, fillA, seval, ↓List.forall_mem_cons, Op.operands, hA, tiA, hE]
      (repeat' refine And.intro ?_ ?_) <;> try exact SD
      refine CallC.use (gvF hP hG (rname_ok G e)) rfl ?_
      try simp (maxSteps := 2000000) (disch := omega) only [avR2, avA, datsOf, fillA, seval, ↓List.forall_mem_cons, Op.operands, hA, tiA, hE]
      (repeat' refine And.intro ?_ ?_) <;> try exact SD
      refine CallC.use (gvF hP hG (rpossible_ok G (evName e))) rfl ?_
      try simp (maxSteps := 2000000) (disch := omega) only [avR2, avA, datsOf, fillA, seval, ↓List.forall_mem_cons, Op.operands, hA, tiA, hE]
      (repeat' refine And.intro ?_ ?_) <;> try exact SD
      refine CallGC.use rfl (fun hg => ⟨by first | trivial | (simp only [gdAll, AV.gd, avA, seval]; (repeat' apply And.intro) <;> first | trivial | rfl | exact hg) | simp_all [gdAll], gvF hP hG (rneedless_ok G e h)⟩) ?_
      try simp (maxSteps := 2000000) (disch := omega) only [avR2, avA, datsOf, fillA, seval, ↓List.forall_mem_cons, Op.operands, hA, tiA, hE]
      exact SC
    refine WI (fun hb => ?_) (fun hb => ?_)
    · skip
      have hv := valid_123 h0 (by unfold bad1 withinM; grind)
      have hE := And.intro hE hv
      refine WS [2] [] ?_
      apply aw_ret
      apply q_ret_seq
      simp only [QRet, QRetM, QRetX, retsX_nil, retsX_cons, objsAre, resA, mapO_nil, mapO_cons, vD_dat, vD_nils, vD_rp, vD_osl, vD_ptr, vD_agg, vD_fn, vD_isl, vL_dat, vL_app, viewL, avA, datsOf, fillA, seval, ↓List.forall_mem_cons, Op.operands, hP, hG, tiA, hE]
      all_goals try (first | done | rfl | trivial)
    · skip
      have h1 : bad1 e = false := by unfold bad1 withinM; grind
      have h3 : withinM e.N 1048576 = true := by unfold withinM; grind
      have h2 : bad2 e = false ∧ bad3 e = false := by grind
      have h123 := And.intro h1 (And.intro h2.1 (And.intro h2.2 h3))
      apply aw_skip
      apply q_seq
      apply aw_seq
      refine WS [1, 3] [1] ?_
      apply aw_block
      refine WL (ι := {i : Nat // i ≤ e.Refs.length ∧ ∀ j, j < i → badRef e j = false}) [1] [1] (fun ⟨i, hic⟩ => [(3, .dat (iD i))]) (fun ⟨i, hic⟩ => []) (fun ⟨i, hic⟩ => e.Refs.length - i) (⟨0, by omega, none0⟩) ?_
      rintro ⟨i, hic⟩
      dsimp only [List.cons_append, List.nil_append]
      obtain ⟨hi, hall⟩ := id hic
      have hi1 : (if (i : Int) - 1 < 0 then 0 else (i : Int) - 1).toNat = i - 1 := by split <;> omega
      have hE := And.intro hE hi1
      apply aw_seq
      refine WS [1, 3, 79] [1] ?_
      refine WI (fun hb => ?_) (fun hb => ?_)
      · skip
        apply aw_skip
        apply q_seq
        apply aw_seq
        apply aw_block
        apply aw_rgds [1, 3, 118] [1] [0, 1, 2, 3, 4, 5, 6, 7, 8, 9, 10, 11, 12, 13, 14, 15, 16, 17, 18, 19, 20, 21, 22, 23, 24, 25, 26, 27, 28, 29, 30, 31, 32, 33, 34, 35, 36] []
        · rw [hP]; kernel_rfl
        · exact hR
        · kernel_rfl
        · (repeat (apply PickL.cons; exact rfl)); exact PickL.nil _
        · simp (maxSteps := 2000000) (disch := omega) only [avR2, avA, datsOf, fillA, seval, ↓List.forall_mem_cons, Op.operands, hA, tiA, hE]
          (repeat' refine And.intro ?_ ?_) <;> try exact SD
          refine CallC.use (gvF hP hG (rpossible_ok G (e.Refs.getD i default))) rfl ?_
          try simp (maxSteps := 2000000) (disch := omega) only [avR2, avA, datsOf, fillA, seval, ↓List.forall_mem_cons, Op.operands, hA, tiA, hE]
          (repeat' refine And.intro ?_ ?_) <;> try exact SD
          refine CallGC.use rfl (fun hg => ⟨by first | trivial | (simp only [gdAll, AV.gd, avA, seval]; (repeat' apply And.intro) <;> first | trivial | rfl | exact hg) | simp_all [gdAll], gvF hP hG (rname_ok G e)⟩) ?_
          try simp (maxSteps := 2000000) (disch := omega) only [avR2, avA, datsOf, fillA, seval, ↓List.forall_mem_cons, Op.operands, hA, tiA, hE]
          (repeat' refine And.intro ?_ ?_) <;> try exact SD
          refine CallGC.use rfl (fun hg => ⟨by first | trivial | (simp only [gdAll, AV.gd, avA, seval]; (repeat' apply And.intro) <;> first | trivial | rfl | exact hg) | simp_all [gdAll], gvF hP hG (rless_ok G (e.Refs.getD (i - 1) default) (e.Refs.getD i default))⟩) ?_
          try simp (maxSteps := 2000000) (disch := omega) only [avR2, avA, datsOf, fillA, seval, ↓List.forall_mem_cons, Op.operands, hA, tiA, hE]
          exact SC
        refine WI (fun hb => ?_) (fun hb => ?_)
        · skip
          have hv := valid_ref h0 h123 (i := i) (by omega) (by unfold badRef sameName; grind)
          have hE := And.intro hE hv
          refine WS [2] [] ?_
          apply aw_ret
          apply q_ret_block
          apply q_ret_seq
          apply q_ret_loop
          apply q_ret_block
          apply q_ret_seq
          simp only [QRet, QRetM, QRetX, retsX_nil, retsX_cons, objsAre, resA, mapO_nil, mapO_cons, vD_dat, vD_nils, vD_rp, vD_osl, vD_ptr, vD_agg, vD_fn, vD_isl, vL_dat, vL_app, viewL, avA, datsOf, fillA, seval, ↓List.forall_mem_cons, Op.operands, hP, hG, tiA, hE]
          all_goals try (first | done | rfl | trivial)
        · skip
          have hnb1 : badRef e i = false := by unfold badRef sameName; grind
          apply aw_skip
          apply q_block
          apply q_seq
          refine WQ [1, 3] [1] ?_
          refine WN (⟨i + 1, by omega, allstep hic.2 hnb1⟩)
      · skip
        apply aw_exit
        apply q_exit_seq
        obtain rfl : i = e.Refs.length := by omega
        apply q_exit_loop
        apply q_exit
        apply q_seq
        refine WS [1, 4] [1, 4] ?_
        apply aw_seq
        apply aw_regs [1, 166] [1]
        · simp (maxSteps := 2000000) (disch := omega) only [avR2, avA, datsOf, fillA, seval, ↓List.forall_mem_cons, Op.operands, hA, tiA, hE]
          (repeat' refine And.intro ?_ ?_) <;> try exact SD
          refine CallGC.use rfl (fun hg => ⟨by first | trivial | (simp only [gdAll, AV.gd, avA, seval]; (repeat' apply And.intro) <;> first | trivial | rfl | exact hg) | simp_all [gdAll], gvF hP hG (rword_ok G e.Term.Name (by have := h.name; omega))⟩) ?_
          try simp (maxSteps := 2000000) (disch := omega) only [avR2, avA, datsOf, fillA, seval, ↓List.forall_mem_cons, Op.operands, hA, tiA, hE]
          (repeat' refine And.intro ?_ ?_) <;> try exact SD
          refine CallGC.use rfl (fun hg => ⟨by first | trivial | (simp only [gdAll, AV.gd, avA, seval]; (repeat' apply And.intro) <;> first | trivial | rfl | exact hg) | simp_all [gdAll], gvF hP hG (rword_ok G e.Term.See (by have := h.see; omega))⟩) ?_
          try simp (maxSteps := 2000000) (disch := omega) only [avR2, avA, datsOf, fillA, seval, ↓List.forall_mem_cons, Op.operands, hA, tiA, hE]
          (repeat' refine And.intro ?_ ?_) <;> try exact SD
          refine CallGC.use rfl (fun hg => ⟨by first | trivial | (simp only [gdAll, AV.gd, avA, seval]; (repeat' apply And.intro) <;> first | trivial | rfl | exact hg) | simp_all [gdAll], gvF hP hG (rwords_ok G e.Term.Broader (by omega) (fun s hs => by have := h.broader s hs; omega))⟩) ?_
          try simp (maxSteps := 2000000) (disch := omega) only [avR2, avA, datsOf, fillA, seval, ↓List.forall_mem_cons, Op.operands, hA, tiA, hE]
          exact SC
        refine WI (fun hb => ?_) (fun hb => ?_)
        · skip
          have hv := valid_5 h0 h123 hall (by unfold bad5 withinM; grind)
          have hE := And.intro hE hv
          refine WS [2] [] ?_
          apply aw_ret
          apply q_ret_seq
          simp only [QRet, QRetM, QRetX, retsX_nil, retsX_cons, objsAre, resA, mapO_nil, mapO_cons, vD_dat, vD_nils, vD_rp, vD_osl, vD_ptr, vD_agg, vD_fn, vD_isl, vL_dat, vL_app, viewL, avA, datsOf, fillA, seval, ↓List.forall_mem_cons, Op.operands, hP, hG, tiA, hE]
          all_goals try (first | done | rfl | trivial)
        · skip
          have h5 : bad5 e = false := by unfold bad5 withinM; grind
          apply aw_skip
          apply q_seq
          apply aw_seq
          refine WS [1, 5] [1] ?_
          apply aw_block
          refine WL (ι := {i : Nat // i ≤ e.Posts.length ∧ ∀ j, j < i → badPost e j = false}) [1] [1] (fun ⟨i, hic⟩ => [(5, .dat (iD i))]) (fun ⟨i, hic⟩ => []) (fun ⟨i, hic⟩ => e.Posts.length - i) (⟨0, by omega, none0⟩) ?_
          rintro ⟨i, hic⟩
          dsimp only [List.cons_append, List.nil_append]
          obtain ⟨hi, hallp⟩ := id hic
          apply aw_seq
          refine WS [1, 5, 171] [1] ?_
          refine WI (fun hb => ?_) (fun hb => ?_)
          · skip
            have hp := getD_all h.posts (i := i) (by omega)
            apply aw_skip
            apply q_seq
            apply aw_seq
            apply aw_block
            refine WS [1, 5, 6] [1, 6] ?_
            apply aw_regs [1, 5, 201] [1]
            · simp (maxSteps := 2000000) (disch := omega) only [avR2, avA, datsOf, fillA, seval, ↓List.forall_mem_cons, Op.operands, hA, tiA, hE]
              (repeat' refine And.intro ?_ ?_) <;> try exact SD
              refine CallGC.use rfl (fun hg => ⟨by first | trivial | (simp only [gdAll, AV.gd, avA, seval]; (repeat' apply And.intro) <;> first | trivial | rfl | exact hg) | simp_all [gdAll], gvF hP hG (rwords_ok G (e.Posts.getD i default).Path (by omega) (fun s hs => by have := hp.2.2 s hs; omega))⟩) ?_
              try simp (maxSteps := 2000000) (disch := omega) only [avR2, avA, datsOf, fillA, seval, ↓List.forall_mem_cons, Op.operands, hA, tiA, hE]
              exact SC
            refine WI (fun hb => ?_) (fun hb => ?_)
            · skip
              have hv := valid_post h0 h123 hall h5 (i := i) (by omega) (by unfold badPost sameID; grind)
              have hE := And.intro hE hv
              refine WS [2] [] ?_
              apply aw_ret
              apply q_ret_block
              apply q_ret_seq
              apply q_ret_loop
              apply q_ret_block
              apply q_ret_seq
              simp only [QRet, QRetM, QRetX, retsX_nil, retsX_cons, objsAre, resA, mapO_nil, mapO_cons, vD_dat, vD_nils, vD_rp, vD_osl, vD_ptr, vD_agg, vD_fn, vD_isl, vL_dat, vL_app, viewL, avA, datsOf, fillA, seval, ↓List.forall_mem_cons, Op.operands, hP, hG, tiA, hE]
              all_goals try (first | done | rfl | trivial)
            · skip
              have hnb1 : badPost e i = false := by unfold badPost sameID; grind
              apply aw_skip
              apply q_block
              apply q_seq
              refine WQ [1, 5] [1] ?_
              refine WN (⟨i + 1, by omega, allstep hic.2 hnb1⟩)
          · skip
            apply aw_exit
            apply q_exit_seq
            obtain rfl : i = e.Posts.length := by omega
            have hv := valid_all h0 h123 hall h5 hallp
            have hE := And.intro hE hv
            apply q_exit_loop
            apply q_exit
            apply q_seq
            refine WS [2] [] ?_
            apply aw_ret
            simp only [QRet, QRetM, QRetX, retsX_nil, retsX_cons, objsAre, resA, mapO_nil, mapO_cons, vD_dat, vD_nils, vD_rp, vD_osl, vD_ptr, vD_agg, vD_fn, vD_isl, vL_dat, vL_app, viewL, avA, datsOf, fillA, seval, ↓List.forall_mem_cons, Op.operands, hP, hG, tiA, hE]
            all_goals try (first | done | rfl | trivial)

end Go.Proofs.YtabjaaonfaejmaaGreatDoor

