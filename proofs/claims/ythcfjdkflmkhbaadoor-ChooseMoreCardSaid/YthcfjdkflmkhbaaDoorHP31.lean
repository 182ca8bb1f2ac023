/- The contract of ChooseMore. -/
import Derived.Test.YthcfjdkflmkhbaaDoorHP30
import Derived.Test.YthcfjdkflmkhbaaDoorHP29
import Derived.WalkKit
import Derived.ProofKit
import Derived.OpenShut
import Derived.WideKeyArgs
import Derived.Deep.DeepHandedRow
import Derived.Lib.LaidTab
import Derived.Test.YthcfjdkflmkhbaaDoorCards
import Derived.Test.YthcfjdkflmkhbaaDoorTie
set_option linter.all false
namespace Go.Proofs.YthcfjdkflmkhbaaDoor
open Go.Av

theorem more_range (l : List Int) : (madeM l).room ≤ 400 ∧ ∀ i < (madeM l).items.length, ((madeM l).items.getD i default).length ≤ 4 := by
  have h1 := mF_range l (mCnt l).toNat
  have h2 := atM_range (l := l) (i := 1) (m := 16) (by omega)
  have hc := mCnt_range l
  have hlen : (madeM l).items.length = (mCnt l).toNat := mItems_len l _
  refine ⟨?_, fun i hi => ?_⟩
  · show mRoom l ≤ 400
    unfold mRoom
    split <;> omega
  · have : (madeM l).items.getD i default = mItem l i := getD_map_range _ _ _ (by omega)
    rw [this, mItem, mRow_len]
    have := mK_range l i; omega
theorem yRow_set (c : CaseM) {k : Nat} (ds : List Dat) (h : k < c.items.length) (o : Int × Int) (hd : ds = (c.items.getD k default ++ [o]).map oD) : ((yRow c k c.items.length).set k (.osl 78 2 0 ((c.items.getD k default).length + 1))).map (AV.frz 78 2 ds) = ((moreB c k o).items.map osD).map .dat := by
  subst hd
  apply List.ext_getElem (by simp [yRow, moreB])
  intro j h1 h2
  have hj : j < c.items.length := by simpa [yRow] using h1
  simp only [List.getElem_map, List.getElem_set, moreB, yRow, List.getElem_range]
  by_cases hjk : k = j
  · subst hjk
    rw [if_pos rfl, if_pos rfl]
    simp only [AV.frz, if_true, true_and]
    rw [if_pos (by simp), List.drop_zero, List.take_of_length_le (by simp)]
  · rw [if_neg hjk, if_neg hjk, if_neg (by omega)]
    simp only [AV.frz, List.getD_eq_getElem?_getD, List.getElem?_eq_getElem hj, Option.getD_some]
theorem yRow_data (c : CaseM) {k : Nat} (h : c.items.length ≤ k) : yRow c k c.items.length = (c.items.map osD).map .dat := by
  apply List.ext_getElem (by simp [yRow])
  intro j h1 h2
  have hj : j < c.items.length := by simpa [yRow] using h1
  simp only [List.getElem_map, yRow, List.getElem_range]
  rw [if_neg (by omega)]
  simp [List.getD_eq_getElem?_getD, List.getElem?_eq_getElem hj]

theorem yRow_ren40 (c : CaseM) (k i : Nat) (m : Nat → Nat) (h : m 40 = 40) : (yRow c k i).map (AV.ren m) = yRow c k i := by
  simp only [yRow, List.map_map]
  apply List.map_congr_left
  intro j _
  simp only [Function.comp]
  split <;> simp [AV.ren, h]
theorem datE1 {a b : Nat} {c : List Dat} (l : List Dat) : datE ((l.map .dat).map (AV.frz a b c)) = some l := by rw [frz_dats, datE_map]
theorem datE2 {a b a' b' : Nat} {c c' : List Dat} (l : List Dat) : datE (((l.map .dat).map (AV.frz a b c)).map (AV.frz a' b' c')) = some l := by rw [frz_dats, frz_dats, datE_map]
theorem datE_app1 {a b : Nat} {c : List Dat} (l : List Dat) (d : Dat) : datE ((l.map AV.dat ++ [AV.dat d]).map (AV.frz a b c)) = some (l ++ [d]) := by
  rw [show (l.map AV.dat ++ [AV.dat d]).map (AV.frz a b c) = (l ++ [d]).map AV.dat from by simp [AV.frz]]
  exact datE_map _
theorem datE_app0 (l : List Dat) (d : Dat) : datE (l.map AV.dat ++ [AV.dat d]) = some (l ++ [d]) := by
  rw [show l.map AV.dat ++ [AV.dat d] = (l ++ [d]).map AV.dat from by simp]
  exact datE_map _
theorem yRow_get (c : CaseM) {k n : Nat} (h : k < n) (d : AV) : ((yRow c k n)[k]?).getD d = .osl 40 2 0 (c.items.getD k default).length := by
  simp [yRow, h]
theorem kRow_all (c : CaseM) {k n : Nat} (h : k < n) : kRow c k n = c.items.getD k default := by unfold kRow; rw [if_pos h]


set_option maxHeartbeats 400000 in
theorem more_ok (l : List Int) (mo at_ ln tn : Int) (hl : ∀ x ∈ l, I64 x) (hmo : I64 mo) (hat : I64 at_) (hln : I64 ln) (htn : I64 tn) : Gives Tryd.prog gG 5 [isD l, iD mo, iD at_, iD ln, iD tn] [.bool true] := by
  have hc := madeM_ok l
  have h6 := madeM_len l
  have hsz := hc.sz
  have hwl := hc.wl
  have hcr := hc.room
  obtain ⟨hr4, hi4⟩ := more_range l
  have i9 : I64 9 := by unfold I64; omega
  have hm9 := aroundM_range (n := mo) (m := 9) (by omega)
  have hl9 := aroundM_range (n := ln) (m := 9) (by omega)
  have ht9 := aroundM_range (n := tn) (m := 9) (by omega)
  have hin : I64 ((madeM l).items.length : Int) := by unfold I64; omega
  have hsA := (moreA_ok hc hm9.1 (by omega)).sz
  have hok : okO (aroundM ln 9, aroundM tn 9) := by unfold okO; simp only; omega
  have hsC := (moreC_ok (o := (aroundM ln 9, aroundM tn 9)) (w := aroundM mo 9) hc (by omega) hok (by omega)).sz
  have heA := more_A hc hm9.1 (by omega)
  have heC := more_C (o := (aroundM ln 9, aroundM tn 9)) (w := aroundM mo 9) hc (by omega) hok (by omega)
  have hbe := best_err hc
  have hce := best_err (moreC_ok (o := (aroundM ln 9, aroundM tn 9)) (w := aroundM mo 9) hc (by omega) hok (by omega))
  obtain ⟨kk, hkk⟩ : ∃ kk : Nat, kk = (aroundM at_ (madeM l).items.length).toNat := ⟨_, rfl⟩
  have hB : SzC (moreB (madeM l) kk (aroundM ln 9, aroundM tn 9)) ∧ ((bestM (madeM l)).2.2 = 0 → (bestM (moreB (madeM l) kk (aroundM ln 9, aroundM tn 9))).2.2 = 0 ∧ (bestM (moreB (madeM l) kk (aroundM ln 9, aroundM tn 9))).2.1 ≤ (bestM (madeM l)).2.1) := by
    by_cases hN : 0 < (madeM l).items.length
    · have har := aroundM_range (n := at_) (m := ((madeM l).items.length : Int)) (by omega)
      have hkn : kk < (madeM l).items.length := by omega
      have h4 := hi4 kk hkn
      exact ⟨(moreB_ok hc hkn (by omega) hok).sz, more_B hc hkn (by omega) hok⟩
    · have : moreB (madeM l) kk (aroundM ln 9, aroundM tn 9) = madeM l := by
        unfold moreB
        rw [List.set_eq_of_length_le (by omega)]
      rw [this]
      exact ⟨hsz, fun h => ⟨h, Int.le_refl _⟩⟩
  have hBl : (moreB (madeM l) kk (aroundM ln 9, aroundM tn 9)).items.length = (madeM l).items.length := by simp [moreB]
  have htk1 : List.take ((madeM l).items.length + 1) (List.map osD (madeM l).items ++ [osD [(aroundM ln 9, aroundM tn 9)]]) = List.map osD (moreC (madeM l) (aroundM ln 9, aroundM tn 9) (aroundM mo 9)).items := by
    rw [List.take_of_length_le (by simp)]
    simp [moreC]
  have htk2 : List.take ((madeM l).items.length + 1) (List.map iD (madeM l).weights ++ [iD (aroundM mo 9)]) = List.map iD (moreC (madeM l) (aroundM ln 9, aroundM tn 9) (aroundM mo 9)).weights := by
    rw [List.take_of_length_le (by simp; omega)]
    simp [moreC]
  have hyr := yRow_ren40 (madeM l) kk (madeM l).items.length (fun i => if i = 57 then 140 else if i = 10 then 141 else 40) rfl
  skip
  refine gives_intro [78, 100] [53, 87] [] Tryd.func5 rfl (by rfl) (by simp [Tryd.ntmps5]) fun F hP hG hN hR => ?_
  rw [Tryd.ntmps5] at hN
  have hA := And.intro hN (And.intro hP (And.intro hG (And.intro hR.1 (And.intro hR.2.1 hR.2.2.1))))
  apply aw_regs [0, 1, 2, 3, 4] [140, 141, 40, 143, 144, 78, 93, 100]
  · simp (disch := omega) only [avR2, avA, datsOf, fillA, seval, ↓List.forall_mem_cons, Op.operands, hA, tiA]
    first | exact ⟨rfl, rfl⟩ | ((repeat' first | refine And.intro ?_ ?_ | intro _) <;> first | with_reducible rfl | assumption | omega | rfl | (rename_i hq; rw [hq]; rfl) | (simp_all; done))
  apply aw_regs [1, 2, 3, 4, 11] [11, 140, 141, 40, 143, 144, 78, 93, 100]
  · simp (disch := omega) only [avR2, avA, datsOf, fillA, seval, ↓List.forall_mem_cons, Op.operands, hA, tiA]
    (repeat' refine And.intro ?_ ?_) <;> try first | omega | assumption | with_reducible rfl | exact rfl | (intro hside; (repeat' refine And.intro ?_ ?_) <;> first | exact hside | omega | (rw [hside]; rfl) | (simp_all; done))
    refine CallC.use (gvF hP hG (made_ok gG l hl)) rfl ?_
    try simp (maxSteps := 2000000) (disch := omega) only [avR2, avA, datsOf, fillA, seval, ↓List.forall_mem_cons, Op.operands, hA, tiA]
    first | exact ⟨rfl, rfl⟩ | ((repeat' first | refine And.intro ?_ ?_ | intro _) <;> first | with_reducible rfl | assumption | omega | rfl | (rename_i hq; rw [hq]; rfl) | (simp_all; done))
  apply aw_regs [1, 2, 3, 4, 11, 13, 14] [11, 140, 141, 40, 143, 144, 78, 93, 100]
  · simp (disch := omega) only [avR2, avA, datsOf, fillA, seval, ↓List.forall_mem_cons, Op.operands, hA, tiA]
    (repeat' refine And.intro ?_ ?_) <;> try first | omega | assumption | with_reducible rfl | exact rfl | (intro hside; (repeat' refine And.intro ?_ ?_) <;> first | exact hside | omega | (rw [hside]; rfl) | (simp_all; done))
    refine CallC.use (gvF hP hG (own_ok gG (madeM l) hsz)) rfl ?_
    try simp (maxSteps := 2000000) (disch := omega) only [avR2, avA, datsOf, fillA, seval, ↓List.forall_mem_cons, Op.operands, hA, tiA]
    (repeat' refine And.intro ?_ ?_) <;> try first | omega | assumption | with_reducible rfl | exact rfl | (intro hside; (repeat' refine And.intro ?_ ?_) <;> first | exact hside | omega | (rw [hside]; rfl) | (simp_all; done))
    refine CallC.use (gvF hP hG (best_ok (madeM l) hsz)) rfl ?_
    try simp (maxSteps := 2000000) (disch := omega) only [avR2, avA, datsOf, fillA, seval, ↓List.forall_mem_cons, Op.operands, hA, tiA]
    first | exact ⟨rfl, rfl⟩ | ((repeat' first | refine And.intro ?_ ?_ | intro _) <;> first | with_reducible rfl | assumption | omega | rfl | (rename_i hq; rw [hq]; rfl) | (simp_all; done))
  apply aw_regs [1, 2, 3, 4, 11, 13, 14, 15] [11, 15, 140, 141, 40, 143, 144, 78, 93, 100]
  · simp (disch := omega) only [avR2, avA, datsOf, fillA, seval, ↓List.forall_mem_cons, Op.operands, hA, tiA]
    (repeat' refine And.intro ?_ ?_) <;> try first | omega | assumption | with_reducible rfl | exact rfl | (intro hside; (repeat' refine And.intro ?_ ?_) <;> first | exact hside | omega | (rw [hside]; rfl) | (simp_all; done))
    refine CallC.use (gvF hP hG (own_ok gG (madeM l) hsz)) rfl ?_
    try simp (maxSteps := 2000000) (disch := omega) only [avR2, avA, datsOf, fillA, seval, ↓List.forall_mem_cons, Op.operands, hA, tiA]
    first | exact ⟨rfl, rfl⟩ | ((repeat' first | refine And.intro ?_ ?_ | intro _) <;> first | with_reducible rfl | assumption | omega | rfl | (rename_i hq; rw [hq]; rfl) | (simp_all; done))
  apply aw_rgds [1, 2, 3, 4, 11, 13, 14, 15] [11, 15, 140, 141, 40, 143, 144, 78, 93, 100] [0, 1, 2, 3, 4, 5, 6] []
  · rw [hP]; kernel_rfl
  · exact hR
  · kernel_rfl
  · (repeat (apply PickL.cons; exact rfl)); exact PickL.nil _
  · simp (disch := omega) only [avR2, avA, datsOf, fillA, seval, ↓List.forall_mem_cons, Op.operands, hA, tiA]
    (repeat' refine And.intro ?_ ?_) <;> try first | omega | assumption | with_reducible rfl | exact rfl | (intro hside; (repeat' refine And.intro ?_ ?_) <;> first | exact hside | omega | (rw [hside]; rfl) | (simp_all; done))
    refine CallC.use (gvF hP hG (around_ok gG mo 9 hmo (by omega) i9)) rfl ?_
    try simp (maxSteps := 2000000) (disch := omega) only [avR2, avA, datsOf, fillA, seval, ↓List.forall_mem_cons, Op.operands, hA, tiA]
    first | exact ⟨rfl, rfl⟩ | ((repeat' first | refine And.intro ?_ ?_ | intro _) <;> first | with_reducible rfl | assumption | omega | rfl | (rename_i hq; rw [hq]; rfl) | (simp_all; done))
  apply aw_regs [1, 2, 3, 4, 11, 13, 14, 17, 18] [11, 140, 141, 40, 143, 144, 78, 93, 100]
  · simp (disch := omega) only [avR2, avA, datsOf, fillA, seval, ↓List.forall_mem_cons, Op.operands, hA, tiA]
    (repeat' refine And.intro ?_ ?_) <;> try first | omega | assumption | with_reducible rfl | exact rfl | (intro hside; (repeat' refine And.intro ?_ ?_) <;> first | exact hside | omega | (rw [hside]; rfl) | (simp_all; done))
    refine CallC.use (gvF hP hG (best_ok (moreA (madeM l) (aroundM mo 9)) hsA)) rfl ?_
    try simp (maxSteps := 2000000) (disch := omega) only [avR2, avA, datsOf, fillA, seval, ↓List.forall_mem_cons, Op.operands, hA, tiA]
    first | exact ⟨rfl, rfl⟩ | ((repeat' first | refine And.intro ?_ ?_ | intro _) <;> first | with_reducible rfl | assumption | omega | rfl | (rename_i hq; rw [hq]; rfl) | (simp_all; done))
  apply aw_regs [1, 2, 3, 4, 11, 13, 14, 17, 18, 19] [11, 19, 140, 141, 40, 143, 144, 78, 93, 100]
  · simp (disch := omega) only [avR2, avA, datsOf, fillA, seval, ↓List.forall_mem_cons, Op.operands, hA, tiA]
    (repeat' refine And.intro ?_ ?_) <;> try first | omega | assumption | with_reducible rfl | exact rfl
    refine CallC.useX (fun i => if i = 57 then 140 else if i = 10 then 141 else 40) [57, 10, 40] (by simp [LitD, hR.2.1]) (gvFX hP hG (own_okK gG (madeM l) kk hsz)) rfl (lentX_of hN (by first | trivial | ((try simp only [haveL, AObj.ren, AV.ren, renL, ren_row, List.map_cons, List.map_nil, objL_cons, objL_nil]) <;> ((repeat' apply And.intro) <;> first | trivial | rfl))) (by rfl)) ?_
    try simp (maxSteps := 2000000) (disch := omega) only [avR2, avA, datsOf, fillA, seval, ↓List.forall_mem_cons, Op.operands, hA, tiA, hyr, yRow_kill, avX]
    first | exact ⟨rfl, rfl⟩ | ((repeat' first | refine And.intro ?_ ?_ | intro _) <;> first | with_reducible rfl | assumption | omega | rfl | (rename_i hq; rw [hq]; rfl) | (simp_all; done))
  apply aw_regs [1, 2, 11, 13, 14, 17, 18, 19, 20] [11, 19, 20, 140, 141, 40, 143, 144, 78, 93, 100]
  · simp (disch := omega) only [avR2, avA, datsOf, fillA, seval, ↓List.forall_mem_cons, Op.operands, hA, tiA, yRow_kill]
    (repeat' refine And.intro ?_ ?_) <;> try first | omega | assumption | with_reducible rfl | exact rfl | (intro hside; (repeat' refine And.intro ?_ ?_) <;> first | exact hside | omega | (rw [hside]; rfl) | (simp_all; done))
    refine CallC.use (gvF hP hG (around_ok gG ln 9 hln (by omega) i9)) rfl ?_
    try simp (maxSteps := 2000000) (disch := omega) only [avR2, avA, datsOf, fillA, seval, ↓List.forall_mem_cons, Op.operands, hA, tiA]
    (repeat' refine And.intro ?_ ?_) <;> try first | omega | assumption | with_reducible rfl | exact rfl | (intro hside; (repeat' refine And.intro ?_ ?_) <;> first | exact hside | omega | (rw [hside]; rfl) | (simp_all; done))
    refine CallC.use (gvF hP hG (around_ok gG tn 9 htn (by omega) i9)) rfl ?_
    try simp (maxSteps := 2000000) (disch := omega) only [avR2, avA, datsOf, fillA, seval, ↓List.forall_mem_cons, Op.operands, hA, tiA, yRow_kill]
    first | exact ⟨rfl, rfl⟩ | ((repeat' first | refine And.intro ?_ ?_ | intro _) <;> first | with_reducible rfl | assumption | omega | rfl | (rename_i hq; rw [hq]; rfl) | (simp_all; done))
  apply aw_seq
  apply aw_regs [1, 2, 11, 13, 14, 17, 18, 19, 20, 62] [11, 19, 20, 140, 141, 40, 143, 144, 78, 93, 100]
  · simp (disch := omega) only [avR2, avA, datsOf, fillA, seval, ↓List.forall_mem_cons, Op.operands, hA, tiA]
    first | exact ⟨rfl, rfl⟩ | ((repeat' first | refine And.intro ?_ ?_ | intro _) <;> first | with_reducible rfl | assumption | omega | rfl | (rename_i hq; rw [hq]; rfl) | (simp_all; done))
  refine aw_if _ rfl (fun hb => ?_) (fun hb => ?_) <;> (try simp only [pickB_true, pickB_false, Bool.false_or, Bool.false_and, Bool.true_and, decide_eq_true_eq, decide_eq_false_iff_not, Bool.or_eq_true, Bool.and_eq_true, Bool.or_eq_false_iff, Bool.and_eq_false_imp, Bool.not_eq_true, Bool.not_eq_false, Bool.not_eq_eq_eq_not, Bool.not_true, Bool.not_false, Int.not_lt, Int.not_le, beq_iff_eq, beq_eq_false_iff_ne, bne_iff_ne, bne_eq_false_iff_eq, ne_eq, Bool.true_eq_false, Bool.false_eq_true, if_false_left, if_true_left, Bool.not_eq_eq_eq_not, Bool.decide_eq_true, Classical.not_not] at hb)
  · skip
    have hbB := best_ok (moreB (madeM l) kk (aroundM ln 9, aroundM tn 9)) hB.1
    have hNp : 0 < (madeM l).items.length := by omega
    have har := aroundM_range (n := at_) (m := ((madeM l).items.length : Int)) (by omega)
    have hkn : kk < (madeM l).items.length := by omega
    have hka : aroundM at_ (madeM l).items.length = (kk : Int) := by omega
    have hi4k := hi4 kk hkn
    have hyg := yRow_get (madeM l) (n := (madeM l).items.length) hkn
    have hkr := kRow_all (madeM l) (n := (madeM l).items.length) hkn
    have hyl := yRow_len (madeM l) kk (madeM l).items.length
    apply aw_regs [1, 11, 13, 14, 17, 18, 19, 20, 21] [11, 19, 20, 140, 141, 40, 143, 144, 78, 93, 100]
    · simp (disch := omega) only [avR2, avA, datsOf, fillA, seval, ↓List.forall_mem_cons, Op.operands, hA, tiA, hka]
      (repeat' refine And.intro ?_ ?_) <;> try first | omega | assumption | with_reducible rfl | exact rfl | (intro hside; (repeat' refine And.intro ?_ ?_) <;> first | exact hside | omega | (rw [hside]; rfl) | (simp_all; done))
      refine CallC.use (gvF hP hG (around_ok gG at_ (madeM l).items.length hat (by omega) hin)) rfl ?_
      try simp (maxSteps := 2000000) (disch := omega) only [avR2, avA, datsOf, fillA, seval, ↓List.forall_mem_cons, Op.operands, hA, tiA, hka]
      first | exact ⟨rfl, rfl⟩ | ((repeat' first | refine And.intro ?_ ?_ | intro _) <;> first | with_reducible rfl | assumption | omega | rfl | (rename_i hq; rw [hq]; rfl) | (simp_all; done))
    apply aw_rgd [1, 11, 13, 14, 17, 18, 19, 20] [11, 19, 20, 140, 141, 40, 143, 144, 78, 93, 100] [3, 4, 5, 6, 7, 8, 9, 10, 0, 1, 2, 11, 12] [78]
    · rw [hP]; kernel_rfl
    · exact hR
    · kernel_rfl
    · (repeat (apply PickL.cons; exact rfl)); exact PickL.nil _
    · simp (maxSteps := 2000000) (disch := omega) only [avR2, avA, datsOf, fillA, seval, ↓List.forall_mem_cons, Op.operands, hA, tiA, hyg, hkr, hyl, yRow_kill, row_len, List.length_append, List.length_cons, List.length_nil]
      first | exact ⟨rfl, rfl⟩ | ((repeat' first | refine And.intro ?_ ?_ | intro _) <;> first | with_reducible rfl | assumption | omega | rfl | (rename_i hq; rw [hq]; rfl) | (simp_all; done))
    refine aw_frz 78 hR.2.2.2 rfl (ds := ((madeM l).items.getD kk default ++ [(aroundM ln 9, aroundM tn 9)]).map oD) (by first | exact datE_map _ | (rw [List.map_append, datE_app]; rfl) | (simp [datE_map]; done)) ?_
    refine aw_frz 140 hR.2.2.2 rfl ((congrArg datE (yRow_set _ _ hkn _ rfl)).trans (datE_map _)) ?_
    refine aw_frz 141 hR.2.2.2 rfl (datE2 _) ?_
    apply q_seq
    apply aw_regs [1, 11, 13, 14, 17, 18, 20, 23, 24] [11, 20, 140, 141, 40, 143, 144, 78, 93, 100]
    · simp (disch := omega) only [avR2, avA, datsOf, fillA, seval, ↓List.forall_mem_cons, Op.operands, hA, tiA, hBl, hwl, Nat.le_refl, List.take_of_length_le]
      (repeat' refine And.intro ?_ ?_) <;> try first | omega | assumption | with_reducible rfl | exact rfl | (intro hside; (repeat' refine And.intro ?_ ?_) <;> first | exact hside | omega | (rw [hside]; rfl) | (simp_all; done))
      refine CallC.use (gvF hP hG (hbB)) rfl ?_
      try simp (maxSteps := 2000000) (disch := omega) only [avR2, avA, datsOf, fillA, seval, ↓List.forall_mem_cons, Op.operands, hA, tiA]
      first | exact ⟨rfl, rfl⟩ | ((repeat' first | refine And.intro ?_ ?_ | intro _) <;> first | with_reducible rfl | assumption | omega | rfl | (rename_i hq; rw [hq]; rfl) | (simp_all; done))
    apply aw_regs [1, 13, 14, 17, 18, 20, 23, 24, 25] [20, 25, 91, 92, 93, 99, 100, 140, 141, 40, 143, 144, 78]
    · simp (disch := omega) only [avR2, avA, datsOf, fillA, seval, ↓List.forall_mem_cons, Op.operands, hA, tiA]
      (repeat' refine And.intro ?_ ?_) <;> try first | omega | assumption | with_reducible rfl | exact rfl
      refine CallC.useX (fun i => if i = 57 then 143 else 144) [57, 10] (by simp [LitD, hR.2.1]) (gvFX hP hG (own_okX gG (madeM l) hsz)) rfl (lentX_of hN (by first | trivial | ((try simp only [haveL, AObj.ren, AV.ren, renL, ren_row, List.map_cons, List.map_nil, objL_cons, objL_nil]) <;> ((repeat' apply And.intro) <;> first | trivial | rfl))) (by rfl)) ?_
      try simp (maxSteps := 2000000) (disch := omega) only [avR2, avA, datsOf, fillA, seval, ↓List.forall_mem_cons, Op.operands, hA, tiA, avX]
      first | exact ⟨rfl, rfl⟩ | ((repeat' first | refine And.intro ?_ ?_ | intro _) <;> first | with_reducible rfl | assumption | omega | rfl | (rename_i hq; rw [hq]; rfl) | (simp_all; done))
    apply aw_regs [1, 13, 14, 17, 18, 23, 24, 25] [25, 91, 92, 93, 99, 100, 140, 141, 40, 143, 144, 78]
    · simp (disch := omega) only [avR2, avA, datsOf, fillA, seval, ↓List.forall_mem_cons, Op.operands, hA, tiA, row_len]
      first | exact ⟨rfl, rfl⟩ | ((repeat' first | refine And.intro ?_ ?_ | intro _) <;> first | with_reducible rfl | assumption | omega | rfl | (rename_i hq; rw [hq]; rfl) | (simp_all; done))
    apply aw_rgds [13, 14, 17, 18, 23, 24, 25] [25, 91, 92, 93, 99, 100, 140, 141, 40, 143, 144, 78] [0, 1, 2, 3, 4, 5, 6, 7] [100]
    · rw [hP]; kernel_rfl
    · exact hR
    · kernel_rfl
    · (repeat (apply PickL.cons; exact rfl)); exact PickL.nil _
    · simp (disch := omega) only [avR2, avA, datsOf, fillA, seval, ↓List.forall_mem_cons, Op.operands, hA, tiA, row_len]
      (repeat' refine And.intro ?_ ?_) <;> try first | omega | assumption | with_reducible rfl | exact rfl | (intro hside; (repeat' refine And.intro ?_ ?_) <;> first | exact hside | omega | (rw [hside]; rfl) | (simp_all; done))
      refine CallC.use (gvF hP hG (around_ok gG mo 9 hmo (by omega) i9)) rfl ?_
      try simp (maxSteps := 2000000) (disch := omega) only [avR2, avA, datsOf, fillA, seval, ↓List.forall_mem_cons, Op.operands, hA, tiA]
      first | exact ⟨rfl, rfl⟩ | ((repeat' first | refine And.intro ?_ ?_ | intro _) <;> first | with_reducible rfl | assumption | omega | rfl | (rename_i hq; rw [hq]; rfl) | (simp_all; done))
    refine aw_frz 93 hR.2.2.2 rfl (ds := ((madeM l).items ++ [[(aroundM ln 9, aroundM tn 9)]]).map osD) ((datE_app0 ((madeM l).items.map osD) (osD [(aroundM ln 9, aroundM tn 9)])).trans (by simp)) ?_
    refine aw_frz 100 hR.2.2.2 rfl (ds := ((madeM l).weights ++ [aroundM mo 9]).map iD) ((datE_app1 ((madeM l).weights.map iD) (iD (aroundM mo 9))).trans (by simp)) ?_
    apply aw_regs [13, 14, 17, 18, 23, 24, 27, 28] [140, 141, 40, 143, 144, 78, 93, 100]
    · simp (disch := omega) only [avR2, avA, datsOf, fillA, seval, ↓List.forall_mem_cons, Op.operands, hA, tiA, hwl, Nat.le_refl, htk1, htk2]
      (repeat' refine And.intro ?_ ?_) <;> try first | omega | assumption | with_reducible rfl | exact rfl | (intro hside; (repeat' refine And.intro ?_ ?_) <;> first | exact hside | omega | (rw [hside]; rfl) | (simp_all; done))
      refine CallC.use (gvF hP hG (best_ok (moreC (madeM l) (aroundM ln 9, aroundM tn 9) (aroundM mo 9)) hsC)) rfl ?_
      try simp (maxSteps := 2000000) (disch := omega) only [avR2, avA, datsOf, fillA, seval, ↓List.forall_mem_cons, Op.operands, hA, tiA]
      first | exact ⟨rfl, rfl⟩ | ((repeat' first | refine And.intro ?_ ?_ | intro _) <;> first | with_reducible rfl | assumption | omega | rfl | (rename_i hq; rw [hq]; rfl) | (simp_all; done))
    apply aw_seq
    apply aw_regs [13, 14, 17, 18, 23, 24, 27, 28, 109] [140, 141, 40, 143, 144, 78, 93, 100]
    · simp (disch := omega) only [avR2, avA, datsOf, fillA, seval, ↓List.forall_mem_cons, Op.operands, hA, tiA]
      first | exact ⟨rfl, rfl⟩ | ((repeat' first | refine And.intro ?_ ?_ | intro _) <;> first | with_reducible rfl | assumption | omega | rfl | (rename_i hq; rw [hq]; rfl) | (simp_all; done))
    refine aw_if _ rfl (fun hb => ?_) (fun hb => ?_) <;> (try simp only [pickB_true, pickB_false, Bool.false_or, Bool.false_and, Bool.true_and, decide_eq_true_eq, decide_eq_false_iff_not, Bool.or_eq_true, Bool.and_eq_true, Bool.or_eq_false_iff, Bool.and_eq_false_imp, Bool.not_eq_true, Bool.not_eq_false, Bool.not_eq_eq_eq_not, Bool.not_true, Bool.not_false, Int.not_lt, Int.not_le, beq_iff_eq, beq_eq_false_iff_ne, bne_iff_ne, bne_eq_false_iff_eq, ne_eq, Bool.true_eq_false, Bool.false_eq_true, if_false_left, if_true_left, Bool.not_eq_eq_eq_not, Bool.decide_eq_true, Classical.not_not] at hb)
    · skip
      have h21 : (bestM (madeM l)).2.2 = 21 := by omega
      have hc21 : (bestM (moreC (madeM l) (aroundM ln 9, aroundM tn 9) (aroundM mo 9))).2.2 = 21 := by omega
      apply aw_regs [10] [140, 141, 40, 143, 144, 78, 93, 100]
      · simp (disch := omega) only [avR2, avA, datsOf, fillA, seval, ↓List.forall_mem_cons, Op.operands, hA, tiA, h21, hc21, beq_self_eq_true]
        (repeat' refine And.intro ?_ ?_) <;> try first | omega | assumption | with_reducible rfl | exact rfl | (intro hside; (repeat' refine And.intro ?_ ?_) <;> first | exact hside | omega | (rw [hside]; rfl) | (simp_all; done))
        refine CallGC.use rfl (fun hg => ⟨by simp_all [gdAll], gvF hP hG (lives_ok)⟩) ?_
        try simp (maxSteps := 2000000) (disch := omega) only [avR2, avA, datsOf, fillA, seval, ↓List.forall_mem_cons, Op.operands, hA, tiA, h21, hc21, beq_self_eq_true]
        first | exact ⟨rfl, rfl⟩ | ((repeat' first | refine And.intro ?_ ?_ | intro _) <;> first | with_reducible rfl | assumption | omega | rfl | (rename_i hq; rw [hq]; rfl) | (simp_all; done))
      apply aw_ret
      apply q_ret_seq
      simp only [QRet, QRetM, QRetX, retsX_nil, retsX_cons, objsAre, Tryd.results5, resA, mapO_nil, mapO_cons, vD_dat, vD_nils, vD_rp, vD_osl, vD_ptr, vD_agg, vD_fn, vL_dat, vL_app, viewL, avA, datsOf, fillA, seval, ↓List.forall_mem_cons, Op.operands, hP, hG, tiA]
    · skip
      have h0 : (bestM (madeM l)).2.2 = 0 := by omega
      obtain ⟨a1, a2⟩ := heA h0
      obtain ⟨b1, b2⟩ := hB.2 h0
      have a3 := decide_eq_true a2
      have b3 := decide_eq_true b2
      apply aw_skip
      apply q_seq
      by_cases hq : (bestM (moreC (madeM l) (aroundM ln 9, aroundM tn 9) (aroundM mo 9))).2.2 = 0
      · skip
        have c1 := hq
        have c3 := decide_eq_true (heC hq).2
        apply aw_regs [10] [140, 141, 40, 143, 144, 78, 93, 100]
        · simp (maxSteps := 2000000) (disch := omega) only [avR2, avA, datsOf, fillA, seval, ↓List.forall_mem_cons, Op.operands, hA, tiA, a1, a3, b1, b3, c1, c3, h0, beq_self_eq_true, Bool.false_and, Bool.or_true]
          (repeat' refine And.intro ?_ ?_) <;> try first | omega | assumption | with_reducible rfl | exact rfl | (intro hside; (repeat' refine And.intro ?_ ?_) <;> first | exact hside | omega | (rw [hside]; rfl) | (simp_all; done))
          refine CallGC.use rfl (fun hg => ⟨by simp_all [gdAll], gvF hP hG (lives_ok)⟩) ?_
          try simp (maxSteps := 2000000) (disch := omega) only [avR2, avA, datsOf, fillA, seval, ↓List.forall_mem_cons, Op.operands, hA, tiA, a1, a3, b1, b3, c1, c3, beq_self_eq_true, Bool.false_and, Bool.or_true]
          first | exact ⟨rfl, rfl⟩ | ((repeat' first | refine And.intro ?_ ?_ | intro _) <;> first | with_reducible rfl | assumption | omega | rfl | (rename_i hq; rw [hq]; rfl) | (simp_all; done))
        apply aw_ret
        simp only [QRet, QRetM, QRetX, retsX_nil, retsX_cons, objsAre, Tryd.results5, resA, mapO_nil, mapO_cons, vD_dat, vD_nils, vD_rp, vD_osl, vD_ptr, vD_agg, vD_fn, vL_dat, vL_app, viewL, avA, datsOf, fillA, seval, ↓List.forall_mem_cons, Op.operands, hP, hG, tiA]
      · skip
        have c1 : (bestM (moreC (madeM l) (aroundM ln 9, aroundM tn 9) (aroundM mo 9))).2.2 = 21 := by omega
        have c3 := hq
        apply aw_regs [10] [140, 141, 40, 143, 144, 78, 93, 100]
        · simp (maxSteps := 2000000) (disch := omega) only [avR2, avA, datsOf, fillA, seval, ↓List.forall_mem_cons, Op.operands, hA, tiA, a1, a3, b1, b3, c1, c3, h0, beq_self_eq_true, Bool.false_and, Bool.or_true]
          (repeat' refine And.intro ?_ ?_) <;> try first | omega | assumption | with_reducible rfl | exact rfl | (intro hside; (repeat' refine And.intro ?_ ?_) <;> first | exact hside | omega | (rw [hside]; rfl) | (simp_all; done))
          refine CallGC.use rfl (fun hg => ⟨by simp_all [gdAll], gvF hP hG (lives_ok)⟩) ?_
          try simp (maxSteps := 2000000) (disch := omega) only [avR2, avA, datsOf, fillA, seval, ↓List.forall_mem_cons, Op.operands, hA, tiA, a1, a3, b1, b3, c1, c3, beq_self_eq_true, Bool.false_and, Bool.or_true]
          first | exact ⟨rfl, rfl⟩ | ((repeat' first | refine And.intro ?_ ?_ | intro _) <;> first | with_reducible rfl | assumption | omega | rfl | (rename_i hq; rw [hq]; rfl) | (simp_all; done))
        apply aw_ret
        simp only [QRet, QRetM, QRetX, retsX_nil, retsX_cons, objsAre, Tryd.results5, resA, mapO_nil, mapO_cons, vD_dat, vD_nils, vD_rp, vD_osl, vD_ptr, vD_agg, vD_fn, vL_dat, vL_app, viewL, avA, datsOf, fillA, seval, ↓List.forall_mem_cons, Op.operands, hP, hG, tiA]
  · skip
    have hbB := best_ok (moreB (madeM l) kk (aroundM ln 9, aroundM tn 9)) hB.1
    have hB0 : moreB (madeM l) kk (aroundM ln 9, aroundM tn 9) = madeM l := by
      unfold moreB
      rw [List.set_eq_of_length_le (by omega)]
    rw [hB0] at hbB hB
    refine aw_frz 140 hR.2.2.2 rfl ((congrArg datE (yRow_data _ (by omega))).trans (datE_map _)) ?_
    refine aw_frz 141 hR.2.2.2 rfl (datE1 _) ?_
    apply aw_skip
    apply q_seq
    apply aw_regs [1, 11, 13, 14, 17, 18, 20, 23, 24] [11, 20, 140, 141, 40, 143, 144, 78, 93, 100]
    · simp (disch := omega) only [avR2, avA, datsOf, fillA, seval, ↓List.forall_mem_cons, Op.operands, hA, tiA, hBl, hwl, Nat.le_refl, List.take_of_length_le]
      (repeat' refine And.intro ?_ ?_) <;> try first | omega | assumption | with_reducible rfl | exact rfl | (intro hside; (repeat' refine And.intro ?_ ?_) <;> first | exact hside | omega | (rw [hside]; rfl) | (simp_all; done))
      refine CallC.use (gvF hP hG (hbB)) rfl ?_
      try simp (maxSteps := 2000000) (disch := omega) only [avR2, avA, datsOf, fillA, seval, ↓List.forall_mem_cons, Op.operands, hA, tiA]
      first | exact ⟨rfl, rfl⟩ | ((repeat' first | refine And.intro ?_ ?_ | intro _) <;> first | with_reducible rfl | assumption | omega | rfl | (rename_i hq; rw [hq]; rfl) | (simp_all; done))
    apply aw_regs [1, 13, 14, 17, 18, 20, 23, 24, 25] [20, 25, 91, 92, 93, 99, 100, 140, 141, 40, 143, 144, 78]
    · simp (disch := omega) only [avR2, avA, datsOf, fillA, seval, ↓List.forall_mem_cons, Op.operands, hA, tiA]
      (repeat' refine And.intro ?_ ?_) <;> try first | omega | assumption | with_reducible rfl | exact rfl
      refine CallC.useX (fun i => if i = 57 then 143 else 144) [57, 10] (by simp [LitD, hR.2.1]) (gvFX hP hG (own_okX gG (madeM l) hsz)) rfl (lentX_of hN (by first | trivial | ((try simp only [haveL, AObj.ren, AV.ren, renL, ren_row, List.map_cons, List.map_nil, objL_cons, objL_nil]) <;> ((repeat' apply And.intro) <;> first | trivial | rfl))) (by rfl)) ?_
      try simp (maxSteps := 2000000) (disch := omega) only [avR2, avA, datsOf, fillA, seval, ↓List.forall_mem_cons, Op.operands, hA, tiA, avX]
      first | exact ⟨rfl, rfl⟩ | ((repeat' first | refine And.intro ?_ ?_ | intro _) <;> first | with_reducible rfl | assumption | omega | rfl | (rename_i hq; rw [hq]; rfl) | (simp_all; done))
    apply aw_regs [1, 13, 14, 17, 18, 23, 24, 25] [25, 91, 92, 93, 99, 100, 140, 141, 40, 143, 144, 78]
    · simp (disch := omega) only [avR2, avA, datsOf, fillA, seval, ↓List.forall_mem_cons, Op.operands, hA, tiA, row_len]
      first | exact ⟨rfl, rfl⟩ | ((repeat' first | refine And.intro ?_ ?_ | intro _) <;> first | with_reducible rfl | assumption | omega | rfl | (rename_i hq; rw [hq]; rfl) | (simp_all; done))
    apply aw_rgds [13, 14, 17, 18, 23, 24, 25] [25, 91, 92, 93, 99, 100, 140, 141, 40, 143, 144, 78] [0, 1, 2, 3, 4, 5, 6, 7] [100]
    · rw [hP]; kernel_rfl
    · exact hR
    · kernel_rfl
    · (repeat (apply PickL.cons; exact rfl)); exact PickL.nil _
    · simp (disch := omega) only [avR2, avA, datsOf, fillA, seval, ↓List.forall_mem_cons, Op.operands, hA, tiA, row_len]
      (repeat' refine And.intro ?_ ?_) <;> try first | omega | assumption | with_reducible rfl | exact rfl | (intro hside; (repeat' refine And.intro ?_ ?_) <;> first | exact hside | omega | (rw [hside]; rfl) | (simp_all; done))
      refine CallC.use (gvF hP hG (around_ok gG mo 9 hmo (by omega) i9)) rfl ?_
      try simp (maxSteps := 2000000) (disch := omega) only [avR2, avA, datsOf, fillA, seval, ↓List.forall_mem_cons, Op.operands, hA, tiA]
      first | exact ⟨rfl, rfl⟩ | ((repeat' first | refine And.intro ?_ ?_ | intro _) <;> first | with_reducible rfl | assumption | omega | rfl | (rename_i hq; rw [hq]; rfl) | (simp_all; done))
    refine aw_frz 93 hR.2.2.2 rfl (ds := ((madeM l).items ++ [[(aroundM ln 9, aroundM tn 9)]]).map osD) ((datE_app0 ((madeM l).items.map osD) (osD [(aroundM ln 9, aroundM tn 9)])).trans (by simp)) ?_
    refine aw_frz 100 hR.2.2.2 rfl (ds := ((madeM l).weights ++ [aroundM mo 9]).map iD) ((datE_app1 ((madeM l).weights.map iD) (iD (aroundM mo 9))).trans (by simp)) ?_
    apply aw_regs [13, 14, 17, 18, 23, 24, 27, 28] [140, 141, 40, 143, 144, 78, 93, 100]
    · simp (disch := omega) only [avR2, avA, datsOf, fillA, seval, ↓List.forall_mem_cons, Op.operands, hA, tiA, hwl, Nat.le_refl, htk1, htk2]
      (repeat' refine And.intro ?_ ?_) <;> try first | omega | assumption | with_reducible rfl | exact rfl | (intro hside; (repeat' refine And.intro ?_ ?_) <;> first | exact hside | omega | (rw [hside]; rfl) | (simp_all; done))
      refine CallC.use (gvF hP hG (best_ok (moreC (madeM l) (aroundM ln 9, aroundM tn 9) (aroundM mo 9)) hsC)) rfl ?_
      try simp (maxSteps := 2000000) (disch := omega) only [avR2, avA, datsOf, fillA, seval, ↓List.forall_mem_cons, Op.operands, hA, tiA]
      first | exact ⟨rfl, rfl⟩ | ((repeat' first | refine And.intro ?_ ?_ | intro _) <;> first | with_reducible rfl | assumption | omega | rfl | (rename_i hq; rw [hq]; rfl) | (simp_all; done))
    apply aw_seq
    apply aw_regs [13, 14, 17, 18, 23, 24, 27, 28, 109] [140, 141, 40, 143, 144, 78, 93, 100]
    · simp (disch := omega) only [avR2, avA, datsOf, fillA, seval, ↓List.forall_mem_cons, Op.operands, hA, tiA]
      first | exact ⟨rfl, rfl⟩ | ((repeat' first | refine And.intro ?_ ?_ | intro _) <;> first | with_reducible rfl | assumption | omega | rfl | (rename_i hq; rw [hq]; rfl) | (simp_all; done))
    refine aw_if _ rfl (fun hb => ?_) (fun hb => ?_) <;> (try simp only [pickB_true, pickB_false, Bool.false_or, Bool.false_and, Bool.true_and, decide_eq_true_eq, decide_eq_false_iff_not, Bool.or_eq_true, Bool.and_eq_true, Bool.or_eq_false_iff, Bool.and_eq_false_imp, Bool.not_eq_true, Bool.not_eq_false, Bool.not_eq_eq_eq_not, Bool.not_true, Bool.not_false, Int.not_lt, Int.not_le, beq_iff_eq, beq_eq_false_iff_ne, bne_iff_ne, bne_eq_false_iff_eq, ne_eq, Bool.true_eq_false, Bool.false_eq_true, if_false_left, if_true_left, Bool.not_eq_eq_eq_not, Bool.decide_eq_true, Classical.not_not] at hb)
    · skip
      have h21 : (bestM (madeM l)).2.2 = 21 := by omega
      have hc21 : (bestM (moreC (madeM l) (aroundM ln 9, aroundM tn 9) (aroundM mo 9))).2.2 = 21 := by omega
      apply aw_regs [10] [140, 141, 40, 143, 144, 78, 93, 100]
      · simp (disch := omega) only [avR2, avA, datsOf, fillA, seval, ↓List.forall_mem_cons, Op.operands, hA, tiA, h21, hc21, beq_self_eq_true]
        (repeat' refine And.intro ?_ ?_) <;> try first | omega | assumption | with_reducible rfl | exact rfl | (intro hside; (repeat' refine And.intro ?_ ?_) <;> first | exact hside | omega | (rw [hside]; rfl) | (simp_all; done))
        refine CallGC.use rfl (fun hg => ⟨by simp_all [gdAll], gvF hP hG (lives_ok)⟩) ?_
        try simp (maxSteps := 2000000) (disch := omega) only [avR2, avA, datsOf, fillA, seval, ↓List.forall_mem_cons, Op.operands, hA, tiA, h21, hc21, beq_self_eq_true]
        first | exact ⟨rfl, rfl⟩ | ((repeat' first | refine And.intro ?_ ?_ | intro _) <;> first | with_reducible rfl | assumption | omega | rfl | (rename_i hq; rw [hq]; rfl) | (simp_all; done))
      apply aw_ret
      apply q_ret_seq
      simp only [QRet, QRetM, QRetX, retsX_nil, retsX_cons, objsAre, Tryd.results5, resA, mapO_nil, mapO_cons, vD_dat, vD_nils, vD_rp, vD_osl, vD_ptr, vD_agg, vD_fn, vL_dat, vL_app, viewL, avA, datsOf, fillA, seval, ↓List.forall_mem_cons, Op.operands, hP, hG, tiA]
    · skip
      have h0 : (bestM (madeM l)).2.2 = 0 := by omega
      obtain ⟨a1, a2⟩ := heA h0
      obtain ⟨b1, b2⟩ := hB.2 h0
      have a3 := decide_eq_true a2
      have b3 := decide_eq_true b2
      apply aw_skip
      apply q_seq
      by_cases hq : (bestM (moreC (madeM l) (aroundM ln 9, aroundM tn 9) (aroundM mo 9))).2.2 = 0
      · skip
        have c1 := hq
        have c3 := decide_eq_true (heC hq).2
        apply aw_regs [10] [140, 141, 40, 143, 144, 78, 93, 100]
        · simp (maxSteps := 2000000) (disch := omega) only [avR2, avA, datsOf, fillA, seval, ↓List.forall_mem_cons, Op.operands, hA, tiA, a1, a3, b1, b3, c1, c3, h0, beq_self_eq_true, Bool.false_and, Bool.or_true]
          (repeat' refine And.intro ?_ ?_) <;> try first | omega | assumption | with_reducible rfl | exact rfl | (intro hside; (repeat' refine And.intro ?_ ?_) <;> first | exact hside | omega | (rw [hside]; rfl) | (simp_all; done))
          refine CallGC.use rfl (fun hg => ⟨by simp_all [gdAll], gvF hP hG (lives_ok)⟩) ?_
          try simp (maxSteps := 2000000) (disch := omega) only [avR2, avA, datsOf, fillA, seval, ↓List.forall_mem_cons, Op.operands, hA, tiA, a1, a3, b1, b3, c1, c3, beq_self_eq_true, Bool.false_and, Bool.or_true]
          first | exact ⟨rfl, rfl⟩ | ((repeat' first | refine And.intro ?_ ?_ | intro _) <;> first | with_reducible rfl | assumption | omega | rfl | (rename_i hq; rw [hq]; rfl) | (simp_all; done))
        apply aw_ret
        simp only [QRet, QRetM, QRetX, retsX_nil, retsX_cons, objsAre, Tryd.results5, resA, mapO_nil, mapO_cons, vD_dat, vD_nils, vD_rp, vD_osl, vD_ptr, vD_agg, vD_fn, vL_dat, vL_app, viewL, avA, datsOf, fillA, seval, ↓List.forall_mem_cons, Op.operands, hP, hG, tiA]
      · skip
        have c1 : (bestM (moreC (madeM l) (aroundM ln 9, aroundM tn 9) (aroundM mo 9))).2.2 = 21 := by omega
        have c3 := hq
        apply aw_regs [10] [140, 141, 40, 143, 144, 78, 93, 100]
        · simp (maxSteps := 2000000) (disch := omega) only [avR2, avA, datsOf, fillA, seval, ↓List.forall_mem_cons, Op.operands, hA, tiA, a1, a3, b1, b3, c1, c3, h0, beq_self_eq_true, Bool.false_and, Bool.or_true]
          (repeat' refine And.intro ?_ ?_) <;> try first | omega | assumption | with_reducible rfl | exact rfl | (intro hside; (repeat' refine And.intro ?_ ?_) <;> first | exact hside | omega | (rw [hside]; rfl) | (simp_all; done))
          refine CallGC.use rfl (fun hg => ⟨by simp_all [gdAll], gvF hP hG (lives_ok)⟩) ?_
          try simp (maxSteps := 2000000) (disch := omega) only [avR2, avA, datsOf, fillA, seval, ↓List.forall_mem_cons, Op.operands, hA, tiA, a1, a3, b1, b3, c1, c3, beq_self_eq_true, Bool.false_and, Bool.or_true]
          first | exact ⟨rfl, rfl⟩ | ((repeat' first | refine And.intro ?_ ?_ | intro _) <;> first | with_reducible rfl | assumption | omega | rfl | (rename_i hq; rw [hq]; rfl) | (simp_all; done))
        apply aw_ret
        simp only [QRet, QRetM, QRetX, retsX_nil, retsX_cons, objsAre, Tryd.results5, resA, mapO_nil, mapO_cons, vD_dat, vD_nils, vD_rp, vD_osl, vD_ptr, vD_agg, vD_fn, vL_dat, vL_app, viewL, avA, datsOf, fillA, seval, ↓List.forall_mem_cons, Op.operands, hP, hG, tiA]

end Go.Proofs.YthcfjdkflmkhbaaDoor

namespace Go.Proofs.YthcfjdkflmkhbaaDoor
open Go.Av Go.ChangeShapes Go.WideShapes Go.ChangeAt Go.RowKit

abbrev Old (w : World) : Nat → Nat → Prop := fun b _ => b < w.heap.size

theorem cell_spot {w : World} {a : Addr} {v : Value} (h : w.cell? a = some v) : a.spot = none ∧ a.block < w.heap.size := by
  unfold World.cell? at h
  split at h
  · rename_i c e f hb
    split at h
    · cases h
    · rename_i hs
      exact ⟨by simpa using hs, (Array.getElem?_eq_some_iff.1 hb).1⟩
  · cases h
theorem addr_none {a : Addr} (h : a.spot = none) (n : Nat) : a.add n = ⟨a.block, a.off + n, none⟩ := by
  obtain ⟨b, o, s⟩ := a
  simp only at h
  subst h
  exact add_none b o n
theorem add_spot {a : Addr} (h : (a.add 0).spot = none) : a.spot = none := by
  obtain ⟨b, o, s⟩ := a
  cases s with
  | none => rfl
  | some s => simp [Addr.add] at h
theorem wf_i64 {n : Int} (h : (Lit.int .i64 n).wf = true) : I64 n := by
  simp only [Lit.wf, Bool.and_eq_true, decide_eq_true_eq] at h
  unfold I64
  have h1 : IntKind.i64.min = -9223372036854775808 := by decide
  have h2 : IntKind.i64.max = 9223372036854775807 := by decide
  omega

theorem rep_ints {w : World} {b : Nat} (hb : b < w.heap.size) : ∀ (zs : List Int) (off : Nat), (∀ i, i < zs.length → w.cell? ⟨b, off + i, none⟩ = some (.int .i64 (zs.getD i 0))) → RepS (Old w) w 1 (zs.map iD) (some ⟨b, off, none⟩)
  | [], _, _ => by simp [RepS]
  | z :: zs, off, h => by
    simp only [List.map_cons, RepS]
    refine ⟨b, off, rfl, by simp, ?_, rep_ints hb zs (off + 1) fun i hi => ?_⟩
    · have := h 0 (by simp)
      simp only [RepAt]
      exact ⟨hb, by simpa using this⟩
    · have := h (i + 1) (by simp; omega)
      rw [show off + 1 + i = off + (i + 1) by omega]
      simpa using this

section
variable {H : Type} {enc : TypeId × Value → H} {P : Program} {w : World}

theorem slice_of {r : Reach} {base : Nat} {t e : TypeId} {v : Value} (ht : P.underlying t = some (.slice e)) (hv : Value.okWide P w r base t v) : ∃ a len cap, v = .slice a len cap := by
  simp only [Value.okWide, ht, Cell.okWide, Cell.ok] at hv
  cases v <;> simp at hv
  exact ⟨_, _, _, rfl⟩

theorem ints_in {r : Reach} {base : Nat} {t e : TypeId} {v : Value} {d : DataW H} {ps : List MemPlace} {sp : Nat → Bool} {held : Bool} (ht : P.underlying t = some (.slice e)) (he : P.underlying e = some (.int .i64)) (hc : P.cellsOf e = 1)
    (hv : Value.okWide P w r base t v) (hd : DataW.Trod enc P w 0 sp held t v d ps) : ∃ zs : List Int, (∀ z ∈ zs, I64 z) ∧ RepX (Old w) w (isD zs) v := by
  obtain ⟨a, len, cap, rfl⟩ := slice_of ht hv
  obtain ⟨fuel, hd⟩ := hd
  rcases open_ints ht he hc hd with ⟨h1, _⟩ | ⟨a', len', cap', zs, h1, _, hl, _, hz, _, hcell, hwf⟩
  · simp [Value.cells] at h1
    obtain ⟨rfl, rfl, rfl⟩ := h1
    refine ⟨[], by simp, ?_⟩
    simp only [RepX]
    exact ⟨1, none, 0, rfl, by simp, by simp [RepS]⟩
  · simp [Value.cells] at h1
    obtain ⟨rfl, rfl, rfl⟩ := h1
    have hlz : len ≤ zs.length := by rw [hz]; split <;> omega
    refine ⟨zs.take len, fun z hz' => wf_i64 (hwf z (List.mem_of_mem_take hz')), ?_⟩
    simp only [RepX]
    refine ⟨1, some a', cap, by simp [Nat.min_eq_left hlz], by simp [Nat.min_eq_left hlz, hl], ?_⟩
    cases zs with
    | nil => simp [RepS]
    | cons z zs =>
      obtain ⟨hs, hb⟩ := cell_spot (hcell 0 (by simp))
      have hs := add_spot hs
      rw [addr_none hs 0] at hb
      simp only at hb
      have ha : a' = ⟨a'.block, a'.off, none⟩ := by
        obtain ⟨b, o, s⟩ := a'
        simp only at hs
        subst hs
        rfl
      rw [ha]
      refine rep_ints hb _ _ fun i hi => ?_
      have h2 := hcell i (by simp at hi; simp; omega)
      rw [addr_none hs i] at h2
      rw [h2]
      simp at hi
      simp [List.getD_eq_getElem?_getD, List.getElem?_take, show i < len by omega]

theorem four {cs : List Value} {m : Nat} {e : TypeId} {base : Nat} {sp : Nat → Bool} {held : Bool} {t : TypeId} {x : DataW H × List MemPlace} (ht : P.underlying t = some (.array 4 e)) (he : P.underlying e = some (.int .i64)) (hc : P.cellsOf e = 1) (hc4 : P.cellsOf t = 4)
    (h : DataW.trod enc P w base sp held m t cs = some x) : ∃ r : Int × Int × Int × Int, cs = [.int .i64 r.1, .int .i64 r.2.1, .int .i64 r.2.2.1, .int .i64 r.2.2.2] ∧ I64 r.1 ∧ I64 r.2.1 ∧ I64 r.2.2.1 ∧ I64 r.2.2.2 := by
  obtain ⟨xs, k, _, _, hl, hn, hx⟩ := DataW.trod_array ht h
  rw [hc4] at hl
  match cs, hl with
  | [c0, c1, c2, c3], _ =>
    have one : ∀ i, i < 4 → ∀ c, [c0, c1, c2, c3][i]? = some c → ∃ n, c = .int .i64 n ∧ I64 n := fun i hi c hci => by
      have h1 := hx i hi
      rw [hc, Nat.mul_one] at h1
      have h2 : (([c0, c1, c2, c3] : List Value).drop i).take 1 = [c] := by
        match i, hi with
        | 0, _ | 1, _ | 2, _ | 3, _ => simpa using hci
      rw [h2, List.getElem?_eq_getElem (by omega)] at h1
      obtain ⟨n, h3, _, h4⟩ := DataW.trod_int he h1
      simp at h3
      exact ⟨n, h3, wf_i64 h4⟩
    obtain ⟨n0, rfl, i0⟩ := one 0 (by omega) c0 rfl
    obtain ⟨n1, rfl, i1⟩ := one 1 (by omega) c1 rfl
    obtain ⟨n2, rfl, i2⟩ := one 2 (by omega) c2 rfl
    obtain ⟨n3, rfl, i3⟩ := one 3 (by omega) c3 rfl
    exact ⟨(n0, n1, n2, n3), rfl, i0, i1, i2, i3⟩

theorem rep_rows {b : Nat} (hb : b < w.heap.size) : ∀ (rs : List (Int × Int × Int × Int)) (off : Nat), (∀ i (r : Int × Int × Int × Int), rs[i]? = some r → w.cell? ⟨b, off + i * 4, none⟩ = some (.int .i64 r.1) ∧ w.cell? ⟨b, off + i * 4 + 1, none⟩ = some (.int .i64 r.2.1) ∧ w.cell? ⟨b, off + i * 4 + 2, none⟩ = some (.int .i64 r.2.2.1) ∧ w.cell? ⟨b, off + i * 4 + 3, none⟩ = some (.int .i64 r.2.2.2)) →
    RepS (Old w) w 4 (rs.map rD) (some ⟨b, off, none⟩)
  | [], _, _ => by simp [RepS]
  | r :: rs, off, h => by
    simp only [List.map_cons, RepS]
    refine ⟨b, off, rfl, by simp, ?_, rep_rows hb rs (off + 4) fun i q hq => ?_⟩
    · obtain ⟨h0, h1, h2, h3⟩ := h 0 r (by simp)
      simp only [Nat.zero_mul, Nat.add_zero] at h0 h1 h2 h3
      simp only [RepAt, RepC, Rep1]
      exact ⟨⟨hb, _, h0, rfl⟩, ⟨hb, _, h1, rfl⟩, ⟨hb, _, h2, rfl⟩, ⟨hb, _, h3, rfl⟩, trivial⟩
    · have := h (i + 1) q (by simpa using hq)
      rw [show off + 4 + i * 4 = off + (i + 1) * 4 by omega]
      exact this

theorem rows_in {r : Reach} {base : Nat} {t e f : TypeId} {v : Value} {d : DataW H} {ps : List MemPlace} {sp : Nat → Bool} {held : Bool} (ht : P.underlying t = some (.slice e)) (he : P.underlying e = some (.array 4 f)) (hf : P.underlying f = some (.int .i64)) (hc : P.cellsOf f = 1) (hc4 : P.cellsOf e = 4)
    (hv : Value.okWide P w r base t v) (hd : DataW.Trod enc P w 0 sp held t v d ps) : ∃ rs : List (Int × Int × Int × Int), (∀ r ∈ rs, I64 r.1 ∧ I64 r.2.1 ∧ I64 r.2.2.1 ∧ I64 r.2.2.2) ∧ RepX (Old w) w (.sl (rs.map rD)) v := by
  obtain ⟨a, len, cap, rfl⟩ := slice_of ht hv
  obtain ⟨fuel, hd⟩ := hd
  rcases DataW.trod_slice ht hd with ⟨h1, _⟩ | ⟨a', len', cap', elems, rest, n, _, h1, _, _, hl, _, hlen, hel, _, _⟩
  · simp [Value.cells] at h1
    obtain ⟨rfl, rfl, rfl⟩ := h1
    refine ⟨[], by simp, ?_⟩
    simp only [RepX]
    exact ⟨4, none, 0, rfl, by simp, by simp [RepS]⟩
  · simp [Value.cells] at h1
    obtain ⟨rfl, rfl, rfl⟩ := h1
    have hs0 : 0 < len → a'.spot = none := fun h0 => by
      have h2 := hel 0 h0
      rw [List.getElem?_eq_getElem (by omega), hc4, Option.bind_eq_some_iff, Nat.zero_mul] at h2
      obtain ⟨cs, h3, h4⟩ := h2
      obtain ⟨r, rfl, _⟩ := four he hf hc hc4 h4
      have c0 : w.cell? ((a'.add 0).add 0) = some (.int .i64 r.1) := (World.cells?_some h3).2.2 0 (by omega)
      exact add_spot (add_spot (cell_spot c0).1)
    have each : ∀ i, i < len → ∃ r : Int × Int × Int × Int, (a'.spot = none ∧ a'.block < w.heap.size) ∧ (w.cell? ⟨a'.block, a'.off + i * 4, none⟩ = some (.int .i64 r.1) ∧ w.cell? ⟨a'.block, a'.off + i * 4 + 1, none⟩ = some (.int .i64 r.2.1) ∧ w.cell? ⟨a'.block, a'.off + i * 4 + 2, none⟩ = some (.int .i64 r.2.2.1) ∧ w.cell? ⟨a'.block, a'.off + i * 4 + 3, none⟩ = some (.int .i64 r.2.2.2)) ∧ I64 r.1 ∧ I64 r.2.1 ∧ I64 r.2.2.1 ∧ I64 r.2.2.2 := fun i hi => by
      have h2 := hel i hi
      rw [List.getElem?_eq_getElem (by omega), hc4, Option.bind_eq_some_iff] at h2
      obtain ⟨cs, h3, h4⟩ := h2
      obtain ⟨r, rfl, hr⟩ := four he hf hc hc4 h4
      have h5 := (World.cells?_some h3).2.2
      have hs := hs0 (by omega)
      have c0 : w.cell? ((a'.add (i * 4)).add 0) = some (.int .i64 r.1) := h5 0 (by omega)
      have hsb := (cell_spot c0).2
      simp only [addr_none hs] at h5 hsb
      refine ⟨r, ⟨hs, hsb⟩, ⟨?_, ?_, ?_, ?_⟩, hr⟩
      · simpa [addr_none] using h5 0 (by omega)
      · simpa [addr_none] using h5 1 (by omega)
      · simpa [addr_none] using h5 2 (by omega)
      · simpa [addr_none] using h5 3 (by omega)
    let f := fun i => if h : i < len then (each i h).choose else default
    refine ⟨(List.range len).map f, fun r hr => ?_, ?_⟩
    · obtain ⟨i, hi, rfl⟩ := List.mem_map.1 hr
      have hi := List.mem_range.1 hi
      simp only [f, dif_pos hi]
      exact (each i hi).choose_spec.2.2
    · simp only [RepX]
      refine ⟨4, some a', cap, by simp, by simp [hl], ?_⟩
      by_cases h0 : len = 0
      · subst h0; simp [RepS]
      · obtain ⟨_, ⟨hs, hb⟩, _⟩ := each 0 (by omega)
        have ha : a' = ⟨a'.block, a'.off, none⟩ := by
          obtain ⟨b, o, s⟩ := a'
          simp only at hs
          subst hs
          rfl
        rw [ha]
        refine rep_rows hb _ _ fun i r hr => ?_
        have hi : i < len := by simpa using (List.getElem?_eq_some_iff.1 hr).1
        rw [List.getElem?_map, List.getElem?_range hi] at hr
        simp only [Option.map_some, Option.some.injEq, f, dif_pos hi] at hr
        rw [← hr]
        exact (each i hi).choose_spec.2.1

theorem same_of_ext {w' : World} (h : Ext (fun _ => False) w w') {p : MemPlace} (hp : p.block < w.heap.size) : w.sameAt w' p := by
  have hb := h.block p.block hp (fun f => f)
  cases p with
  | cell b off =>
    simp only [MemPlace.block] at hb
    simp only [World.sameAt, World.cell?, hb]
  | map b =>
    simp only [MemPlace.block] at hb
    simpa only [World.sameAt] using hb

theorem all_stays (hl : laidOutB P = true) {w' : World} {sp' : Nat → Bool} (hx : Ext (fun _ => False) w w') : ∀ {ts : List TypeId} {vs : List Value} {ds : List (DataW H)} {ps : List MemPlace}, (∀ t ∈ ts, P.readableRec t = true ∧ t < P.types.size) → DataW.TrodAll enc P w 0 (fun _ => true) true ts vs ds ps → (∀ p ∈ ps, p.block < w.heap.size) → (∀ p ∈ ps, sp' p.block = true) → DataW.TrodAll enc P w' 0 sp' true ts vs ds ps
  | [], [], [], _, _, h, _, _ => h
  | _ :: _, _ :: _, _ :: _, _, ht, ⟨p, q, h1, h2, e⟩, hb, hs => ⟨p, q,
      WideElems.Trod_stays hl (ht _ (List.mem_cons.2 (Or.inl rfl))).1 (ht _ (List.mem_cons.2 (Or.inl rfl))).2 h1 (fun x hx' => same_of_ext hx (hb x (by rw [e]; exact List.mem_append_left _ hx'))) (fun x hx' => hs x (by rw [e]; exact List.mem_append_left _ hx')),
      all_stays hl hx (fun t h => ht t (List.mem_cons.2 (Or.inr h))) h2 (fun x hx' => hb x (by rw [e]; exact List.mem_append_right _ hx')) (fun x hx' => hs x (by rw [e]; exact List.mem_append_right _ hx')), e⟩

theorem frozen_ext {w' : World} (h : Ext (fun _ => False) w w') {a : Addr} (ha : a.block < w.heap.size) : w'.frozen? a = w.frozen? a := by
  simp only [World.frozen?, h.block a.block ha (fun f => f)]

theorem kept_ext {w' : World} (h : Ext (fun _ => False) w w') (may : MemPlace → Prop) : w.keptBut w' may := by
  refine ⟨h.os, h.output, fun i hi => ?_⟩
  rw [h.block i hi (fun f => f)]
  cases w.heap[i]? with
  | none => rfl
  | some o => cases o with
    | cells c t fr => exact ⟨rfl, rfl, rfl, fun _ _ => rfl⟩
    | map es clock => exact .inr ⟨rfl, rfl⟩
    | _ => rfl

/-- The call answers true and leaves its arguments alone: what such a row asks. -/
theorem post_of_ext {f : Func} {s : ChangeSpec} {apart fresh handsOn again : Bool} {W W' : World} {args : Array Value} {ds gs : List (DataW H)} {before : List MemPlace} (hl : laidOutB P = true)
    (hrd : ∀ t ∈ f.params.toList, P.readableRec t = true ∧ t < P.types.size) {tb : TypeId} (hres : f.resultTypes = #[tb]) (htb : P.underlying tb = some .bool)
    (hvars : s.vars = []) (hfn : s.fn H ds = { results := [.lit (.bool true)], args := ds })
    (hW : DataW.Whole enc P f.params.toList s.vars apart W args.toList ds gs before) (hx : Ext (fun _ => False) W W') :
    s.post enc P f apart fresh handsOn again W args (.bool true) W' := by
  have hW0 := hW
  obtain ⟨p, q, hA, hV, hpq, hz, hn⟩ := hW
  rw [hvars] at hV
  obtain ⟨rfl, rfl⟩ := trodVars_none hV
  simp only [List.append_nil] at hpq
  subst hpq
  have hlt : ∀ x ∈ before, x.block < W.heap.size := fun x h => hW0.lt x h
  have hold : ∀ x ∈ before, (fun b => decide (b < W.heap.size)) x.block = true := fun x h => by simpa using hlt x h
  have hR : ∀ (b : Nat) (sp : Nat → Bool) (hd : Bool), DataW.TrodAll enc P W' b sp hd f.resultTypes.toList ((Value.bool true).resultList f.resultTypes.size) [.lit (.bool true)] [] := fun b sp hd => by
    rw [hres]
    exact trodAll_cons_mk (shut_bool htb _) trodAll_mk0
  have hAr : ∀ sp : Nat → Bool, (∀ x ∈ before, sp x.block = true) → DataW.TrodAll enc P W' 0 sp true f.params.toList args.toList ds before := fun sp hs => all_stays hl hx hrd hA hlt hs
  refine ⟨ds, [], before, [], before, [], hW0, ?_, ?_, ?_, ?_, fun _ => ?_⟩
  · rw [List.append_nil, hfn]; exact hR _ _ _
  · rw [List.append_nil, hfn]; exact hAr _ hold
  · rw [List.append_nil, hfn, hvars]; rfl
  · exact kept_ext hx _
  · refine ⟨?_, [.lit (.bool true)] ++ ds, [], ([] ++ before) ++ [], ⟨[] ++ before, [], trodAll_append (hAr _ (fun _ _ => rfl)) (hR _ _ _), ?_, rfl, ?_, ?_⟩, ?_⟩
    · exact ok_one hres rfl (okWide_bool_mk htb _)
    · rw [hvars]; rfl
    · intro b off hp
      have hp : MemPlace.cell b off ∈ before := by simpa using hp
      rw [frozen_ext hx (hlt _ hp)]
      exact hz b off hp
    · intro ha
      simpa using hn ha
    · intro x hx' _
      simpa using hx'
end

end Go.Proofs.YthcfjdkflmkhbaaDoor

namespace Go.Proofs.YthcfjdkflmkhbaaDoor
open Go.Av Go.ChangeShapes Go.WideShapes Go.ChangeAt Go.RowKit

theorem ownG : ownKnob Tryd.prog.godebug = none := by kernel_rfl
theorem gTab : Tryd.prog.globalNamed "passim/choose.none" = some 0 := by kernel_rfl
theorem gTabType : (Tryd.prog.globals[0]?).map (·.type) = some 97 := by kernel_rfl
theorem cells97 : Tryd.prog.cellsOf 97 = 2 := by kernel_rfl
theorem cells84 : Tryd.prog.cellsOf 84 = 4 := by kernel_rfl
theorem cells3 : Tryd.prog.cellsOf 3 = 1 := by kernel_rfl
theorem laidB : laidOutB Tryd.prog = true := by kernel_rfl

/-- What the row's list gives: the variable's cells. -/
theorem gok {W : World} (h : laidMetH Tryd.prog Rows.chooseCostsRow.laid W) : GOK gG W := by
  have ht : Lib.TabIs Tryd.prog W "passim/choose.none" .i64 [-1, -1] := Lib.tabIs_of_head (rest := []) gTab gTabType Tryd.underlying97 Tryd.underlying3 cells3 cells97 h
  have c0 : W.cell? ⟨0, 0, none⟩ = some (.int .i64 (-1)) := ht.cell gTab 0 (by decide)
  have c1 : W.cell? ⟨0, 1, none⟩ = some (.int .i64 (-1)) := ht.cell gTab 1 (by decide)
  intro p hp
  simp only [gG, List.mem_cons, List.not_mem_nil, or_false] at hp
  subst hp
  refine ⟨(cell_spot c0).2, ?_⟩
  simp only [Dat.cells_agg, RepC, Rep1]
  exact ⟨⟨trivial, _, c0, rfl⟩, ⟨trivial, _, c1, rfl⟩, trivial⟩

end Go.Proofs.YthcfjdkflmkhbaaDoor

