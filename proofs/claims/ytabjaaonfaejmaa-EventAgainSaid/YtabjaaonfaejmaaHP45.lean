/- Contracts: the reader of operations. -/
import Derived.Test.YtabjaaonfaejmaaHP44
import Derived.Test.YtabjaaonfaejmaaHP42
import Derived.Test.YtabjaaonfaejmaaHP43
import Derived.Test.YtabjaaonfaejmaaHAv51
import Derived.Test.YtabjaaonfaejmaaHAv50
import Derived.Test.YtabjaaonfaejmaaRows
import Derived.WalkKit
import Derived.ProofKit
import Derived.OpenShut
import Derived.WideKeyArgs
import Derived.Deep.DeepHandedRow
import Derived.Lib.LaidTab
set_option linter.all false
namespace Go.Proofs.Ytabjaaonfaejmaa
open Go.Av
abbrev erD (b : List Int) (a : Nat) (er : Int) : Dat := .agg [u8sD b, iD a, iD er]
def eintsM (b : List Int) (a : Nat) (er : Int) (n : Nat) (just : Bool) : List Int × Nat × Int :=
  if er ≠ 0 then ([], a, er)
  else if (getIntsM (b.drop a)).2.2 ≠ 0 then ([], a, (getIntsM (b.drop a)).2.2)
  else if ¬((getIntsM (b.drop a)).1.length : Int).tmod n = 0 ∨ (just = true ∧ ¬((getIntsM (b.drop a)).1.length : Int) = n) then ([], a, 2)
  else ((getIntsM (b.drop a)).1, a + (getIntsM (b.drop a)).2.1, 0)
theorem getInts_at {b : List Int} (hb : isB b) : (getIntsM b).2.1 ≤ b.length ∧ ((getIntsM b).2.2 = 0 → (getIntsM b).1.length ≤ b.length) := by
  unfold getIntsM
  split
  · rename_i h; exact ⟨Nat.zero_le _, fun h2 => absurd h2 h⟩
  · rename_i h
    obtain ⟨h1, h2, h3, h4⟩ := countM_ok hb (by omega)
    have h5 := getInt_rng hb
    refine ⟨intsL_at hb (by rw [h1]; omega) _, fun h6 => ?_⟩
    rw [intsL_len _ h6, h1]
    omega
theorem isD_nil : isD [] = .sl [] := rfl
theorem exD (d0 : Dat) : (∃ d, AV.dat d0 = AV.dat d ∧ some d0 = some d) = True := eq_true ⟨d0, rfl, rfl⟩
theorem eints_ok2 {b : List Int} {a : Nat} {er : Int} {n : Nat} {just : Bool} (h0 : er = 0) (h : (getIntsM (b.drop a)).2.2 = 0 ∧ (¬((getIntsM (b.drop a)).1.length : Int).tmod n = 0 ∨ (just = true ∧ ¬((getIntsM (b.drop a)).1.length : Int) = n))) : eintsM b a er n just = ([], a, 2) := by
  unfold eintsM
  rw [if_neg (by omega), if_neg (by omega), if_pos h.2]
theorem eints_ok3 {b : List Int} {a : Nat} {er : Int} {n : Nat} {just : Bool} (h0 : er = 0) (h : (getIntsM (b.drop a)).2.2 = 0 → ((getIntsM (b.drop a)).1.length : Int).tmod n = 0 ∧ (just = true → ((getIntsM (b.drop a)).1.length : Int) = n)) :
    eintsM b a er n just = if ¬ (getIntsM (b.drop a)).2.2 = 0 then ([], a, (getIntsM (b.drop a)).2.2) else ((getIntsM (b.drop a)).1, a + (getIntsM (b.drop a)).2.1, 0) := by
  unfold eintsM
  rw [if_neg (by omega)]
  split
  · rfl
  · rename_i h1
    have h2 := h (by omega)
    rw [if_neg (fun h3 => h3.elim (fun h4 => h4 h2.1) fun h4 => h4.2 (h2.2 h4.1))]
set_option maxRecDepth 100000 in
theorem eints_okX (G) (b : List Int) (a : Nat) (er : Int) (n : Nat) (just : Bool) (hib : isB b) (hl : b.length ≤ 1099511627776) (ha : a ≤ b.length) (hn : 1 ≤ n ∧ n ≤ 100) : GivesX Try.prog G 109 [.ptr 1000 3 0 0, .dat (iD n), .dat (bD just)] [(1000, ⟨3, [.dat (erD b a er)]⟩)] [.dat (isD (eintsM b a er n just).1)] [(1000, ⟨3, [.dat (erD b (eintsM b a er n just).2.1 (eintsM b a er n just).2.2)]⟩)] := by
  have hdl : (b.drop a).length = b.length - a := List.length_drop
  have hat := getInts_at (isB_drop hib a)
  have hcast : IntKind.i64.wrap ((a : Int) + ((getIntsM (b.drop a)).2.1 : Int)) = ((a + (getIntsM (b.drop a)).2.1 : Nat) : Int) := by rw [IntWalk.i64_in _ (by have := hat.1; omega)]; omega
  skip
  skip
  refine gives_introX' [] [] [] Try.func109 rfl (by rfl) (by simp [Try.ntmps109]) (by kernel_rfl) (by simp [onlyL_nil, onlyL_cons, AV.only, inIds]) (by simp only [onlyOs, onlyL_nil, onlyL_cons, onlyL_append, onlyL_dats, onlyL_row, AV.only, Bool.and_true] <;> simp [inIds]) fun F hP hG hN hR => ?_
  rw [Try.ntmps109] at hN
  have hA := And.intro hN (And.intro hP (And.intro hG (And.intro hR.1 (And.intro hR.2.1 hR.2.2.1))))
  have hE := And.intro @Try.results109 (And.intro @isD_nil (And.intro @exD (@hcast)))
  refine WS [0, 1, 2] [1000] ?_
  apply aw_seq
  refine WS [0, 1, 2, 14] [1000] ?_
  refine WI (fun hb => ?_) (fun hb => ?_)
  · skip
    have hv : eintsM b a er n just = ([], a, er) := if_pos hb
    have hE := And.intro hE hv
    refine WS [6] [1000] ?_
    apply aw_ret
    apply q_ret_seq
    simp only [QRet, QRetM, QRetX, retsX_nil, retsX_cons, objsAre, resA, mapO_nil, mapO_cons, vD_dat, vD_nils, vD_rp, vD_osl, vD_ptr, vD_agg, vD_fn, vD_isl, vL_dat, vL_app, viewL, avA, datsOf, fillA, seval, ↓List.forall_mem_cons, Op.operands, hP, hG, tiA, hE]
    all_goals try (first | done | rfl | trivial)
  · skip
    have h0 : er = 0 := hb
    subst h0
    apply aw_skip
    apply q_seq
    apply aw_rgds [0, 1, 2, 7, 8, 9] [1000] [0, 1, 2, 3, 4, 5, 6, 7, 8, 9, 10, 11, 12, 13, 14, 15, 16] []
    · rw [hP]; kernel_rfl
    · exact hR
    · kernel_rfl
    · (repeat (apply PickL.cons; exact rfl)); exact PickL.nil _
    · simp (maxSteps := 2000000) (disch := omega) only [avR2, avA, datsOf, fillA, seval, ↓List.forall_mem_cons, Op.operands, hA, tiA, hE]
      (repeat' refine And.intro ?_ ?_) <;> try exact SD
      refine CallC.use (gvF hP hG (getInts_ok G (b.drop a) (isB_drop hib a) (by omega))) rfl ?_
      try simp (maxSteps := 2000000) (disch := omega) only [avR2, avA, datsOf, fillA, seval, ↓List.forall_mem_cons, Op.operands, hA, tiA, hE]
      exact SC
    apply aw_seq
    refine WS [0, 7, 8, 9, 46] [1000] ?_
    refine WI (fun hb => ?_) (fun hb => ?_)
    · skip
      have hv := eints_ok2 rfl hb
      have hE := And.intro hE hv
      refine WQ [0, 7, 8, 9] [1000] ?_
      apply q_seq
      apply aw_seq
      refine WS [0, 7, 8, 9, 48] [1000] ?_
      refine WI (fun hb => ?_) (fun hb => ?_)
      · skip
        have hE := And.intro hE hb
        refine WS [] [1000] ?_
        refine WS [6] [1000] ?_
        apply aw_ret
        apply q_ret_seq
        simp only [QRet, QRetM, QRetX, retsX_nil, retsX_cons, objsAre, resA, mapO_nil, mapO_cons, vD_dat, vD_nils, vD_rp, vD_osl, vD_ptr, vD_agg, vD_fn, vD_isl, vL_dat, vL_app, viewL, avA, datsOf, fillA, seval, ↓List.forall_mem_cons, Op.operands, hP, hG, tiA, hE]
        all_goals try (first | done | rfl | trivial)
      · skip
        have hE := And.intro hE hb
        apply aw_skip
        apply q_seq
        refine WS [7] [1000] ?_
        refine WS [6] [1000] ?_
        apply aw_ret
        simp only [QRet, QRetM, QRetX, retsX_nil, retsX_cons, objsAre, resA, mapO_nil, mapO_cons, vD_dat, vD_nils, vD_rp, vD_osl, vD_ptr, vD_agg, vD_fn, vD_isl, vL_dat, vL_app, viewL, avA, datsOf, fillA, seval, ↓List.forall_mem_cons, Op.operands, hP, hG, tiA, hE]
        all_goals try (first | done | rfl | trivial)
    · skip
      have hv := eints_ok3 rfl hb
      have hE := And.intro hE hv
      apply aw_skip
      apply q_seq
      apply aw_seq
      refine WS [0, 7, 8, 9, 48] [1000] ?_
      refine WI (fun hb => ?_) (fun hb => ?_)
      · skip
        have hE := And.intro hE hb
        refine WS [] [1000] ?_
        refine WS [6] [1000] ?_
        apply aw_ret
        apply q_ret_seq
        simp only [QRet, QRetM, QRetX, retsX_nil, retsX_cons, objsAre, resA, mapO_nil, mapO_cons, vD_dat, vD_nils, vD_rp, vD_osl, vD_ptr, vD_agg, vD_fn, vD_isl, vL_dat, vL_app, viewL, avA, datsOf, fillA, seval, ↓List.forall_mem_cons, Op.operands, hP, hG, tiA, hE]
        all_goals try (first | done | rfl | trivial)
      · skip
        have hE := And.intro hE hb
        apply aw_skip
        apply q_seq
        refine WS [7] [1000] ?_
        refine WS [6] [1000] ?_
        apply aw_ret
        simp only [QRet, QRetM, QRetX, retsX_nil, retsX_cons, objsAre, resA, mapO_nil, mapO_cons, vD_dat, vD_nils, vD_rp, vD_osl, vD_ptr, vD_agg, vD_fn, vD_isl, vL_dat, vL_app, viewL, avA, datsOf, fillA, seval, ↓List.forall_mem_cons, Op.operands, hP, hG, tiA, hE]
        all_goals try (first | done | rfl | trivial)
end Go.Proofs.Ytabjaaonfaejmaa

namespace Go.Proofs.Ytabjaaonfaejmaa
open Go.Av
def pieceM (l : List Int) (n k : Nat) : List Int := (l.drop (k * n)).take n
def piecesM (l : List Int) (n q : Nat) : List (List Dat) := (List.range q).map fun k => [isD (pieceM l n k)]
theorem pieces_get {l : List Int} {n q k : Nat} {x : List Dat} (h : (piecesM l n q)[k]? = some x) : k < q ∧ x = [isD (pieceM l n k)] := by
  unfold piecesM at h
  rw [List.getElem?_map] at h
  cases hr : (List.range q)[k]? with
  | none => rw [hr] at h; simp at h
  | some i =>
    rw [hr] at h
    simp only [Option.map_some, Option.some.injEq] at h
    have := List.getElem?_eq_some_iff.1 hr
    obtain ⟨h1, h2⟩ := this
    simp at h1 h2
    subst h2
    exact ⟨h1, h.symm⟩
theorem chunk_seq (l : List Int) (n q : Nat) (hn : 0 < n) (hl : l.length = q * n) (hb : l.length ≤ 1000000) : SeqOK Try.prog 121 [.ref (isD l), .ref (iD n)] (piecesM l n q) := by
  refine seq_intro [] [] [] Try.func121 rfl (by rfl) Try.results121 (by simp [Try.ntmps121]) fun y W1 S J Jx hJ hJx hY => ?_
  obtain ⟨F, hF⟩ : ∃ F, F = itF Try.prog Try.f121.ntmps W1 S [] [] [] := ⟨_, rfl⟩
  rw [← hF]
  have hN : F.N = 31 := by rw [hF]; exact Try.ntmps121
  have hP : F.P = Try.prog := by rw [hF]; rfl
  have hG : F.G = [] := by rw [hF]; rfl
  have hR : F.rows = [] ∧ F.lits = [] ∧ F.apps = [] ∧ True := by rw [hF]; exact ⟨rfl, rfl, rfl, trivial⟩
  have hA := And.intro hN (And.intro hP (And.intro hG (And.intro hR.1 (And.intro hR.2.1 hR.2.2.1))))
  have hE := @Try.results121
  have hxl : (piecesM l n q).length = q := by simp [piecesM]
  rw [hxl]
  refine JS [0, 1, 2, 4] ?_
  refine jw_block ?_
  refine jw_loop (ι := {k : Nat // k ≤ q}) (fun ⟨k, _⟩ => [(0, .raw (.func (.yield y) #[] #[])), (1, .dat (.ref (isD l))), (2, .dat (.ref (iD n))), (4, .dat (iD (k * n : Nat)))]) (fun ⟨k, _⟩ => J k) (fun ⟨k, _⟩ => q - k) ⟨0, by omega⟩ ?_ (fun w h => h) fun ⟨k, hk⟩ => ?_
  · exact ⟨rfl, rfl, rfl, by simp [envL], trivial⟩
  dsimp only
  apply jw_seq
  refine JS [0, 1, 2, 4, 9] ?_
  refine JI (fun hb => ?_) (fun hb => ?_)
  · have hkq : k < q := by
      rcases Nat.lt_or_ge k q with h | h
      · exact h
      · exfalso
        have : q * n ≤ k * n := Nat.mul_le_mul_right n h
        omega
    have hkn : k * n + n ≤ l.length := by
      have : (k + 1) * n ≤ q * n := Nat.mul_le_mul_right n hkq
      rw [Nat.add_mul] at this
      omega
    have hck : pieceM l n k = (l.drop (k * n)).take n := rfl
    have h5 : (if ((l.length - k * n : Nat) : Int) < (n : Int) then ((l.length - k * n : Nat) : Int) else (n : Int)) = (n : Int) := if_neg (by omega)
    have h6 : List.drop (k * n) (List.take (((k * n : Nat) : Int) + (n : Int)).toNat l) = pieceM l n k := by rw [hck, List.drop_take]; congr 1; omega
    have hE := And.intro hE (And.intro h5 h6)
    refine jw_skip ?_
    refine jq_seq ?_
    apply jw_seq
    apply jw_block
    refine JD [0, 1, 2, 4, 5] [0, 1, 2, 3, 4, 5, 6] ?_ (hJ k)
    apply jw_seq
    have hget : (piecesM l n q)[k]? = some [isD (pieceM l n k)] := by simp [piecesM, hkq]
    refine JY 10 [0, 1, 2, 4, 5, 19, 28] [0, 1, 2, 4, 30] [0, 1, 2, 4, 30] hF (hY k _ hget) ?_ ?_
    · refine jq_seq ?_
      refine JI (fun hb2 => ?_) (fun hb2 => ?_)
      · exact absurd hb2 (by decide)
      refine jw_skip ?_
      refine jq_block ?_
      refine jq_seq ?_
      refine JQ [0, 1, 2, 4] ?_
      refine ⟨⟨k + 1, hkq⟩, ?_, fun w h => h, by dsimp only; omega⟩
      have e1 : ((k * n : Nat) : Int) + (n : Int) = (((k + 1) * n : Nat) : Int) := by rw [Nat.add_mul]; omega
      exact ⟨rfl, rfl, rfl, by rw [← e1]; rfl, trivial⟩
    · refine jq_seq ?_
      refine JI (fun hb2 => ?_) (fun hb2 => ?_)
      · refine jw_ret ?_
        exact fun w hx => .inr ⟨k, hkq, hx⟩
      · exact absurd hb2 (by decide)
  · refine jw_exit ?_
    have hkq : k = q := by
      rcases Nat.lt_or_ge k q with h | h
      · exfalso
        have : (k + 1) * n ≤ q * n := Nat.mul_le_mul_right n h
        rw [Nat.add_mul] at this
        omega
      · omega
    subst hkq
    exact fun w h => .inl h
theorem chunk_ok (G) (l : List Int) (n : Nat) (hn : 1 ≤ n ∧ n ≤ 100) : Gives Try.prog G 112 [isD l, iD n] [.fn 121 [.ref (isD l), .ref (iD n)]] := by
  have hn1 : (1 : Int) ≤ (n : Int) := by omega
  refine gives_intro [] [] [] Try.func112 rfl (by rfl) (by simp [Try.ntmps112]) fun F hP hG hN hR => ?_
  rw [Try.ntmps112] at hN
  have hA := And.intro hN (And.intro hP (And.intro hG (And.intro hR.1 (And.intro hR.2.1 hR.2.2.1))))
  have hE := @Try.results112
  refine WS [2, 3] [2, 3] ?_
  apply aw_seq
  refine aw_frz 2 hR.2.2.2 rfl rfl ?_
  refine aw_frz 3 hR.2.2.2 rfl rfl ?_
  refine WS [2, 3, 6] [2, 3] ?_
  refine aw_iff (by first | exact rfl | (simp only [evA_tmp, of_env, envL_cons, envL_nil]; simp [*])) ?_
  apply aw_skip
  apply q_seq
  refine WS [4] [2, 3] ?_
  apply aw_ret
  simp only [QRet, QRetM, QRetX, retsX_nil, retsX_cons, objsAre, resA, mapO_nil, mapO_cons, vD_dat, vD_nils, vD_rp, vD_osl, vD_ptr, vD_agg, vD_fn, vD_isl, vL_dat, vL_app, viewL, avA, datsOf, fillA, seval, ↓List.forall_mem_cons, Op.operands, hP, hG, tiA, hE]
  all_goals try (first | done | rfl | trivial)
end Go.Proofs.Ytabjaaonfaejmaa

namespace Go.Proofs.Ytabjaaonfaejmaa
open Go.Av
def headOp (h : List Int) : OpM := ⟨h.getD 0 default, ⟨h.getD 1 default, h.getD 2 default, h.getD 3 default⟩, ⟨h.getD 4 default, h.getD 5 default, h.getD 6 default⟩, ⟨h.getD 7 default, h.getD 8 default, h.getD 9 default⟩, h.getD 10 default, h.getD 11 default, h.getD 12 default, ⟨#[]⟩, [], [], []⟩
def pairL (l : List Int) (k : Nat) : Int × Int := (l.getD (k * 2) default, l.getD (k * 2 + 1) default)
def pairsL (l : List Int) (k : Nat) : List (Int × Int) := (List.range k).map (pairL l)
def refL (l : List Int) (k : Nat) : IdM := ⟨l.getD (k * 3) default, l.getD (k * 3 + 1) default, l.getD (k * 3 + 2) default⟩
def refsL2 (l : List Int) (k : Nat) : List IdM := (List.range k).map (refL l)
def edH (b : List Int) : List Int × Nat × Int := eintsM b 0 0 13 true
def edT (b : List Int) : ByteArray × Int × Int := getBytesM (b.drop (edH b).2.1)
def edA1 (b : List Int) : Nat := (edH b).2.1 + (edT b).2.1.toNat
def edS (b : List Int) : List ByteArray × Nat × Int := getStrsM (b.drop (edA1 b))
def edA2 (b : List Int) : Nat := edA1 b + (edS b).2.1
def edP (b : List Int) : List Int × Nat × Int := eintsM b (edA2 b) (edS b).2.2 2 false
def edQ (b : List Int) : List Int × Nat × Int := eintsM b (edP b).2.1 (edP b).2.2 3 false
def editDecM (b : List Int) : OpM × Nat × Int :=
  if (edH b).2.2 ≠ 0 then (zOp, 0, (edH b).2.2)
  else if (edT b).2.2 ≠ 0 then (zOp, 0, (edT b).2.2)
  else if (edQ b).2.2 ≠ 0 then (zOp, 0, (edQ b).2.2)
  else ({ headOp (edH b).1 with Text := (edT b).1, Texts := (edS b).1, Pairs := pairsL (edP b).1 ((edP b).1.length / 2), Refs := refsL2 (edQ b).1 ((edQ b).1.length / 3) }, (edQ b).2.1, 0)
theorem eints_at {b : List Int} (hib : isB b) {a : Nat} (ha : a ≤ b.length) (er : Int) (n : Nat) (just : Bool) : (eintsM b a er n just).2.1 ≤ b.length ∧ (eintsM b a er n just).1.length ≤ b.length := by
  have h := getInts_at (isB_drop hib a)
  have hd : (b.drop a).length = b.length - a := List.length_drop
  unfold eintsM
  split
  · exact ⟨ha, Nat.zero_le _⟩
  split
  · exact ⟨ha, Nat.zero_le _⟩
  split
  · exact ⟨ha, Nat.zero_le _⟩
  · rename_i h1 h2 h3
    have h4 := h.1
    have h5 := h.2 (Classical.not_not.1 h2)
    exact ⟨by show a + _ ≤ _; omega, by show (getIntsM (b.drop a)).1.length ≤ _; omega⟩
theorem eints_good {b : List Int} {a : Nat} {er : Int} {n : Nat} {just : Bool} (h : (eintsM b a er n just).2.2 = 0) : er = 0 ∧ ((eintsM b a er n just).1.length : Int).tmod n = 0 ∧ (just = true → (eintsM b a er n just).1.length = n) := by
  unfold eintsM at h ⊢
  split at h
  · exact absurd h ‹_›
  split at h
  · exact absurd h ‹_›
  split at h
  · exact absurd h (by simp)
  · rename_i h1 h2 h3
    rw [if_neg h1, if_neg h2, if_neg h3]
    simp only [not_or, Classical.not_not, not_and] at h3
    exact ⟨by omega, h3.1, fun hj => by have := h3.2 hj; show (getIntsM (b.drop a)).1.length = n; omega⟩
theorem edT_at {b : List Int} (hib : isB b) : 0 ≤ (edT b).2.1 ∧ (edH b).2.1 + (edT b).2.1.toNat ≤ b.length := by
  have h1 := (eints_at hib (Nat.zero_le _) 0 13 true).1
  have h2 := getBytes_rng (isB_drop hib (edH b).2.1)
  have hd : (b.drop (edH b).2.1).length = b.length - (edH b).2.1 := List.length_drop
  rw [hd] at h2
  have h3 : (edH b).2.1 ≤ b.length := h1
  exact ⟨h2.1, by show _ + (getBytesM _).2.1.toNat ≤ _; omega⟩
theorem getStrs_at {b : List Int} (hb : isB b) : (getStrsM b).2.1 ≤ b.length := by
  unfold getStrsM
  split
  · exact Nat.zero_le _
  · rename_i h
    obtain ⟨h1, h2, h3, h4⟩ := countM_ok hb (by omega)
    have h5 := getInt_rng hb
    exact strsL_at hb (by rw [h1]; omega) _
theorem edS_at {b : List Int} (hib : isB b) : edA2 b ≤ b.length := by
  have h1 : edA1 b ≤ b.length := (edT_at hib).2
  have h2 := getStrs_at (isB_drop hib (edA1 b))
  have hd : (b.drop (edA1 b)).length = b.length - edA1 b := List.length_drop
  show edA1 b + (getStrsM (b.drop (edA1 b))).2.1 ≤ b.length
  omega
theorem pairsL_zero (l : List Int) : pairsL l 0 = [] := rfl
theorem pairsL_len (l : List Int) (k : Nat) : (pairsL l k).length = k := by simp [pairsL]
theorem pairsL_succ (l : List Int) (k : Nat) : pairsL l (k + 1) = pairsL l k ++ [pairL l k] := by simp [pairsL, List.range_succ]
theorem pairsL_take (l : List Int) (k : Nat) : (pairsL l k).take k = pairsL l k := List.take_of_length_le (by rw [pairsL_len]; exact Nat.le_refl _)
theorem refsL2_zero (l : List Int) : refsL2 l 0 = [] := rfl
theorem refsL2_len (l : List Int) (k : Nat) : (refsL2 l k).length = k := by simp [refsL2]
theorem refsL2_take (l : List Int) (k : Nat) : (refsL2 l k).take k = refsL2 l k := List.take_of_length_le (by rw [refsL2_len]; exact Nat.le_refl _)
theorem refsL2_succ (l : List Int) (k : Nat) : refsL2 l (k + 1) = refsL2 l k ++ [refL l k] := by simp [refsL2, List.range_succ]
theorem pieces_size {l : List Int} {n q : Nat} {t : Nat} : ∀ x ∈ piecesM l n q, x.length = (#[t] : Array Nat).size := fun x hx => by
  unfold piecesM at hx
  obtain ⟨k, _, rfl⟩ := List.mem_map.1 hx
  rfl
theorem even_of {l : List Int} {n : Nat} (hn : 0 < n) (h : (l.length : Int).tmod n = 0) : l.length = l.length / n * n := by
  rw [← Int.ofNat_tmod] at h
  have := Nat.div_add_mod l.length n
  have h2 : l.length % n = 0 := by omega
  rw [Nat.mul_comm]
  omega
theorem ed_good {b : List Int} (h : (edQ b).2.2 = 0) : (edP b).1.length = (edP b).1.length / 2 * 2 ∧ (edQ b).1.length = (edQ b).1.length / 3 * 3 := by
  obtain ⟨h1, h2, _⟩ := eints_good (b := b) (a := (edP b).2.1) (er := (edP b).2.2) (n := 3) (just := false) h
  obtain ⟨_, h4, _⟩ := eints_good (b := b) (a := edA2 b) (er := (edS b).2.2) (n := 2) (just := false) h1
  exact ⟨even_of (by decide) h4, even_of (by decide) h2⟩
theorem piece_at {l : List Int} {n q k i : Nat} (hl : l.length = q * n) (hk : k < q) (hi : i < n) : (pieceM l n k).getD i default = l.getD (k * n + i) default := by
  unfold pieceM
  simp [List.getD_eq_getElem?_getD, List.getElem?_take, List.getElem?_drop, hi]
theorem piece_len {l : List Int} {n q k : Nat} (hl : l.length = q * n) (hk : k < q) : (pieceM l n k).length = n := by
  have : (k + 1) * n ≤ q * n := Nat.mul_le_mul_right n hk
  rw [Nat.add_mul] at this
  simp [pieceM]; omega
set_option maxRecDepth 100000 in
set_option maxHeartbeats 4000000 in
theorem edec_ok (G) (b : List Int) (hib : isB b) (hl : b.length ≤ 1000000) : Gives Try.prog G 92 [u8sD b] [opD (editDecM b).1, iD (editDecM b).2.1, iD (editDecM b).2.2] := by
  have hH := eints_at hib (Nat.zero_le _) 0 13 true
  have hT := edT_at hib
  have fH : eintsM b 0 0 13 true = edH b := rfl
  have fT : getBytesM (b.drop (edH b).2.1) = edT b := rfl
  have fS : getStrsM (b.drop (edA1 b)) = edS b := rfl
  have c1 : ((edH b).2.1 : Int) + (edT b).2.1 = (edA1 b : Int) := by
    show _ = (((edH b).2.1 + (edT b).2.1.toNat : Nat) : Int)
    omega
  have c2 : (edA1 b : Int) + ((edS b).2.1 : Int) = (edA2 b : Int) := by
    show _ = ((edA1 b + (edS b).2.1 : Nat) : Int)
    omega
  have hA1 : edA1 b ≤ b.length := hT.2
  have hA2 := edS_at hib
  have fP : eintsM b (edA2 b) (edS b).2.2 2 false = edP b := rfl
  have fQ : eintsM b (edP b).2.1 (edP b).2.2 3 false = edQ b := rfl
  have hPa : (edP b).2.1 ≤ b.length ∧ (edP b).1.length ≤ b.length := eints_at hib hA2 _ _ _
  have hQa : (edQ b).2.1 ≤ b.length ∧ (edQ b).1.length ≤ b.length := eints_at hib hPa.1 _ _ _
  skip
  skip
  refine gives_intro [160] [22, 134, 136] [] Try.func92 rfl (by rfl) (by simp [Try.ntmps92]) fun F hP hG hN hR => ?_
  rw [Try.ntmps92] at hN
  have hA := And.intro hN (And.intro hP (And.intro hG (And.intro hR.1 (And.intro hR.2.1 hR.2.2.1))))
  have hE := And.intro @Try.results92 (And.intro @fH (And.intro @fT (And.intro @fS (And.intro @c1 (And.intro @c2 (And.intro @fP (@fQ)))))))
  refine WS [0, 2] [2, 159, 160, 177, 178, 161, 179] ?_
  refine WS [0, 2, 5] [2, 20, 159, 160, 177, 178, 161, 179] ?_
  refine WS [0, 2, 5, 6] [2, 6, 20, 159, 160, 177, 178, 161, 179] ?_
  apply aw_seq
  apply aw_regs [0, 2, 5, 6, 7] [2, 6, 20, 159, 160, 177, 178, 161, 179]
  · simp (maxSteps := 2000000) (disch := omega) only [avR2, avA, datsOf, fillA, seval, ↓List.forall_mem_cons, Op.operands, hA, tiA, hE]
    (repeat' refine And.intro ?_ ?_) <;> try exact SD
    refine CallC.useX (fun _ => 20) [] (by simp [LitD, hR.2.1]) (gvFX hP hG (eints_okX G b 0 0 13 true hib (by omega) (Nat.zero_le _) (by omega))) rfl (lentX_of hN (by first | trivial | ((try simp only [haveL, AObj.ren, AV.ren, renL, ren_row, List.map_cons, List.map_nil, objL_cons, objL_nil]) <;> ((repeat' apply And.intro) <;> first | trivial | rfl))) (by rfl)) ?_
    try simp (maxSteps := 2000000) (disch := omega) only [avR2, avA, datsOf, fillA, seval, ↓List.forall_mem_cons, Op.operands, hA, tiA, hE, avX]
    exact SC
  refine WS [0, 2, 5, 6, 7, 27] [2, 6, 20, 159, 160, 177, 178, 161, 179] ?_
  refine WI (fun hb => ?_) (fun hb => ?_)
  · skip
    have hl13 : (edH b).1.length = 13 := (eints_good (b := b) (a := 0) (er := 0) (n := 13) (just := true) hb).2.2 rfl
    refine WDQ [0, 2, 5, 6] [2, 6, 20, 159, 160, 177, 178, 161, 179] [0, 1, 2, 3, 4, 5, 6, 7, 8, 9, 10, 11, 12, 13, 14, 15, 16, 17, 18, 19, 20, 21, 22, 23, 24, 25, 26, 27, 28, 29, 30, 31, 32, 33, 34, 35, 36, 37, 38, 39, 40, 41, 42, 43] [] ?_
    apply q_seq
    apply aw_seq
    refine WS [0, 2, 5, 6, 75] [2, 6, 20, 159, 160, 177, 178, 161, 179] ?_
    refine aw_ift (by first | exact rfl | (simp only [evA_tmp, of_env, envL_cons, envL_nil]; simp [*])) ?_
    have hc := gvF hP hG (getBytes_ok G (b.drop (edH b).2.1) (isB_drop hib _) (by rw [List.length_drop]; omega))
    refine WSc [0, 2, 5, 6, 8, 9, 10] [2, 6, 20, 159, 160, 177, 178, 161, 179] ?_
    refine WQ [0, 2, 5, 6] [2, 6, 20, 159, 160, 177, 178, 161, 179] ?_
    apply q_seq
    apply aw_seq
    refine WS [0, 2, 5, 6, 106] [2, 6, 20, 159, 160, 177, 178, 161, 179] ?_
    refine WI (fun hb => ?_) (fun hb => ?_)
    · skip
      have hc := gvF hP hG (getStrs_ok G (b.drop (edA1 b)) (isB_drop hib _) (by rw [List.length_drop]; omega))
      refine WSc [2, 5, 6, 11, 12, 13] [2, 6, 20, 159, 160, 177, 178, 161, 179] ?_
      refine WQ [2, 5, 6] [2, 6, 20, 159, 160, 177, 178, 161, 179] ?_
      apply q_seq
      apply aw_regs [2, 5, 6, 14, 15] [2, 6, 20, 159, 160, 177, 178, 161, 179]
      · simp (maxSteps := 2000000) (disch := omega) only [avR2, avA, datsOf, fillA, seval, ↓List.forall_mem_cons, Op.operands, hA, tiA, hE]
        (repeat' refine And.intro ?_ ?_) <;> try exact SD
        refine CallC.useX (fun _ => 20) [] (by simp [LitD, hR.2.1]) (gvFX hP hG (eints_okX G b ((edA2 b)) ((edS b).2.2) 2 false hib (by omega) (hA2) (by omega))) rfl (lentX_of hN (by first | trivial | ((try simp only [haveL, AObj.ren, AV.ren, renL, ren_row, List.map_cons, List.map_nil, objL_cons, objL_nil]) <;> ((repeat' apply And.intro) <;> first | trivial | rfl))) (by rfl)) ?_
        try simp (maxSteps := 2000000) (disch := omega) only [avR2, avA, datsOf, fillA, seval, ↓List.forall_mem_cons, Op.operands, hA, tiA, hE, avX]
        (repeat' refine And.intro ?_ ?_) <;> try exact SD
        refine CallC.useX (fun _ => 20) [] (by simp [LitD, hR.2.1]) (gvFX hP hG (eints_okX G b ((edP b).2.1) ((edP b).2.2) 3 false hib (by omega) (hPa.1) (by omega))) rfl (lentX_of hN (by first | trivial | ((try simp only [haveL, AObj.ren, AV.ren, renL, ren_row, List.map_cons, List.map_nil, objL_cons, objL_nil]) <;> ((repeat' apply And.intro) <;> first | trivial | rfl))) (by rfl)) ?_
        try simp (maxSteps := 2000000) (disch := omega) only [avR2, avA, datsOf, fillA, seval, ↓List.forall_mem_cons, Op.operands, hA, tiA, hE, avX]
        exact SC
      apply aw_seq
      refine WS [2, 5, 6, 14, 15, 141] [2, 6, 20, 159, 160, 177, 178, 161, 179] ?_
      refine WI (fun hb => ?_) (fun hb => ?_)
      · skip
        have hv2 : editDecM b = (zOp, 0, (edQ b).2.2) := by unfold editDecM; rw [if_neg (by omega), if_neg (by omega), if_pos hb]
        have hE := And.intro hE hv2
        refine WDJ [2, 3, 4] [2, 159, 160, 177, 178, 161, 179] [(0, 142, _), (1, 143, _), (2, 144, _), (3, 145, _), (4, 146, _), (6, 3, _), (7, 4, _)] [(5, 2, ⟨17, _⟩)] ⟨DV 0 [] [5, 6, 7], DV 1 [] [2, 3, 4, 7], DV 2 [1] [3, 4, 7], DV 3 [1, 2] [4, 7], DV 4 [1, 2, 3] [7], DS 0 [0] [6, 7], DV 5 [0, 5] [7], DV 6 [0, 1, 2, 3, 4, 5, 6] [], trivial⟩ ?_
        apply aw_ret
        apply q_ret_seq
        simp only [QRet, QRetM, QRetX, retsX_nil, retsX_cons, objsAre, resA, mapO_nil, mapO_cons, vD_dat, vD_nils, vD_rp, vD_osl, vD_ptr, vD_agg, vD_fn, vD_isl, vL_dat, vL_app, viewL, avA, datsOf, fillA, seval, ↓List.forall_mem_cons, Op.operands, hP, hG, tiA, hE]
        all_goals try (first | done | rfl | trivial)
      · skip
        have hv2 : editDecM b = ({ headOp (edH b).1 with Text := (edT b).1, Texts := (edS b).1, Pairs := pairsL (edP b).1 ((edP b).1.length / 2), Refs := refsL2 (edQ b).1 ((edQ b).1.length / 3) }, (edQ b).2.1, 0) := by unfold editDecM; rw [if_neg (by omega), if_neg (by omega), if_neg (by omega)]
        have hE := And.intro hE hv2
        apply aw_skip
        apply q_seq
        have hpl : (edP b).1.length = ((edP b).1.length / 2) * 2 := (ed_good hb).1
        have hfz := pairsL_zero (edP b).1
        have hfl := pairsL_len (edP b).1
        refine aw_new0 161 2 (by omega) ?_
        refine aw_nilO 6 161 2 15 rfl rfl rfl rfl ?_
        apply aw_core2 [2, 5, 6, 15, 148] [2, 6, 20, 161]
        · simp (maxSteps := 2000000) (disch := omega) only [avR2, avA, datsOf, fillA, seval, ↓List.forall_mem_cons, Op.operands, hA, tiA, hE]
          (repeat' refine And.intro ?_ ?_) <;> try exact SD
          refine CallC.use (gvF hP hG (chunk_ok G (edP b).1 2 (by omega))) rfl ?_
          try simp (maxSteps := 2000000) (disch := omega) only [avR2, avA, datsOf, fillA, seval, ↓List.forall_mem_cons, Op.operands, hA, tiA, hE]
          exact SC
        refine range_core (sl := [(6, .ptr 1000 17 0 0)]) (xs := piecesM (edP b).1 2 ((edP b).1.length / 2)) hR.2.2.2.2 rfl (by rw [hP]; exact chunk_seq (edP b).1 2 _ (by omega) hpl (by omega)) pieces_size (by decide) (by rw [hN]; decide)
          (fun k => [(2, ⟨17, [.agg [.dat (iD 0), .dat (iD 0), .dat (iD 0), .dat (iD 0), .dat (iD 0), .dat (iD 0), .dat (iD 0), .dat (iD 0), .dat (iD 0), .dat (iD 0), .dat (iD 0), .dat (iD 0), .dat (iD 0), .dat (sD ⟨#[]⟩), .nils, .nils, .nils]]⟩), (6, ⟨17, [.agg [.dat (iD ((edH b).1.getD 0 default)), .dat (iD ((edH b).1.getD 1 default)), .dat (iD ((edH b).1.getD 2 default)), .dat (iD ((edH b).1.getD 3 default)), .dat (iD ((edH b).1.getD 4 default)), .dat (iD ((edH b).1.getD 5 default)), .dat (iD ((edH b).1.getD 6 default)), .dat (iD ((edH b).1.getD 7 default)), .dat (iD ((edH b).1.getD 8 default)), .dat (iD ((edH b).1.getD 9 default)), .dat (iD ((edH b).1.getD 10 default)), .dat (iD ((edH b).1.getD 11 default)), .dat (iD ((edH b).1.getD 12 default)), .dat (sD (edT b).1), .dat (ssD (edS b).1), .osl 161 2 0 k, .nils]]⟩), (20, ⟨3, [.dat (erD b (edQ b).2.1 (edQ b).2.2)]⟩), (161, ⟨2, ((pairsL (edP b).1 k).map pairD).map .dat⟩)])
          (fun k x => (16, x.headD (.sl []) |> .dat) :: ((149, .dat (x.headD (.sl []))) :: [(6, .ptr 1000 17 0 0)]))
          (fun k => [(1000, ⟨17, [.agg [.dat (iD ((edH b).1.getD 0 default)), .dat (iD ((edH b).1.getD 1 default)), .dat (iD ((edH b).1.getD 2 default)), .dat (iD ((edH b).1.getD 3 default)), .dat (iD ((edH b).1.getD 4 default)), .dat (iD ((edH b).1.getD 5 default)), .dat (iD ((edH b).1.getD 6 default)), .dat (iD ((edH b).1.getD 7 default)), .dat (iD ((edH b).1.getD 8 default)), .dat (iD ((edH b).1.getD 9 default)), .dat (iD ((edH b).1.getD 10 default)), .dat (iD ((edH b).1.getD 11 default)), .dat (iD ((edH b).1.getD 12 default)), .dat (sD (edT b).1), .dat (ssD (edS b).1), .osl 1001 2 0 k, .nils]]⟩), (1001, ⟨2, ((pairsL (edP b).1 k).map pairD).map .dat⟩)])
          (fun k => [(1000, ⟨17, [.agg [.dat (iD ((edH b).1.getD 0 default)), .dat (iD ((edH b).1.getD 1 default)), .dat (iD ((edH b).1.getD 2 default)), .dat (iD ((edH b).1.getD 3 default)), .dat (iD ((edH b).1.getD 4 default)), .dat (iD ((edH b).1.getD 5 default)), .dat (iD ((edH b).1.getD 6 default)), .dat (iD ((edH b).1.getD 7 default)), .dat (iD ((edH b).1.getD 8 default)), .dat (iD ((edH b).1.getD 9 default)), .dat (iD ((edH b).1.getD 10 default)), .dat (iD ((edH b).1.getD 11 default)), .dat (iD ((edH b).1.getD 12 default)), .dat (sD (edT b).1), .dat (ssD (edS b).1), .osl 160 2 0 (k + 1), .nils]]⟩), (160, ⟨2, ((pairsL (edP b).1 (k + 1)).map pairD).map .dat⟩)])
          (fun i => if i = 1000 then 6 else if i = 1001 then 161 else if i = 160 then 160 else i) [160] [160] [] [] ?_ ?_ ?_ ?_ ?_ ?_ ?_ ?_ ?_
        · exact LeB.refl _ _
        · exact fun k hk => lentX_of hN (by (simp only [haveL, AObj.ren, AV.ren, renL, ren_row, List.map_cons, List.map_nil, objL_cons, objL_nil]); (repeat' apply And.intro) <;> first | trivial | rfl) rfl
        · exact fun k hk => onlyOs_mem (by simp only [onlyOs, onlyL_nil, onlyL_cons, onlyL_append, onlyL_dats, onlyL_row, AV.only, Bool.and_true] <;> simp [inIds])
        · intro k hk p hp
          rw [hN]
          simp only [List.mem_cons, List.not_mem_nil, or_false] at hp
          rcases hp with rfl | rfl <;> first | exact (show (185:Nat) ≤ 1000 by decide) | exact (show (185:Nat) ≤ 1001 by decide)
        · intro p hp
          simp only [List.mem_cons, List.not_mem_nil, or_false] at hp
          subst hp; rfl
        · intro k hk
          refine LeB.trans (LeB.of (e := [(2, .ptr 2 17 0 0), (5, .ptr 20 3 0 0), (6, .ptr 6 17 0 0), (15, .dat (isD (edQ b).1)), (148, .dat (.fn 121 [.ref (isD (edP b).1), .ref (iD (2 : Nat))]))]) (o := [(2, ⟨17, [.agg [.dat (iD 0), .dat (iD 0), .dat (iD 0), .dat (iD 0), .dat (iD 0), .dat (iD 0), .dat (iD 0), .dat (iD 0), .dat (iD 0), .dat (iD 0), .dat (iD 0), .dat (iD 0), .dat (iD 0), .dat (sD ⟨#[]⟩), .nils, .nils, .nils]]⟩), (6, ⟨17, [.agg [.dat (iD ((edH b).1.getD 0 default)), .dat (iD ((edH b).1.getD 1 default)), .dat (iD ((edH b).1.getD 2 default)), .dat (iD ((edH b).1.getD 3 default)), .dat (iD ((edH b).1.getD 4 default)), .dat (iD ((edH b).1.getD 5 default)), .dat (iD ((edH b).1.getD 6 default)), .dat (iD ((edH b).1.getD 7 default)), .dat (iD ((edH b).1.getD 8 default)), .dat (iD ((edH b).1.getD 9 default)), .dat (iD ((edH b).1.getD 10 default)), .dat (iD ((edH b).1.getD 11 default)), .dat (iD ((edH b).1.getD 12 default)), .dat (sD (edT b).1), .dat (ssD (edS b).1), .osl 160 2 0 (k + 1), .nils]]⟩), (20, ⟨3, [.dat (erD b (edQ b).2.1 (edQ b).2.2)]⟩), (160, ⟨2, ((pairsL (edP b).1 (k + 1)).map pairD).map .dat⟩)]) ?_ ?_) ((LeB.swap 160 161 (by omega) (by omega)).trans (LeB.of ?_ ?_))
          · (simp (disch := omega) only [LeE, LeO, avX, avR2, avA, hE, AObj.ren, AV.ren, ren_row, renE, renO, List.map_cons, List.map_nil]); (repeat' apply And.intro) <;> first | trivial | rfl
          · (simp (disch := omega) only [LeE, LeO, avX, avR2, avA, hE, AObj.ren, AV.ren, ren_row, renE, renO, List.map_cons, List.map_nil]); (repeat' apply And.intro) <;> first | trivial | rfl
          · (simp (disch := omega) only [LeE, LeO, avX, avR2, avA, hE, AObj.ren, AV.ren, ren_row, renE, renO, List.map_cons, List.map_nil]); (repeat' apply And.intro) <;> first | trivial | rfl
          · (simp (disch := omega) only [LeE, LeO, avX, avR2, avA, hE, AObj.ren, AV.ren, ren_row, renE, renO, List.map_cons, List.map_nil]); (repeat' apply And.intro) <;> first | trivial | rfl
        · exact List.forall_mem_cons.2 ⟨⟨rfl, fun _ _ _ => rfl⟩, List.forall_mem_nil _⟩
        · intro k x hx F1 hP1 hG1 hN1 hR1
          obtain ⟨hkq, rfl⟩ := pieces_get hx
          replace hP := hP1.trans hP
          replace hG := hG1.trans hG
          replace hN := hN1.trans hN
          replace hR := hR1
          have hA := And.intro hN (And.intro hP (And.intro hG (And.intro hR.1 (And.intro hR.2.1 hR.2.2.1))))
          refine ⟨?_, ?_⟩
          · simp (maxSteps := 2000000) (disch := omega) only [avR2, avA, hA]
            exact ⟨by decide, rfl⟩
          have hpc := piece_len hpl hkq
          dsimp only [List.headD]
          have hkb : k ≤ 500000 := by omega
          have htk := pairsL_take (edP b).1 k
          have hsu := pairsL_succ (edP b).1 k
          have hat := fun i (hi : i < 2) => piece_at (i := i) hpl hkq hi
          have hE := And.intro hE (And.intro hfl (And.intro htk hpc))
          apply aw_block
          apply aw_rgd [] [1000, 160] [0, 1, 2, 3, 4, 5, 6, 7, 8, 9, 10, 11, 12] [160, 159]
          · rw [hP]; kernel_rfl
          · exact hR
          · kernel_rfl
          · (repeat (apply PickL.cons; exact rfl)); exact PickL.nil _
          · simp (maxSteps := 2000000) (disch := omega) only [avR2, avA, datsOf, fillA, seval, ↓List.forall_mem_cons, Op.operands, hA, tiA, hE]
            exact ⟨rfl, fun _ h => h.elim, ⟨fun _ h => h.elim, by omega, by omega⟩, rfl, rfl⟩
          apply q_block
          have g0 := hat 0 (by decide)
          have g1 := hat 1 (by decide)
          have g2 : (pairsL (edP b).1 (k + 1)).map pairD = (pairsL (edP b).1 k).map pairD ++ [Dat.agg [.int .i64 ((pieceM (edP b).1 2 k).getD 0 default), .int .i64 ((pieceM (edP b).1 2 k).getD 1 default)]] := by rw [hsu, List.map_append]; rw [g0, g1]; rfl
          simp only [QBody, objsAre, avA, hE, g2, List.map_append, List.map_cons, List.map_nil]
          (repeat' apply And.intro) <;> first | trivial | rfl
        refine fun F1 hP1 hG1 hN1 hR1 hrd hTop _ => ?_
        replace hR : F1.rows = [160] ∧ F1.lits = [22, 134, 136] ∧ F1.apps = [] ∧ TopF F1 := ⟨hR1.1.trans hR.1, hR1.2.1.trans hR.2.1, hR1.2.2.trans hR.2.2.1, hTop hR.2.2.2⟩
        have hE := And.intro hE hP
        replace hP := hP1.trans hP
        replace hG := hG1.trans hG
        replace hN := hN1.trans hN
        have hA := And.intro hN (And.intro hP (And.intro hG (And.intro hR.1 (And.intro hR.2.1 hR.2.2.1))))
        have hxl : (piecesM (edP b).1 2 ((edP b).1.length / 2)).length = ((edP b).1.length / 2) := by simp [piecesM]
        rw [hxl]
        have hE := And.intro hE (And.intro hfl (pairsL_take (edP b).1 ((edP b).1.length / 2)))
        refine aw_frz 161 hR.2.2.2 rfl (datE_map _) ?_
        simp (disch := omega) only [avA, datsOf, fillA, seval, hE]
        have hpl : (edQ b).1.length = ((edQ b).1.length / 3) * 3 := (ed_good hb).2
        have hfz := refsL2_zero (edQ b).1
        have hfl := refsL2_len (edQ b).1
        refine aw_new0 179 3 (by omega) ?_
        refine aw_nilO 6 179 3 16 rfl rfl rfl rfl ?_
        apply aw_core2 [2, 5, 6, 163] [2, 6, 20, 179]
        · simp (maxSteps := 2000000) (disch := omega) only [avR2, avA, datsOf, fillA, seval, ↓List.forall_mem_cons, Op.operands, hA, tiA, hE]
          (repeat' refine And.intro ?_ ?_) <;> try exact SD
          refine CallC.use (gvF hP hG (chunk_ok G (edQ b).1 3 (by omega))) rfl ?_
          try simp (maxSteps := 2000000) (disch := omega) only [avR2, avA, datsOf, fillA, seval, ↓List.forall_mem_cons, Op.operands, hA, tiA, hE]
          exact SC
        refine range_core (sl := [(6, .ptr 1000 17 0 0)]) (xs := piecesM (edQ b).1 3 ((edQ b).1.length / 3)) hR.2.2.2.2 rfl (by rw [hP]; exact chunk_seq (edQ b).1 3 _ (by omega) hpl (by omega)) pieces_size (by decide) (by rw [hN]; decide)
          (fun k => [(2, ⟨17, [.agg [.dat (iD 0), .dat (iD 0), .dat (iD 0), .dat (iD 0), .dat (iD 0), .dat (iD 0), .dat (iD 0), .dat (iD 0), .dat (iD 0), .dat (iD 0), .dat (iD 0), .dat (iD 0), .dat (iD 0), .dat (sD ⟨#[]⟩), .nils, .nils, .nils]]⟩), (6, ⟨17, [.agg [.dat (iD ((edH b).1.getD 0 default)), .dat (iD ((edH b).1.getD 1 default)), .dat (iD ((edH b).1.getD 2 default)), .dat (iD ((edH b).1.getD 3 default)), .dat (iD ((edH b).1.getD 4 default)), .dat (iD ((edH b).1.getD 5 default)), .dat (iD ((edH b).1.getD 6 default)), .dat (iD ((edH b).1.getD 7 default)), .dat (iD ((edH b).1.getD 8 default)), .dat (iD ((edH b).1.getD 9 default)), .dat (iD ((edH b).1.getD 10 default)), .dat (iD ((edH b).1.getD 11 default)), .dat (iD ((edH b).1.getD 12 default)), .dat (sD (edT b).1), .dat (ssD (edS b).1), .dat (pairsD (pairsL (edP b).1 ((edP b).1.length / 2))), .osl 179 3 0 k]]⟩), (20, ⟨3, [.dat (erD b (edQ b).2.1 (edQ b).2.2)]⟩), (179, ⟨3, ((refsL2 (edQ b).1 k).map idD).map .dat⟩)])
          (fun k x => (17, x.headD (.sl []) |> .dat) :: ((164, .dat (x.headD (.sl []))) :: [(6, .ptr 1000 17 0 0)]))
          (fun k => [(1000, ⟨17, [.agg [.dat (iD ((edH b).1.getD 0 default)), .dat (iD ((edH b).1.getD 1 default)), .dat (iD ((edH b).1.getD 2 default)), .dat (iD ((edH b).1.getD 3 default)), .dat (iD ((edH b).1.getD 4 default)), .dat (iD ((edH b).1.getD 5 default)), .dat (iD ((edH b).1.getD 6 default)), .dat (iD ((edH b).1.getD 7 default)), .dat (iD ((edH b).1.getD 8 default)), .dat (iD ((edH b).1.getD 9 default)), .dat (iD ((edH b).1.getD 10 default)), .dat (iD ((edH b).1.getD 11 default)), .dat (iD ((edH b).1.getD 12 default)), .dat (sD (edT b).1), .dat (ssD (edS b).1), .dat (pairsD (pairsL (edP b).1 ((edP b).1.length / 2))), .osl 1001 3 0 k]]⟩), (1001, ⟨3, ((refsL2 (edQ b).1 k).map idD).map .dat⟩)])
          (fun k => [(1000, ⟨17, [.agg [.dat (iD ((edH b).1.getD 0 default)), .dat (iD ((edH b).1.getD 1 default)), .dat (iD ((edH b).1.getD 2 default)), .dat (iD ((edH b).1.getD 3 default)), .dat (iD ((edH b).1.getD 4 default)), .dat (iD ((edH b).1.getD 5 default)), .dat (iD ((edH b).1.getD 6 default)), .dat (iD ((edH b).1.getD 7 default)), .dat (iD ((edH b).1.getD 8 default)), .dat (iD ((edH b).1.getD 9 default)), .dat (iD ((edH b).1.getD 10 default)), .dat (iD ((edH b).1.getD 11 default)), .dat (iD ((edH b).1.getD 12 default)), .dat (sD (edT b).1), .dat (ssD (edS b).1), .dat (pairsD (pairsL (edP b).1 ((edP b).1.length / 2))), .osl 178 3 0 (k + 1)]]⟩), (178, ⟨3, ((refsL2 (edQ b).1 (k + 1)).map idD).map .dat⟩)])
          (fun i => if i = 1000 then 6 else if i = 1001 then 179 else if i = 178 then 178 else i) [178] [178] [] [] ?_ ?_ ?_ ?_ ?_ ?_ ?_ ?_ ?_
        · exact LeB.refl _ _
        · exact fun k hk => lentX_of hN (by (simp only [haveL, AObj.ren, AV.ren, renL, ren_row, List.map_cons, List.map_nil, objL_cons, objL_nil]); (repeat' apply And.intro) <;> first | trivial | rfl) rfl
        · exact fun k hk => onlyOs_mem (by simp only [onlyOs, onlyL_nil, onlyL_cons, onlyL_append, onlyL_dats, onlyL_row, AV.only, Bool.and_true] <;> simp [inIds])
        · intro k hk p hp
          rw [hN]
          simp only [List.mem_cons, List.not_mem_nil, or_false] at hp
          rcases hp with rfl | rfl <;> first | exact (show (185:Nat) ≤ 1000 by decide) | exact (show (185:Nat) ≤ 1001 by decide)
        · intro p hp
          simp only [List.mem_cons, List.not_mem_nil, or_false] at hp
          subst hp; rfl
        · intro k hk
          refine LeB.trans (LeB.of (e := [(2, .ptr 2 17 0 0), (5, .ptr 20 3 0 0), (6, .ptr 6 17 0 0), (163, .dat (.fn 121 [.ref (isD (edQ b).1), .ref (iD (3 : Nat))]))]) (o := [(2, ⟨17, [.agg [.dat (iD 0), .dat (iD 0), .dat (iD 0), .dat (iD 0), .dat (iD 0), .dat (iD 0), .dat (iD 0), .dat (iD 0), .dat (iD 0), .dat (iD 0), .dat (iD 0), .dat (iD 0), .dat (iD 0), .dat (sD ⟨#[]⟩), .nils, .nils, .nils]]⟩), (6, ⟨17, [.agg [.dat (iD ((edH b).1.getD 0 default)), .dat (iD ((edH b).1.getD 1 default)), .dat (iD ((edH b).1.getD 2 default)), .dat (iD ((edH b).1.getD 3 default)), .dat (iD ((edH b).1.getD 4 default)), .dat (iD ((edH b).1.getD 5 default)), .dat (iD ((edH b).1.getD 6 default)), .dat (iD ((edH b).1.getD 7 default)), .dat (iD ((edH b).1.getD 8 default)), .dat (iD ((edH b).1.getD 9 default)), .dat (iD ((edH b).1.getD 10 default)), .dat (iD ((edH b).1.getD 11 default)), .dat (iD ((edH b).1.getD 12 default)), .dat (sD (edT b).1), .dat (ssD (edS b).1), .dat (pairsD (pairsL (edP b).1 ((edP b).1.length / 2))), .osl 178 3 0 (k + 1)]]⟩), (20, ⟨3, [.dat (erD b (edQ b).2.1 (edQ b).2.2)]⟩), (178, ⟨3, ((refsL2 (edQ b).1 (k + 1)).map idD).map .dat⟩)]) ?_ ?_) ((LeB.swap 178 179 (by omega) (by omega)).trans (LeB.of ?_ ?_))
          · (simp (disch := omega) only [LeE, LeO, avX, avR2, avA, hE, AObj.ren, AV.ren, ren_row, renE, renO, List.map_cons, List.map_nil]); (repeat' apply And.intro) <;> first | trivial | rfl
          · (simp (disch := omega) only [LeE, LeO, avX, avR2, avA, hE, AObj.ren, AV.ren, ren_row, renE, renO, List.map_cons, List.map_nil]); (repeat' apply And.intro) <;> first | trivial | rfl
          · (simp (disch := omega) only [LeE, LeO, avX, avR2, avA, hE, AObj.ren, AV.ren, ren_row, renE, renO, List.map_cons, List.map_nil]); (repeat' apply And.intro) <;> first | trivial | rfl
          · (simp (disch := omega) only [LeE, LeO, avX, avR2, avA, hE, AObj.ren, AV.ren, ren_row, renE, renO, List.map_cons, List.map_nil]); (repeat' apply And.intro) <;> first | trivial | rfl
        · exact List.forall_mem_cons.2 ⟨⟨rfl, fun _ _ _ => rfl⟩, List.forall_mem_nil _⟩
        · intro k x hx F1 hP1 hG1 hN1 hR1
          obtain ⟨hkq, rfl⟩ := pieces_get hx
          replace hP := hP1.trans hP
          replace hG := hG1.trans hG
          replace hN := hN1.trans hN
          replace hR := hR1
          have hA := And.intro hN (And.intro hP (And.intro hG (And.intro hR.1 (And.intro hR.2.1 hR.2.2.1))))
          refine ⟨?_, ?_⟩
          · simp (maxSteps := 2000000) (disch := omega) only [avR2, avA, hA]
            exact ⟨by decide, rfl⟩
          have hpc := piece_len hpl hkq
          dsimp only [List.headD]
          have hkb : k ≤ 500000 := by omega
          have htk := refsL2_take (edQ b).1 k
          have hsu := refsL2_succ (edQ b).1 k
          have hat := fun i (hi : i < 3) => piece_at (i := i) hpl hkq hi
          have hE := And.intro hE (And.intro hfl (And.intro htk hpc))
          apply aw_block
          apply aw_rgd [] [1000, 178] [0, 1, 2, 3, 4, 5, 6, 7, 8, 9, 10, 11, 12, 13, 14, 15] [178, 177]
          · rw [hP]; kernel_rfl
          · exact hR
          · kernel_rfl
          · (repeat (apply PickL.cons; exact rfl)); exact PickL.nil _
          · simp (maxSteps := 2000000) (disch := omega) only [avR2, avA, datsOf, fillA, seval, ↓List.forall_mem_cons, Op.operands, hA, tiA, hE]
            exact ⟨rfl, fun _ h => h.elim, ⟨fun _ h => h.elim, by omega, by omega⟩, rfl, rfl⟩
          apply q_block
          have g0 := hat 0 (by decide)
          have g1 := hat 1 (by decide)
          have g2 : (refsL2 (edQ b).1 (k + 1)).map idD = (refsL2 (edQ b).1 k).map idD ++ [Dat.agg [.int .i64 ((pieceM (edQ b).1 3 k).getD 0 default), .int .i64 ((pieceM (edQ b).1 3 k).getD 1 default), .int .i64 ((pieceM (edQ b).1 3 k).getD 2 default)]] := by rw [hsu, List.map_append]; rw [g0, g1, hat 2 (by decide)]; rfl
          simp only [QBody, objsAre, avA, hE, g2, List.map_append, List.map_cons, List.map_nil]
          (repeat' apply And.intro) <;> first | trivial | rfl
        refine fun F1 hP1 hG1 hN1 hR1 hrd hTop _ => ?_
        replace hR : F1.rows = [160] ∧ F1.lits = [22, 134, 136] ∧ F1.apps = [] ∧ TopF F1 := ⟨hR1.1.trans hR.1, hR1.2.1.trans hR.2.1, hR1.2.2.trans hR.2.2.1, hTop hR.2.2.2⟩
        have hE := And.intro hE hP
        replace hP := hP1.trans hP
        replace hG := hG1.trans hG
        replace hN := hN1.trans hN
        have hA := And.intro hN (And.intro hP (And.intro hG (And.intro hR.1 (And.intro hR.2.1 hR.2.2.1))))
        have hxl : (piecesM (edQ b).1 3 ((edQ b).1.length / 3)).length = ((edQ b).1.length / 3) := by simp [piecesM]
        rw [hxl]
        have hE := And.intro hE (And.intro hfl (refsL2_take (edQ b).1 ((edQ b).1.length / 3)))
        refine aw_frz 179 hR.2.2.2 rfl (datE_map _) ?_
        simp (disch := omega) only [avA, datsOf, fillA, seval, hE]
        refine WDJ [2, 3, 4] [2, 159, 160, 177, 178, 161, 179] [(0, 180, _), (1, 181, _), (2, 182, _), (3, 183, _), (4, 184, _), (6, 3, _), (7, 4, _)] [(5, 2, ⟨17, _⟩)] ⟨DV 0 [] [5, 6, 7], DV 1 [] [2, 3, 4, 6, 7], DV 2 [1] [3, 4, 6, 7], DV 3 [1, 2] [4, 6, 7], DV 4 [1, 2, 3] [6, 7], DS 0 [0] [6, 7], DV 5 [0, 1, 2, 3, 4, 5] [7], DV 6 [0, 1, 2, 3, 4, 5, 6] [], trivial⟩ ?_
        apply aw_ret
        apply q_ret_tail
        apply q_ret_tail
        simp only [QRet, QRetM, QRetX, retsX_nil, retsX_cons, objsAre, resA, mapO_nil, mapO_cons, vD_dat, vD_nils, vD_rp, vD_osl, vD_ptr, vD_agg, vD_fn, vD_isl, vL_dat, vL_app, viewL, avA, datsOf, fillA, seval, ↓List.forall_mem_cons, Op.operands, hP, hG, tiA, hE]
        all_goals try (first | done | rfl | trivial)
    · skip
      have hz : ∀ (n : Nat) (j : Bool), eintsM b (edA1 b) (edT b).2.2 n j = ([], edA1 b, (edT b).2.2) := fun n j => if_pos hb
      have hv : editDecM b = (zOp, 0, (edT b).2.2) := by unfold editDecM; rw [if_neg (by omega), if_pos hb]
      have hE := And.intro hE (And.intro hz hv)
      apply aw_skip
      apply q_seq
      apply aw_regs [2, 5, 6, 14, 15] [2, 6, 20, 159, 160, 177, 178, 161, 179]
      · simp (maxSteps := 2000000) (disch := omega) only [avR2, avA, datsOf, fillA, seval, ↓List.forall_mem_cons, Op.operands, hA, tiA, hE]
        (repeat' refine And.intro ?_ ?_) <;> try exact SD
        refine CallC.useX (fun _ => 20) [] (by simp [LitD, hR.2.1]) (gvFX hP hG (eints_okX G b ((edA1 b)) ((edT b).2.2) 2 false hib (by omega) (hA1) (by omega))) rfl (lentX_of hN (by first | trivial | ((try simp only [haveL, AObj.ren, AV.ren, renL, ren_row, List.map_cons, List.map_nil, objL_cons, objL_nil]) <;> ((repeat' apply And.intro) <;> first | trivial | rfl))) (by rfl)) ?_
        try simp (maxSteps := 2000000) (disch := omega) only [avR2, avA, datsOf, fillA, seval, ↓List.forall_mem_cons, Op.operands, hA, tiA, hE, avX]
        (repeat' refine And.intro ?_ ?_) <;> try exact SD
        refine CallC.useX (fun _ => 20) [] (by simp [LitD, hR.2.1]) (gvFX hP hG (eints_okX G b ((edA1 b)) ((edT b).2.2) 3 false hib (by omega) (hA1) (by omega))) rfl (lentX_of hN (by first | trivial | ((try simp only [haveL, AObj.ren, AV.ren, renL, ren_row, List.map_cons, List.map_nil, objL_cons, objL_nil]) <;> ((repeat' apply And.intro) <;> first | trivial | rfl))) (by rfl)) ?_
        try simp (maxSteps := 2000000) (disch := omega) only [avR2, avA, datsOf, fillA, seval, ↓List.forall_mem_cons, Op.operands, hA, tiA, hE, avX]
        exact SC
      apply aw_seq
      refine WS [2, 5, 6, 14, 15, 141] [2, 6, 20, 159, 160, 177, 178, 161, 179] ?_
      refine aw_ift (by first | exact rfl | (simp only [evA_tmp, of_env, envL_cons, envL_nil]; simp [*])) ?_
      refine WDJ [2, 3, 4] [2, 159, 160, 177, 178, 161, 179] [(0, 142, _), (1, 143, _), (2, 144, _), (3, 145, _), (4, 146, _), (6, 3, _), (7, 4, _)] [(5, 2, ⟨17, _⟩)] ⟨DV 0 [] [5, 6, 7], DV 1 [] [2, 3, 4, 7], DV 2 [1] [3, 4, 7], DV 3 [1, 2] [4, 7], DV 4 [1, 2, 3] [7], DS 0 [0] [6, 7], DV 5 [0, 5] [7], DV 6 [0, 1, 2, 3, 4, 5, 6] [], trivial⟩ ?_
      apply aw_ret
      apply q_ret_seq
      simp only [QRet, QRetM, QRetX, retsX_nil, retsX_cons, objsAre, resA, mapO_nil, mapO_cons, vD_dat, vD_nils, vD_rp, vD_osl, vD_ptr, vD_agg, vD_fn, vD_isl, vL_dat, vL_app, viewL, avA, datsOf, fillA, seval, ↓List.forall_mem_cons, Op.operands, hP, hG, tiA, hE]
      all_goals try (first | done | rfl | trivial)
  · skip
    have hz : ∀ (n : Nat) (j : Bool), eintsM b (edH b).2.1 (edH b).2.2 n j = ([], (edH b).2.1, (edH b).2.2) := fun n j => if_pos hb
    have hv : editDecM b = (zOp, 0, (edH b).2.2) := if_pos hb
    have hE := And.intro hE (And.intro hz hv)
    apply aw_skip
    apply q_seq
    apply aw_seq
    refine WS [0, 2, 5, 6, 75] [2, 6, 20, 159, 160, 177, 178, 161, 179] ?_
    refine aw_iff (by first | exact rfl | (simp only [evA_tmp, of_env, envL_cons, envL_nil]; simp [*])) ?_
    apply aw_skip
    apply q_seq
    apply aw_seq
    refine WS [0, 2, 5, 6, 106] [2, 6, 20, 159, 160, 177, 178, 161, 179] ?_
    refine aw_iff (by first | exact rfl | (simp only [evA_tmp, of_env, envL_cons, envL_nil]; simp [*])) ?_
    apply aw_skip
    apply q_seq
    apply aw_regs [2, 5, 6, 14, 15] [2, 6, 20, 159, 160, 177, 178, 161, 179]
    · simp (maxSteps := 2000000) (disch := omega) only [avR2, avA, datsOf, fillA, seval, ↓List.forall_mem_cons, Op.operands, hA, tiA, hE]
      (repeat' refine And.intro ?_ ?_) <;> try exact SD
      refine CallC.useX (fun _ => 20) [] (by simp [LitD, hR.2.1]) (gvFX hP hG (eints_okX G b ((edH b).2.1) ((edH b).2.2) 2 false hib (by omega) (hH.1) (by omega))) rfl (lentX_of hN (by first | trivial | ((try simp only [haveL, AObj.ren, AV.ren, renL, ren_row, List.map_cons, List.map_nil, objL_cons, objL_nil]) <;> ((repeat' apply And.intro) <;> first | trivial | rfl))) (by rfl)) ?_
      try simp (maxSteps := 2000000) (disch := omega) only [avR2, avA, datsOf, fillA, seval, ↓List.forall_mem_cons, Op.operands, hA, tiA, hE, avX]
      (repeat' refine And.intro ?_ ?_) <;> try exact SD
      refine CallC.useX (fun _ => 20) [] (by simp [LitD, hR.2.1]) (gvFX hP hG (eints_okX G b ((edH b).2.1) ((edH b).2.2) 3 false hib (by omega) (hH.1) (by omega))) rfl (lentX_of hN (by first | trivial | ((try simp only [haveL, AObj.ren, AV.ren, renL, ren_row, List.map_cons, List.map_nil, objL_cons, objL_nil]) <;> ((repeat' apply And.intro) <;> first | trivial | rfl))) (by rfl)) ?_
      try simp (maxSteps := 2000000) (disch := omega) only [avR2, avA, datsOf, fillA, seval, ↓List.forall_mem_cons, Op.operands, hA, tiA, hE, avX]
      exact SC
    apply aw_seq
    refine WS [2, 5, 6, 14, 15, 141] [2, 6, 20, 159, 160, 177, 178, 161, 179] ?_
    refine aw_ift (by first | exact rfl | (simp only [evA_tmp, of_env, envL_cons, envL_nil]; simp [*])) ?_
    refine WDJ [2, 3, 4] [2, 159, 160, 177, 178, 161, 179] [(0, 142, _), (1, 143, _), (2, 144, _), (3, 145, _), (4, 146, _), (6, 3, _), (7, 4, _)] [(5, 2, ⟨17, _⟩)] ⟨DV 0 [] [5, 6, 7], DV 1 [] [2, 3, 4, 7], DV 2 [1] [3, 4, 7], DV 3 [1, 2] [4, 7], DV 4 [1, 2, 3] [7], DS 0 [0] [6, 7], DV 5 [0, 5] [7], DV 6 [0, 1, 2, 3, 4, 5, 6] [], trivial⟩ ?_
    apply aw_ret
    apply q_ret_seq
    simp only [QRet, QRetM, QRetX, retsX_nil, retsX_cons, objsAre, resA, mapO_nil, mapO_cons, vD_dat, vD_nils, vD_rp, vD_osl, vD_ptr, vD_agg, vD_fn, vD_isl, vL_dat, vL_app, viewL, avA, datsOf, fillA, seval, ↓List.forall_mem_cons, Op.operands, hP, hG, tiA, hE]
    all_goals try (first | done | rfl | trivial)
end Go.Proofs.Ytabjaaonfaejmaa

namespace Go.Proofs.Ytabjaaonfaejmaa
open Go.Av
abbrev rdD (b : List Int) (a : Nat) : Dat := .agg [u8sD b, iD a]
theorem need_ok (G) : Gives Try.prog G 66 [bD true] [] := by
  refine gives_intro [] [] [] Try.func66 rfl (by rfl) (by simp [Try.ntmps66]) fun F hP hG hN hR => ?_
  rw [Try.ntmps66] at hN
  have hA := And.intro hN (And.intro hP (And.intro hG (And.intro hR.1 (And.intro hR.2.1 hR.2.2.1))))
  have hE := @Try.results66
  refine WS [3] [] ?_
  refine aw_iff (by first | exact rfl | (simp only [evA_tmp, of_env, envL_cons, envL_nil]; simp [*])) ?_
  apply aw_skip
  simp only [QRet, QRetM, QRetX, retsX_nil, retsX_cons, objsAre, resA, mapO_nil, mapO_cons, vD_dat, vD_nils, vD_rp, vD_osl, vD_ptr, vD_agg, vD_fn, vD_isl, vL_dat, vL_app, viewL, avA, datsOf, fillA, seval, ↓List.forall_mem_cons, Op.operands, hP, hG, tiA, hE]
  all_goals try (first | done | rfl | trivial)
end Go.Proofs.Ytabjaaonfaejmaa

namespace Go.Proofs.Ytabjaaonfaejmaa
open Go.Av
abbrev ifaceV (kt : Nat) (n : Int) : Value := .iface kt (.int .i64 n)
abbrev formV : Value := ifaceV (kt := 42) 2
theorem need_okP (G) (ok : Bool) : GivesXP Try.prog G 66 [.dat (bD ok)] [] (if ok then some () else none) (fun _ => []) (fun _ => []) formV := by
  refine gives_introXP [] [] [] Try.func66 rfl (by rfl) (by simp [Try.ntmps66]) (by kernel_rfl) (fun _ => by kernel_rfl) (fun _ => by simp [onlyL_nil, onlyL_cons, AV.only, inIds]) (fun _ => by simp only [onlyOs, onlyL_nil, onlyL_cons, onlyL_append, onlyL_dats, onlyL_row, AV.only, Bool.and_true] <;> simp [inIds]) fun F hP hG hN hR => ?_
  rw [Try.ntmps66] at hN
  have hA := And.intro hN (And.intro hP (And.intro hG (And.intro hR.1 (And.intro hR.2.1 hR.2.2.1))))
  have hE := @Try.results66
  refine WS [3] [] ?_
  refine WI (fun hb => ?_) (fun hb => ?_)
  · skip
    have hv : (if ok then some () else none : Option Unit) = none := by rw [if_neg (by simpa using hb)]
    apply aw_list
    refine al_step rfl (mkI_ok rfl rfl (by rw [hN]; omega) (by rw [hP]; exact ti42) (by intro h; cases h)) ?_
    exact al_panic rfl rfl rfl (by exact ⟨hv, rfl⟩)
  · skip
    have hv : (if ok then some () else none : Option Unit) = some () := by rw [if_pos (by simpa using hb)]
    apply aw_skip
    refine q_xpn hv ?_
    simp only [QRet, QRetM, QRetX, retsX_nil, retsX_cons, objsAre, resA, mapO_nil, mapO_cons, vD_dat, vD_nils, vD_rp, vD_osl, vD_ptr, vD_agg, vD_fn, vD_isl, vL_dat, vL_app, viewL, avA, datsOf, fillA, seval, ↓List.forall_mem_cons, Op.operands, hP, hG, tiA, hE]
    all_goals try (first | done | rfl | trivial)
theorem need_pan (G) {ok : Bool} (h : ok = false) : PanX Try.prog G 66 [.dat (bD ok)] [] formV := (need_okP G ok).pan (by simp [h])
def rintsM (b : List Int) (a : Nat) : Option (List Int × Nat) := if (getIntsM (b.drop a)).2.2 = 0 then some ((getIntsM (b.drop a)).1, a + (getIntsM (b.drop a)).2.1) else none
set_option maxRecDepth 100000 in
theorem rints_okP (G) (b : List Int) (a : Nat) (hib : isB b) (hl : b.length ≤ 1099511627776) (ha : a ≤ b.length) : GivesXP Try.prog G 91 [.ptr 1000 2 0 0] [(1000, ⟨2, [.dat (rdD b a)]⟩)] (rintsM b a) (fun p => [.dat (isD p.1)]) (fun p => [(1000, ⟨2, [.dat (rdD b p.2)]⟩)]) formV := by
  have hdl : (b.drop a).length = b.length - a := List.length_drop
  have hat := getInts_at (isB_drop hib a)
  have hcast : ((a + (getIntsM (b.drop a)).2.1 : Nat) : Int) = (a : Int) + (getIntsM (b.drop a)).2.1 := by omega
  skip
  skip
  refine gives_introXP [] [] [] Try.func91 rfl (by rfl) (by simp [Try.ntmps91]) (by kernel_rfl) (fun _ => by kernel_rfl) (fun _ => by simp [onlyL_nil, onlyL_cons, AV.only, inIds]) (fun _ => by simp only [onlyOs, onlyL_nil, onlyL_cons, onlyL_append, onlyL_dats, onlyL_row, AV.only, Bool.and_true] <;> simp [inIds]) fun F hP hG hN hR => ?_
  rw [Try.ntmps91] at hN
  have hA := And.intro hN (And.intro hP (And.intro hG (And.intro hR.1 (And.intro hR.2.1 hR.2.2.1))))
  have hE := And.intro @Try.results91 (@hcast)
  refine WS [0] [1000] ?_
  apply aw_rgds [0, 3, 4, 5] [1000] [0, 1, 2, 3, 4, 5, 6, 7, 8, 9, 10, 11, 12, 13, 14, 15, 16] []
  · rw [hP]; kernel_rfl
  · exact hR
  · kernel_rfl
  · (repeat (apply PickL.cons; exact rfl)); exact PickL.nil _
  · simp (maxSteps := 2000000) (disch := omega) only [avR2, avA, datsOf, fillA, seval, ↓List.forall_mem_cons, Op.operands, hA, tiA, hE]
    (repeat' refine And.intro ?_ ?_) <;> try exact SD
    refine CallC.use (gvF hP hG (getInts_ok G (b.drop a) (isB_drop hib a) (by omega))) rfl ?_
    try simp (maxSteps := 2000000) (disch := omega) only [avR2, avA, datsOf, fillA, seval, ↓List.forall_mem_cons, Op.operands, hA, tiA, hE]
    exact SC
  rcases ht : (if decide ((getIntsM (b.drop a)).2.2 = 0) then some () else none : Option Unit) with _ | ⟨⟩
  · have hv := (show rintsM b a = none by unfold rintsM; rw [if_neg (by simpa using ht)])
    apply aw_lists
    apply al_seg
    · (iterate 2 apply Seg.cons); exact Seg.nil _
    · simp (maxSteps := 2000000) (disch := omega) only [avR2, avA, datsOf, fillA, seval, ↓List.forall_mem_cons, Op.operands, hA, tiA, hE, KeptS]
      exact SC
    refine al_pan (fun i => i) (gvPan hP hG ((need_okP G (decide ((getIntsM (b.drop a)).2.2 = 0))).pan ht)) rfl rfl rfl rfl (lentX_of hN (by first | trivial | ((try simp only [haveL, AObj.ren, AV.ren, renL, ren_row, List.map_cons, List.map_nil, objL_cons, objL_nil]) <;> ((repeat' apply And.intro) <;> first | trivial | rfl))) (by rfl)) (by exact ⟨hv, rfl⟩)
  have h0 : (getIntsM (b.drop a)).2.2 = 0 := by simpa using ht
  have hv : rintsM b a = some ((getIntsM (b.drop a)).1, a + (getIntsM (b.drop a)).2.1) := by unfold rintsM; rw [if_pos h0]
  have hE := And.intro hE h0
  have hc := gvF hP hG (need_ok G)
  refine WSc [0, 3, 4] [1000] ?_
  refine WS [3] [1000] ?_
  refine WS [2] [1000] ?_
  apply aw_ret
  refine q_xp hv ?_
  simp only [QRet, QRetM, QRetX, retsX_nil, retsX_cons, objsAre, resA, mapO_nil, mapO_cons, vD_dat, vD_nils, vD_rp, vD_osl, vD_ptr, vD_agg, vD_fn, vD_isl, vL_dat, vL_app, viewL, avA, datsOf, fillA, seval, ↓List.forall_mem_cons, Op.operands, hP, hG, tiA, hE]
  all_goals try (first | done | rfl | trivial)
def rstrsM (b : List Int) (a : Nat) : Option (List ByteArray × Nat) := if (getStrsM (b.drop a)).2.2 = 0 then some ((getStrsM (b.drop a)).1, a + (getStrsM (b.drop a)).2.1) else none
def rnumM (b : List Int) (a : Nat) (most : Int) : Option (Int × Nat) := if (getIntM (b.drop a)).2.2 = 0 ∧ withinM (getIntM (b.drop a)).1 most = true then some ((getIntM (b.drop a)).1, a + (getIntM (b.drop a)).2.1.toNat) else none
set_option maxRecDepth 100000 in
theorem rstrs_okP (G) (b : List Int) (a : Nat) (hib : isB b) (hl : b.length ≤ 1099511627776) (ha : a ≤ b.length) : GivesXP Try.prog G 93 [.ptr 1000 2 0 0] [(1000, ⟨2, [.dat (rdD b a)]⟩)] (rstrsM b a) (fun p => [.dat (ssD p.1)]) (fun p => [(1000, ⟨2, [.dat (rdD b p.2)]⟩)]) formV := by
  have hdl : (b.drop a).length = b.length - a := List.length_drop
  have hat := getStrs_at (isB_drop hib a)
  have hcast : ((a + (getStrsM (b.drop a)).2.1 : Nat) : Int) = (a : Int) + (getStrsM (b.drop a)).2.1 := by omega
  skip
  skip
  refine gives_introXP [] [] [] Try.func93 rfl (by rfl) (by simp [Try.ntmps93]) (by kernel_rfl) (fun _ => by kernel_rfl) (fun _ => by simp [onlyL_nil, onlyL_cons, AV.only, inIds]) (fun _ => by simp only [onlyOs, onlyL_nil, onlyL_cons, onlyL_append, onlyL_dats, onlyL_row, AV.only, Bool.and_true] <;> simp [inIds]) fun F hP hG hN hR => ?_
  rw [Try.ntmps93] at hN
  have hA := And.intro hN (And.intro hP (And.intro hG (And.intro hR.1 (And.intro hR.2.1 hR.2.2.1))))
  have hE := And.intro @Try.results93 (@hcast)
  refine WS [0] [1000] ?_
  apply aw_rgds [0, 3, 4, 5] [1000] [0, 1, 2, 3, 4, 5, 6, 7, 8, 9, 10, 11, 12, 13, 14, 15, 16] []
  · rw [hP]; kernel_rfl
  · exact hR
  · kernel_rfl
  · (repeat (apply PickL.cons; exact rfl)); exact PickL.nil _
  · simp (maxSteps := 2000000) (disch := omega) only [avR2, avA, datsOf, fillA, seval, ↓List.forall_mem_cons, Op.operands, hA, tiA, hE]
    (repeat' refine And.intro ?_ ?_) <;> try exact SD
    refine CallC.use (gvF hP hG (getStrs_ok G (b.drop a) (isB_drop hib a) (by omega))) rfl ?_
    try simp (maxSteps := 2000000) (disch := omega) only [avR2, avA, datsOf, fillA, seval, ↓List.forall_mem_cons, Op.operands, hA, tiA, hE]
    exact SC
  by_cases ht : ¬ ((getStrsM (b.drop a)).2.2 = 0)
  · have hv := (show rstrsM b a = none by unfold rstrsM; rw [if_neg ht])
    apply aw_lists
    apply al_seg
    · (iterate 2 apply Seg.cons); exact Seg.nil _
    · simp (maxSteps := 2000000) (disch := omega) only [avR2, avA, datsOf, fillA, seval, ↓List.forall_mem_cons, Op.operands, hA, tiA, hE, KeptS]
      exact SC
    refine al_pan (fun i => i) (gvPan hP hG (need_pan G ?_)) rfl rfl rfl rfl (lentX_of hN (by first | trivial | ((try simp only [haveL, AObj.ren, AV.ren, renL, ren_row, List.map_cons, List.map_nil, objL_cons, objL_nil]) <;> ((repeat' apply And.intro) <;> first | trivial | rfl))) (by rfl)) (by exact ⟨hv, rfl⟩)
    all_goals first | (simpa using ht) | grind
  replace ht := Classical.not_not.1 ht
  have hv : rstrsM b a = some ((getStrsM (b.drop a)).1, a + (getStrsM (b.drop a)).2.1) := by unfold rstrsM; rw [if_pos ht]
  have hE := And.intro hE ht
  have hc := gvF hP hG (need_ok G)
  refine WSc [0, 3, 4] [1000] ?_
  refine WS [3] [1000] ?_
  refine WS [2] [1000] ?_
  apply aw_ret
  refine q_xp hv ?_
  simp only [QRet, QRetM, QRetX, retsX_nil, retsX_cons, objsAre, resA, mapO_nil, mapO_cons, vD_dat, vD_nils, vD_rp, vD_osl, vD_ptr, vD_agg, vD_fn, vD_isl, vL_dat, vL_app, viewL, avA, datsOf, fillA, seval, ↓List.forall_mem_cons, Op.operands, hP, hG, tiA, hE]
  all_goals try (first | done | rfl | trivial)
set_option maxRecDepth 100000 in
theorem rnum_okP (G) (b : List Int) (a : Nat) (most : Int) (hib : isB b) (hl : b.length ≤ 1099511627776) (ha : a ≤ b.length) : GivesXP Try.prog G 94 [.ptr 1000 2 0 0, .dat (iD most)] [(1000, ⟨2, [.dat (rdD b a)]⟩)] (rnumM b a most) (fun p => [.dat (iD p.1)]) (fun p => [(1000, ⟨2, [.dat (rdD b p.2)]⟩)]) formV := by
  have hdl : (b.drop a).length = b.length - a := List.length_drop
  have hat := getInt_rng (isB_drop hib a)
  have hcast : ((a + (getIntM (b.drop a)).2.1.toNat : Nat) : Int) = (a : Int) + (getIntM (b.drop a)).2.1 := by omega
  skip
  skip
  refine gives_introXP [] [] [] Try.func94 rfl (by rfl) (by simp [Try.ntmps94]) (by kernel_rfl) (fun _ => by kernel_rfl) (fun _ => by simp [onlyL_nil, onlyL_cons, AV.only, inIds]) (fun _ => by simp only [onlyOs, onlyL_nil, onlyL_cons, onlyL_append, onlyL_dats, onlyL_row, AV.only, Bool.and_true] <;> simp [inIds]) fun F hP hG hN hR => ?_
  rw [Try.ntmps94] at hN
  have hA := And.intro hN (And.intro hP (And.intro hG (And.intro hR.1 (And.intro hR.2.1 hR.2.2.1))))
  have hE := And.intro @Try.results94 (@hcast)
  refine WS [0, 1] [1000] ?_
  apply aw_rgds [0, 1, 5, 6, 7] [1000] [0, 1, 2, 3, 4, 5, 6, 7, 8, 9, 10, 11, 12, 13, 14, 15, 16] []
  · rw [hP]; kernel_rfl
  · exact hR
  · kernel_rfl
  · (repeat (apply PickL.cons; exact rfl)); exact PickL.nil _
  · simp (maxSteps := 2000000) (disch := omega) only [avR2, avA, datsOf, fillA, seval, ↓List.forall_mem_cons, Op.operands, hA, tiA, hE]
    (repeat' refine And.intro ?_ ?_) <;> try exact SD
    refine CallC.use (gvF hP hG (getInt_ok G (b.drop a) (isB_drop hib a) (by omega))) rfl ?_
    try simp (maxSteps := 2000000) (disch := omega) only [avR2, avA, datsOf, fillA, seval, ↓List.forall_mem_cons, Op.operands, hA, tiA, hE]
    exact SC
  by_cases ht : ¬ ((getIntM (b.drop a)).2.2 = 0 ∧ withinM (getIntM (b.drop a)).1 most = true)
  · have hv := (show rnumM b a most = none by unfold rnumM; rw [if_neg ht])
    apply aw_lists
    apply al_seg
    · (iterate 7 apply Seg.cons); exact Seg.nil _
    · simp (maxSteps := 2000000) (disch := omega) only [avR2, avA, datsOf, fillA, seval, ↓List.forall_mem_cons, Op.operands, hA, tiA, hE, KeptS]
      (repeat' refine And.intro ?_ ?_) <;> try exact SD
      refine CallGC.use rfl (fun hg => ⟨by first | trivial | (simp only [gdAll, AV.gd, avA, seval]; (repeat' apply And.intro) <;> first | trivial | rfl | exact hg) | simp_all [gdAll], gvF hP hG (within_ok G (getIntM (b.drop a)).1 most)⟩) ?_
      try simp (maxSteps := 2000000) (disch := omega) only [avR2, avA, datsOf, fillA, seval, ↓List.forall_mem_cons, Op.operands, hA, tiA, hE]
      exact SC
    refine al_pan (fun i => i) (gvPan hP hG (need_pan G ?_)) rfl rfl rfl rfl (lentX_of hN (by first | trivial | ((try simp only [haveL, AObj.ren, AV.ren, renL, ren_row, List.map_cons, List.map_nil, objL_cons, objL_nil]) <;> ((repeat' apply And.intro) <;> first | trivial | rfl))) (by rfl)) (by exact ⟨hv, rfl⟩)
    all_goals first | (simpa using ht) | grind
  replace ht := Classical.not_not.1 ht
  have hv : rnumM b a most = some ((getIntM (b.drop a)).1, a + (getIntM (b.drop a)).2.1.toNat) := by unfold rnumM; rw [if_pos ht]
  have hE := And.intro hE ht
  apply aw_regs [0, 5, 6] [1000]
  · simp (maxSteps := 2000000) (disch := omega) only [avR2, avA, datsOf, fillA, seval, ↓List.forall_mem_cons, Op.operands, hA, tiA, hE]
    (repeat' refine And.intro ?_ ?_) <;> try exact SD
    refine CallGC.use rfl (fun hg => ⟨by first | trivial | (simp only [gdAll, AV.gd, avA, seval]; (repeat' apply And.intro) <;> first | trivial | rfl | exact hg) | simp_all [gdAll], gvF hP hG (within_ok G (getIntM (b.drop a)).1 most)⟩) ?_
    try simp (maxSteps := 2000000) (disch := omega) only [avR2, avA, datsOf, fillA, seval, ↓List.forall_mem_cons, Op.operands, hA, tiA, hE]
    (repeat' refine And.intro ?_ ?_) <;> try exact SD
    refine CallC.use (gvF hP hG (need_ok G)) rfl ?_
    try simp (maxSteps := 2000000) (disch := omega) only [avR2, avA, datsOf, fillA, seval, ↓List.forall_mem_cons, Op.operands, hA, tiA, hE]
    exact SC
  refine WS [5] [1000] ?_
  refine WS [4] [1000] ?_
  apply aw_ret
  refine q_xp hv ?_
  simp only [QRet, QRetM, QRetX, retsX_nil, retsX_cons, objsAre, resA, mapO_nil, mapO_cons, vD_dat, vD_nils, vD_rp, vD_osl, vD_ptr, vD_agg, vD_fn, vD_isl, vL_dat, vL_app, viewL, avA, datsOf, fillA, seval, ↓List.forall_mem_cons, Op.operands, hP, hG, tiA, hE]
  all_goals try (first | done | rfl | trivial)
  all_goals simp only [rdD, hcast]
end Go.Proofs.Ytabjaaonfaejmaa

namespace Go.Proofs.Ytabjaaonfaejmaa
open Go.Av
abbrev z0Ev : EventM := ⟨0, 0, 0, 0, [], zOp, zTerm, zID, [], 0⟩
def nameR (r : List Int) (k : Nat) : NameM := ⟨r.getD (2 * k) default, r.getD (2 * k + 1) default⟩
def namesR (r : List Int) (k : Nat) : List NameM := (List.range k).map (nameR r)
theorem namesR_zero (r : List Int) : namesR r 0 = [] := rfl
theorem namesR_len (r : List Int) (k : Nat) : (namesR r k).length = k := by simp [namesR]
theorem namesR_succ (r : List Int) (k : Nat) : namesR r (k + 1) = namesR r k ++ [nameR r k] := by simp [namesR, List.range_succ]
theorem namesR_take (r : List Int) (k : Nat) : (namesR r k).take k = namesR r k := List.take_of_length_le (by rw [namesR_len]; exact Nat.le_refl _)
def postsL (b : List Int) (d : IdM) (a : Nat) : Nat → List PostM × Nat × Bool
  | 0 => ([], a, true)
  | i + 1 => if (postsL b d a i).2.2 = false then postsL b d a i else
    match rnumM b (postsL b d a i).2.1 1 with
    | none => ([], 0, false)
    | some (mn, n) => match rstrsM b n with
      | none => ([], 0, false)
      | some (p, n') => ((postsL b d a i).1 ++ [⟨d, p, mn == 1⟩], n', true)
theorem postsL_stop {b : List Int} {d : IdM} {a i : Nat} (h : (postsL b d a i).2.2 = false) : ∀ j, i ≤ j → (postsL b d a j).2.2 = false := fun j hj => by
  induction hj with
  | refl => exact h
  | step _ ih => rw [postsL, if_pos ih]; exact ih
theorem rints_at {b : List Int} (hib : isB b) {a : Nat} (ha : a ≤ b.length) {l : List Int} {n : Nat} (h : rintsM b a = some (l, n)) : n ≤ b.length ∧ l.length ≤ b.length ∧ a ≤ n := by
  have h1 := getInts_at (isB_drop hib a)
  have hd : (b.drop a).length = b.length - a := List.length_drop
  unfold rintsM at h
  split at h
  · rename_i h0
    simp only [Option.some.injEq, Prod.mk.injEq] at h
    have h2 := h1.2 h0
    rw [← h.1, ← h.2]
    exact ⟨by omega, by omega, by omega⟩
  · cases h
theorem getStrs_len {b : List Int} (hb : isB b) (h : (getStrsM b).2.2 = 0) : (getStrsM b).1.length ≤ b.length := by
  unfold getStrsM at h ⊢
  split
  · exact Nat.zero_le _
  · rename_i hh
    rw [if_neg hh] at h
    obtain ⟨h1, h2, h3, h4⟩ := countM_ok hb (by omega)
    have h5 := getInt_rng hb
    rw [strsL_len _ h, h1]
    omega
theorem rstrs_at {b : List Int} (hib : isB b) {a : Nat} (ha : a ≤ b.length) {l : List ByteArray} {n : Nat} (h : rstrsM b a = some (l, n)) : n ≤ b.length ∧ l.length ≤ b.length ∧ a ≤ n := by
  have h1 := getStrs_at (isB_drop hib a)
  have hd : (b.drop a).length = b.length - a := List.length_drop
  unfold rstrsM at h
  split at h
  · rename_i h0
    simp only [Option.some.injEq, Prod.mk.injEq] at h
    have h2 := getStrs_len (isB_drop hib a) h0
    rw [← h.1, ← h.2]
    exact ⟨by omega, by omega, by omega⟩
  · cases h
theorem rnum_at {b : List Int} (hib : isB b) {a : Nat} (ha : a ≤ b.length) {most k : Int} {n : Nat} (h : rnumM b a most = some (k, n)) : n ≤ b.length ∧ a ≤ n ∧ 0 ≤ k ∧ k ≤ most := by
  have h1 := getInt_rng (isB_drop hib a)
  have hd : (b.drop a).length = b.length - a := List.length_drop
  unfold rnumM at h
  split at h
  · rename_i h0
    simp only [Option.some.injEq, Prod.mk.injEq] at h
    have h2 := h0.2
    unfold withinM at h2
    simp only [Bool.and_eq_true, decide_eq_true_eq] at h2
    rw [← h.1, ← h.2]
    exact ⟨by omega, by omega, h2.1, h2.2⟩
  · cases h
theorem postsL_at {b : List Int} (hib : isB b) {d : IdM} {a : Nat} (ha : a ≤ b.length) : ∀ i, (postsL b d a i).2.1 ≤ b.length
  | 0 => ha
  | i + 1 => by
    have ih := postsL_at hib (d := d) ha i
    rw [postsL]
    split
    · exact ih
    split
    · exact Nat.zero_le _
    · rename_i mn n h1
      have h2 := rnum_at hib ih h1
      split
      · exact Nat.zero_le _
      · rename_i p n' h3
        exact (rstrs_at hib h2.1 h3).1
theorem postsL_len {b : List Int} {d : IdM} {a : Nat} : ∀ i, (postsL b d a i).2.2 = true → (postsL b d a i).1.length = i
  | 0, _ => rfl
  | i + 1, h => by
    rw [postsL] at h ⊢
    split at h
    · rename_i h0; rw [h0] at h; cases h
    rename_i h0
    rw [if_neg h0]
    have ih := postsL_len i (by simpa using h0)
    cases h1 : rnumM b (postsL b d a i).2.1 1 with
    | none => simp [h1] at h
    | some q =>
      obtain ⟨mn, n⟩ := q
      simp only [h1] at h ⊢
      cases h2 : rstrsM b n with
      | none => simp [h2] at h
      | some q => simp [ih]
theorem editDec_at {b : List Int} (hib : isB b) : (editDecM b).2.1 ≤ b.length := by
  unfold editDecM
  split
  · exact Nat.zero_le _
  split
  · exact Nat.zero_le _
  split
  · exact Nat.zero_le _
  · have h1 : edA2 b ≤ b.length := edS_at hib
    have h2 : (edP b).2.1 ≤ b.length := (eints_at hib h1 _ _ _).1
    exact (eints_at hib h2 _ _ _).1
def evHd (l r : List Int) : EventM := { z0Ev with By := l.getD 0 default, Seq := l.getD 1 default, Tick := l.getD 2 default, Kind := l.getD 3 default, Refs := namesR r (r.length / 2) }
def evHeadM (b : List Int) (a : Nat) : Option (EventM × Nat) :=
  match rintsM b a with
  | none => none
  | some (l, n1) => if ¬ l.length = 4 then none else
    match rintsM b n1 with
    | none => none
    | some (r, n2) => if ¬ (r.length : Int).tmod 2 = 0 then none else some (evHd l r, n2)
def evTermM (b : List Int) (x : EventM) (n : Nat) : Option (EventM × Nat) :=
  match rintsM b n with
  | none => none
  | some (k, n1) => if ¬ k.length = 2 then none else
    match rstrsM b n1 with
    | none => none
    | some (s, n2) => if ¬ 2 ≤ s.length then none else some ({ x with Term := ⟨s.getD 0 default, k.getD 0 default, k.getD 1 default, s.getD 1 default, s.drop 2⟩ }, n2)
def idR (k : List Int) : IdM := ⟨k.getD 0 default, k.getD 1 default, k.getD 2 default⟩
def evIdM (b : List Int) (x : EventM) (n : Nat) : Option (EventM × Nat) :=
  match rintsM b n with
  | none => none
  | some (k, n1) => if ¬ (((ofM x.Kind).posts = true ∧ k.length = 3) ∨ ((ofM x.Kind).n = true ∧ k.length = 4)) then none else
    if (ofM x.Kind).n = true then some ({ x with ID := idR k, N := k.getD 3 default }, n1) else
    match rnumM b n1 16 with
    | none => none
    | some (m, n2) => if (postsL b (idR k) n2 m.toNat).2.2 = false then none else some ({ x with ID := idR k, Posts := (postsL b (idR k) n2 m.toNat).1 }, (postsL b (idR k) n2 m.toNat).2.1)
def evTailM (b : List Int) (x : EventM) (n : Nat) : Option (EventM × Nat) :=
  if (ofM x.Kind).op = true then (if ¬ (editDecM (b.drop n)).2.2 = 0 then none else some ({ x with Op := (editDecM (b.drop n)).1 }, n + (editDecM (b.drop n)).2.1))
  else if (ofM x.Kind).term = true then evTermM b x n
  else if (ofM x.Kind).id = true then evIdM b x n
  else some (x, n)
def evReadM (b : List Int) (a : Nat) : Option (EventM × Nat) :=
  match evHeadM b a with
  | none => none
  | some (x, n) => evTailM b x n
end Go.Proofs.Ytabjaaonfaejmaa

namespace Go.Proofs.Ytabjaaonfaejmaa
open Go.Av
theorem drop_next {b C s : List Int} {a : Nat} (h : b.drop a = C ++ s) : b.drop (a + C.length) = s := by
  rw [← List.drop_drop, h, List.drop_left]
theorem eints_rt {b l s : List Int} {a n : Nat} {just : Bool} (hd : b.drop a = intsM l ++ s) (hl : l.length ≤ 1000000000000) (hx : ∀ x ∈ l, I64 x) (hm : (l.length : Int).tmod n = 0) (hj : just = true → l.length = n) : eintsM b a 0 n just = (l, a + (intsM l).length, 0) := by
  unfold eintsM
  rw [hd, getInts_rt hl hx s]
  simp only [ne_eq, not_true_eq_false, if_false]
  rw [if_neg]
  rintro (h | ⟨h1, h2⟩)
  · exact h hm
  · exact h2 (by rw [hj h1])
theorem pairs_at (l : List (Int × Int)) {k : Nat} (hk : k < l.length) : pairL (l.flatMap pairI) k = l.getD k default := by
  induction l generalizing k with
  | nil => simp at hk
  | cons p l ih =>
    cases k with
    | zero => rfl
    | succ k =>
      have := ih (k := k) (by simpa using hk)
      unfold pairL at this ⊢
      simpa [pairI, Nat.add_mul] using this
theorem refs_at (l : List IdM) {k : Nat} (hk : k < l.length) : refL (l.flatMap idI) k = l.getD k default := by
  induction l generalizing k with
  | nil => simp at hk
  | cons p l ih =>
    cases k with
    | zero => rfl
    | succ k =>
      have := ih (k := k) (by simpa using hk)
      unfold refL at this ⊢
      simpa [idI, Nat.add_mul] using this
theorem names_at (l : List NameM) {k : Nat} (hk : k < l.length) : nameR (l.flatMap nameI) k = l.getD k default := by
  induction l generalizing k with
  | nil => simp at hk
  | cons p l ih =>
    cases k with
    | zero => rfl
    | succ k =>
      have := ih (k := k) (by simpa using hk)
      unfold nameR at this ⊢
      simpa [nameI, Nat.mul_add] using this
theorem range_all {α : Type} [Inhabited α] {f : Nat → α} {l : List α} (h : ∀ k, k < l.length → f k = l.getD k default) : (List.range l.length).map f = l := by
  apply List.ext_getElem (by simp)
  intro k h1 h2
  simp only [List.getElem_map, List.getElem_range]
  rw [h k h2]
  simp [List.getD_eq_getElem?_getD, h2]
theorem flat_len2 (l : List (Int × Int)) : (l.flatMap pairI).length = 2 * l.length := by
  induction l with
  | nil => rfl
  | cons p l ih => simp only [List.flatMap_cons, List.length_append, ih, pairI, List.length_cons, List.length_nil]; omega
theorem flat_len3 (l : List IdM) : (l.flatMap idI).length = 3 * l.length := by
  induction l with
  | nil => rfl
  | cons p l ih => simp only [List.flatMap_cons, List.length_append, ih, idI, List.length_cons, List.length_nil]; omega
theorem flat_lenN (l : List NameM) : (l.flatMap nameI).length = 2 * l.length := by
  induction l with
  | nil => rfl
  | cons p l ih => simp only [List.flatMap_cons, List.length_append, ih, nameI, List.length_cons, List.length_nil]; omega
theorem tmod_two (n : Nat) : ((2 * n : Nat) : Int).tmod 2 = 0 := by rw [show (2 : Int) = ((2 : Nat) : Int) from rfl, ← Int.ofNat_tmod]; omega
theorem tmod_three (n : Nat) : ((3 * n : Nat) : Int).tmod 3 = 0 := by rw [show (3 : Int) = ((3 : Nat) : Int) from rfl, ← Int.ofNat_tmod]; omega
theorem editDec_rt {o : OpM} (h : OkOp o) (r : List Int) : editDecM (opB o ++ r) = (o, (opB o).length, 0) := by
  have hnt := h.ntexts
  have hnp := h.npairs
  have hnr := h.nrefs
  have htx := h.text
  have hpx : ∀ x ∈ o.Pairs.flatMap pairI, I64 x := fun x hx => by
    obtain ⟨p, hp, hx⟩ := List.mem_flatMap.1 hx
    have := h.pairs p hp
    simp only [pairI, List.mem_cons, List.not_mem_nil, or_false] at hx
    rcases hx with rfl | rfl
    · exact this.1
    · exact this.2
  have hrx : ∀ x ∈ o.Refs.flatMap idI, I64 x := fun x hx => by
    obtain ⟨p, hp, hx⟩ := List.mem_flatMap.1 hx
    obtain ⟨q1, q2, q3⟩ := h.refs p hp
    simp only [idI, List.mem_cons, List.not_mem_nil, or_false] at hx
    rcases hx with rfl | rfl | rfl
    · exact q1
    · exact q2
    · exact q3
  have hlp := flat_len2 o.Pairs
  have hlr := flat_len3 o.Refs
  have hb : opB o ++ r = intsM (headL o) ++ (bytesM o.Text ++ (strsM o.Texts ++ (intsM (o.Pairs.flatMap pairI) ++ (intsM (o.Refs.flatMap idI) ++ r)))) := by simp [opB]
  have e1 : edH (opB o ++ r) = (headL o, 0 + (intsM (headL o)).length, 0) := eints_rt (s := _) (by rw [List.drop_zero]; exact hb) (by simp [headL]) h.head (by simp [headL]) (by intro _; simp [headL])
  have d1 : (opB o ++ r).drop (0 + (intsM (headL o)).length) = bytesM o.Text ++ (strsM o.Texts ++ (intsM (o.Pairs.flatMap pairI) ++ (intsM (o.Refs.flatMap idI) ++ r))) := drop_next (by rw [List.drop_zero]; exact hb)
  have e2 : edT (opB o ++ r) = (o.Text, ((bytesM o.Text).length : Int), 0) := by
    unfold edT
    rw [e1]
    simp only [d1]
    exact getBytes_rt (by omega) _
  have a1 : edA1 (opB o ++ r) = 0 + (intsM (headL o)).length + (bytesM o.Text).length := by unfold edA1; rw [e1, e2]; simp
  have d2 := drop_next d1
  have e3 : edS (opB o ++ r) = (o.Texts, (strsM o.Texts).length, 0) := by
    unfold edS
    rw [a1, d2]
    exact getStrs_rt (by omega) (fun s hs => by have := h.texts s hs; omega) _
  have d3 := drop_next d2
  have a2 : edA2 (opB o ++ r) = 0 + (intsM (headL o)).length + (bytesM o.Text).length + (strsM o.Texts).length := by unfold edA2; rw [a1, e3]
  have e4 : edP (opB o ++ r) = (o.Pairs.flatMap pairI, 0 + (intsM (headL o)).length + (bytesM o.Text).length + (strsM o.Texts).length + (intsM (o.Pairs.flatMap pairI)).length, 0) := by
    unfold edP
    rw [a2, e3]
    exact eints_rt d3 (by omega) hpx (by rw [hlp]; exact tmod_two _) (by simp)
  have d4 := drop_next d3
  have e5 : edQ (opB o ++ r) = (o.Refs.flatMap idI, 0 + (intsM (headL o)).length + (bytesM o.Text).length + (strsM o.Texts).length + (intsM (o.Pairs.flatMap pairI)).length + (intsM (o.Refs.flatMap idI)).length, 0) := by
    unfold edQ
    rw [e4]
    exact eints_rt d4 (by omega) hrx (by rw [hlr]; exact tmod_three _) (by simp)
  unfold editDecM
  rw [e1, e2, e3, e4, e5]
  simp only [ne_eq, not_true_eq_false, if_false]
  have hP : pairsL (o.Pairs.flatMap pairI) ((o.Pairs.flatMap pairI).length / 2) = o.Pairs := by
    rw [hlp, show 2 * o.Pairs.length / 2 = o.Pairs.length by omega]
    exact range_all fun k hk => pairs_at o.Pairs hk
  have hR : refsL2 (o.Refs.flatMap idI) ((o.Refs.flatMap idI).length / 3) = o.Refs := by
    rw [hlr, show 3 * o.Refs.length / 3 = o.Refs.length by omega]
    exact range_all fun k hk => refs_at o.Refs hk
  rw [hP, hR]
  have hL : (opB o).length = 0 + (intsM (headL o)).length + (bytesM o.Text).length + (strsM o.Texts).length + (intsM (o.Pairs.flatMap pairI)).length + (intsM (o.Refs.flatMap idI)).length := by
    simp only [opB, List.length_append]; omega
  rw [hL]
  rfl
theorem rints_rt {b l s : List Int} {a : Nat} (hd : b.drop a = intsM l ++ s) (hl : l.length ≤ 1000000000000) (hx : ∀ x ∈ l, I64 x) : rintsM b a = some (l, a + (intsM l).length) := by
  unfold rintsM
  rw [hd, getInts_rt hl hx s]
  rfl
theorem rstrs_rt {b s : List Int} {l : List ByteArray} {a : Nat} (hd : b.drop a = strsM l ++ s) (hl : l.length ≤ 1000000000000) (hx : ∀ s ∈ l, s.size ≤ 1000000000000) : rstrsM b a = some (l, a + (strsM l).length) := by
  unfold rstrsM
  rw [hd, getStrs_rt hl hx s]
  rfl
theorem rnum_rt {b s : List Int} {n most : Int} {a : Nat} (hd : b.drop a = intM n ++ s) (hn : I64 n) (hw : withinM n most = true) : rnumM b a most = some (n, a + (intM n).length) := by
  unfold rnumM
  rw [hd, getInt_int hn s]
  simp only [hw, and_self, if_true, Int.toNat_natCast, intM_len]
theorem posts_rt {b s : List Int} {l : List PostM} {d : IdM} {a : Nat} (hd : b.drop a = l.flatMap postB ++ s) (hid : ∀ p ∈ l, p.ID = d) (hp : ∀ p ∈ l, p.Path.length ≤ 1000000000000 ∧ ∀ s ∈ p.Path, s.size ≤ 1000000000000) : ∀ i, i ≤ l.length → postsL b d a i = (preM l i, a + ((preM l i).flatMap postB).length, true)
  | 0, _ => by simp [postsL, preM_zero]
  | i + 1, h => by
    have ih := posts_rt hd hid hp i (by omega)
    obtain ⟨t, ht⟩ := flat_split postB l (i := i) (by omega)
    have hmem : l.getD i default ∈ l := by
      rw [List.getD_eq_getElem?_getD, List.getElem?_eq_getElem (by omega)]
      exact List.getElem_mem _
    have hpi := hp _ hmem
    have hidi := hid _ hmem
    generalize hq : l.getD i default = q at *
    have d1 : b.drop (a + ((preM l i).flatMap postB).length) = intM (if q.Main = true then 1 else 0) ++ (strsM q.Path ++ (t ++ s)) := by
      rw [← List.drop_drop, hd, ht]
      simp [postB]
    have d2 := drop_next d1
    have g1 := rnum_rt (most := 1) d1 (by split <;> (unfold I64; omega)) (by unfold withinM; split <;> simp)
    have g2 := rstrs_rt d2 hpi.1 hpi.2
    rw [postsL, ih]
    simp only [Bool.true_eq_false, if_false, g1, g2]
    rw [preM_succ l i (by omega), hq]
    simp only [List.flatMap_append, List.flatMap_cons, List.flatMap_nil, List.append_nil, List.length_append, Prod.mk.injEq, and_true]
    refine ⟨?_, by simp only [postB, List.length_append]; omega⟩
    congr 1
    obtain ⟨qi, qp, qm⟩ := q
    simp only at hidi
    subst hidi
    cases qm <;> simp
theorem sameID_eq {a b : IdM} (h : sameID a b = true) : a = b := by
  cases a; cases b
  simp [sameID] at h
  simp [h]
theorem sameName_eqR {a b : NameM} (h : sameName a b = true) : a = b := by
  cases a; cases b
  simp [sameName] at h
  simp [h]
theorem sameStr_eq {a b : ByteArray} (h : sameStr a b = true) : a = b := by simpa [sameStr] using h
theorem sameL_eq {α : Type} {f : α → α → Bool} (hf : ∀ a b, f a b = true → a = b) : ∀ {a b : List α}, sameL f a b = true → a = b
  | [], [], _ => rfl
  | [], _ :: _, h => by simp [sameL] at h
  | _ :: _, [], h => by simp [sameL] at h
  | x :: a, y :: b, h => by
    simp only [sameL, Bool.and_eq_true] at h
    rw [hf _ _ h.1, sameL_eq hf h.2]
theorem sameL_refl {α : Type} {f : α → α → Bool} (hf : ∀ a, f a a = true) : ∀ {a : List α}, sameL f a a = true
  | [] => rfl
  | x :: a => by simp only [sameL, hf x, sameL_refl hf, Bool.and_self]
theorem sameTerm_eq {t u : TermM} (h : sameTermM t u = true) : t = u := by
  cases t; cases u
  simp only [sameTermM, Bool.and_eq_true, beq_iff_eq] at h
  obtain ⟨⟨⟨⟨h1, h2⟩, h3⟩, h4⟩, h5⟩ := h
  rw [sameStr_eq h1, h2, h3, sameStr_eq h4, sameL_eq (fun _ _ => sameStr_eq) h5]
theorem samePost_eq {p q : PostM} (h : samePostM p q = true) : p = q := by
  cases p; cases q
  simp only [samePostM, Bool.and_eq_true, beq_iff_eq] at h
  obtain ⟨⟨h1, h2⟩, h3⟩ := h
  rw [sameID_eq h1, h2, sameL_eq (fun _ _ => sameStr_eq) h3]
theorem samePair_eq {p q : Int × Int} (h : samePair p q = true) : p = q := by
  cases p; cases q
  simp only [samePair, Bool.and_eq_true, beq_iff_eq] at h
  rw [h.1, h.2]
theorem sameSpot_eq {p q : SpotM} (h : sameSpot p q = true) : p = q := by
  cases p; cases q
  simp only [sameSpot, Bool.and_eq_true, beq_iff_eq] at h
  rw [h.1.1, h.1.2, h.2]
theorem sameOp_eq {o p : OpM} (h : sameOpM o p = true) : o = p := by
  cases o; cases p
  simp only [sameOpM, Bool.and_eq_true, beq_iff_eq] at h
  obtain ⟨⟨⟨⟨⟨⟨⟨⟨⟨⟨h1, h2⟩, h3⟩, h4⟩, h5⟩, h6⟩, h7⟩, h8⟩, h9⟩, h10⟩, h11⟩ := h
  rw [h1, sameID_eq h2, sameID_eq h3, sameSpot_eq h4, h5, h6, h7, sameStr_eq h8, sameL_eq (fun _ _ => sameStr_eq) h9, sameL_eq (fun _ _ => samePair_eq) h10, sameL_eq (fun _ _ => sameID_eq) h11]
theorem sameEv_eq {a b : EventM} (h : sameEvM a b = true) : a = b := by
  cases a; cases b
  simp only [sameEvM, Bool.and_eq_true, beq_iff_eq] at h
  obtain ⟨⟨⟨⟨⟨⟨⟨⟨⟨h1, h2⟩, h3⟩, h4⟩, h5⟩, h6⟩, h7⟩, h8⟩, h9⟩, h10⟩ := h
  rw [h1, h2, h3, h4, sameID_eq h5, h6, sameL_eq (fun _ _ => samePost_eq) h7, sameL_eq (fun _ _ => sameName_eqR) h8, sameTerm_eq h9, sameOp_eq h10]
theorem sameEv_refl (e : EventM) : sameEvM e e = true := by
  have q1 : ∀ i, sameID i i = true := fun i => by simp [sameID]
  have q2 : ∀ i, sameName i i = true := fun i => by simp [sameName]
  have q3 : ∀ i, sameStr i i = true := fun i => by simp [sameStr]
  have q4 : ∀ i, samePostM i i = true := fun i => by simp [samePostM, q1, sameL_refl q3]
  have q5 : ∀ i, samePair i i = true := fun i => by simp [samePair]
  simp [sameEvM, sameTermM, sameOpM, sameSpot, q1, q3, sameL_refl q4, sameL_refl q2, sameL_refl q3, sameL_refl q5, sameL_refl q1]
end Go.Proofs.Ytabjaaonfaejmaa

namespace Go.Proofs.Ytabjaaonfaejmaa
open Go.Av
theorem valid_facts {e : EventM} (h : validM e = 0) : limM e = false ∧ bad2 e = false ∧ bad3 e = false ∧ (∀ i, i < e.Posts.length → badPost e i = false) ∧ bad1 e = false := by
  unfold validM at h
  split at h
  · cases h
  rename_i h1
  split at h
  · cases h
  rename_i h2
  split at h
  · cases h
  split at h
  · cases h
  split at h
  · cases h
  rename_i h5
  refine ⟨by simpa using h1, ?_, ?_, fun i hi => ?_, ?_⟩
  · cases hb : bad2 e
    · rfl
    · exact absurd (.inr (.inl hb)) h2
  · cases hb : bad3 e
    · rfl
    · exact absurd (.inr (.inr (.inl hb))) h2
  · cases hb : badPost e i
    · rfl
    · exact absurd ⟨i, hi, hb⟩ h5
  · cases hb : bad1 e
    · rfl
    · exact absurd (.inl hb) h2
theorem unused {e : EventM} (h : validM e = 0) : ((ofM e.Kind).op = false → e.Op = zOp) ∧ ((ofM e.Kind).term = false → e.Term = zTerm) ∧ ((ofM e.Kind).id = false → e.ID = zID) ∧ ((ofM e.Kind).posts = false → e.Posts = []) ∧ ((ofM e.Kind).n = false → e.N = 0) := by
  obtain ⟨_, h2, h3, _⟩ := valid_facts h
  simp only [bad2, bad3, Bool.or_eq_false_iff, Bool.and_eq_false_imp, Bool.not_eq_true', decide_eq_false_iff_not, Nat.not_lt, ne_eq, Classical.not_not] at h2 h3
  refine ⟨fun q => sameOp_eq ?_, fun q => sameTerm_eq ?_, fun q => sameID_eq ?_, fun q => ?_, fun q => h3.2 q⟩
  · simpa using h2.1 q
  · simpa using h2.2 q
  · simpa using h3.1.1 q
  · exact List.eq_nil_of_length_eq_zero (by have := h3.1.2 q; omega)
theorem idI_i64 {i : IdM} (h : idOK i) : ∀ x ∈ idI i, I64 x := fun x hx => by
  simp only [idI, List.mem_cons, List.not_mem_nil, or_false] at hx
  rcases hx with rfl | rfl | rfl
  · exact h.1
  · exact h.2.1
  · exact h.2.2
theorem ev_rt {e : EventM} (ok : OkEv e) (h : validM e = 0) (r : List Int) : evReadM (evB e ++ r) 0 = some (e, (evB e).length) := by
  obtain ⟨u1, u2, u3, u4, u5⟩ := unused h
  obtain ⟨hl, _, _, hpo, _⟩ := valid_facts h
  have hnr := ok.nrefs
  have hnp := ok.nposts
  have hnb := ok.nbroader
  have hlim : e.Posts.length ≤ 16 := by
    simp only [limM, Bool.or_eq_false_iff, decide_eq_false_iff_not] at hl; omega
  have hhd : ∀ x ∈ [e.By, e.Seq, e.Tick, e.Kind], I64 x := by
    simp only [List.forall_mem_cons]
    exact ⟨ok.by_, ok.seq, ok.tick, ok.kind, by simp⟩
  have hln := flat_lenN e.Refs
  have hb : (evB e ++ r).drop 0 = intsM [e.By, e.Seq, e.Tick, e.Kind] ++ (intsM (e.Refs.flatMap nameI) ++ (tailB e ++ r)) := by simp [evB, headB]
  have g1 := rints_rt hb (by simp) hhd
  have d1 := drop_next hb
  have g2 := rints_rt d1 (by omega) (nameI_ok ok)
  have d2 := drop_next d1
  have hN : namesR (e.Refs.flatMap nameI) ((e.Refs.flatMap nameI).length / 2) = e.Refs := by
    rw [hln, show 2 * e.Refs.length / 2 = e.Refs.length by omega]
    exact range_all fun k hk => names_at e.Refs hk
  have hx : evHd [e.By, e.Seq, e.Tick, e.Kind] (e.Refs.flatMap nameI) = { z0Ev with By := e.By, Seq := e.Seq, Tick := e.Tick, Kind := e.Kind, Refs := e.Refs } := by unfold evHd; rw [hN]; rfl
  have hR : evReadM (evB e ++ r) 0 = evTailM (evB e ++ r) { z0Ev with By := e.By, Seq := e.Seq, Tick := e.Tick, Kind := e.Kind, Refs := e.Refs } (0 + (intsM [e.By, e.Seq, e.Tick, e.Kind]).length + (intsM (e.Refs.flatMap nameI)).length) := by
    unfold evReadM evHeadM
    simp only [g1, List.length_cons, List.length_nil, Nat.zero_add, not_true_eq_false, if_false]
    simp only [Nat.zero_add] at g2
    simp only [g2]
    rw [if_neg (by rw [hln]; exact Classical.not_not.2 (tmod_two _)), hx]
  rw [hR]
  have hlen : (evB e).length = 0 + (intsM [e.By, e.Seq, e.Tick, e.Kind]).length + (intsM (e.Refs.flatMap nameI)).length + (tailB e).length := by
    simp only [evB, headB, List.length_append]; omega
  generalize ha : 0 + (intsM [e.By, e.Seq, e.Tick, e.Kind]).length + (intsM (e.Refs.flatMap nameI)).length = a at *
  generalize hbb : evB e ++ r = b at *
  have o1 := of_op e.Kind
  have o2 := of_term e.Kind
  have o3 := of_id e.Kind
  have o4 := of_posts e.Kind
  have o5 := of_n e.Kind
  rw [hlen]
  unfold evTailM
  simp only
  obtain ⟨eb, es, et, ek, er, eo, em, ei, ep, en⟩ := e
  simp only at *
  by_cases k0 : ek = 0
  · have t : tailB ⟨eb, es, et, ek, er, eo, em, ei, ep, en⟩ = opB eo := by unfold tailB; rw [if_pos k0]
    rw [t] at d2 ⊢
    rw [if_pos (by rw [o1]; simpa using k0), d2, editDec_rt ok.op]
    simp only [not_true_eq_false, if_false]
    rw [u2 (by rw [o2]; simp; omega), u3 (by rw [o3]; simp; omega), u4 (by rw [o4]; simp; omega), u5 (by rw [o5]; simp; omega)]
  rw [if_neg (by rw [o1]; simpa using k0)]
  have hOp := u1 (by rw [o1]; simpa using k0)
  by_cases k2 : ek = 2
  · have t : tailB ⟨eb, es, et, ek, er, eo, em, ei, ep, en⟩ = intsM [em.Kind, em.Lang] ++ strsM (em.Name :: em.See :: em.Broader) := by unfold tailB; rw [if_neg k0, if_pos k2]
    rw [t, List.append_assoc] at d2
    have q1 := rints_rt d2 (by simp) (by
      simp only [List.forall_mem_cons]
      exact ⟨ok.tk, ok.tl, by simp⟩)
    have d3 := drop_next d2
    have q2 := rstrs_rt d3 (by simp only [List.length_cons]; omega) (by
      intro s hs
      rcases List.mem_cons.1 hs with rfl | hs
      · have : em.Name.size ≤ 900000 := ok.name; omega
      · rcases List.mem_cons.1 hs with rfl | hs
        · have : em.See.size ≤ 900000 := ok.see; omega
        · have := ok.broader s hs; omega)
    rw [if_pos (by rw [o2]; simpa using k2)]
    unfold evTermM
    simp only [q1, List.length_cons, List.length_nil, Nat.zero_add, not_true_eq_false, if_false, q2]
    rw [if_neg (by omega), t, hOp, u3 (by rw [o3]; simp; omega), u4 (by rw [o4]; simp; omega), u5 (by rw [o5]; simp; omega)]
    simp only [List.length_append, Nat.add_assoc]
    rfl
  rw [if_neg (by rw [o2]; simpa using k2)]
  have hTm := u2 (by rw [o2]; simpa using k2)
  by_cases k3 : ek = 3 ∨ ek = 4
  · have t : tailB ⟨eb, es, et, ek, er, eo, em, ei, ep, en⟩ = intsM (idI ei) ++ intM ep.length ++ ep.flatMap postB := by unfold tailB; rw [if_neg k0, if_neg k2, if_pos k3]
    rw [t, List.append_assoc, List.append_assoc] at d2
    have q1 := rints_rt d2 (by simp [idI]) (idI_i64 ok.id)
    have d3 := drop_next d2
    have q2 := rnum_rt (most := 16) d3 (by unfold I64; omega) (by unfold withinM; simp; omega)
    have d4 := drop_next d3
    have q3 := posts_rt (d := ei) d4 (fun p hp => by
      obtain ⟨i, hi, rfl⟩ := List.getElem_of_mem hp
      have := hpo i hi
      simp only [badPost, Bool.or_eq_false_iff, Bool.not_eq_false'] at this
      have h2 := sameID_eq this.1.1.1
      rw [List.getD_eq_getElem?_getD, List.getElem?_eq_getElem hi] at h2
      exact h2) (fun p hp => ⟨by have := (ok.posts p hp).2.1; omega, fun s hs => by have := (ok.posts p hp).2.2 s hs; omega⟩) ep.length (Nat.le_refl _)
    rw [preM_all] at q3
    rw [if_pos (by rw [o3]; rcases k3 with rfl | rfl <;> rfl)]
    unfold evIdM
    simp only [q1]
    rw [if_neg (Classical.not_not.2 (.inl ⟨by rw [o4]; rcases k3 with rfl | rfl <;> rfl, rfl⟩)), if_neg (by rw [o5]; simp; omega)]
    simp only [q2, Int.toNat_natCast]
    have hid : idR (idI ei) = ei := rfl
    rw [hid, q3, t, hOp, hTm, u5 (by rw [o5]; simp; omega)]
    simp only [Bool.true_eq_false, if_false, List.length_append, Nat.add_assoc]
  by_cases k5 : ek = 5 ∨ ek = 6
  · have t : tailB ⟨eb, es, et, ek, er, eo, em, ei, ep, en⟩ = intsM (idI ei ++ [en]) := by unfold tailB; rw [if_neg k0, if_neg k2, if_neg k3, if_pos k5]
    rw [t] at d2 ⊢
    have q1 := rints_rt d2 (by simp [idI]) (fun x hx => by
      rcases List.mem_append.1 hx with hx | hx
      · exact idI_i64 ok.id x hx
      · simp at hx; subst hx; exact ok.n)
    rw [if_pos (by rw [o3]; rcases k5 with rfl | rfl <;> rfl)]
    unfold evIdM
    simp only [q1]
    rw [if_neg (Classical.not_not.2 (.inr ⟨by rw [o5]; rcases k5 with rfl | rfl <;> rfl, rfl⟩)), if_pos (by rw [o5]; rcases k5 with rfl | rfl <;> rfl), hOp, hTm, u4 (by rw [o4]; simp; omega)]
    rfl
  · have t : tailB ⟨eb, es, et, ek, er, eo, em, ei, ep, en⟩ = [] := by unfold tailB; rw [if_neg k0, if_neg k2, if_neg k3, if_neg k5]
    rw [if_neg (by rw [o3]; simp; omega), t, hOp, hTm, u3 (by rw [o3]; simp; omega), u4 (by rw [o4]; simp; omega), u5 (by rw [o5]; simp; omega)]
    rfl
end Go.Proofs.Ytabjaaonfaejmaa

namespace Go.Proofs.Ytabjaaonfaejmaa
open Go.Av
theorem word_ok8 (n : Int) : okWordM (wordM n) = true := by
  have h := aroundM_range (n := n) (m := 8) (by omega)
  have key : ∀ i : Fin 8, okWordM (wordsL.getD i.val default) = true := by decide +kernel
  exact key ⟨(aroundM n 8).toNat, by omega⟩
theorem listM_ok (l : List Int) (a : Int) (i : Nat) : (listM l a i).length = i ∧ (∀ s ∈ listM l a i, s.size ≤ 12) ∧ okWordsM (listM l a i) = true := by
  refine ⟨by simp [listM], fun s hs => ?_, ?_⟩
  · obtain ⟨j, _, rfl⟩ := List.mem_map.1 hs
    exact wordM_size _
  · unfold okWordsM
    rw [List.all_eq_true]
    intro s hs
    obtain ⟨j, _, rfl⟩ := List.mem_map.1 hs
    exact word_ok8 _
theorem tm_small {n c : Int} (hc : 0 < c) (h2 : c ≤ 1000) : I64 (n.tmod c) := by
  have h1 := Int.tmod_lt_of_pos n hc
  have h3 := Int.lt_tmod_of_pos n hc
  exact i64_small (by omega) (by omega)
theorem opM_sm (l : List Int) (a : Int) : SmOp (opM l a) where
  head := by
    have h0 := idM_ok ((opN l a).tdiv 10)
    have hs : I64 (opS l a).Volume ∧ I64 (opS l a).Article ∧ I64 (opS l a).Index := by
      unfold opS
      split
      · exact ⟨tm_small (by omega) (by omega), tm_small (by omega) (by omega), tm_small (by omega) (by omega)⟩
      · exact ⟨i64z, i64z, i64z⟩
    intro x hx
    simp only [headL, opM, List.mem_cons, List.not_mem_nil, or_false] at hx
    rcases hx with rfl | rfl | rfl | rfl | rfl | rfl | rfl | rfl | rfl | rfl | rfl | rfl | rfl
    · exact tm_small (by omega) (by omega)
    · exact h0.1
    · exact h0.2.1
    · exact h0.2.2
    · exact i64z
    · exact i64z
    · exact i64z
    · exact hs.1
    · exact hs.2.1
    · exact hs.2.2
    · exact tm_small (by omega) (by omega)
    · exact i64z
    · exact i64z
  pairs := by
    intro p hp
    have hp : p ∈ opP l a := hp
    unfold opP at hp
    split at hp
    · rw [List.mem_singleton.1 hp]
      exact ⟨tm_small (by omega) (by omega), tm_small (by omega) (by omega)⟩
    · simp at hp
  refs := by
    intro p hp
    have hp : p ∈ opR l a := hp
    unfold opR at hp
    split at hp
    · rw [List.mem_singleton.1 hp]
      exact idM_ok _
    · simp at hp
  text := by
    have := wordM_size ((opN l a).tdiv 7)
    show (wordM _).size ≤ 100
    omega
  texts := by
    intro s hs
    have hs : s ∈ opT l a := hs
    unfold opT at hs
    split at hs
    · have := (listM_ok l (a + 1) (((opN l a).tdiv 3).tmod 3).toNat).2.1 s hs
      omega
    · simp at hs
  ntexts := by
    show (opT l a).length ≤ 10
    unfold opT
    split
    · rw [(listM_ok l (a + 1) (((opN l a).tdiv 3).tmod 3).toNat).1]
      have := Int.tmod_lt_of_pos ((opN l a).tdiv 3) (b := 3) (by omega)
      omega
    · simp
  npairs := by
    show (opP l a).length ≤ 10
    unfold opP
    split <;> simp
  nrefs := by
    show (opR l a).length ≤ 10
    unfold opR
    split <;> simp
theorem refsG_mem (l : List Int) {r : NameM} : ∀ {i : Nat}, r ∈ refsG l i → (0 ≤ r.By ∧ r.By < i ∧ 0 ≤ r.Seq ∧ r.Seq ≤ 63) ∧ r ≠ ⟨atM l 0 6, atM l 1 64⟩
  | 0, h => by simp [refsG] at h
  | i + 1, h => by
    rw [refsG] at h
    rcases List.mem_append.1 h with h | h
    · have := refsG_mem l h
      exact ⟨by omega, this.2⟩
    · split at h
      · rename_i hc
        rw [List.mem_singleton.1 h]
        have := atM_range (l := l) (i := 5 + (i : Int)) (m := 64) (by omega)
        unfold nmG
        refine ⟨by dsimp only; omega, fun hq => ?_⟩
        simp only [NameM.mk.injEq] at hq
        exact hc.2 hq.1 hq.2
      · simp at h
theorem postsG_ok (l : List Int) (i : Nat) : (postsG l i).length = i ∧ ∀ p ∈ postsG l i, p.ID = idM (numG l) ∧ 1 ≤ p.Path.length ∧ p.Path.length ≤ 4 ∧ okWordsM p.Path = true ∧ ∀ s ∈ p.Path, s.size ≤ 12 := by
  refine ⟨by simp [postsG], fun p hp => ?_⟩
  obtain ⟨j, _, rfl⟩ := List.mem_map.1 hp
  have h := atM_range (l := l) (i := 30 + (j : Int)) (m := 4) (by omega)
  have hl := listM_ok l (12 + 4 * (j : Int)) (1 + atM l (30 + (j : Int)) 4).toNat
  unfold postG
  exact ⟨rfl, by dsimp only; rw [hl.1]; omega, by dsimp only; rw [hl.1]; omega, hl.2.2, hl.2.1⟩
theorem evI_sm (l : List Int) : SmEv 0 (evI l 6) := by
  have a0 := atM_range (l := l) (i := 0) (m := 6) (by omega)
  have a1 := atM_range (l := l) (i := 1) (m := 64) (by omega)
  have a2 := atM_range (l := l) (i := 2) (m := 1048577) (by omega)
  have a3 := atM_range (l := l) (i := 3) (m := 7) (by omega)
  have hrl := refsG_len l 6
  exact { by_ := i64_small (by show _ ≤ atM l 0 6; omega) (by show atM l 0 6 ≤ _; omega), seq := i64_small (by show _ ≤ atM l 1 64; omega) (by show atM l 1 64 ≤ _; omega)
          tick := i64_small (by show _ ≤ atM l 2 1048577; omega) (by show atM l 2 1048577 ≤ _; omega), kind := i64_small (by show _ ≤ atM l 3 7; omega) (by show atM l 3 7 ≤ _; omega)
          n := i64z, id := ⟨i64z, i64z, i64z⟩, tk := i64z, tl := i64z
          refs := fun r hr => by
            have := (refsG_mem l hr).1
            exact ⟨i64_small (by omega) (by omega), i64_small (by omega) (by omega)⟩
          nrefs := by show (refsG l 6).length ≤ _; omega
          op := smZ
          name := by show (0 : Nat) ≤ 100; omega
          see := by show (0 : Nat) ≤ 100; omega
          broader := by simp [evI, zTermG]
          nbroader := by show (0 : Nat) ≤ _; omega
          posts := by simp [evI]
          nposts := by show (0 : Nat) ≤ _; omega }
theorem num_rng (l : List Int) : 0 ≤ numG l ∧ numG l < 4096 := atM_range (l := l) (i := 11) (m := 4096) (by omega)
theorem evG_sm (l : List Int) : SmEv 0 (evG l) := by
  have h := evI_sm l
  have hn := num_rng l
  have t4 := Int.tmod_nonneg (b := 4) (a := numG l) hn.1
  have t4b := Int.tmod_lt_of_pos (numG l) (b := 4) (by omega)
  unfold evG
  split
  · exact { h with op := opM_sm l 12 }
  split
  · have hw := wordM_size (numG l)
    have hw2 := wordM_size ((numG l).tdiv 5)
    have hl := listM_ok l 12 (((numG l).tdiv 12).tmod 3).toNat
    have t3 := Int.tmod_lt_of_pos ((numG l).tdiv 12) (b := 3) (by omega)
    refine { h with tk := tm_small (by omega) (by omega), tl := tm_small (by omega) (by omega), name := ?_, see := ?_, broader := fun s hs => ?_, nbroader := ?_ }
    · show (wordM (numG l)).size ≤ 100; omega
    · show (if (numG l).tmod 5 = 0 then wordM ((numG l).tdiv 5) else ⟨#[]⟩ : ByteArray).size ≤ 100
      split
      · omega
      · decide
    · have := hl.2.1 s hs; omega
    · show (listM l 12 (((numG l).tdiv 12).tmod 3).toNat).length ≤ _
      rw [hl.1]; omega
  split
  · have hp := postsG_ok l ((numG l).tmod 4).toNat
    refine { h with id := idM_ok _, posts := fun p hpm => ?_, nposts := ?_ }
    · obtain ⟨h1, h2, h3, h4, h5⟩ := hp.2 p hpm
      refine ⟨by rw [h1]; exact idM_ok _, by omega, fun s hs => by have := h5 s hs; omega⟩
    · show (postsG l ((numG l).tmod 4).toNat).length ≤ _
      rw [hp.1]; omega
  split
  · have a12 := atM_range (l := l) (i := 12) (m := 1048577) (by omega)
    exact { h with id := idM_ok _, n := i64_small (by show _ ≤ atM l 12 1048577; omega) (by show atM l 12 1048577 ≤ _; omega) }
  · exact h
end Go.Proofs.Ytabjaaonfaejmaa

namespace Go.Proofs.Ytabjaaonfaejmaa
open Go.Av
set_option maxRecDepth 100000 in
set_option maxHeartbeats 4000000 in
theorem event_okP (G) (b : List Int) (a : Nat) (hib : isB b) (hl : b.length ≤ 1000000) (ha : a ≤ b.length) : GivesXP Try.prog G 65 [.ptr 1000 2 0 0] [(1000, ⟨2, [.dat (rdD b a)]⟩)] (evReadM b a) (fun p => [.dat (eventD p.1)]) (fun p => [(1000, ⟨2, [.dat (rdD b p.2)]⟩)]) formV := by
  skip
  skip
  refine gives_introXP [60, 181] [16, 35, 99, 105, 130, 166, 170, 177] [] Try.func65 rfl (by rfl) (by simp [Try.ntmps65]) (by kernel_rfl) (fun _ => by kernel_rfl) (fun _ => by simp [onlyL_nil, onlyL_cons, AV.only, inIds]) (fun _ => by simp only [onlyOs, onlyL_nil, onlyL_cons, onlyL_append, onlyL_dats, onlyL_row, AV.only, Bool.and_true] <;> simp [inIds]) fun F hP hG hN hR => ?_
  rw [Try.ntmps65] at hN
  have hA := And.intro hN (And.intro hP (And.intro hG (And.intro hR.1 (And.intro hR.2.1 hR.2.2.1))))
  have hE := And.intro @Try.results65 (And.intro @namesR_len (And.intro @namesR_zero (And.intro @namesR_take (@Nat.min_self))))
  refine WS [0, 2] [2, 59, 60, 180, 181, 1000, 150, 151] ?_
  rcases ht : rintsM b a with _ | ⟨l, n1⟩
  · have hv := (show evReadM b a = none by simp only [evReadM, evHeadM, ht])
    apply aw_lists
    apply al_seg
    · (iterate 1 apply Seg.cons); exact Seg.nil _
    · simp (maxSteps := 2000000) (disch := omega) only [avR2, avA, datsOf, fillA, seval, ↓List.forall_mem_cons, Op.operands, hA, tiA, hE, KeptS]
      exact SC
    refine al_pan (fun i => i) (gvPan hP hG ((rints_okP G b a hib (by omega) ha).pan ht)) rfl rfl rfl rfl (lentX_of hN (by first | trivial | ((try simp only [haveL, AObj.ren, AV.ren, renL, ren_row, List.map_cons, List.map_nil, objL_cons, objL_nil]) <;> ((repeat' apply And.intro) <;> first | trivial | rfl))) (by rfl)) (by exact ⟨hv, rfl⟩)
  have hr1 := ht
  have hat1 := rints_at hib ha ht
  apply aw_regs [0, 2, 3] [2, 59, 60, 180, 181, 1000, 150, 151]
  · simp (maxSteps := 2000000) (disch := omega) only [avR2, avA, datsOf, fillA, seval, ↓List.forall_mem_cons, Op.operands, hA, tiA, hE]
    (repeat' refine And.intro ?_ ?_) <;> try exact SD
    refine CallC.useX (fun i => i) [] (by simp [LitD, hR.2.1]) (gvFX hP hG ((rints_okP G b a hib (by omega) ha).ok ht)) rfl (lentX_of hN (by first | trivial | ((try simp only [haveL, AObj.ren, AV.ren, renL, ren_row, List.map_cons, List.map_nil, objL_cons, objL_nil]) <;> ((repeat' apply And.intro) <;> first | trivial | rfl))) (by rfl)) ?_
    try simp (maxSteps := 2000000) (disch := omega) only [avR2, avA, datsOf, fillA, seval, ↓List.forall_mem_cons, Op.operands, hA, tiA, hE, avX]
    exact SC
  by_cases ht : ¬ (l.length = 4)
  · have hv := (show evReadM b a = none by simp only [evReadM, evHeadM, hr1, if_pos ht])
    apply aw_lists
    apply al_seg
    · (iterate 3 apply Seg.cons); exact Seg.nil _
    · simp (maxSteps := 2000000) (disch := omega) only [avR2, avA, datsOf, fillA, seval, ↓List.forall_mem_cons, Op.operands, hA, tiA, hE, KeptS]
      exact SC
    refine al_pan (fun i => i) (gvPan hP hG (need_pan G ?_)) rfl rfl rfl rfl (lentX_of hN (by first | trivial | ((try simp only [haveL, AObj.ren, AV.ren, renL, ren_row, List.map_cons, List.map_nil, objL_cons, objL_nil]) <;> ((repeat' apply And.intro) <;> first | trivial | rfl))) (by rfl)) (by exact ⟨hv, rfl⟩)
    all_goals first | (simpa using ht) | grind
  replace ht := Classical.not_not.1 ht
  have hl4 := ht
  have hE := And.intro hE hl4
  have hc := gvF hP hG (need_ok G)
  refine WSc [0, 2, 3] [2, 59, 60, 180, 181, 1000, 150, 151] ?_
  refine WD [0, 2, 4] [2, 4, 59, 60, 180, 181, 1000, 150, 151] [0, 1, 2, 3, 4, 5, 6, 7, 8, 9, 10, 11, 12, 13, 14] [4] ?_
  rcases ht : rintsM b n1 with _ | ⟨r, n2⟩
  · have hv := (show evReadM b a = none by simp only [evReadM, evHeadM, hr1, hl4, not_true_eq_false, if_false, ht])
    apply aw_lists
    apply al_seg
    · (iterate 1 apply Seg.cons); exact Seg.nil _
    · simp (maxSteps := 2000000) (disch := omega) only [avR2, avA, datsOf, fillA, seval, ↓List.forall_mem_cons, Op.operands, hA, tiA, hE, KeptS]
      exact SC
    refine al_pan (fun i => i) (gvPan hP hG ((rints_okP G b n1 hib (by omega) hat1.1).pan ht)) rfl rfl rfl rfl (lentX_of hN (by first | trivial | ((try simp only [haveL, AObj.ren, AV.ren, renL, ren_row, List.map_cons, List.map_nil, objL_cons, objL_nil]) <;> ((repeat' apply And.intro) <;> first | trivial | rfl))) (by rfl)) (by exact ⟨hv, rfl⟩)
  have hr2 := ht
  have hat2 := rints_at hib hat1.1 ht
  apply aw_regs [0, 2, 4, 5] [2, 4, 59, 60, 180, 181, 1000, 150, 151]
  · simp (maxSteps := 2000000) (disch := omega) only [avR2, avA, datsOf, fillA, seval, ↓List.forall_mem_cons, Op.operands, hA, tiA, hE]
    (repeat' refine And.intro ?_ ?_) <;> try exact SD
    refine CallC.useX (fun i => i) [] (by simp [LitD, hR.2.1]) (gvFX hP hG ((rints_okP G b n1 hib (by omega) hat1.1).ok ht)) rfl (lentX_of hN (by first | trivial | ((try simp only [haveL, AObj.ren, AV.ren, renL, ren_row, List.map_cons, List.map_nil, objL_cons, objL_nil]) <;> ((repeat' apply And.intro) <;> first | trivial | rfl))) (by rfl)) ?_
    try simp (maxSteps := 2000000) (disch := omega) only [avR2, avA, datsOf, fillA, seval, ↓List.forall_mem_cons, Op.operands, hA, tiA, hE, avX]
    exact SC
  by_cases ht : ¬ ((r.length : Int).tmod 2 = 0)
  · have hv := (show evReadM b a = none by simp only [evReadM, evHeadM, hr1, hl4, not_true_eq_false, if_false, hr2, if_pos ht])
    apply aw_lists
    apply al_seg
    · (iterate 4 apply Seg.cons); exact Seg.nil _
    · simp (maxSteps := 2000000) (disch := omega) only [avR2, avA, datsOf, fillA, seval, ↓List.forall_mem_cons, Op.operands, hA, tiA, hE, KeptS]
      exact SC
    refine al_pan (fun i => i) (gvPan hP hG (need_pan G ?_)) rfl rfl rfl rfl (lentX_of hN (by first | trivial | ((try simp only [haveL, AObj.ren, AV.ren, renL, ren_row, List.map_cons, List.map_nil, objL_cons, objL_nil]) <;> ((repeat' apply And.intro) <;> first | trivial | rfl))) (by rfl)) (by exact ⟨hv, rfl⟩)
    all_goals first | (simpa using ht) | grind
  replace ht := Classical.not_not.1 ht
  have hr3 := ht
  have hev := (even_of (l := r) (n := 2) (by decide) hr3).symm
  have hq : r.length / 2 ≤ 500000 := by omega
  have hhd : evReadM b a = evTailM b (evHd l r) n2 := by simp only [evReadM, evHeadM, hr1, hl4, not_true_eq_false, if_false, hr2, hr3]
  have hE := And.intro hE hr3
  have hc := gvF hP hG (need_ok G)
  refine WSc [0, 2, 4, 5] [2, 4, 59, 60, 180, 181, 1000, 150, 151] ?_
  apply aw_seq
  refine WS [0, 2, 4, 5, 6] [2, 4, 59, 60, 180, 181, 1000, 150, 151] ?_
  apply aw_block
  refine aw_new0 150 2 (by omega) ?_
  refine aw_nilO 4 150 2 4 rfl rfl rfl rfl ?_
  refine WL (ι := {i : Nat // i ≤ (r.length / 2)}) [0, 2, 4, 5] [2, 59, 60, 180, 181, 1000, 151] (fun ⟨i, hi⟩ => [(6, .dat (iD ((2 * i : Nat) : Int)))]) (fun ⟨i, hi⟩ => [(4, ⟨32, [.agg [.dat (iD (l.getD 0 default)), .dat (iD (l.getD 1 default)), .dat (iD (l.getD 2 default)), .dat (iD (l.getD 3 default)), .osl 150 2 0 i, .dat (iD 0), .dat (iD 0), .dat (iD 0), .dat (iD 0), .dat (iD 0), .dat (iD 0), .dat (iD 0), .dat (iD 0), .dat (iD 0), .dat (iD 0), .dat (iD 0), .dat (iD 0), .dat (iD 0), .dat (sD ⟨#[]⟩), .nils, .nils, .nils, .dat (sD ⟨#[]⟩), .dat (iD 0), .dat (iD 0), .dat (sD ⟨#[]⟩), .nils, .dat (iD 0), .dat (iD 0), .dat (iD 0), .nils, .dat (iD 0)]]⟩), (150, ⟨2, ((namesR r i).map nameD).map .dat⟩)]) (fun ⟨i, hi⟩ => (r.length / 2) - i) (⟨0, by omega⟩) ?_
  rintro ⟨i, hi⟩
  dsimp only [List.cons_append, List.nil_append]
  have hns := namesR_succ r i
  have hc1 : (((2 * i : Nat) : Int) + 1).toNat = 2 * i + 1 := by omega
  have hE := And.intro hE (And.intro hns (And.intro (nameR.eq_1 r i) hc1))
  apply aw_seq
  refine WS [0, 2, 4, 5, 6, 44] [2, 4, 59, 60, 180, 181, 1000, 150, 151] ?_
  refine WI (fun hb => ?_) (fun hb => ?_)
  · skip
    apply aw_skip
    apply q_seq
    apply aw_seq
    apply aw_block
    refine WDQ [0, 2, 4, 5, 6] [2, 4, 59, 60, 180, 181, 1000, 150, 151] [0, 1, 2, 3, 4, 5, 6, 7, 8, 9, 10, 11, 12, 13, 14, 15] [60] ?_
    apply q_block
    apply q_seq
    refine aw_swap 60 150 (by omega) (by omega) ?_
    refine WQ [0, 2, 4, 5, 6] [2, 4, 59, 60, 180, 181, 1000, 150, 151] ?_
    refine WN (⟨i + 1, by omega⟩)
  · skip
    apply aw_exit
    apply q_exit_seq
    have hend : i = (r.length / 2) := by omega
    subst hend
    apply q_exit_loop
    apply q_exit
    apply q_seq
    apply aw_seq
    refine aw_frzX 150 hR.2.2.2 rfl (datE_map _) rfl ?_
    have hc := gvF hP hG (of_ok G (l.getD 3 default))
    refine WSc [0, 2, 4, 7] [2, 4, 7, 59, 60, 180, 181, 1000, 150, 151] ?_
    apply aw_block
    refine WS [0, 2, 4, 7, 65] [2, 4, 7, 59, 60, 180, 181, 1000, 150, 151] ?_
    refine WI (fun hb => ?_) (fun hb => ?_)
    · skip
      have ho : (ofM (l.getD 3 default)).op = true := hb
      have htl : evReadM b a = if ¬ (editDecM (b.drop n2)).2.2 = 0 then none else some ({ evHd l r with Op := (editDecM (b.drop n2)).1 }, n2 + (editDecM (b.drop n2)).2.1) := by rw [hhd]; exact if_pos ho
      have heat := editDec_at (isB_drop hib n2)
      rw [List.length_drop] at heat
      apply aw_rgds [0, 2, 4, 8, 9, 10] [2, 4, 8, 59, 60, 180, 181, 1000, 150, 151] [0, 1, 2, 3, 4, 5, 6, 7, 8, 9, 10, 11, 14, 15, 12, 13, 16, 17] [8]
      · rw [hP]; kernel_rfl
      · exact hR
      · kernel_rfl
      · (repeat (apply PickL.cons; exact rfl)); exact PickL.nil _
      · simp (maxSteps := 2000000) (disch := omega) only [avR2, avA, datsOf, fillA, seval, ↓List.forall_mem_cons, Op.operands, hA, tiA, hE]
        (repeat' refine And.intro ?_ ?_) <;> try exact SD
        refine CallC.use (gvF hP hG (edec_ok G (b.drop n2) (isB_drop hib _) (by rw [List.length_drop]; omega))) rfl ?_
        try simp (maxSteps := 2000000) (disch := omega) only [avR2, avA, datsOf, fillA, seval, ↓List.forall_mem_cons, Op.operands, hA, tiA, hE]
        exact SC
      by_cases ht : ¬ ((editDecM (b.drop n2)).2.2 = 0)
      · have hv := (show evReadM b a = none by rw [htl, if_pos ht])
        apply aw_lists
        apply al_seg
        · (iterate 2 apply Seg.cons); exact Seg.nil _
        · simp (maxSteps := 2000000) (disch := omega) only [avR2, avA, datsOf, fillA, seval, ↓List.forall_mem_cons, Op.operands, hA, tiA, hE, KeptS]
          exact SC
        refine al_pan (fun i => i) (gvPan hP hG (need_pan G ?_)) rfl rfl rfl rfl (lentX_of hN (by first | trivial | ((try simp only [haveL, AObj.ren, AV.ren, renL, ren_row, List.map_cons, List.map_nil, objL_cons, objL_nil]) <;> ((repeat' apply And.intro) <;> first | trivial | rfl))) (by rfl)) (by exact ⟨hv, rfl⟩)
        all_goals first | (simpa using ht) | grind
      replace ht := Classical.not_not.1 ht
      have hv : evReadM b a = some ({ evHd l r with Op := (editDecM (b.drop n2)).1 }, n2 + (editDecM (b.drop n2)).2.1) := by rw [htl, if_neg (Classical.not_not.2 ht)]
      have hcast : ((n2 + (editDecM (b.drop n2)).2.1 : Nat) : Int) = (n2 : Int) + ((editDecM (b.drop n2)).2.1 : Int) := by omega
      have hE := And.intro hE ht
      have hc := gvF hP hG (need_ok G)
      refine WSc [0, 2, 4, 8, 9] [2, 4, 8, 59, 60, 180, 181, 1000, 150, 151] ?_
      refine WS [0, 2, 4, 9] [2, 4, 59, 60, 180, 181, 1000, 150, 151] ?_
      refine WQ [2, 4] [2, 4, 59, 60, 180, 181, 1000, 150, 151] ?_
      apply q_block
      apply q_seq
      first | refine aw_frzX 151 hR.2.2.2 rfl (datE_map _) rfl ?_ | skip
      refine WS [2] [2, 59, 60, 180, 181, 1000, 150, 151] ?_
      apply aw_ret
      refine q_xp hv ?_
      simp only [QRet, QRetM, QRetX, retsX_nil, retsX_cons, objsAre, resA, mapO_nil, mapO_cons, vD_dat, vD_nils, vD_rp, vD_osl, vD_ptr, vD_agg, vD_fn, vD_isl, vL_dat, vL_app, viewL, avA, datsOf, fillA, seval, ↓List.forall_mem_cons, Op.operands, hP, hG, tiA, hE, evHd.eq_1]
      all_goals try (first | done | rfl | trivial)
      all_goals try simp only [rdD, hcast]
      all_goals first | done | exact ⟨_, rfl, rfl⟩ | exact ⟨⟨_, rfl, rfl⟩, trivial⟩ | exact ⟨⟨_, rfl, rfl⟩, rfl⟩
    · skip
      have ho : ¬ (ofM (l.getD 3 default)).op = true := by intro h; rw [h] at hb; cases hb
      refine WS [0, 2, 4, 7, 95] [2, 4, 7, 59, 60, 180, 181, 1000, 150, 151] ?_
      refine WI (fun hb => ?_) (fun hb => ?_)
      · skip
        have hterm : (ofM (l.getD 3 default)).term = true := hb
        have htl : evReadM b a = evTermM b (evHd l r) n2 := by rw [hhd]; exact (if_neg ho).trans (if_pos hterm)
        rcases ht : rintsM b n2 with _ | ⟨k, n3⟩
        · have hv := (show evReadM b a = none by rw [htl]; simp only [evTermM, ht])
          apply aw_lists
          apply al_seg
          · (iterate 1 apply Seg.cons); exact Seg.nil _
          · simp (maxSteps := 2000000) (disch := omega) only [avR2, avA, datsOf, fillA, seval, ↓List.forall_mem_cons, Op.operands, hA, tiA, hE, KeptS]
            exact SC
          refine al_pan (fun i => i) (gvPan hP hG ((rints_okP G b n2 hib (by omega) hat2.1).pan ht)) rfl rfl rfl rfl (lentX_of hN (by first | trivial | ((try simp only [haveL, AObj.ren, AV.ren, renL, ren_row, List.map_cons, List.map_nil, objL_cons, objL_nil]) <;> ((repeat' apply And.intro) <;> first | trivial | rfl))) (by rfl)) (by exact ⟨hv, rfl⟩)
        have hr4 := ht
        have hat3 := rints_at hib hat2.1 ht
        apply aw_regs [0, 2, 4, 11] [2, 4, 59, 60, 180, 181, 1000, 150, 151]
        · simp (maxSteps := 2000000) (disch := omega) only [avR2, avA, datsOf, fillA, seval, ↓List.forall_mem_cons, Op.operands, hA, tiA, hE]
          (repeat' refine And.intro ?_ ?_) <;> try exact SD
          refine CallC.useX (fun i => i) [] (by simp [LitD, hR.2.1]) (gvFX hP hG ((rints_okP G b n2 hib (by omega) hat2.1).ok ht)) rfl (lentX_of hN (by first | trivial | ((try simp only [haveL, AObj.ren, AV.ren, renL, ren_row, List.map_cons, List.map_nil, objL_cons, objL_nil]) <;> ((repeat' apply And.intro) <;> first | trivial | rfl))) (by rfl)) ?_
          try simp (maxSteps := 2000000) (disch := omega) only [avR2, avA, datsOf, fillA, seval, ↓List.forall_mem_cons, Op.operands, hA, tiA, hE, avX]
          exact SC
        by_cases ht : ¬ (k.length = 2)
        · have hv := (show evReadM b a = none by rw [htl]; simp only [evTermM, hr4, if_pos ht])
          apply aw_lists
          apply al_seg
          · (iterate 3 apply Seg.cons); exact Seg.nil _
          · simp (maxSteps := 2000000) (disch := omega) only [avR2, avA, datsOf, fillA, seval, ↓List.forall_mem_cons, Op.operands, hA, tiA, hE, KeptS]
            exact SC
          refine al_pan (fun i => i) (gvPan hP hG (need_pan G ?_)) rfl rfl rfl rfl (lentX_of hN (by first | trivial | ((try simp only [haveL, AObj.ren, AV.ren, renL, ren_row, List.map_cons, List.map_nil, objL_cons, objL_nil]) <;> ((repeat' apply And.intro) <;> first | trivial | rfl))) (by rfl)) (by exact ⟨hv, rfl⟩)
          all_goals first | (simpa using ht) | grind
        replace ht := Classical.not_not.1 ht
        have hk2 := ht
        have hE := And.intro hE hk2
        have hc := gvF hP hG (need_ok G)
        refine WSc [0, 2, 4, 11] [2, 4, 59, 60, 180, 181, 1000, 150, 151] ?_
        rcases ht : rstrsM b n3 with _ | ⟨s, n4⟩
        · have hv := (show evReadM b a = none by rw [htl]; simp only [evTermM, hr4, hk2, not_true_eq_false, if_false, ht])
          apply aw_lists
          apply al_seg
          · (iterate 1 apply Seg.cons); exact Seg.nil _
          · simp (maxSteps := 2000000) (disch := omega) only [avR2, avA, datsOf, fillA, seval, ↓List.forall_mem_cons, Op.operands, hA, tiA, hE, KeptS]
            exact SC
          refine al_pan (fun i => i) (gvPan hP hG ((rstrs_okP G b n3 hib (by omega) hat3.1).pan ht)) rfl rfl rfl rfl (lentX_of hN (by first | trivial | ((try simp only [haveL, AObj.ren, AV.ren, renL, ren_row, List.map_cons, List.map_nil, objL_cons, objL_nil]) <;> ((repeat' apply And.intro) <;> first | trivial | rfl))) (by rfl)) (by exact ⟨hv, rfl⟩)
        have hr5 := ht
        have hat4 := rstrs_at hib hat3.1 ht
        apply aw_regs [2, 4, 11, 12] [2, 4, 59, 60, 180, 181, 1000, 150, 151]
        · simp (maxSteps := 2000000) (disch := omega) only [avR2, avA, datsOf, fillA, seval, ↓List.forall_mem_cons, Op.operands, hA, tiA, hE]
          (repeat' refine And.intro ?_ ?_) <;> try exact SD
          refine CallC.useX (fun i => i) [] (by simp [LitD, hR.2.1]) (gvFX hP hG ((rstrs_okP G b n3 hib (by omega) hat3.1).ok ht)) rfl (lentX_of hN (by first | trivial | ((try simp only [haveL, AObj.ren, AV.ren, renL, ren_row, List.map_cons, List.map_nil, objL_cons, objL_nil]) <;> ((repeat' apply And.intro) <;> first | trivial | rfl))) (by rfl)) ?_
          try simp (maxSteps := 2000000) (disch := omega) only [avR2, avA, datsOf, fillA, seval, ↓List.forall_mem_cons, Op.operands, hA, tiA, hE, avX]
          exact SC
        by_cases ht : ¬ (2 ≤ s.length)
        · have hv := (show evReadM b a = none by rw [htl]; simp only [evTermM, hr4, hk2, not_true_eq_false, if_false, hr5, if_pos ht])
          apply aw_lists
          apply al_seg
          · (iterate 3 apply Seg.cons); exact Seg.nil _
          · simp (maxSteps := 2000000) (disch := omega) only [avR2, avA, datsOf, fillA, seval, ↓List.forall_mem_cons, Op.operands, hA, tiA, hE, KeptS]
            exact SC
          refine al_pan (fun i => i) (gvPan hP hG (need_pan G ?_)) rfl rfl rfl rfl (lentX_of hN (by first | trivial | ((try simp only [haveL, AObj.ren, AV.ren, renL, ren_row, List.map_cons, List.map_nil, objL_cons, objL_nil]) <;> ((repeat' apply And.intro) <;> first | trivial | rfl))) (by rfl)) (by exact ⟨hv, rfl⟩)
          all_goals first | (simpa using ht) | grind
        replace ht := Classical.not_not.1 ht
        have hs2 := ht
        have hv : evReadM b a = some ({ evHd l r with Term := ⟨s.getD 0 default, k.getD 0 default, k.getD 1 default, s.getD 1 default, s.drop 2⟩ }, n4) := by rw [htl]; simp only [evTermM, hr4, hk2, not_true_eq_false, if_false, hr5, hs2]
        have hs3 : decide ((2 : Int) ≤ (s.length : Int)) = true := by simp; omega
        have hE := And.intro hE hs3
        have hc := gvF hP hG (need_ok G)
        refine WSc [2, 4, 11, 12] [2, 4, 59, 60, 180, 181, 1000, 150, 151] ?_
        refine WDQ [2, 4] [2, 4, 59, 60, 180, 181, 1000, 150, 151] [0, 1, 2, 3, 4, 5, 6, 7, 8, 9, 10, 11, 12, 13, 14, 15, 16] [] ?_
        apply q_block
        apply q_seq
        first | refine aw_frzX 151 hR.2.2.2 rfl (datE_map _) rfl ?_ | skip
        refine WS [2] [2, 59, 60, 180, 181, 1000, 150, 151] ?_
        apply aw_ret
        refine q_xp hv ?_
        simp only [QRet, QRetM, QRetX, retsX_nil, retsX_cons, objsAre, resA, mapO_nil, mapO_cons, vD_dat, vD_nils, vD_rp, vD_osl, vD_ptr, vD_agg, vD_fn, vD_isl, vL_dat, vL_app, viewL, avA, datsOf, fillA, seval, ↓List.forall_mem_cons, Op.operands, hP, hG, tiA, hE, evHd.eq_1]
        all_goals try (first | done | rfl | trivial)
        all_goals try simp only [rdD, hcast]
        all_goals first | done | exact ⟨_, rfl, rfl⟩ | exact ⟨⟨_, rfl, rfl⟩, trivial⟩ | exact ⟨⟨_, rfl, rfl⟩, rfl⟩
      · skip
        have hterm : ¬ (ofM (l.getD 3 default)).term = true := by intro h; rw [h] at hb; cases hb
        refine WS [0, 2, 4, 7, 126] [2, 4, 7, 59, 60, 180, 181, 1000, 150, 151] ?_
        refine WI (fun hb => ?_) (fun hb => ?_)
        · skip
          have hid : (ofM (l.getD 3 default)).id = true := hb
          have htl : evReadM b a = evIdM b (evHd l r) n2 := by rw [hhd]; exact (if_neg ho).trans ((if_neg hterm).trans (if_pos hid))
          rcases ht : rintsM b n2 with _ | ⟨k, n3⟩
          · have hv := (show evReadM b a = none by rw [htl]; simp only [evIdM, ht])
            apply aw_lists
            apply al_seg
            · (iterate 1 apply Seg.cons); exact Seg.nil _
            · simp (maxSteps := 2000000) (disch := omega) only [avR2, avA, datsOf, fillA, seval, ↓List.forall_mem_cons, Op.operands, hA, tiA, hE, KeptS]
              exact SC
            refine al_pan (fun i => i) (gvPan hP hG ((rints_okP G b n2 hib (by omega) hat2.1).pan ht)) rfl rfl rfl rfl (lentX_of hN (by first | trivial | ((try simp only [haveL, AObj.ren, AV.ren, renL, ren_row, List.map_cons, List.map_nil, objL_cons, objL_nil]) <;> ((repeat' apply And.intro) <;> first | trivial | rfl))) (by rfl)) (by exact ⟨hv, rfl⟩)
          have hr4 := ht
          have hat3 := rints_at hib hat2.1 ht
          apply aw_regs [0, 2, 4, 7, 13] [2, 4, 7, 59, 60, 180, 181, 1000, 150, 151]
          · simp (maxSteps := 2000000) (disch := omega) only [avR2, avA, datsOf, fillA, seval, ↓List.forall_mem_cons, Op.operands, hA, tiA, hE]
            (repeat' refine And.intro ?_ ?_) <;> try exact SD
            refine CallC.useX (fun i => i) [] (by simp [LitD, hR.2.1]) (gvFX hP hG ((rints_okP G b n2 hib (by omega) hat2.1).ok ht)) rfl (lentX_of hN (by first | trivial | ((try simp only [haveL, AObj.ren, AV.ren, renL, ren_row, List.map_cons, List.map_nil, objL_cons, objL_nil]) <;> ((repeat' apply And.intro) <;> first | trivial | rfl))) (by rfl)) ?_
            try simp (maxSteps := 2000000) (disch := omega) only [avR2, avA, datsOf, fillA, seval, ↓List.forall_mem_cons, Op.operands, hA, tiA, hE, avX]
            exact SC
          by_cases hn : (ofM (l.getD 3 default)).n = true
          · skip
            have hp : (ofM (l.getD 3 default)).posts = false := by rw [of_posts]; rw [of_n] at hn; grind
            have hE := And.intro hE (And.intro hn hp)
            by_cases ht : ¬ ((((ofM (l.getD 3 default)).posts = true ∧ k.length = 3) ∨ ((ofM (l.getD 3 default)).n = true ∧ k.length = 4)))
            · have hv := (show evReadM b a = none by rw [htl]; simp only [evIdM, hr4]; exact if_pos ht)
              apply aw_lists
              apply al_seg
              · (iterate 16 apply Seg.cons); exact Seg.nil _
              · simp (maxSteps := 2000000) (disch := omega) only [avR2, avA, datsOf, fillA, seval, ↓List.forall_mem_cons, Op.operands, hA, tiA, hE, KeptS]
                exact SC
              refine al_pan (fun i => i) (gvPan hP hG (need_pan G ?_)) rfl rfl rfl rfl (lentX_of hN (by first | trivial | ((try simp only [haveL, AObj.ren, AV.ren, renL, ren_row, List.map_cons, List.map_nil, objL_cons, objL_nil]) <;> ((repeat' apply And.intro) <;> first | trivial | rfl))) (by rfl)) (by exact ⟨hv, rfl⟩)
              all_goals first | (simpa using ht) | grind
            replace ht := Classical.not_not.1 ht
            have hcase := ht
            have hkl : k.length = if (ofM (l.getD 3 default)).n = true then 4 else 3 := by grind
            have hk3 : 3 ≤ k.length := by rw [hkl]; split <;> omega
            have hE := And.intro hE hkl
            have hc := gvF hP hG (need_ok G)
            refine WSc [0, 2, 4, 7, 13] [2, 4, 7, 59, 60, 180, 181, 1000, 150, 151] ?_
            refine WD [0, 2, 4, 7, 13] [2, 4, 7, 59, 60, 180, 181, 1000, 150, 151] [0, 1, 2, 3, 4, 5, 6, 7, 8, 9, 10, 11] [] ?_
            apply aw_seq
            refine WS [0, 2, 4, 13, 160] [2, 4, 59, 60, 180, 181, 1000, 150, 151] ?_
            refine aw_ift (by first | exact rfl | (simp only [evA_tmp, of_env, envL_cons, envL_nil]; simp [*])) ?_
            have hk4 : k.length = 4 := by rw [hkl, if_pos hn]
            have hv : evReadM b a = some ({ evHd l r with ID := idR k, N := k.getD 3 default }, n3) := by rw [htl]; simp only [evIdM, hr4]; exact (if_neg (Classical.not_not.2 hcase)).trans (if_pos hn)
            have hE := And.intro hE (show (idR k).By = k.getD 0 default ∧ (idR k).Seq = k.getD 1 default ∧ (idR k).K = k.getD 2 default from ⟨rfl, rfl, rfl⟩)
            refine WS [2, 4] [2, 4, 59, 60, 180, 181, 1000, 150, 151] ?_
            apply aw_exit
            apply q_exit_seq
            apply q_exit
            apply q_seq
            first | refine aw_frzX 151 hR.2.2.2 rfl (datE_map _) rfl ?_ | skip
            refine WS [2] [2, 59, 60, 180, 181, 1000, 150, 151] ?_
            apply aw_ret
            refine q_xp hv ?_
            simp only [QRet, QRetM, QRetX, retsX_nil, retsX_cons, objsAre, resA, mapO_nil, mapO_cons, vD_dat, vD_nils, vD_rp, vD_osl, vD_ptr, vD_agg, vD_fn, vD_isl, vL_dat, vL_app, viewL, avA, datsOf, fillA, seval, ↓List.forall_mem_cons, Op.operands, hP, hG, tiA, hE, evHd.eq_1]
            all_goals try (first | done | rfl | trivial)
            all_goals try simp only [rdD, hcast]
            all_goals first | done | exact ⟨_, rfl, rfl⟩ | exact ⟨⟨_, rfl, rfl⟩, trivial⟩ | exact ⟨⟨_, rfl, rfl⟩, rfl⟩
          · skip
            replace hn : (ofM (l.getD 3 default)).n = false := by simpa using hn
            have hp : (ofM (l.getD 3 default)).posts = true := by rw [of_posts]; rw [of_n] at hn; rw [of_id] at hid; grind
            have hE := And.intro hE (And.intro hn hp)
            by_cases ht : ¬ ((((ofM (l.getD 3 default)).posts = true ∧ k.length = 3) ∨ ((ofM (l.getD 3 default)).n = true ∧ k.length = 4)))
            · have hv := (show evReadM b a = none by rw [htl]; simp only [evIdM, hr4]; exact if_pos ht)
              apply aw_lists
              apply al_seg
              · (iterate 16 apply Seg.cons); exact Seg.nil _
              · simp (maxSteps := 2000000) (disch := omega) only [avR2, avA, datsOf, fillA, seval, ↓List.forall_mem_cons, Op.operands, hA, tiA, hE, KeptS]
                exact SC
              refine al_pan (fun i => i) (gvPan hP hG (need_pan G ?_)) rfl rfl rfl rfl (lentX_of hN (by first | trivial | ((try simp only [haveL, AObj.ren, AV.ren, renL, ren_row, List.map_cons, List.map_nil, objL_cons, objL_nil]) <;> ((repeat' apply And.intro) <;> first | trivial | rfl))) (by rfl)) (by exact ⟨hv, rfl⟩)
              all_goals first | (simpa using ht) | grind
            replace ht := Classical.not_not.1 ht
            have hcase := ht
            have hkl : k.length = if (ofM (l.getD 3 default)).n = true then 4 else 3 := by grind
            have hk3 : 3 ≤ k.length := by rw [hkl]; split <;> omega
            have hE := And.intro hE hkl
            have hc := gvF hP hG (need_ok G)
            refine WSc [0, 2, 4, 7, 13] [2, 4, 7, 59, 60, 180, 181, 1000, 150, 151] ?_
            refine WD [0, 2, 4, 7, 13] [2, 4, 7, 59, 60, 180, 181, 1000, 150, 151] [0, 1, 2, 3, 4, 5, 6, 7, 8, 9, 10, 11] [] ?_
            apply aw_seq
            refine WS [0, 2, 4, 13, 160] [2, 4, 59, 60, 180, 181, 1000, 150, 151] ?_
            refine aw_iff (by first | exact rfl | (simp only [evA_tmp, of_env, envL_cons, envL_nil]; simp [*])) ?_
            apply aw_skip
            apply q_seq
            rcases ht : rnumM b n3 16 with _ | ⟨m, n4⟩
            · have hv := (show evReadM b a = none by rw [htl]; simp only [evIdM, hr4]; refine (if_neg (Classical.not_not.2 hcase)).trans ((if_neg (by rw [show (ofM (evHd l r).Kind).n = false from hn]; simp)).trans ?_); rw [ht])
              apply aw_lists
              apply al_seg
              · (iterate 1 apply Seg.cons); exact Seg.nil _
              · simp (maxSteps := 2000000) (disch := omega) only [avR2, avA, datsOf, fillA, seval, ↓List.forall_mem_cons, Op.operands, hA, tiA, hE, KeptS]
                exact SC
              refine al_pan (fun i => i) (gvPan hP hG ((rnum_okP G b n3 16 hib (by omega) hat3.1).pan ht)) rfl rfl rfl rfl (lentX_of hN (by first | trivial | ((try simp only [haveL, AObj.ren, AV.ren, renL, ren_row, List.map_cons, List.map_nil, objL_cons, objL_nil]) <;> ((repeat' apply And.intro) <;> first | trivial | rfl))) (by rfl)) (by exact ⟨hv, rfl⟩)
            have hr5 := ht
            have hat4 := rnum_at hib hat3.1 ht
            have hpl : evReadM b a = if (postsL b (idR k) n4 m.toNat).2.2 = false then none else some ({ evHd l r with ID := idR k, Posts := (postsL b (idR k) n4 m.toNat).1 }, (postsL b (idR k) n4 m.toNat).2.1) := by rw [htl]; simp only [evIdM, hr4]; refine (if_neg (Classical.not_not.2 hcase)).trans ((if_neg (by rw [show (ofM (evHd l r).Kind).n = false from hn]; simp)).trans ?_); rw [ht]
            apply aw_regs [0, 2, 4, 166, 167] [2, 4, 59, 60, 180, 181, 1000, 150, 151]
            · simp (maxSteps := 2000000) (disch := omega) only [avR2, avA, datsOf, fillA, seval, ↓List.forall_mem_cons, Op.operands, hA, tiA, hE]
              (repeat' refine And.intro ?_ ?_) <;> try exact SD
              refine CallC.useX (fun i => i) [] (by simp [LitD, hR.2.1]) (gvFX hP hG ((rnum_okP G b n3 16 hib (by omega) hat3.1).ok ht)) rfl (lentX_of hN (by first | trivial | ((try simp only [haveL, AObj.ren, AV.ren, renL, ren_row, List.map_cons, List.map_nil, objL_cons, objL_nil]) <;> ((repeat' apply And.intro) <;> first | trivial | rfl))) (by rfl)) ?_
              try simp (maxSteps := 2000000) (disch := omega) only [avR2, avA, datsOf, fillA, seval, ↓List.forall_mem_cons, Op.operands, hA, tiA, hE, avX]
              exact SC
            apply aw_block
            refine aw_new0 151 5 (by omega) ?_
            refine aw_nilO 4 151 5 30 rfl rfl rfl rfl ?_
            refine WL (ι := {i : Nat // i ≤ m.toNat ∧ (postsL b (idR k) n4 i).2.2 = true}) [0, 2, 4, 166] [2, 59, 60, 180, 181, 150] (fun ⟨i, hi2⟩ => [(167, .dat (iD i))]) (fun ⟨i, hi2⟩ => [(4, ⟨32, [.agg [.dat (iD (l.getD 0 default)), .dat (iD (l.getD 1 default)), .dat (iD (l.getD 2 default)), .dat (iD (l.getD 3 default)), .dat (namesD (namesR r (r.length / 2))), .dat (iD 0), .dat (iD 0), .dat (iD 0), .dat (iD 0), .dat (iD 0), .dat (iD 0), .dat (iD 0), .dat (iD 0), .dat (iD 0), .dat (iD 0), .dat (iD 0), .dat (iD 0), .dat (iD 0), .dat (sD ⟨#[]⟩), .nils, .nils, .nils, .dat (sD ⟨#[]⟩), .dat (iD 0), .dat (iD 0), .dat (sD ⟨#[]⟩), .nils, .dat (iD (k.getD 0 default)), .dat (iD (k.getD 1 default)), .dat (iD (k.getD 2 default)), .osl 151 5 0 i, .dat (iD 0)]]⟩), (151, ⟨5, ((postsL b (idR k) n4 i).1.map postD).map .dat⟩), (1000, ⟨2, [.dat (rdD b (postsL b (idR k) n4 i).2.1)]⟩)]) (fun ⟨i, hi2⟩ => m.toNat - i) (⟨0, by omega, rfl⟩) ?_
            rintro ⟨i, hi2⟩
            dsimp only [List.cons_append, List.nil_append]
            obtain ⟨hi, hi0⟩ := id hi2
            have hil := postsL_len i hi0
            have hia := postsL_at hib (d := idR k) hat4.1 i
            have htk : (postsL b (idR k) n4 i).1.take i = (postsL b (idR k) n4 i).1 := List.take_of_length_le (by omega)
            have hE := And.intro hE (And.intro hil htk)
            refine WS [0, 2, 4, 166, 167, 168] [2, 4, 59, 60, 180, 181, 1000, 150, 151] ?_
            apply aw_seq
            refine WI (fun hb => ?_) (fun hb => ?_)
            · skip
              apply aw_skip
              apply q_seq
              apply aw_seq
              apply aw_block
              rcases ht : rnumM b (postsL b (idR k) n4 i).2.1 1 with _ | ⟨mn, n5⟩
              · have hv := (show evReadM b a = none by rw [hpl, if_pos]; exact postsL_stop (i := i + 1) (by rw [postsL, if_neg (by rw [hi0]; simp), ht]) _ (by omega))
                apply aw_lists
                apply al_seg
                · (iterate 1 apply Seg.cons); exact Seg.nil _
                · simp (maxSteps := 2000000) (disch := omega) only [avR2, avA, datsOf, fillA, seval, ↓List.forall_mem_cons, Op.operands, hA, tiA, hE, KeptS]
                  exact SC
                refine al_pan (fun i => i) (gvPan hP hG ((rnum_okP G b (postsL b (idR k) n4 i).2.1 1 hib (by omega) hia).pan ht)) rfl rfl rfl rfl (lentX_of hN (by first | trivial | ((try simp only [haveL, AObj.ren, AV.ren, renL, ren_row, List.map_cons, List.map_nil, objL_cons, objL_nil]) <;> ((repeat' apply And.intro) <;> first | trivial | rfl))) (by rfl)) (by exact ⟨hv, rfl⟩)
              have hr6 := ht
              have hat5 := rnum_at hib hia ht
              apply aw_regs [0, 2, 4, 14, 166, 167] [2, 4, 59, 60, 180, 181, 1000, 150, 151]
              · simp (maxSteps := 2000000) (disch := omega) only [avR2, avA, datsOf, fillA, seval, ↓List.forall_mem_cons, Op.operands, hA, tiA, hE]
                (repeat' refine And.intro ?_ ?_) <;> try exact SD
                refine CallC.useX (fun i => i) [] (by simp [LitD, hR.2.1]) (gvFX hP hG ((rnum_okP G b (postsL b (idR k) n4 i).2.1 1 hib (by omega) hia).ok ht)) rfl (lentX_of hN (by first | trivial | ((try simp only [haveL, AObj.ren, AV.ren, renL, ren_row, List.map_cons, List.map_nil, objL_cons, objL_nil]) <;> ((repeat' apply And.intro) <;> first | trivial | rfl))) (by rfl)) ?_
                try simp (maxSteps := 2000000) (disch := omega) only [avR2, avA, datsOf, fillA, seval, ↓List.forall_mem_cons, Op.operands, hA, tiA, hE, avX]
                exact SC
              rcases ht : rstrsM b n5 with _ | ⟨p, n6⟩
              · have hv := (show evReadM b a = none by rw [hpl, if_pos]; exact postsL_stop (i := i + 1) (by rw [postsL, if_neg (by rw [hi0]; simp), hr6]; simp only [ht]) _ (by omega))
                refine WDJP [(0, 172, _), (1, 173, _), (2, 174, _), (3, 175, _), (4, 176, _), (6, 178, _)] [] 5 [4] [7, 8, 9, 10, 11] ⟨.inr (.inr (DV 0 [] [1, 9, 10, 11])), .inr (.inr (DV 1 [0] [9, 10, 11])), .inr (.inr (DV 2 [] [3, 7, 8, 9, 10, 11])), .inr (.inr (DV 3 [2] [7, 8, 9, 10, 11])), .inr (.inr (DV 4 [] [5, 7, 8, 9, 10, 11])), .inl rfl, .inr (.inr (DV 5 [] [7, 8, 9, 10, 11])), .inr (.inl (by kernel_rfl)), .inr (.inl (by kernel_rfl)), .inr (.inl (by kernel_rfl)), .inr (.inl (by kernel_rfl)), .inr (.inl (by kernel_rfl)), trivial⟩ ?_
                rintro D hA1 hA2 a w ⟨hdf, β, S, hs⟩ K
                simp only [AllD, NoD] at hA1 hA2
                refine callPan_wp (m := fun i => i) hs rfl rfl (by simp (maxSteps := 2000000) (disch := omega) only [renL, AV.ren, List.map_cons, List.map_nil, avA, seval, hE, jLem, hA1, hA2] <;> rfl) (lentX_of hN (by simp (maxSteps := 2000000) (disch := omega) only [haveL, AObj.ren, AV.ren, renL, ren_row, List.map_cons, List.map_nil, avA, seval, hE, jLem, hA1, hA2] <;> ((repeat' apply And.intro) <;> first | trivial | rfl)) (by rfl)) (gvPan hP hG ((rstrs_okP G b n5 hib (by omega) hat5.1).pan ht)) (fun S' w' hs' => ⟨_, ⟨hv, rfl⟩, hdf, β, S', hs'⟩)
              have hr7 := ht
              have hat6 := rstrs_at hib hat5.1 ht
              have hsu : postsL b (idR k) n4 (i + 1) = ((postsL b (idR k) n4 i).1 ++ [⟨idR k, p, mn == 1⟩], n6, true) := by rw [postsL, if_neg (by rw [hi0]; simp), hr6]; simp only [ht]
              have hnx : i + 1 ≤ m.toNat ∧ (postsL b (idR k) n4 (i + 1)).2.2 = true := ⟨by omega, by rw [hsu]⟩
              refine WDEQ [0, 2, 4, 166, 167] [2, 4, 59, 60, 180, 181, 1000, 150, 151] [(0, 172, _), (1, 173, _), (2, 174, _), (3, 175, _), (4, 176, _), (5, 177, _), (6, 178, _), (7, 179, _), (8, 180, _), (9, 181, _), (10, 182, _)] [(11, 4, some _), (9, 181, some _), (9, 151, none), (5, 1000, some _)] ⟨EV 0 [] [1, 9, 10, 11], EV 1 [0] [9, 10, 11], EV 2 [] [3, 7, 8, 9, 10, 11], EV 3 [2] [7, 8, 9, 10, 11], EV 4 [] [5, 7, 8, 9, 10, 11], EB 5 3 [4] [7, 8, 9, 10, 11] (h := by
                  intro D hA1 hA2
                  simp only [AllD, NoD] at hA1 hA2
                  simp (maxSteps := 2000000) (disch := omega) only [avR2, avA, datsOf, fillA, seval, ↓List.forall_mem_cons, Op.operands, hA, tiA, hE, eLem, hA1, hA2]
                  (repeat' refine And.intro ?_ ?_) <;> try exact SD
                  refine CallC.useX (fun i => i) [] (by simp [LitD, hR.2.1]) (gvFX hP hG ((rstrs_okP G b n5 hib (by omega) hat5.1).ok hr7)) rfl (lentX_of hN (by simp (maxSteps := 2000000) (disch := omega) only [haveL, AObj.ren, AV.ren, renL, ren_row, List.map_cons, List.map_nil, avA, seval, hE, eLem, hA1, hA2] <;> ((repeat' apply And.intro) <;> first | trivial | rfl)) (by rfl)) ?_
                  simp (maxSteps := 2000000) (disch := omega) only [avR2, avA, datsOf, fillA, seval, ↓List.forall_mem_cons, Op.operands, hA, tiA, hE, eLem, hA1, hA2, avX]
                  exact SC), EV 6 [] [7, 8, 9, 10, 11], EV 7 [2, 3, 4, 5, 6] [8, 9, 10, 11], EV 8 [2, 3, 4, 5, 6, 7] [9, 10, 11], EA 9 1 2 [0, 1, 2, 3, 4, 5, 6, 7, 8] [10, 11] (hfix := by
                  intro D hA1 hA2
                  simp only [AllD, NoD] at hA1 hA2
                  exact eD_fix (of_fix (by simp [AV.kill, killL]) (by simp [AV.kill, killL])) (by simp [AV.kill, killL, hA1, hA2]) (by simp [AV.kill, killL, hA1, hA2])) (h := by
                  intro D hA1 hA2
                  simp only [AllD, NoD] at hA1 hA2
                  simp (maxSteps := 2000000) (disch := omega) only [avR2, avA, datsOf, fillA, seval, ↓List.forall_mem_cons, Op.operands, hA, tiA, hE, eLem, hA1, hA2]
                  exact SC), EV 10 [0, 1, 2, 3, 4, 5, 6, 7, 8, 9] [11], ES 0 [0, 1, 2, 3, 4, 5, 6, 7, 8, 9, 10] [], trivial⟩ ?_
              apply q_block
              apply q_seq
              refine aw_swap 181 151 (by omega) (by omega) ?_
              have hE := And.intro hE (And.intro hsu (show (idR k).By = k.getD 0 default ∧ (idR k).Seq = k.getD 1 default ∧ (idR k).K = k.getD 2 default from ⟨rfl, rfl, rfl⟩))
              refine WQ [0, 2, 4, 166, 167] [2, 4, 59, 60, 180, 181, 1000, 150, 151] ?_
              refine WN (⟨i + 1, hnx⟩)
            · skip
              apply aw_exit
              apply q_exit_seq
              have hin : i = m.toNat := by omega
              subst hin
              have hv : evReadM b a = some ({ evHd l r with ID := idR k, Posts := (postsL b (idR k) n4 m.toNat).1 }, (postsL b (idR k) n4 m.toNat).2.1) := by rw [hpl, if_neg (by rw [hi0]; simp)]
              have hE := And.intro hE (show (idR k).By = k.getD 0 default ∧ (idR k).Seq = k.getD 1 default ∧ (idR k).K = k.getD 2 default from ⟨rfl, rfl, rfl⟩)
              apply q_exit_loop
              apply q_exit
              apply q_block
              apply q_seq
              first | refine aw_frzX 151 hR.2.2.2 rfl (datE_map _) rfl ?_ | skip
              refine WS [2] [2, 59, 60, 180, 181, 1000, 150, 151] ?_
              apply aw_ret
              refine q_xp hv ?_
              simp only [QRet, QRetM, QRetX, retsX_nil, retsX_cons, objsAre, resA, mapO_nil, mapO_cons, vD_dat, vD_nils, vD_rp, vD_osl, vD_ptr, vD_agg, vD_fn, vD_isl, vL_dat, vL_app, viewL, avA, datsOf, fillA, seval, ↓List.forall_mem_cons, Op.operands, hP, hG, tiA, hE, evHd.eq_1]
              all_goals try (first | done | rfl | trivial)
              all_goals try simp only [rdD, hcast]
              all_goals first | done | exact ⟨_, rfl, rfl⟩ | exact ⟨⟨_, rfl, rfl⟩, trivial⟩ | exact ⟨⟨_, rfl, rfl⟩, rfl⟩
        · skip
          have hid : ¬ (ofM (l.getD 3 default)).id = true := by intro h; rw [h] at hb; cases hb
          have hv : evReadM b a = some (evHd l r, n2) := by rw [hhd]; exact (if_neg ho).trans ((if_neg hterm).trans (if_neg hid))
          apply aw_skip
          apply q_block
          apply q_seq
          first | refine aw_frzX 151 hR.2.2.2 rfl (datE_map _) rfl ?_ | skip
          refine WS [2] [2, 59, 60, 180, 181, 1000, 150, 151] ?_
          apply aw_ret
          refine q_xp hv ?_
          simp only [QRet, QRetM, QRetX, retsX_nil, retsX_cons, objsAre, resA, mapO_nil, mapO_cons, vD_dat, vD_nils, vD_rp, vD_osl, vD_ptr, vD_agg, vD_fn, vD_isl, vL_dat, vL_app, viewL, avA, datsOf, fillA, seval, ↓List.forall_mem_cons, Op.operands, hP, hG, tiA, hE, evHd.eq_1]
          all_goals try (first | done | rfl | trivial)
          all_goals try simp only [rdD, hcast]
          all_goals first | done | exact ⟨_, rfl, rfl⟩ | exact ⟨⟨_, rfl, rfl⟩, trivial⟩ | exact ⟨⟨_, rfl, rfl⟩, rfl⟩
end Go.Proofs.Ytabjaaonfaejmaa

namespace Go.Proofs.Ytabjaaonfaejmaa
open Go.Av
abbrev zEvA : AV := .agg [.dat (.int .i64 0), .dat (.int .i64 0), .dat (.int .i64 0), .dat (.int .i64 0), .nils, .dat (.int .i64 0), .dat (.int .i64 0), .dat (.int .i64 0), .dat (.int .i64 0), .dat (.int .i64 0), .dat (.int .i64 0), .dat (.int .i64 0), .dat (.int .i64 0), .dat (.int .i64 0), .dat (.int .i64 0), .dat (.int .i64 0), .dat (.int .i64 0), .dat (.int .i64 0), .dat (.str ⟨#[]⟩), .nils, .nils, .nils, .dat (.str ⟨#[]⟩), .dat (.int .i64 0), .dat (.int .i64 0), .dat (.str ⟨#[]⟩), .nils, .dat (.int .i64 0), .dat (.int .i64 0), .dat (.int .i64 0), .nils, .dat (.int .i64 0)]
abbrev decO (x : AV) (n k : Int) : List (Nat × AObj) := [(1000, ⟨32, [x]⟩), (1001, ⟨1, [.dat (iD n)]⟩), (1002, ⟨1, [.dat (iD k)]⟩)]
abbrev decC : List AV := [.ptr 1000 32 0 0, .ptr 1001 1 0 0, .ptr 1002 1 0 0]
set_option maxRecDepth 100000 in
theorem decP_z (G) : GivesDX Try.prog G 64 decC (decO zEvA 0 0) (.panicking (pchain formV)) (decO zEvA 0 2) := by
  skip
  skip
  refine gd_intro (d0 := 6) (d1 := 3) Try.func64 rfl (by rfl) (by simp [Try.ntmps64]) (by rw [Try.ntmps64]; omega) (by rw [Try.ntmps64]; omega) (by rfl) Try.results64 (by kernel_rfl) (by simp only [onlyOs, onlyL_nil, onlyL_cons, onlyL_append, onlyL_dats, onlyL_row, AV.only, Bool.and_true] <;> simp [inIds]) fun F hP hG hN hR => ?_
  rw [Try.ntmps64] at hN
  have hA := And.intro hN (And.intro hP (And.intro hG (And.intro hR.1 (And.intro hR.2.1 hR.2.2.1))))
  have hE := @Try.results64
  skip
  apply aw_lists
  apply al_seg
  · (iterate 1 apply Seg.cons); exact Seg.nil _
  · simp (maxSteps := 2000000) (disch := omega) only [avR2, avA, datsOf, fillA, seval, ↓List.forall_mem_cons, Op.operands, hA, tiA, hE, KeptS]
    exact SC
  refine al_step rfl (neqI_ok true rfl rfl (by rw [hN]; omega) (by rw [hP]; exact ti20) rfl rfl (.inr ⟨_, _, rfl, rfl⟩)) ?_
  rw [of_put]
  apply al_last [0, 1, 2, 3, 8] [1000, 1001, 1002]
  · simp (maxSteps := 2000000) (disch := omega) only [avR2, avA, datsOf, fillA, seval, ↓List.forall_mem_cons, Op.operands, hA, tiA, hE]
    exact SC
  refine aw_ift (by first | exact rfl | (simp only [evA_tmp, of_env, envL_cons, envL_nil]; simp [*])) ?_
  apply aw_lists
  apply al_seg
  · (iterate 1 apply Seg.cons); exact Seg.nil _
  · simp (maxSteps := 2000000) (disch := omega) only [avR2, avA, datsOf, fillA, seval, ↓List.forall_mem_cons, Op.operands, hA, tiA, hE, KeptS]
    exact SC
  refine al_step rfl (assert_ok (dv := iD 2) rfl rfl (by rw [hN]; omega) (by rw [hP]; exact ti42) (by intro h; cases h) rfl (fun _ _ => by simp [RepX])) ?_
  rw [of_put]
  apply al_last [0, 1, 2, 3, 4, 5] [1000, 1001, 1002]
  · simp (maxSteps := 2000000) (disch := omega) only [avR2, avA, datsOf, fillA, seval, ↓List.forall_mem_cons, Op.operands, hA, tiA, hE]
    exact SC
  apply aw_seq
  refine WS [0, 1, 2, 3, 4, 15] [1000, 1001, 1002] ?_
  refine aw_iff (by first | exact rfl | (simp only [evA_tmp, of_env, envL_cons, envL_nil]; simp [*])) ?_
  apply aw_skip
  apply q_seq
  refine WQ [] [1000, 1001, 1002] ?_
  simp only [QRet, QRetM, QRetX, retsX_nil, retsX_cons, objsAre, resA, mapO_nil, mapO_cons, vD_dat, vD_nils, vD_rp, vD_osl, vD_ptr, vD_agg, vD_fn, vD_isl, vL_dat, vL_app, viewL, avA, datsOf, fillA, seval, ↓List.forall_mem_cons, Op.operands, hP, hG, tiA, hE, QBody]
  all_goals try (first | done | rfl | trivial)
set_option maxRecDepth 100000 in
theorem decP_e (G) (e : EventM) : GivesDX Try.prog G 64 decC (decO (.dat (eventD e)) 0 0) (.panicking (pchain formV)) (decO zEvA 0 2) := by
  skip
  skip
  refine gd_intro (d0 := 6) (d1 := 3) Try.func64 rfl (by rfl) (by simp [Try.ntmps64]) (by rw [Try.ntmps64]; omega) (by rw [Try.ntmps64]; omega) (by rfl) Try.results64 (by kernel_rfl) (by simp only [onlyOs, onlyL_nil, onlyL_cons, onlyL_append, onlyL_dats, onlyL_row, AV.only, Bool.and_true] <;> simp [inIds]) fun F hP hG hN hR => ?_
  rw [Try.ntmps64] at hN
  have hA := And.intro hN (And.intro hP (And.intro hG (And.intro hR.1 (And.intro hR.2.1 hR.2.2.1))))
  have hE := @Try.results64
  skip
  apply aw_lists
  apply al_seg
  · (iterate 1 apply Seg.cons); exact Seg.nil _
  · simp (maxSteps := 2000000) (disch := omega) only [avR2, avA, datsOf, fillA, seval, ↓List.forall_mem_cons, Op.operands, hA, tiA, hE, KeptS]
    exact SC
  refine al_step rfl (neqI_ok true rfl rfl (by rw [hN]; omega) (by rw [hP]; exact ti20) rfl rfl (.inr ⟨_, _, rfl, rfl⟩)) ?_
  rw [of_put]
  apply al_last [0, 1, 2, 3, 8] [1000, 1001, 1002]
  · simp (maxSteps := 2000000) (disch := omega) only [avR2, avA, datsOf, fillA, seval, ↓List.forall_mem_cons, Op.operands, hA, tiA, hE]
    exact SC
  refine aw_ift (by first | exact rfl | (simp only [evA_tmp, of_env, envL_cons, envL_nil]; simp [*])) ?_
  apply aw_lists
  apply al_seg
  · (iterate 1 apply Seg.cons); exact Seg.nil _
  · simp (maxSteps := 2000000) (disch := omega) only [avR2, avA, datsOf, fillA, seval, ↓List.forall_mem_cons, Op.operands, hA, tiA, hE, KeptS]
    exact SC
  refine al_step rfl (assert_ok (dv := iD 2) rfl rfl (by rw [hN]; omega) (by rw [hP]; exact ti42) (by intro h; cases h) rfl (fun _ _ => by simp [RepX])) ?_
  rw [of_put]
  apply al_last [0, 1, 2, 3, 4, 5] [1000, 1001, 1002]
  · simp (maxSteps := 2000000) (disch := omega) only [avR2, avA, datsOf, fillA, seval, ↓List.forall_mem_cons, Op.operands, hA, tiA, hE]
    exact SC
  apply aw_seq
  refine WS [0, 1, 2, 3, 4, 15] [1000, 1001, 1002] ?_
  refine aw_iff (by first | exact rfl | (simp only [evA_tmp, of_env, envL_cons, envL_nil]; simp [*])) ?_
  apply aw_skip
  apply q_seq
  refine WQ [] [1000, 1001, 1002] ?_
  simp only [QRet, QRetM, QRetX, retsX_nil, retsX_cons, objsAre, resA, mapO_nil, mapO_cons, vD_dat, vD_nils, vD_rp, vD_osl, vD_ptr, vD_agg, vD_fn, vD_isl, vL_dat, vL_app, viewL, avA, datsOf, fillA, seval, ↓List.forall_mem_cons, Op.operands, hP, hG, tiA, hE, QBody]
  all_goals try (first | done | rfl | trivial)
set_option maxRecDepth 100000 in
theorem decR_e (G) (e : EventM) (n k : Int) : GivesDX Try.prog G 64 decC (decO (.dat (eventD e)) n k) .returning (decO (.dat (eventD e)) n k) := by
  skip
  skip
  refine gd_intro (d0 := 6) (d1 := 3) Try.func64 rfl (by rfl) (by simp [Try.ntmps64]) (by rw [Try.ntmps64]; omega) (by rw [Try.ntmps64]; omega) (by rfl) Try.results64 (by kernel_rfl) (by simp only [onlyOs, onlyL_nil, onlyL_cons, onlyL_append, onlyL_dats, onlyL_row, AV.only, Bool.and_true] <;> simp [inIds]) fun F hP hG hN hR => ?_
  rw [Try.ntmps64] at hN
  have hA := And.intro hN (And.intro hP (And.intro hG (And.intro hR.1 (And.intro hR.2.1 hR.2.2.1))))
  have hE := @Try.results64
  skip
  apply aw_lists
  apply al_seg
  · (iterate 1 apply Seg.cons); exact Seg.nil _
  · simp (maxSteps := 2000000) (disch := omega) only [avR2, avA, datsOf, fillA, seval, ↓List.forall_mem_cons, Op.operands, hA, tiA, hE, KeptS]
    exact SC
  refine al_step rfl (neqI_ok false rfl rfl (by rw [hN]; omega) (by rw [hP]; exact ti20) rfl rfl (.inl ⟨rfl, rfl⟩)) ?_
  rw [of_put]
  apply al_last [0, 1, 2, 3, 8] [1000, 1001, 1002]
  · simp (maxSteps := 2000000) (disch := omega) only [avR2, avA, datsOf, fillA, seval, ↓List.forall_mem_cons, Op.operands, hA, tiA, hE]
    exact SC
  refine aw_iff (by first | exact rfl | (simp only [evA_tmp, of_env, envL_cons, envL_nil]; simp [*])) ?_
  apply aw_skip
  simp only [QRet, QRetM, QRetX, retsX_nil, retsX_cons, objsAre, resA, mapO_nil, mapO_cons, vD_dat, vD_nils, vD_rp, vD_osl, vD_ptr, vD_agg, vD_fn, vD_isl, vL_dat, vL_app, viewL, avA, datsOf, fillA, seval, ↓List.forall_mem_cons, Op.operands, hP, hG, tiA, hE, QBody]
  all_goals try (first | done | rfl | trivial)
def decM (b : List Int) : EventM × Nat × Int :=
  match evReadM b 0 with
  | none => (z0Ev, 0, 2)
  | some (x, n) => if validM x = 0 then (x, n, 0) else (z0Ev, 0, 2)
theorem dec_cs {F : FC} (hN : F.N = 21) {st : ASt} {x : AV} {n k : Int} (h : objsAre st.objs (decO x n k)) : ∀ c ∈ decC, ∃ i es o, c = .ptr i es 0 0 ∧ F.N ≤ i ∧ st.objs i = some o ∧ o.elems ≠ [] ∧ (∀ ks vs, o ≠ mapO' ks vs) := by
  obtain ⟨h1, h2, h3, _⟩ := h
  intro c hc
  simp only [decC, List.mem_cons, List.not_mem_nil, or_false] at hc
  rcases hc with rfl | rfl | rfl
  · exact ⟨1000, 32, _, rfl, by omega, h1, by simp, fun ks vs h => by cases h⟩
  · exact ⟨1001, 1, _, rfl, by omega, h2, by simp, fun ks vs h => by cases h⟩
  · exact ⟨1002, 1, _, rfl, by omega, h3, by simp, fun ks vs h => by cases h⟩
set_option maxRecDepth 100000 in
set_option maxHeartbeats 2000000 in
theorem decode_ok (G) (b : List Int) (hib : isB b) (hl : b.length ≤ 1000000) (hok : ∀ x n, evReadM b 0 = some (x, n) → OkEv x) : Gives Try.prog G 29 [u8sD b] [eventD (decM b).1, iD (decM b).2.1, iD (decM b).2.2] := by
  skip
  skip
  refine gives_introD (e0 := [(2, .ptr 2 32 0 0), (3, .ptr 3 1 0 0), (4, .ptr 4 1 0 0), (0, .dat (u8sD b))]) (o0 := [(2, ⟨32, [zEvA]⟩), (3, ⟨1, [.dat (iD 0)]⟩), (4, ⟨1, [.dat (iD 0)]⟩)]) (e2 := [(2, .ptr 1000 32 0 0), (3, .ptr 1001 1 0 0), (4, .ptr 1002 1 0 0), (0, .dat (u8sD b))]) (os2 := decO zEvA 0 0) [] [11] [] Try.func29 rfl (by rfl) (by simp [Try.ntmps29]) (by rw [Try.ntmps29]; omega) (fun i => i - 998) decC ?_ (by rfl) ?_ ?_ ?_
  · intro F hP hG hN hR
    rw [Try.ntmps29] at hN
    have hA := And.intro hN (And.intro hP (And.intro hG (And.intro hR.1 (And.intro hR.2.1 hR.2.2.1))))
    have hE := @Try.results29
    refine WQ [2, 3, 4, 0] [2, 3, 4] ?_
    exact ⟨rfl, rfl⟩
  · refine ⟨fun p hp => ?_, fun p hp q hq h => ?_, rfl⟩
    · simp only [decO, List.mem_cons, List.not_mem_nil, or_false] at hp
      rcases hp with rfl | rfl | rfl <;> rfl
    · simp only [decO, List.mem_cons, List.not_mem_nil, or_false] at hp hq
      rcases hp with rfl | rfl | rfl <;> rcases hq with rfl | rfl | rfl <;> first | rfl | (exact absurd h (by decide))
  · intro p hp
    simp only [List.mem_cons, List.not_mem_nil, or_false] at hp
    rcases hp with rfl | rfl | rfl | rfl <;> exact ⟨by simp, rfl⟩
  intro F hP hG hN hR
  rw [Try.ntmps29] at hN
  have hA := And.intro hN (And.intro hP (And.intro hG (And.intro hR.1 (And.intro hR.2.1 hR.2.2.1))))
  have hE := @Try.results29
  skip
  skip
  refine WS [2, 3, 4, 5] [2, 3, 4, 9, 1000, 1001, 1002] ?_
  rcases ht : evReadM b 0 with _ | ⟨x, n⟩
  · have hv := (show decM b = (z0Ev, 0, 2) by unfold decM; rw [ht])
    apply aw_lists
    apply al_seg
    · (iterate 1 apply Seg.cons); exact Seg.nil _
    · simp (maxSteps := 2000000) (disch := omega) only [avR2, avA, datsOf, fillA, seval, ↓List.forall_mem_cons, Op.operands, hA, tiA, hE, KeptS]
      exact SC
    refine al_pan (fun _ => 9) (gvPan hP hG ((event_okP G b 0 hib hl (Nat.zero_le _)).pan ht)) rfl rfl rfl rfl (lentX_of hN (by first | trivial | ((try simp only [haveL, AObj.ren, AV.ren, renL, ren_row, List.map_cons, List.map_nil, objL_cons, objL_nil]) <;> ((repeat' apply And.intro) <;> first | trivial | rfl))) (by rfl)) ?_
    show QDend _ _ _ _ _ _ _
    first
      | refine ⟨decO zEvA 0 0, decO zEvA 0 2, lentX_of hN (by repeat' first | exact rfl | exact trivial | apply And.intro) (by rfl), dec_cs hN (x := zEvA) (n := 0) (k := 0) ⟨rfl, rfl, rfl, trivial⟩, by rw [hP, hG]; exact decP_z G, rfl, ?_, ?_⟩
      | refine ⟨decO (.dat (eventD x)) 0 0, decO zEvA 0 2, lentX_of hN (by repeat' first | exact rfl | exact trivial | apply And.intro) (by rfl), dec_cs hN (x := .dat (eventD x)) (n := 0) (k := 0) ⟨rfl, rfl, rfl, trivial⟩, by rw [hP, hG]; exact decP_e G x, rfl, ?_, ?_⟩
    all_goals (try rw [hv])
    all_goals simp (maxSteps := 2000000) (disch := omega) only [resA, mapO_nil, mapO_cons, vD_dat, vD_nils, vD_rp, vD_osl, vD_ptr, vD_agg, vD_fn, vD_isl, vL_dat, vL_app, viewL, avA, datsOf, fillA, seval, ↓List.forall_mem_cons, Op.operands, hP, hG, tiA, hE, avX, decO, zEvA]
    all_goals first | done | rfl | trivial | (repeat' apply And.intro) <;> first | rfl | trivial
  have hr1 := ht
  have hx := hok x n ht
  apply aw_regs [2, 3, 4, 5] [2, 3, 4, 9, 1000, 1001, 1002]
  · simp (maxSteps := 2000000) (disch := omega) only [avR2, avA, datsOf, fillA, seval, ↓List.forall_mem_cons, Op.operands, hA, tiA, hE]
    (repeat' refine And.intro ?_ ?_) <;> try exact SD
    refine CallC.useX (fun _ => 9) [] (by simp [LitD, hR.2.1]) (gvFX hP hG ((event_okP G b 0 hib hl (Nat.zero_le _)).ok ht)) rfl (lentX_of hN (by first | trivial | ((try simp only [haveL, AObj.ren, AV.ren, renL, ren_row, List.map_cons, List.map_nil, objL_cons, objL_nil]) <;> ((repeat' apply And.intro) <;> first | trivial | rfl))) (by rfl)) ?_
    try simp (maxSteps := 2000000) (disch := omega) only [avR2, avA, datsOf, fillA, seval, ↓List.forall_mem_cons, Op.operands, hA, tiA, hE, avX]
    exact SC
  by_cases ht : ¬ (validM x = 0)
  · have hv := (show decM b = (z0Ev, 0, 2) by unfold decM; rw [hr1]; exact if_neg ht)
    apply aw_lists
    apply al_seg
    · (iterate 3 apply Seg.cons); exact Seg.nil _
    · simp (maxSteps := 2000000) (disch := omega) only [avR2, avA, datsOf, fillA, seval, ↓List.forall_mem_cons, Op.operands, hA, tiA, hE, KeptS]
      (repeat' refine And.intro ?_ ?_) <;> try exact SD
      refine CallC.use (gvF hP hG (valid_ok G x hx)) rfl ?_
      try simp (maxSteps := 2000000) (disch := omega) only [avR2, avA, datsOf, fillA, seval, ↓List.forall_mem_cons, Op.operands, hA, tiA, hE]
      exact SC
    refine al_pan (fun i => i) (gvPan hP hG (need_pan G ?_)) rfl rfl rfl rfl (lentX_of hN (by first | trivial | ((try simp only [haveL, AObj.ren, AV.ren, renL, ren_row, List.map_cons, List.map_nil, objL_cons, objL_nil]) <;> ((repeat' apply And.intro) <;> first | trivial | rfl))) (by rfl)) ?_
    · first | (simpa using ht) | grind
    show QDend _ _ _ _ _ _ _
    first
      | refine ⟨decO zEvA 0 0, decO zEvA 0 2, lentX_of hN (by repeat' first | exact rfl | exact trivial | apply And.intro) (by rfl), dec_cs hN (x := zEvA) (n := 0) (k := 0) ⟨rfl, rfl, rfl, trivial⟩, by rw [hP, hG]; exact decP_z G, rfl, ?_, ?_⟩
      | refine ⟨decO (.dat (eventD x)) 0 0, decO zEvA 0 2, lentX_of hN (by repeat' first | exact rfl | exact trivial | apply And.intro) (by rfl), dec_cs hN (x := .dat (eventD x)) (n := 0) (k := 0) ⟨rfl, rfl, rfl, trivial⟩, by rw [hP, hG]; exact decP_e G x, rfl, ?_, ?_⟩
    all_goals (try rw [hv])
    all_goals simp (maxSteps := 2000000) (disch := omega) only [resA, mapO_nil, mapO_cons, vD_dat, vD_nils, vD_rp, vD_osl, vD_ptr, vD_agg, vD_fn, vD_isl, vL_dat, vL_app, viewL, avA, datsOf, fillA, seval, ↓List.forall_mem_cons, Op.operands, hP, hG, tiA, hE, avX, decO, zEvA]
    all_goals first | done | rfl | trivial | (repeat' apply And.intro) <;> first | rfl | trivial
  replace ht := Classical.not_not.1 ht
  have hv : decM b = (x, n, 0) := by unfold decM; rw [hr1]; exact if_pos ht
  have hE := And.intro hE ht
  apply aw_regs [2, 3, 4, 5] [2, 3, 4, 9, 1000, 1001, 1002]
  · simp (maxSteps := 2000000) (disch := omega) only [avR2, avA, datsOf, fillA, seval, ↓List.forall_mem_cons, Op.operands, hA, tiA, hE]
    (repeat' refine And.intro ?_ ?_) <;> try exact SD
    refine CallC.use (gvF hP hG (valid_ok G x hx)) rfl ?_
    try simp (maxSteps := 2000000) (disch := omega) only [avR2, avA, datsOf, fillA, seval, ↓List.forall_mem_cons, Op.operands, hA, tiA, hE]
    (repeat' refine And.intro ?_ ?_) <;> try exact SD
    refine CallC.use (gvF hP hG (need_ok G)) rfl ?_
    try simp (maxSteps := 2000000) (disch := omega) only [avR2, avA, datsOf, fillA, seval, ↓List.forall_mem_cons, Op.operands, hA, tiA, hE]
    exact SC
  refine WDJ [2, 3, 4] [2, 3, 4, 1000, 1001, 1002] [(0, 16, _), (1, 17, _), (2, 18, _), (3, 19, _), (4, 20, _)] [(7, 1002, _), (6, 1001, _), (5, 1000, _)] ⟨DV 0 [] [5, 6, 7], DV 1 [] [2, 3, 4, 6, 7], DV 2 [1] [3, 4, 6, 7], DV 3 [1, 2] [4, 6, 7], DV 4 [1, 2, 3] [6, 7], DS 2 [0] [6, 7], DS 1 [0, 1, 2, 3, 4, 5] [7], DS 0 [0, 1, 2, 3, 4, 5, 6] [], trivial⟩ ?_
  apply aw_ret
  show QDend _ _ _ _ _ _ _
  refine ⟨decO (.dat (eventD x)) n 0, decO (.dat (eventD x)) n 0, lentX_of hN (by repeat' first | exact rfl | exact trivial | apply And.intro) (by rfl), dec_cs hN (x := .dat (eventD x)) (n := n) (k := 0) ⟨rfl, rfl, rfl, trivial⟩, by rw [hP, hG]; exact decR_e G x n 0, rfl, ?_, ?_⟩
  all_goals (try rw [hv])
  all_goals simp (maxSteps := 2000000) (disch := omega) only [resA, mapO_nil, mapO_cons, vD_dat, vD_nils, vD_rp, vD_osl, vD_ptr, vD_agg, vD_fn, vD_isl, vL_dat, vL_app, viewL, avA, datsOf, fillA, seval, ↓List.forall_mem_cons, Op.operands, hP, hG, tiA, hE, avX, decO, zEvA]
  all_goals first | done | rfl | trivial | (repeat' apply And.intro) <;> first | rfl | trivial
end Go.Proofs.Ytabjaaonfaejmaa

namespace Go.Proofs.Ytabjaaonfaejmaa
open Go.Av
theorem sm_opB {o : OpM} (h : SmOp o) : (opB o).length ≤ 300000 := by
  have h0 := intsM_le h.head (by simp [headL])
  have e0 : (headL o).length = 13 := rfl
  have h1 := bytesM_sz h.text (by omega)
  have h2 : (strsM o.Texts).length ≤ 9 + 109 * o.Texts.length := by
    rw [strsM, strsN, preM_all, List.length_append]
    have ha := flat_le bytesM 109 o.Texts fun s hs => bytesM_sz (h.texts s hs) (by omega)
    have hb := intM_le (n := (o.Texts.length : Int)) (by have := h.ntexts; unfold I64; omega)
    omega
  have n1 := h.ntexts
  have n2 := h.npairs
  have n3 := h.nrefs
  have h3 := intsM_flat (f := pairI) (l := o.Pairs) (c := 2) (fun p hp => ⟨Nat.le_refl _, fun y hy => by
    have := h.pairs p hp
    simp only [pairI, List.mem_cons, List.not_mem_nil, or_false] at hy
    rcases hy with rfl | rfl
    · exact this.1
    · exact this.2⟩) (by omega)
  have h4 := intsM_flat (f := idI) (l := o.Refs) (c := 3) (fun p hp => ⟨Nat.le_refl _, fun y hy => by
    have := h.refs p hp
    simp only [idI, List.mem_cons, List.not_mem_nil, or_false] at hy
    rcases hy with rfl | rfl | rfl
    · exact this.1
    · exact this.2.1
    · exact this.2.2⟩) (by omega)
  rw [opB, List.length_append, List.length_append, List.length_append, List.length_append]
  omega
theorem strs_sz {l : List ByteArray} (h : ∀ s ∈ l, s.size ≤ 100) (hl : l.length ≤ 100000) : (strsM l).length ≤ 9 + 109 * l.length := by
  rw [strsM, strsN, preM_all, List.length_append]
  have ha := flat_le bytesM 109 l fun s hs => bytesM_sz (h s hs) (by omega)
  have hb := intM_le (n := (l.length : Int)) (by unfold I64; omega)
  omega
theorem sm_evB {k : Nat} {e : EventM} (h : SmEv k e) (hk : k ≤ 4) : (evB e).length ≤ 800000 := by
  have ok := sm_ev h (by omega)
  have n1 := h.nrefs
  have n2 := h.nbroader
  have n3 := h.nposts
  have m1 : 20 * (k + 1) ≤ 100 := by omega
  have m2 : 10 * (k + 1) ≤ 50 := by omega
  have hb1 := intsM_le (l := [e.By, e.Seq, e.Tick, e.Kind]) (by
    simp only [List.forall_mem_cons]
    exact ⟨h.by_, h.seq, h.tick, h.kind, by simp⟩) (by simp)
  simp only [List.length_cons, List.length_nil] at hb1
  have hb2 := intsM_le (nameI_ok ok) (by rw [flat_lenN]; omega)
  rw [flat_lenN] at hb2
  have ht : (tailB e).length ≤ 700000 := by
    unfold tailB
    split
    · have := sm_opB h.op; omega
    split
    · have q1 := intsM_le (l := [e.Term.Kind, e.Term.Lang]) (by
        simp only [List.forall_mem_cons]
        exact ⟨h.tk, h.tl, by simp⟩) (by simp)
      have q2 := strs_sz (l := e.Term.Name :: e.Term.See :: e.Term.Broader) (by
        intro s hs
        rcases List.mem_cons.1 hs with rfl | hs
        · exact h.name
        · rcases List.mem_cons.1 hs with rfl | hs
          · exact h.see
          · exact h.broader s hs) (by simp only [List.length_cons]; omega)
      simp only [List.length_append, List.length_cons, List.length_nil] at q1 q2 ⊢
      omega
    split
    · have q1 := intsM_le (l := idI e.ID) (idI_i64 h.id) (by simp [idI])
      have q2 := intM_le (n := (e.Posts.length : Int)) (by unfold I64; omega)
      have q3 := flat_le postB 1200 e.Posts fun p hp => by
        obtain ⟨_, p1, p2⟩ := h.posts p hp
        have r1 := strs_sz p2 (by omega)
        have r2 := intM_le (n := (if p.Main = true then 1 else 0)) (by split <;> (unfold I64; omega))
        rw [postB, List.length_append]
        omega
      have q4 : (idI e.ID).length = 3 := rfl
      simp only [List.length_append]
      omega
    split
    · have q1 := intsM_le (l := idI e.ID ++ [e.N]) (fun x hx => by
        rcases List.mem_append.1 hx with hx | hx
        · exact idI_i64 h.id x hx
        · simp at hx; subst hx; exact h.n) (by simp [idI])
      have q2 : (idI e.ID ++ [e.N]).length = 4 := rfl
      omega
    · simp
  simp only [evB, headB, List.length_append]
  omega
theorem intM_isB {n : Int} (hn : I64 n) : isB (intM n) := fun x hx => by
  have hk := kM_le hn
  unfold intM intN at hx
  rcases List.mem_cons.1 hx with rfl | hx
  · exact flip_rng (by omega)
  · obtain ⟨i, _, rfl⟩ := List.mem_map.1 hx
    unfold digM
    exact flip_rng (by omega)
theorem isB_app {a b : List Int} (ha : isB a) (hb : isB b) : isB (a ++ b) := fun x hx => by
  rcases List.mem_append.1 hx with h | h
  · exact ha x h
  · exact hb x h
theorem isB_flat {α : Type} {f : α → List Int} {l : List α} (h : ∀ x ∈ l, isB (f x)) : isB (l.flatMap f) := fun y hy => by
  obtain ⟨x, hx, hy⟩ := List.mem_flatMap.1 hy
  exact h x hx y hy
theorem strB_isB (s : ByteArray) : isB (strB s) := fun x hx => by
  unfold strB at hx
  obtain ⟨c, _, rfl⟩ := List.mem_map.1 hx
  have := c.toNat_lt
  omega
theorem bytesM_isB {s : ByteArray} (h : s.size ≤ 1000000000000) : isB (bytesM s) := isB_app (intM_isB (i64_len h)) (strB_isB s)
theorem intsM_isB {l : List Int} (hl : l.length ≤ 1000000000000) (h : ∀ x ∈ l, I64 x) : isB (intsM l) := by
  rw [intsM_eq']
  exact isB_app (intM_isB (i64_len hl)) (isB_flat fun x hx => intM_isB (h x hx))
theorem strsM_isB {l : List ByteArray} (hl : l.length ≤ 1000000000000) (h : ∀ s ∈ l, s.size ≤ 1000000000000) : isB (strsM l) := by
  rw [strsM_eq']
  exact isB_app (intM_isB (i64_len hl)) (isB_flat fun x hx => bytesM_isB (h x hx))
theorem opB_isB {o : OpM} (h : OkOp o) : isB (opB o) := by
  have hnt := h.ntexts
  have hnp := h.npairs
  have hnr := h.nrefs
  unfold opB
  refine isB_app (isB_app (isB_app (isB_app (intsM_isB (by simp [headL]) h.head) (bytesM_isB (by have := h.text; omega))) (strsM_isB (by omega) fun s hs => by have := h.texts s hs; omega)) (intsM_isB (by rw [flat_len2]; omega) fun x hx => ?_)) (intsM_isB (by rw [flat_len3]; omega) fun x hx => ?_)
  · obtain ⟨p, hp, hx⟩ := List.mem_flatMap.1 hx
    have := h.pairs p hp
    simp only [pairI, List.mem_cons, List.not_mem_nil, or_false] at hx
    rcases hx with rfl | rfl
    · exact this.1
    · exact this.2
  · obtain ⟨p, hp, hx⟩ := List.mem_flatMap.1 hx
    exact idI_i64 (h.refs p hp) x hx
theorem evB_isB {e : EventM} (ok : OkEv e) : isB (evB e) := by
  have hnr := ok.nrefs
  have hnb := ok.nbroader
  have hnp := ok.nposts
  unfold evB headB
  refine isB_app (isB_app (intsM_isB (by simp) (by simp only [List.forall_mem_cons]; exact ⟨ok.by_, ok.seq, ok.tick, ok.kind, by simp⟩)) (intsM_isB (by rw [flat_lenN]; omega) (nameI_ok ok))) ?_
  unfold tailB
  split
  · exact opB_isB ok.op
  split
  · refine isB_app (intsM_isB (by simp) (by simp only [List.forall_mem_cons]; exact ⟨ok.tk, ok.tl, by simp⟩)) (strsM_isB (by simp only [List.length_cons]; omega) fun s hs => ?_)
    rcases List.mem_cons.1 hs with rfl | hs
    · have := ok.name; omega
    · rcases List.mem_cons.1 hs with rfl | hs
      · have := ok.see; omega
      · have := ok.broader s hs; omega
  split
  · refine isB_app (isB_app (intsM_isB (by simp [idI]) (idI_i64 ok.id)) (intM_isB (by unfold I64; omega))) (isB_flat fun p hp => ?_)
    obtain ⟨_, p1, p2⟩ := ok.posts p hp
    exact isB_app (intM_isB (by split <;> (unfold I64; omega))) (strsM_isB (by omega) fun s hs => by have := p2 s hs; omega)
  split
  · refine intsM_isB (by simp [idI]) fun x hx => ?_
    rcases List.mem_append.1 hx with hx | hx
    · exact idI_i64 ok.id x hx
    · simp at hx; subst hx; exact ok.n
  · exact fun x hx => by simp at hx
theorem dec_rt {e : EventM} (ok : OkEv e) (h : validM e = 0) (r : List Int) : decM (evB e ++ r) = (e, (evB e).length, 0) := by
  unfold decM
  rw [ev_rt ok h r]
  exact if_pos h
theorem same_bytes {a b : EventM} (oa : OkEv a) (ob : OkEv b) (ha : validM a = 0) (hb : validM b = 0) : sameL (fun x y : Int => x == y) (evB a) (evB b) = sameEvM a b := by
  rw [Bool.eq_iff_iff]
  constructor
  · intro h
    have he : evB a = evB b := sameL_eq (fun x y h => by simpa using h) h
    have h1 := ev_rt oa ha []
    rw [he, ev_rt ob hb []] at h1
    simp only [Option.some.injEq, Prod.mk.injEq] at h1
    rw [← h1.1]
    exact sameEv_refl _
  · intro h
    rw [sameEv_eq h]
    exact sameL_refl (fun x => by simp)
def againL (x y z : EventM) : List EventM := [x, y, z]
theorem againL_len (x y z : EventM) : (againL x y z).length = 3 := rfl
end Go.Proofs.Ytabjaaonfaejmaa

namespace Go.Proofs.Ytabjaaonfaejmaa
open Go.Av
set_option maxRecDepth 100000 in
set_option maxHeartbeats 8000000 in
theorem again_law (G) (q m : List Int) (how b : Int) (raw : List Int) (hq : ∀ n ∈ q, I64 n) (hm : ∀ n ∈ m, I64 n) (hh : I64 how) (hbb : I64 b) (hraw : isB raw) : Gives Try.prog G 7 [isD q, isD m, iD how, iD b, u8sD raw] [bD true] := by
  have h1 := evG_sm q
  have h2 := evG_sm m
  have hq0 := event_ok G q hq
  have hm0 := event_ok G m hm
  generalize evG q = x at *
  generalize evG m = y at *
  have h3 : SmEv 1 (spoiltM x how b) := sm_sp h1 (by omega) hbb _
  have hls : ∀ e ∈ againL x y (spoiltM x how b), SmEv 1 e := by
    intro e he
    simp only [againL, List.mem_cons, List.not_mem_nil, or_false] at he
    rcases he with rfl | rfl | rfl
    · exact sm_up h1
    · exact sm_up h2
    · exact h3
  have hll := againL_len x y (spoiltM x how b)
  skip
  skip
  refine gives_intro [28] [50] [] Try.func7 rfl (by rfl) (by simp [Try.ntmps7]) fun F hP hG hN hR => ?_
  rw [Try.ntmps7] at hN
  have hA := And.intro hN (And.intro hP (And.intro hG (And.intro hR.1 (And.intro hR.2.1 hR.2.2.1))))
  have hE := And.intro @Try.results7 (And.intro @hll (And.intro @nth_row (And.intro @Nat.min_self (@List.take_length.{0}))))
  refine WS [0, 1, 2, 3, 4] [28] ?_
  have hc := gvF hP hG (hq0)
  refine WSc [1, 2, 3, 4, 11] [11, 28] ?_
  apply aw_rgds [4, 12] [28] [0, 1, 2, 3, 4, 5, 6, 7, 8] [28]
  · rw [hP]; kernel_rfl
  · exact hR
  · kernel_rfl
  · (repeat (apply PickL.cons; exact rfl)); exact PickL.nil _
  · simp (maxSteps := 2000000) (disch := omega) only [avR2, avA, datsOf, fillA, seval, ↓List.forall_mem_cons, Op.operands, hA, tiA, hE]
    (repeat' refine And.intro ?_ ?_) <;> try exact SD
    refine CallC.use (gvF hP hG (hm0)) rfl ?_
    try simp (maxSteps := 2000000) (disch := omega) only [avR2, avA, datsOf, fillA, seval, ↓List.forall_mem_cons, Op.operands, hA, tiA, hE]
    (repeat' refine And.intro ?_ ?_) <;> try exact SD
    refine CallC.use (gvF hP hG (spoilt_ok G x how b (sm_ev h1 (by omega)) hh hbb)) rfl ?_
    try simp (maxSteps := 2000000) (disch := omega) only [avR2, avA, datsOf, fillA, seval, ↓List.forall_mem_cons, Op.operands, hA, tiA, hE]
    exact SC
  apply aw_seq
  refine aw_rowD 28 (l' := ((againL x y (spoiltM x how b)).map eventD).map .dat) rfl rfl ?_
  refine aw_frz 28 hR.2.2.2 rfl (datE_map _) ?_
  generalize hL : againL x y (spoiltM x how b) = ls at *
  refine WS [4, 12, 13] [28] ?_
  apply aw_block
  refine WL (ι := {i : Nat // i ≤ ls.length}) [4, 12] [28] (fun ⟨i, hi⟩ => [(13, .dat (iD i))]) (fun ⟨i, hi⟩ => []) (fun ⟨i, hi⟩ => ls.length - i) (⟨0, by omega⟩) ?_
  rintro ⟨i, hi⟩
  dsimp only [List.cons_append, List.nil_append]
  have hok : i < ls.length → OkEv (ls.getD i default) := fun h => sm_ev (getD_all hls h) (by omega)
  apply aw_seq
  refine WS [4, 12, 13, 32] [28] ?_
  refine WI (fun hb => ?_) (fun hb => ?_)
  · skip
    apply aw_skip
    apply q_seq
    apply aw_seq
    apply aw_block
    apply aw_seq
    have hc := gvF hP hG (valid_ok G (ls.getD i default) (hok (by omega)))
    refine WSc [4, 12, 13, 40] [28] ?_
    refine WI (fun hb => ?_) (fun hb => ?_)
    · skip
      apply aw_exit
      apply q_exit_seq
      apply q_exit
      apply q_seq
      refine WQ [4, 12, 13] [28] ?_
      refine WN (⟨i + 1, by omega⟩)
    · skip
      have hv : validM (ls.getD i default) = 0 := by simpa using hb
      have hio := hok (by omega)
      have hsz := sm_evB (getD_all hls (i := i) (by omega)) (by omega)
      have hby := evB_isB hio
      have hdr := dec_rt hio hv (raw.take (min raw.length 20))
      have hse := sameEv_refl (ls.getD i default)
      have hE := And.intro hE (And.intro hdr hse)
      apply aw_skip
      apply q_seq
      have hc := gvF hP hG (wev_ok G (ls.getD i default) hio)
      refine WSc [4, 12, 13, 14] [28] ?_
      apply aw_lists
      apply al_seg
      · (iterate 7 apply Seg.cons); exact Seg.nil _
      · simp (maxSteps := 2000000) (disch := omega) only [avR2, avA, datsOf, fillA, seval, ↓List.forall_mem_cons, Op.operands, hA, tiA, hE, KeptS]
        (repeat' refine And.intro ?_ ?_) <;> try exact SD
        refine CallC.useX (fun _ => 50) [13] (by simp [LitD, hR.2.1]) (gvFX hP hG (fewb_okX G (evB (ls.getD i default)) (evB (ls.getD i default)).length (by omega))) rfl (lentX_of hN (by first | trivial | ((try simp only [haveL, AObj.ren, AV.ren, renL, ren_row, List.map_cons, List.map_nil, objL_cons, objL_nil]) <;> ((repeat' apply And.intro) <;> first | trivial | rfl))) (by rfl)) ?_
        try simp (maxSteps := 2000000) (disch := omega) only [avR2, avA, datsOf, fillA, seval, ↓List.forall_mem_cons, Op.operands, hA, tiA, hE, avX]
        (repeat' refine And.intro ?_ ?_) <;> try exact SD
        refine CallC.use (gvF hP hG (fewb_ok G raw 20 (by omega))) rfl ?_
        try simp (maxSteps := 2000000) (disch := omega) only [avR2, avA, datsOf, fillA, seval, ↓List.forall_mem_cons, Op.operands, hA, tiA, hE]
        exact SC
      rw [← List.map_append, ← List.map_append]
      have hcl : (evB (ls.getD i default) ++ List.take (min raw.length 20) raw).length = (evB (ls.getD i default)).length + min (min raw.length 20) raw.length := by rw [List.length_append, List.length_take]
      have hcb := isB_app hby (isB_take hraw (min raw.length 20))
      have hco : ∀ x n, evReadM (evB (ls.getD i default) ++ List.take (min raw.length 20) raw) 0 = some (x, n) → OkEv x := fun x n hx => by rw [ev_rt hio hv] at hx; simp only [Option.some.injEq, Prod.mk.injEq] at hx; rw [← hx.1]; exact hio
      have hcs : (evB (ls.getD i default) ++ List.take (min raw.length 20) raw).length ≤ 1000000 := by omega
      rw [← hcl]
      generalize evB (ls.getD i default) ++ List.take (min raw.length 20) raw = cc at *
      refine al_frz 53 hR.2.2.2 rfl (datE_map _) ?_
      apply al_last [4, 12, 13, 14, 15, 16, 17] [15, 28]
      · simp (maxSteps := 2000000) (disch := omega) only [avR2, avA, datsOf, fillA, seval, ↓List.forall_mem_cons, Op.operands, hA, tiA, hE]
        (repeat' refine And.intro ?_ ?_) <;> try exact SD
        refine CallC.use (gvF hP hG (decode_ok G cc hcb hcs hco)) rfl ?_
        try simp (maxSteps := 2000000) (disch := omega) only [avR2, avA, datsOf, fillA, seval, ↓List.forall_mem_cons, Op.operands, hA, tiA, hE]
        exact SC
      apply aw_seq
      apply aw_rgds [4, 12, 13, 14, 83] [28] [0, 1, 2, 3, 4, 5, 6, 7, 8, 9, 10, 11, 12, 13, 14, 15, 16, 17, 18, 19, 20, 21, 22, 23, 24, 25] []
      · rw [hP]; kernel_rfl
      · exact hR
      · kernel_rfl
      · (repeat (apply PickL.cons; exact rfl)); exact PickL.nil _
      · simp (maxSteps := 2000000) (disch := omega) only [avR2, avA, datsOf, fillA, seval, ↓List.forall_mem_cons, Op.operands, hA, tiA, hE]
        (repeat' refine And.intro ?_ ?_) <;> try exact SD
        refine CallGC.use rfl (fun hg => ⟨by first | trivial | (simp only [gdAll, AV.gd, avA, seval]; (repeat' apply And.intro) <;> first | trivial | rfl | exact hg) | simp_all [gdAll], gvF hP hG (esame_ok G (ls.getD i default) (ls.getD i default) hio)⟩) ?_
        try simp (maxSteps := 2000000) (disch := omega) only [avR2, avA, datsOf, fillA, seval, ↓List.forall_mem_cons, Op.operands, hA, tiA, hE]
        (repeat' refine And.intro ?_ ?_) <;> try exact SD
        refine CallGC.use rfl (fun hg => ⟨by first | trivial | (simp only [gdAll, AV.gd, avA, seval]; (repeat' apply And.intro) <;> first | trivial | rfl | exact hg) | simp_all [gdAll], gvF hP hG (same_ok G (ls.getD i default) (ls.getD i default) hio)⟩) ?_
        try simp (maxSteps := 2000000) (disch := omega) only [avR2, avA, datsOf, fillA, seval, ↓List.forall_mem_cons, Op.operands, hA, tiA, hE]
        exact SC
      refine WI (fun hb => ?_) (fun hb => ?_)
      · skip
        exact absurd hb (by simp)
      · skip
        apply aw_skip
        apply q_seq
        refine WS [4, 12, 13, 14, 18] [28] ?_
        apply aw_block
        refine WL (ι := {k : Nat // k ≤ ls.length}) [4, 12, 13, 14] [28] (fun ⟨k, hk⟩ => [(18, .dat (iD k))]) (fun ⟨k, hk⟩ => []) (fun ⟨k, hk⟩ => ls.length - k) (⟨0, by omega⟩) ?_
        rintro ⟨k, hk⟩
        dsimp only [List.cons_append, List.nil_append]
        have hok2 : k < ls.length → OkEv (ls.getD k default) := fun h => sm_ev (getD_all hls h) (by omega)
        apply aw_seq
        refine WS [4, 12, 13, 14, 18, 87] [28] ?_
        refine WI (fun hb => ?_) (fun hb => ?_)
        · skip
          apply aw_skip
          apply q_seq
          apply aw_seq
          apply aw_block
          apply aw_seq
          apply aw_rgds [4, 12, 13, 14, 18, 108] [28] [0, 1, 2, 3, 4, 5, 6, 7, 8, 9, 10, 11, 12, 13, 14, 15, 16, 17, 18] []
          · rw [hP]; kernel_rfl
          · exact hR
          · kernel_rfl
          · (repeat (apply PickL.cons; exact rfl)); exact PickL.nil _
          · simp (maxSteps := 2000000) (disch := omega) only [avR2, avA, datsOf, fillA, seval, ↓List.forall_mem_cons, Op.operands, hA, tiA, hE]
            (repeat' refine And.intro ?_ ?_) <;> try exact SD
            refine CallC.use (gvF hP hG (esame_ok G (ls.getD i default) (ls.getD k default) hio)) rfl ?_
            try simp (maxSteps := 2000000) (disch := omega) only [avR2, avA, datsOf, fillA, seval, ↓List.forall_mem_cons, Op.operands, hA, tiA, hE]
            (repeat' refine And.intro ?_ ?_) <;> try exact SD
            refine CallC.use (gvF hP hG (same_ok G (ls.getD i default) (ls.getD k default) hio)) rfl ?_
            try simp (maxSteps := 2000000) (disch := omega) only [avR2, avA, datsOf, fillA, seval, ↓List.forall_mem_cons, Op.operands, hA, tiA, hE]
            exact SC
          refine WI (fun hb => ?_) (fun hb => ?_)
          · skip
            exact absurd hb (by simp)
          · skip
            apply aw_skip
            apply q_seq
            have hko := hok2 (by omega)
            have hsb := fun h => same_bytes hio hko hv h
            apply aw_rgds [4, 12, 13, 14, 18, 133] [28] [0, 1, 2, 3, 4, 5, 6, 7, 8, 9, 10, 11, 12, 13, 14, 15, 16, 17, 18, 19, 20, 21, 22, 23, 24] []
            · rw [hP]; kernel_rfl
            · exact hR
            · kernel_rfl
            · (repeat (apply PickL.cons; exact rfl)); exact PickL.nil _
            · simp (maxSteps := 2000000) (disch := omega) only [avR2, avA, datsOf, fillA, seval, ↓List.forall_mem_cons, Op.operands, hA, tiA, hE]
              (repeat' refine And.intro ?_ ?_) <;> try exact SD
              refine CallC.use (gvF hP hG (valid_ok G (ls.getD k default) hko)) rfl ?_
              try simp (maxSteps := 2000000) (disch := omega) only [avR2, avA, datsOf, fillA, seval, ↓List.forall_mem_cons, Op.operands, hA, tiA, hE]
              (repeat' refine And.intro ?_ ?_) <;> try exact SD
              refine CallGC.use rfl (fun hg => ⟨by first | trivial | (simp only [gdAll, AV.gd, avA, seval]; (repeat' apply And.intro) <;> first | trivial | rfl | exact hg) | simp_all [gdAll], gvF hP hG (wev_ok G (ls.getD k default) hko)⟩) ?_
              try simp (maxSteps := 2000000) (disch := omega) only [avR2, avA, datsOf, fillA, seval, ↓List.forall_mem_cons, Op.operands, hA, tiA, hE]
              (repeat' refine And.intro ?_ ?_) <;> try exact SD
              refine CallGC.use rfl (fun hg => ⟨by first | trivial | (simp only [gdAll, AV.gd, avA, seval]; (repeat' apply And.intro) <;> first | trivial | rfl | exact hg) | simp_all [gdAll], gvF hP hG (rsame_ok G (evB (ls.getD i default)) (evB (ls.getD k default)) (by omega))⟩) ?_
              try simp (maxSteps := 2000000) (disch := omega) only [avR2, avA, datsOf, fillA, seval, ↓List.forall_mem_cons, Op.operands, hA, tiA, hE]
              (repeat' refine And.intro ?_ ?_) <;> try exact SD
              refine CallGC.use rfl (fun hg => ⟨by first | trivial | (simp only [gdAll, AV.gd, avA, seval]; (repeat' apply And.intro) <;> first | trivial | rfl | exact hg) | simp_all [gdAll], gvF hP hG (esame_ok G (ls.getD i default) (ls.getD k default) hio)⟩) ?_
              try simp (maxSteps := 2000000) (disch := omega) only [avR2, avA, datsOf, fillA, seval, ↓List.forall_mem_cons, Op.operands, hA, tiA, hE]
              exact SC
            refine WI (fun hb => ?_) (fun hb => ?_)
            · skip
              exfalso
              grind
            · skip
              apply aw_skip
              apply q_block
              apply q_seq
              refine WQ [4, 12, 13, 14, 18] [28] ?_
              refine WN (⟨k + 1, by omega⟩)
        · skip
          apply aw_exit
          apply q_exit_seq
          have hend : k = ls.length := by omega
          subst hend
          apply q_exit_loop
          apply q_exit
          apply q_block
          apply q_seq
          refine WQ [4, 12, 13] [28] ?_
          refine WN (⟨i + 1, by omega⟩)
  · skip
    apply aw_exit
    apply q_exit_seq
    have hend : i = ls.length := by omega
    subst hend
    apply q_exit_loop
    apply q_exit
    apply q_seq
    have hc := gvF hP hG (lives_ok G)
    refine WSc [10] [28] ?_
    apply aw_ret
    simp only [QRet, QRetM, QRetX, retsX_nil, retsX_cons, objsAre, resA, mapO_nil, mapO_cons, vD_dat, vD_nils, vD_rp, vD_osl, vD_ptr, vD_agg, vD_fn, vD_isl, vL_dat, vL_app, viewL, avA, datsOf, fillA, seval, ↓List.forall_mem_cons, Op.operands, hP, hG, tiA, hE]
    all_goals try (first | done | rfl | trivial)
end Go.Proofs.Ytabjaaonfaejmaa

namespace Go.Proofs.Ytabjaaonfaejmaa
open Go.Av Go.ChangeShapes Go.WideShapes Go.ChangeAt Go.RowKit
abbrev Old (w : World) : Nat → Nat → Prop := fun b _ => b < w.heap.size
theorem cell_spot {w : World} {a : Addr} {v : Value} (h : w.cell? a = some v) : a.spot = none ∧ a.block < w.heap.size := by
  unfold World.cell? at h
  split at h
  · rename_i c e f hb
    split at h
    · cases h
    · rename_i hs
      exact ⟨by simpa using hs, (Array.getElem?_eq_some_iff.1 hb).1⟩
  · cases h
theorem addr_none {a : Addr} (h : a.spot = none) (n : Nat) : a.add n = ⟨a.block, a.off + n, none⟩ := by
  obtain ⟨b, o, s⟩ := a
  simp only at h
  subst h
  exact add_none b o n
theorem add_spot {a : Addr} (h : (a.add 0).spot = none) : a.spot = none := by
  obtain ⟨b, o, s⟩ := a
  cases s with
  | none => rfl
  | some s => simp [Addr.add] at h
theorem wf_i64 {n : Int} (h : (Lit.int .i64 n).wf = true) : I64 n := by
  simp only [Lit.wf, Bool.and_eq_true, decide_eq_true_eq] at h
  unfold I64
  have h1 : IntKind.i64.min = -9223372036854775808 := by decide
  have h2 : IntKind.i64.max = 9223372036854775807 := by decide
  omega
theorem rep_ints {w : World} {b : Nat} (hb : b < w.heap.size) : ∀ (zs : List Int) (off : Nat), (∀ i, i < zs.length → w.cell? ⟨b, off + i, none⟩ = some (.int .i64 (zs.getD i 0))) → RepS (Old w) w 1 (zs.map iD) (some ⟨b, off, none⟩)
  | [], _, _ => by simp [RepS]
  | z :: zs, off, h => by
    simp only [List.map_cons, RepS]
    refine ⟨b, off, rfl, by simp, ?_, rep_ints hb zs (off + 1) fun i hi => ?_⟩
    · have := h 0 (by simp)
      simp only [RepAt]
      exact ⟨hb, by simpa using this⟩
    · have := h (i + 1) (by simp; omega)
      rw [show off + 1 + i = off + (i + 1) by omega]
      simpa using this
section
variable {H : Type} {enc : TypeId × Value → H} {P : Program} {w : World}
theorem slice_of {r : Reach} {base : Nat} {t e : TypeId} {v : Value} (ht : P.underlying t = some (.slice e)) (hv : Value.okWide P w r base t v) : ∃ a len cap, v = .slice a len cap := by
  simp only [Value.okWide, ht, Cell.okWide, Cell.ok] at hv
  cases v <;> simp at hv
  exact ⟨_, _, _, rfl⟩
theorem ints_in {r : Reach} {base : Nat} {t e : TypeId} {v : Value} {d : DataW H} {ps : List MemPlace} {sp : Nat → Bool} {held : Bool} (ht : P.underlying t = some (.slice e)) (he : P.underlying e = some (.int .i64)) (hc : P.cellsOf e = 1)
    (hv : Value.okWide P w r base t v) (hd : DataW.Trod enc P w 0 sp held t v d ps) : ∃ zs : List Int, (∀ z ∈ zs, I64 z) ∧ RepX (Old w) w (isD zs) v := by
  obtain ⟨a, len, cap, rfl⟩ := slice_of ht hv
  obtain ⟨fuel, hd⟩ := hd
  rcases open_ints ht he hc hd with ⟨h1, _⟩ | ⟨a', len', cap', zs, h1, _, hl, _, hz, _, hcell, hwf⟩
  · simp [Value.cells] at h1
    obtain ⟨rfl, rfl, rfl⟩ := h1
    refine ⟨[], by simp, ?_⟩
    simp only [RepX]
    exact ⟨1, none, 0, rfl, by simp, by simp [RepS]⟩
  · simp [Value.cells] at h1
    obtain ⟨rfl, rfl, rfl⟩ := h1
    have hlz : len ≤ zs.length := by rw [hz]; split <;> omega
    refine ⟨zs.take len, fun z hz' => wf_i64 (hwf z (List.mem_of_mem_take hz')), ?_⟩
    simp only [RepX]
    refine ⟨1, some a', cap, by simp [Nat.min_eq_left hlz], by simp [Nat.min_eq_left hlz, hl], ?_⟩
    cases zs with
    | nil => simp [RepS]
    | cons z zs =>
      obtain ⟨hs, hb⟩ := cell_spot (hcell 0 (by simp))
      have hs := add_spot hs
      rw [addr_none hs 0] at hb
      simp only at hb
      have ha : a' = ⟨a'.block, a'.off, none⟩ := by
        obtain ⟨b, o, s⟩ := a'
        simp only at hs
        subst hs
        rfl
      rw [ha]
      refine rep_ints hb _ _ fun i hi => ?_
      have h2 := hcell i (by simp at hi; simp; omega)
      rw [addr_none hs i] at h2
      rw [h2]
      simp at hi
      simp [List.getD_eq_getElem?_getD, List.getElem?_take, show i < len by omega]
theorem same_of_ext {w' : World} (h : Ext (fun _ => False) w w') {p : MemPlace} (hp : p.block < w.heap.size) : w.sameAt w' p := by
  have hb := h.block p.block hp (fun f => f)
  cases p with
  | cell b off =>
    simp only [MemPlace.block] at hb
    simp only [World.sameAt, World.cell?, hb]
  | map b =>
    simp only [MemPlace.block] at hb
    simpa only [World.sameAt] using hb
theorem all_stays (hl : laidOutB P = true) {w' : World} {sp' : Nat → Bool} (hx : Ext (fun _ => False) w w') : ∀ {ts : List TypeId} {vs : List Value} {ds : List (DataW H)} {ps : List MemPlace}, (∀ t ∈ ts, P.readableRec t = true ∧ t < P.types.size) → DataW.TrodAll enc P w 0 (fun _ => true) true ts vs ds ps → (∀ p ∈ ps, p.block < w.heap.size) → (∀ p ∈ ps, sp' p.block = true) → DataW.TrodAll enc P w' 0 sp' true ts vs ds ps
  | [], [], [], _, _, h, _, _ => h
  | _ :: _, _ :: _, _ :: _, _, ht, ⟨p, q, h1, h2, e⟩, hb, hs => ⟨p, q,
      WideElems.Trod_stays hl (ht _ (List.mem_cons.2 (Or.inl rfl))).1 (ht _ (List.mem_cons.2 (Or.inl rfl))).2 h1 (fun x hx' => same_of_ext hx (hb x (by rw [e]; exact List.mem_append_left _ hx'))) (fun x hx' => hs x (by rw [e]; exact List.mem_append_left _ hx')),
      all_stays hl hx (fun t h => ht t (List.mem_cons.2 (Or.inr h))) h2 (fun x hx' => hb x (by rw [e]; exact List.mem_append_right _ hx')) (fun x hx' => hs x (by rw [e]; exact List.mem_append_right _ hx')), e⟩
theorem frozen_ext {w' : World} (h : Ext (fun _ => False) w w') {a : Addr} (ha : a.block < w.heap.size) : w'.frozen? a = w.frozen? a := by
  simp only [World.frozen?, h.block a.block ha (fun f => f)]
theorem kept_ext {w' : World} (h : Ext (fun _ => False) w w') (may : MemPlace → Prop) : w.keptBut w' may := by
  refine ⟨h.os, h.output, fun i hi => ?_⟩
  rw [h.block i hi (fun f => f)]
  cases w.heap[i]? with
  | none => rfl
  | some o => cases o with
    | cells c t fr => exact ⟨rfl, rfl, rfl, fun _ _ => rfl⟩
    | map es clock => exact .inr ⟨rfl, rfl⟩
    | _ => rfl
theorem post_of_ext {f : Func} {s : ChangeSpec} {apart fresh handsOn again : Bool} {W W' : World} {args : Array Value} {ds gs : List (DataW H)} {before : List MemPlace} (hl : laidOutB P = true)
    (hrd : ∀ t ∈ f.params.toList, P.readableRec t = true ∧ t < P.types.size) {tb : TypeId} (hres : f.resultTypes = #[tb]) (htb : P.underlying tb = some .bool)
    (hvars : s.vars = []) (hfn : s.fn H ds = { results := [.lit (.bool true)], args := ds })
    (hW : DataW.Whole enc P f.params.toList s.vars apart W args.toList ds gs before) (hx : Ext (fun _ => False) W W') :
    s.post enc P f apart fresh handsOn again W args (.bool true) W' := by
  have hW0 := hW
  obtain ⟨p, q, hA, hV, hpq, hz, hn⟩ := hW
  rw [hvars] at hV
  obtain ⟨rfl, rfl⟩ := trodVars_none hV
  simp only [List.append_nil] at hpq
  subst hpq
  have hlt : ∀ x ∈ before, x.block < W.heap.size := fun x h => hW0.lt x h
  have hold : ∀ x ∈ before, (fun b => decide (b < W.heap.size)) x.block = true := fun x h => by simpa using hlt x h
  have hR : ∀ (b : Nat) (sp : Nat → Bool) (hd : Bool), DataW.TrodAll enc P W' b sp hd f.resultTypes.toList ((Value.bool true).resultList f.resultTypes.size) [.lit (.bool true)] [] := fun b sp hd => by
    rw [hres]
    exact trodAll_cons_mk (shut_bool htb _) trodAll_mk0
  have hAr : ∀ sp : Nat → Bool, (∀ x ∈ before, sp x.block = true) → DataW.TrodAll enc P W' 0 sp true f.params.toList args.toList ds before := fun sp hs => all_stays hl hx hrd hA hlt hs
  refine ⟨ds, [], before, [], before, [], hW0, ?_, ?_, ?_, ?_, fun _ => ?_⟩
  · rw [List.append_nil, hfn]; exact hR _ _ _
  · rw [List.append_nil, hfn]; exact hAr _ hold
  · rw [List.append_nil, hfn, hvars]; rfl
  · exact kept_ext hx _
  · refine ⟨?_, [.lit (.bool true)] ++ ds, [], ([] ++ before) ++ [], ⟨[] ++ before, [], trodAll_append (hAr _ (fun _ _ => rfl)) (hR _ _ _), ?_, rfl, ?_, ?_⟩, ?_⟩
    · exact ok_one hres rfl (okWide_bool_mk htb _)
    · rw [hvars]; rfl
    · intro b off hp
      have hp : MemPlace.cell b off ∈ before := by simpa using hp
      rw [frozen_ext hx (hlt _ hp)]
      exact hz b off hp
    · intro ha
      simpa using hn ha
    · intro x hx' _
      simpa using hx'
end
end Go.Proofs.Ytabjaaonfaejmaa

namespace Go.Proofs.Ytabjaaonfaejmaa
open Go.Av Go.ChangeShapes Go.WideShapes Go.ChangeAt Go.RowKit
mutual
/-- How great a datum is. -/
def bulkD : Dat → Nat
  | .str s => s.size + 1
  | .sl l => bulkL l + 1
  | .agg l => bulkL l
  | _ => 1
def bulkL : List Dat → Nat
  | [] => 0
  | d :: l => bulkD d + bulkL l
end
theorem bulkL_app : ∀ a b : List Dat, bulkL (a ++ b) = bulkL a + bulkL b
  | [], b => by simp [bulkL]
  | d :: a, b => by rw [List.cons_append, bulkL, bulkL, bulkL_app a b]; omega
section
variable (P : Program)
def isAggT (t : TypeId) : Bool := match P.underlying t with
  | some (.struct _) | some (.array _ _) => true
  | _ => false
def elD (t : TypeId) (ds : List Dat) : Dat := if isAggT P t = true then .agg ds else ds.headD .nilp
def tiles : Nat → List Field → Nat → Bool
  | off, [], tot => off == tot
  | off, f :: fs, tot => f.offset == off && tiles (off + P.cellsOf f.type) fs tot
def shapeOK : Nat → TypeId → Bool
  | 0, _ => false
  | n + 1, t => match P.underlying t with
    | some (.int _) | some .bool | some .string => true
    | some (.slice e) => shapeOK n e && (0 < P.cellsOf e : Bool) && (isAggT P e || P.cellsOf e == 1)
    | some (.struct fs) => fs.toList.all (fun f => shapeOK n f.type) && tiles P 0 fs.toList (P.cellsOf t)
    | some (.array m e) => shapeOK n e && m * P.cellsOf e == P.cellsOf t
    | _ => false
def okFs (ok : TypeId → List Dat → Prop) : List Field → List Dat → Prop
  | [], ds => ds = []
  | f :: fs, ds => ∃ a b, ds = a ++ b ∧ ok f.type a ∧ okFs ok fs b
def okRep (ok : List Dat → Prop) : Nat → List Dat → Prop
  | 0, ds => ds = []
  | m + 1, ds => ∃ a b, ds = a ++ b ∧ ok a ∧ okRep ok m b
def okT : Nat → TypeId → List Dat → Prop
  | 0, _, _ => False
  | n + 1, t, ds => match P.underlying t with
    | some (.int k) => ∃ m, ds = [.int k m] ∧ (Lit.int k m).wf = true
    | some .bool => ∃ b, ds = [.bool b]
    | some .string => ∃ s, ds = [.str s] ∧ s.size ≤ maxLen
    | some (.slice e) => ∃ l, ds = [.sl l] ∧ l.length ≤ maxLen ∧ ∀ d ∈ l, ∃ es, okT n e es ∧ d = elD P e es
    | some (.struct fs) => okFs (okT n) fs.toList ds
    | some (.array m e) => okRep (okT n e) m ds
    | _ => False
end
theorem repL_app {S : Nat → Nat → Prop} {w : World} : ∀ {a b : List Dat} {u v : List Value}, RepL S w a u → RepL S w b v → RepL S w (a ++ b) (u ++ v)
  | [], _, _, _, h, k => by simp only [RepL] at h; subst h; simpa using k
  | d :: a, b, u, v, h, k => by
    simp only [RepL] at h
    obtain ⟨x, u', rfl, h1, h2⟩ := h
    simp only [List.cons_append, RepL]
    exact ⟨x, u' ++ v, rfl, h1, repL_app h2 k⟩
theorem repC_of {S : Nat → Nat → Prop} {w : World} {b : Nat} : ∀ {ds : List Dat} {cs : List Value} {off : Nat}, RepL S w ds cs → (∀ j v, cs[j]? = some v → S b (off + j) ∧ w.cell? ⟨b, off + j, none⟩ = some v) → RepC S w ds b off
  | [], _, _, _, _ => by simp [RepC]
  | d :: ds, cs, off, h, k => by
    simp only [RepL] at h
    obtain ⟨v, cs', rfl, h1, h2⟩ := h
    simp only [RepC]
    have k0 := k 0 v (by simp)
    refine ⟨⟨by simpa using k0.1, v, by simpa using k0.2, h1⟩, repC_of h2 fun j u hu => ?_⟩
    have := k (j + 1) u (by simpa using hu)
    rw [show off + 1 + j = off + (j + 1) by omega]
    exact this
theorem repL_len {S : Nat → Nat → Prop} {w : World} : ∀ {ds : List Dat} {cs : List Value}, RepL S w ds cs → cs.length = ds.length
  | [], _, h => by simp only [RepL] at h; subst h; rfl
  | d :: ds, cs, h => by
    simp only [RepL] at h
    obtain ⟨v, cs', rfl, h1, h2⟩ := h
    simp [repL_len h2]
theorem repL_noagg {S : Nat → Nat → Prop} {w : World} {d : Dat} {cs : List Value} (h : RepL S w [d] cs) : d.isAgg = false ∧ ∃ v, cs = [v] ∧ Rep1 S w d v := by
  simp only [RepL] at h
  obtain ⟨v, cs', rfl, h1, rfl⟩ := h
  refine ⟨?_, v, rfl, h1⟩
  cases d <;> first | rfl | (simp only [Rep1] at h1)
theorem cells_noagg {d : Dat} (h : d.isAgg = false) : d.cells = [d] := by cases d <;> first | rfl | (simp [Dat.isAgg] at h)
theorem bulk_el {P : Program} {t : TypeId} {ds : List Dat} (h : isAggT P t = true ∨ ds.length = 1) : bulkD (elD P t ds) ≤ bulkL ds := by
  unfold elD
  split
  · simp [bulkD]
  · rename_i hn
    rcases h with h | h
    · exact absurd h hn
    · match ds, h with
      | [d], _ => simp [bulkL]
theorem okT_one {P : Program} {n : Nat} {t : TypeId} {ds : List Dat} (h : okT P n t ds) (ha : isAggT P t = false) : ds.length = 1 := by
  cases n with
  | zero => exact h.elim
  | succ n =>
    unfold okT at h
    unfold isAggT at ha
    split at h
    · obtain ⟨_, rfl, _⟩ := h; rfl
    · obtain ⟨_, rfl⟩ := h; rfl
    · obtain ⟨_, rfl, _⟩ := h; rfl
    · obtain ⟨_, rfl, _⟩ := h; rfl
    · rename_i hu; rw [hu] at ha; simp at ha
    · rename_i hu; rw [hu] at ha; simp at ha
    · exact h.elim
theorem okT_int {P : Program} {n : Nat} {t : TypeId} {k : IntKind} {ds : List Dat} (hu : P.underlying t = some (.int k)) (h : okT P (n + 1) t ds) : ∃ m, ds = [.int k m] ∧ (Lit.int k m).wf = true := by
  unfold okT at h; rw [hu] at h; exact h
theorem okT_slice {P : Program} {n : Nat} {t e : TypeId} {ds : List Dat} (hu : P.underlying t = some (.slice e)) (h : okT P (n + 1) t ds) : ∃ l, ds = [.sl l] ∧ l.length ≤ maxLen ∧ ∀ d ∈ l, ∃ es, okT P n e es ∧ d = elD P e es := by
  unfold okT at h; rw [hu] at h; exact h
theorem okT_list {P : Program} {n : Nat} {t e : TypeId} {ds : List Dat} {α : Type} {f : α → Dat} {p : α → Prop} (hu : P.underlying t = some (.slice e)) (h : okT P (n + 1) t ds) (hf : ∀ es, okT P n e es → ∃ x, elD P e es = f x ∧ p x) : ∃ l : List α, ds = [.sl (l.map f)] ∧ l.length ≤ maxLen ∧ ∀ x ∈ l, p x := by
  obtain ⟨l, rfl, hl, he⟩ := okT_slice hu h
  have key : ∀ l : List Dat, (∀ d ∈ l, ∃ es, okT P n e es ∧ d = elD P e es) → ∃ m : List α, l = m.map f ∧ ∀ x ∈ m, p x := fun l => by
    induction l with
    | nil => intro _; exact ⟨[], rfl, by simp⟩
    | cons d l ih =>
      intro hd
      obtain ⟨es, h1, rfl⟩ := hd d (by simp)
      obtain ⟨x, hx, hp⟩ := hf es h1
      obtain ⟨m, rfl, hm⟩ := ih fun d h => hd d (by simp [h])
      refine ⟨x :: m, by rw [hx, List.map_cons], fun y hy => ?_⟩
      rcases List.mem_cons.1 hy with rfl | hy
      · exact hp
      · exact hm y hy
  obtain ⟨m, rfl, hm⟩ := key l he
  exact ⟨m, rfl, by simpa using hl, hm⟩
section
variable {H : Type} {enc : TypeId × Value → H} {P : Program} {w : World} {sp : Nat → Bool} {held : Bool}
theorem fields_in {n m : Nat} (ih : ∀ {t : TypeId} {cs : List Value} {x : DataW H × List MemPlace}, shapeOK P n t = true → DataW.trod enc P w 0 sp held m t cs = some x → ∃ ds, RepL (Old w) w ds cs ∧ okT P n t ds ∧ bulkL ds ≤ Rows.uptoBulk x.1)
    {cs : List Value} : ∀ (fs : List Field) (off : Nat) (xs : List (DataW H × List MemPlace)), tiles P off fs cs.length = true → fs.all (fun f => shapeOK P n f.type) = true → xs.length = fs.length →
      (∀ (i : Nat) (f : Field), fs[i]? = some f → DataW.trod enc P w 0 sp held m f.type ((cs.drop f.offset).take (P.cellsOf f.type)) = xs[i]?) →
      ∃ ds, RepL (Old w) w ds (cs.drop off) ∧ okFs (okT P n) fs ds ∧ bulkL ds ≤ Rows.uptoBulkAll (xs.map (·.1))
  | [], off, xs, ht, _, hl, _ => by
    simp only [tiles, beq_iff_eq] at ht
    have : xs = [] := List.eq_nil_of_length_eq_zero (by simpa using hl)
    subst this
    exact ⟨[], by simp [RepL, ht], rfl, by simp [bulkL]⟩
  | f :: fs, off, xs, ht, hs, hl, hx => by
    simp only [tiles, Bool.and_eq_true, beq_iff_eq] at ht
    simp only [List.all_cons, Bool.and_eq_true] at hs
    match xs, hl with
    | x :: xs, hl =>
      have h0 := hx 0 f rfl
      obtain ⟨d1, r1, o1, b1⟩ := ih hs.1 h0
      obtain ⟨d2, r2, o2, b2⟩ := fields_in ih fs (off + P.cellsOf f.type) xs ht.2 hs.2 (by simpa using hl) fun i g hg => by
        have := hx (i + 1) g (by simpa using hg)
        simpa using this
      refine ⟨d1 ++ d2, ?_, ⟨d1, d2, rfl, o1, o2⟩, ?_⟩
      · have := repL_app r1 r2
        rw [ht.1, ← List.drop_drop] at this
        rwa [List.take_append_drop] at this
      · rw [bulkL_app, List.map_cons]
        simp only [Rows.uptoBulkAll]
        omega
theorem array_in {n m c : Nat} {e : TypeId} (ih : ∀ {cs : List Value} {x : DataW H × List MemPlace}, DataW.trod enc P w 0 sp held m e cs = some x → ∃ ds, RepL (Old w) w ds cs ∧ okT P n e ds ∧ bulkL ds ≤ Rows.uptoBulk x.1) :
    ∀ (k : Nat) {cs : List Value} (xs : List (DataW H × List MemPlace)), cs.length = k * c → xs.length = k →
      (∀ (i : Nat), i < k → DataW.trod enc P w 0 sp held m e ((cs.drop (i * c)).take c) = xs[i]?) →
      ∃ ds, RepL (Old w) w ds cs ∧ okRep (okT P n e) k ds ∧ bulkL ds ≤ Rows.uptoBulkAll (xs.map (·.1))
  | 0, cs, xs, hc, hl, _ => by
    have : xs = [] := List.eq_nil_of_length_eq_zero hl
    subst this
    have : cs = [] := List.eq_nil_of_length_eq_zero (by omega)
    subst this
    exact ⟨[], by simp [RepL], rfl, by simp [bulkL]⟩
  | k + 1, cs, xs, hc, hl, hx => by
    match xs, hl with
    | x :: xs, hl =>
      have h0 := hx 0 (by omega)
      simp only [Nat.zero_mul, List.drop_zero, List.getElem?_cons_zero] at h0
      obtain ⟨d1, r1, o1, b1⟩ := ih h0
      obtain ⟨d2, r2, o2, b2⟩ := array_in (c := c) ih k (cs := cs.drop c) xs (by rw [List.length_drop, hc, Nat.succ_mul]; omega) (by simpa using hl) fun i hi => by
        have := hx (i + 1) (by omega)
        rw [List.drop_drop, show c + i * c = (i + 1) * c by rw [Nat.succ_mul]; omega]
        simpa using this
      refine ⟨d1 ++ d2, ?_, ⟨d1, d2, rfl, o1, o2⟩, ?_⟩
      · have := repL_app r1 r2
        rwa [List.take_append_drop] at this
      · rw [bulkL_app, List.map_cons]
        simp only [Rows.uptoBulkAll]
        omega
theorem bulk_list {P : Program} {e : TypeId} {f : Nat → Dat} {xs : List (DataW H × List MemPlace)} (h : ∀ i x, xs[i]? = some x → bulkD (f i) ≤ Rows.uptoBulk x.1) : bulkL ((List.range xs.length).map f) ≤ Rows.uptoBulkAll (xs.map (·.1)) := by
  induction xs generalizing f with
  | nil => simp [bulkL]
  | cons x xs ih =>
    have h0 := h 0 x rfl
    have h1 := ih (f := fun i => f (i + 1)) fun i y hy => h (i + 1) y (by simpa using hy)
    rw [List.length_cons, List.range_succ_eq_map, List.map_cons, List.map_map, bulkL, List.map_cons]
    simp only [Rows.uptoBulkAll]
    have : ((List.range xs.length).map (f ∘ Nat.succ)) = (List.range xs.length).map (fun i => f (i + 1)) := rfl
    rw [this]
    omega
theorem reads_of : ∀ (n : Nat) {t : TypeId} {cs : List Value} {x : DataW H × List MemPlace} {m : Nat}, shapeOK P n t = true → DataW.trod enc P w 0 sp held m t cs = some x → ∃ ds, RepL (Old w) w ds cs ∧ okT P n t ds ∧ bulkL ds ≤ Rows.uptoBulk x.1
  | 0, _, _, _, _, h, _ => by simp [shapeOK] at h
  | n + 1, t, cs, x, m, hs, h => by
    unfold shapeOK at hs
    unfold okT
    split at hs
    · rename_i k ht
      obtain ⟨z, rfl, rfl, hw⟩ := DataW.trod_int ht h
      exact ⟨[.int k z], by simp [RepL, Rep1], ⟨z, rfl, hw⟩, by simp [bulkL, bulkD, Rows.uptoBulk]⟩
    · rename_i ht
      obtain ⟨z, rfl, rfl⟩ := DataW.trod_bool ht h
      exact ⟨[.bool z], by simp [RepL, Rep1], ⟨z, rfl⟩, by simp [bulkL, bulkD, Rows.uptoBulk]⟩
    · rename_i ht
      obtain ⟨z, rfl, rfl, hw⟩ := DataW.trod_string ht h
      exact ⟨[.str z], by simp [RepL, Rep1], ⟨z, rfl, hw⟩, by simp [bulkL, bulkD, Rows.uptoBulk]⟩
    · rename_i e ht
      simp only [Bool.and_eq_true, decide_eq_true_eq, Bool.or_eq_true, beq_iff_eq] at hs
      obtain ⟨⟨hse, hc0⟩, hc1⟩ := hs
      rcases DataW.trod_slice ht h with ⟨rfl, rfl⟩ | ⟨a, len, cap, elems, rest, k, _, rfl, rfl, _, hlc, hcm, hlen, hel, _, _⟩
      · exact ⟨[.sl []], by simp [RepL, Rep1, RepS], ⟨[], rfl, by simp, by simp⟩, by simp [bulkL, bulkD, Rows.uptoBulk]⟩
      · have each : ∀ i, i < len → ∃ ds csi, ∃ y, elems[i]? = some y ∧ w.cells? 0 (a.add (i * P.cellsOf e)) (P.cellsOf e) = some csi ∧ RepL (Old w) w ds csi ∧ okT P n e ds ∧ bulkL ds ≤ Rows.uptoBulk y.1 := fun i hi => by
          have h2 := hel i hi
          rw [List.getElem?_eq_getElem (by omega), Option.bind_eq_some_iff] at h2
          obtain ⟨csi, h3, h4⟩ := h2
          obtain ⟨ds, r, o, b⟩ := reads_of n hse h4
          exact ⟨ds, csi, _, List.getElem?_eq_getElem (by omega), h3, r, o, b⟩
        have hs0 : 0 < len → a.spot = none ∧ a.block < w.heap.size := fun h0 => by
          obtain ⟨ds, csi, y, _, h3, _⟩ := each 0 h0
          have h5 := (World.cells?_some h3)
          have c0 := h5.2.2 0 hc0
          rw [List.getElem?_eq_getElem (by omega)] at c0
          rw [Nat.zero_mul] at c0
          have hsp := add_spot (add_spot (cell_spot c0).1)
          have hb := (cell_spot c0).2
          rw [addr_none hsp, addr_none rfl] at hb
          exact ⟨hsp, hb⟩
        let g : Nat → List Dat := fun i => if hi : i < len then (each i hi).choose else []
        have hg : ∀ i, i < len → ∃ csi, ∃ y, elems[i]? = some y ∧ w.cells? 0 (a.add (i * P.cellsOf e)) (P.cellsOf e) = some csi ∧ RepL (Old w) w (g i) csi ∧ okT P n e (g i) ∧ bulkL (g i) ≤ Rows.uptoBulk y.1 := fun i hi => by
          simp only [g, dif_pos hi]
          exact (each i hi).choose_spec
        refine ⟨[.sl ((List.range len).map fun i => elD P e (g i))], ?_, ⟨_, rfl, by simp; omega, fun d hd => ?_⟩, ?_⟩
        · simp only [RepL, Rep1]
          refine ⟨_, _, rfl, ⟨P.cellsOf e, some a, cap, by simp, by simp; omega, ?_⟩, rfl⟩
          by_cases h0 : len = 0
          · subst h0; simp [RepS]
          · obtain ⟨hsp, hb⟩ := hs0 (by omega)
            have ha : a = ⟨a.block, a.off, none⟩ := by
              obtain ⟨b, o, s⟩ := a
              simp only at hsp
              subst hsp
              rfl
            rw [ha]
            refine repS_of fun i d hd => ?_
            have hi : i < len := by simpa using (List.getElem?_eq_some_iff.1 hd).1
            rw [List.getElem?_map, List.getElem?_range hi, Option.map_some, Option.some.injEq] at hd
            subst hd
            obtain ⟨csi, y, _, h3, hr, ho, _⟩ := hg i hi
            have h5 := World.cells?_some h3
            have hcell : ∀ j v, csi[j]? = some v → Old w a.block (a.off + i * P.cellsOf e + j) ∧ w.cell? ⟨a.block, a.off + i * P.cellsOf e + j, none⟩ = some v := fun j v hv => by
              have hj : j < P.cellsOf e := by have := (List.getElem?_eq_some_iff.1 hv).1; omega
              have := h5.2.2 j hj
              rw [addr_none hsp, addr_none rfl, hv] at this
              exact ⟨hb, this⟩
            have hcl : (g i).length = P.cellsOf e := by rw [← repL_len hr]; exact h5.2.1
            have hrc := repC_of hr hcell
            unfold elD
            split
            · exact ⟨by simpa using hcl, by simpa using hrc⟩
            · rename_i hna
              have h1 := okT_one ho (by simpa using hna)
              match hgi : g i, h1 with
              | [d], _ =>
                rw [hgi] at hr hrc hcl
                have hnd := (repL_noagg hr).1
                simp only [List.headD_cons]
                rw [cells_noagg hnd]
                exact ⟨by simpa using hcl, hrc⟩
        · obtain ⟨i, hi, rfl⟩ := List.mem_map.1 hd
          obtain ⟨csi, y, _, h3, hr, ho, _⟩ := hg i (List.mem_range.1 hi)
          exact ⟨g i, ho, rfl⟩
        · have hb : bulkL ((List.range len).map fun i => elD P e (g i)) ≤ Rows.uptoBulkAll (elems.map (·.1)) := by
            rw [← hlen]
            refine bulk_list (P := P) (e := e) fun i y hy => ?_
            have hi : i < len := by rw [← hlen]; exact (List.getElem?_eq_some_iff.1 hy).1
            obtain ⟨csi, y', hy', _, _, ho, hbb⟩ := hg i hi
            rw [hy] at hy'
            cases hy'
            refine Nat.le_trans (bulk_el ?_) hbb
            by_cases hag : isAggT P e = true
            · exact .inl hag
            · exact .inr (okT_one ho (by simpa using hag))
          simp only [bulkL, bulkD, Rows.uptoBulk]
          omega
    · rename_i fs ht
      simp only [Bool.and_eq_true] at hs
      obtain ⟨xs, k, _, rfl, hl, hn, hx⟩ := DataW.trod_struct ht h
      obtain ⟨ds, r, o, b⟩ := fields_in (fun hs' h' => reads_of n hs' h') (cs := cs) fs.toList 0 xs (by rw [hl]; exact hs.2) hs.1 (by simpa using hn) (fun i f hf => hx i f (by simpa using hf))
      refine ⟨ds, by simpa using r, o, ?_⟩
      simp only [Rows.uptoBulk]
      omega
    · rename_i k e ht
      simp only [Bool.and_eq_true, beq_iff_eq] at hs
      obtain ⟨xs, j, _, rfl, hl, hn, hx⟩ := DataW.trod_array ht h
      obtain ⟨ds, r, o, b⟩ := array_in (c := P.cellsOf e) (fun h' => reads_of n hs.1 h') k (cs := cs) xs (by rw [hl, hs.2]) hn hx
      refine ⟨ds, r, o, ?_⟩
      simp only [Rows.uptoBulk]
      omega
    · cases hs
theorem slice_in (n : Nat) {r : Reach} {base : Nat} {t e : TypeId} {v : Value} {d : DataW H} {ps : List MemPlace} (ht : P.underlying t = some (.slice e)) (hs : shapeOK P n t = true) (hv : Value.okWide P w r base t v) (hd : DataW.Trod enc P w 0 sp held t v d ps) :
    ∃ l, okT P n t [.sl l] ∧ RepX (Old w) w (.sl l) v ∧ bulkL l < Rows.uptoBulk d := by
  obtain ⟨m, hd⟩ := hd
  obtain ⟨a, len, cap, rfl⟩ := slice_of ht hv
  obtain ⟨ds, h1, h2, h3⟩ := reads_of n hs hd
  have h2' := h2
  cases n with
  | zero => exact h2.elim
  | succ n =>
    unfold okT at h2'
    rw [ht] at h2'
    obtain ⟨l, rfl, _⟩ := h2'
    obtain ⟨_, v, hv, hr⟩ := repL_noagg h1
    simp [Value.cells] at hv
    subst hv
    refine ⟨l, h2, repX_of_rep1 hr, ?_⟩
    simp only [bulkL, bulkD] at h3
    omega
end
end Go.Proofs.Ytabjaaonfaejmaa

namespace Go.Proofs.Ytabjaaonfaejmaa
open Go.Av
end Go.Proofs.Ytabjaaonfaejmaa

namespace Go.Proofs.Ytabjaaonfaejmaa
open Go.Av
theorem wf_u8 {n : Int} (h : (Lit.int .u8 n).wf = true) : 0 ≤ n ∧ n ≤ 255 := by
  simp only [Lit.wf, Bool.and_eq_true, decide_eq_true_eq] at h
  have h1 : IntKind.u8.min = 0 := by decide
  have h2 : IntKind.u8.max = 255 := by decide
  omega
set_option maxRecDepth 100000 in
theorem bytes_of {n : Nat} {l : List Dat} (h : okT Try.prog (n + 2) 62 [.sl l]) : ∃ b : List Int, l = b.map u8D ∧ isB b := by
  obtain ⟨b, hb, _, hx⟩ := okT_list (P := Try.prog) (n := n + 1) (t := 62) (e := 5) (f := u8D) (p := fun z => 0 ≤ z ∧ z ≤ 255) Try.underlying62 h (fun es hes => by
    obtain ⟨m, rfl, hw⟩ := okT_int (P := Try.prog) (n := n) (t := 5) Try.underlying5 hes
    have ha : isAggT Try.prog 5 = false := by kernel_rfl
    exact ⟨m, by unfold elD; rw [ha]; rfl, wf_u8 hw⟩)
  simp only [List.cons.injEq, Dat.sl.injEq, and_true] at hb
  exact ⟨b, hb, hx⟩
end Go.Proofs.Ytabjaaonfaejmaa

