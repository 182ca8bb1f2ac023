/- A part of the proof. -/
import Derived.Test.YtkeopokhnfpgpaaGreatDoorHP43
import Derived.Test.YtkeopokhnfpgpaaGreatDoorHAv48
import Derived.Test.YtkeopokhnfpgpaaGreatDoorHAv54
import Derived.Test.YtkeopokhnfpgpaaGreatDoorHP42
import Derived.Test.YtkeopokhnfpgpaaGreatDoorHAv51
import Derived.Test.YtkeopokhnfpgpaaGreatDoorHAv46
set_option linter.all false
namespace Go.Proofs.YtkeopokhnfpgpaaGreatDoor
open Go.Av
def bkF (M blk : List Int) (n0 : Nat) : Nat → List Int
 | 0 => blk
 | j + 1 => (bkF M blk n0 j).set ((n0 + j) % 64) (M.getD (n0 + j) 0)
theorem Xg (M blk : List Int) (n0 : Nat) : ∀ j, (bkF M blk n0 j).length = blk.length
 | 0 => rfl
 | j + 1 => by simp [bkF, Xg M blk n0 j]
def z24 (M : List Int) (n : Nat) (blk : List Int) : Prop := blk.length = 64 ∧ ∀ i, i < n % 64 → blk.getD i 0 = M.getD (64 * (n / 64) + i) 0
theorem z6v (l : List Int) (i k : Nat) (x : Int) (hi : i < l.length) : (l.set i x).getD k 0 = if k = i then x else l.getD k 0 := by
 simp only [List.getD_eq_getElem?_getD, List.getElem?_set]
 by_cases h : i = k
 ·subst h; simp [hi]
 ·simp [h, Ne.symm h]
theorem zgg {M blk : List Int} {n0 : Nat} (h : z24 M n0 blk) : ∀ j i, i < 64 → (i < (n0 + j) % 64 → (bkF M blk n0 j).getD i 0 = M.getD (64 * ((n0 + j) / 64) + i) 0) ∧ (0 < j → (n0 + j) % 64 = 0 → (bkF M blk n0 j).getD i 0 = M.getD (64 * ((n0 + j) / 64 - 1) + i) 0)
 | 0, i, hi => ⟨fun h1 => h.2 i h1, fun h0 => absurd h0 (Nat.lt_irrefl 0)⟩
 | j + 1, i, hi => by
  have ih := zgg h j i hi
  have hl : (n0 + j) % 64 < (bkF M blk n0 j).length := by rw [Xg, h.1]; omega
  simp only [bkF]
  rw [z6v _ _ _ _ hl]
  constructor
  ·intro h1
   by_cases he : i = (n0 + j) % 64
   ·rw [if_pos he]
    congr 1
    omega
   ·rw [if_neg he, ih.1 (by omega)]
    congr 2
    omega
  ·intro _ h1
   by_cases he : i = (n0 + j) % 64
   ·rw [if_pos he]
    congr 1
    omega
   ·rw [if_neg he, ih.1 (by omega)]
    congr 2
    omega
theorem zw2 {M blk : List Int} {n0 : Nat} (h : z24 M n0 blk) (j : Nat) : z24 M (n0 + j) (bkF M blk n0 j) :=
 ⟨by rw [Xg]; exact h.1, fun i hi => (zgg h j i (by omega)).1 hi⟩
theorem znm {M blk : List Int} {n0 j : Nat} (h : z24 M n0 blk) (hj : 0 < j) (h0 : (n0 + j) % 64 = 0) (hl : n0 + j ≤ M.length) : bkF M blk n0 j = z45 M ((n0 + j) / 64 - 1) := by
 have hlen : (bkF M blk n0 j).length = 64 := by rw [Xg]; exact h.1
 have hb : (z45 M ((n0 + j) / 64 - 1)).length = 64 := ziz (by omega)
 refine List.ext_getElem (by rw [hlen, hb]) fun i h1 h2 => ?_
 have h3 := (zgg h j i (by omega)).2 hj h0
 have e1 : (bkF M blk n0 j).getD i 0 = (bkF M blk n0 j)[i] := by simp [h1]
 rw [← e1, h3]
 have h4 : 64 * ((n0 + j) / 64 - 1) + i < M.length := by omega
 simp only [z45, List.getElem_take, List.getElem_drop]
 simp [h4]
theorem z9d {M blk : List Int} {n0 : Nat} (hb : blk.length = 64) (j : Nat) : ∀ k, (n0 + j) % 64 + k ≤ 64 → n0 + j + k ≤ M.length →
  bkF M blk n0 (j + k) = (bkF M blk n0 j).take ((n0 + j) % 64) ++ (M.drop (n0 + j)).take k ++ (bkF M blk n0 j).drop ((n0 + j) % 64 + k)
 | 0, _, _ => by simp
 | k + 1, h1, h2 => by
  have ih := z9d (M := M) (n0 := n0) hb j k (by omega) (by omega)
  have hlen : (bkF M blk n0 j).length = 64 := by rw [Xg]; exact hb
  rw [← Nat.add_assoc]
  simp only [bkF]
  rw [ih]
  have hm : (n0 + (j + k)) % 64 = (n0 + j) % 64 + k := by omega
  have hA : ((bkF M blk n0 j).take ((n0 + j) % 64)).length = (n0 + j) % 64 := by rw [List.length_take]; omega
  have hB : ((M.drop (n0 + j)).take k).length = k := by rw [List.length_take, List.length_drop]; omega
  rw [hm, List.set_append_right _ _ (by rw [List.length_append, hA, hB]; exact Nat.le_refl _), List.length_append, hA, hB, Nat.sub_self]
  have hd : (bkF M blk n0 j).drop ((n0 + j) % 64 + k) = (bkF M blk n0 j)[(n0 + j) % 64 + k]'(by omega) :: (bkF M blk n0 j).drop ((n0 + j) % 64 + k + 1) := List.drop_eq_getElem_cons (by omega)
  rw [hd, List.set_cons_zero]
  have ht : (M.drop (n0 + j)).take (k + 1) = (M.drop (n0 + j)).take k ++ [M.getD (n0 + (j + k)) 0] := by
   rw [List.take_add_one, List.getElem?_drop, List.getElem?_eq_getElem (show n0 + j + k < M.length by omega)]
   have : n0 + j + k < M.length := by omega
   simp [← Nat.add_assoc, this]
  rw [ht]
  simp [Nat.add_assoc]
theorem zsh (m t : List Int) {k : Nat} (h : 64 * k + 64 ≤ m.length) : z45 (m ++ t) k = z45 m k := by
 unfold z45
 rw [List.drop_append_of_le_length (by omega), List.take_append_of_le_length (by rw [List.length_drop]; omega)]
theorem z6e (s : S8) (m t : List Int) : ∀ k, 64 * k ≤ m.length → blocksM s (m ++ t) k = blocksM s m k
 | 0, _ => rfl
 | k + 1, h => by
  simp only [blocksM]
  rw [z6e s m t k (by omega), zsh m t (by omega)]
theorem zdd {m t blk : List Int} (h : z24 m m.length blk) : z24 (m ++ t) m.length blk :=
 ⟨h.1, fun i hi => by
   rw [h.2 i hi]
   have : 64 * (m.length / 64) + i < m.length := by omega
   simp [List.getElem?_append_left this]⟩
theorem zde {blk : List Int} (h : blk.length = 64) : z24 [] 0 blk := ⟨h, fun i hi => by simp at hi⟩
def yx (s : ByteArray) (p : Nat) : ByteArray := s.extract p s.size
theorem zud (s : ByteArray) : yx s 0 = s := by simp [yx]
theorem z7y (s : ByteArray) (p : Nat) : (yx s p).size = s.size - p := by simp [yx]
theorem zue (s : ByteArray) (p : Nat) : vl (yx s p) = (vl s).drop p := by
 unfold vl yx
 rw [← List.map_drop]
 congr 1
 rw [ByteArray.data_extract, Array.toList_extract, List.extract_eq_take_drop, List.take_of_length_le (by simp)]
theorem zlt (s : ByteArray) (p k : Nat) : (yx s p).extract k (yx s p).size = yx s (p + k) := by
 rw [z7y]
 unfold yx
 rw [ByteArray.extract_extract]
 congr 1
 omega
abbrev z23 (s : S8) (blk : List Int) (n : Nat) : Dat := .agg (wD s.a :: wD s.b :: wD s.c :: wD s.d :: wD s.e :: wD s.f :: wD s.g :: wD s.h :: (blk.map u8D ++ [.int .u64 n]))
abbrev stD (m blk : List Int) : Dat := z23 (blocksM iv8 m (m.length / 64)) blk m.length
section
variable {blk : List Int} (h : blk.length = 64)
include h
theorem zii (x : AV) : (List.map AV.dat (List.map u8D blk) ++ [x])[64]?.getD .junk = x := by
 rw [List.getElem?_append_right (by simp [h])]
 simp [h]
theorem zct (x : AV) : List.take 64 (List.map AV.dat (List.map u8D blk) ++ [x]) = List.map AV.dat (List.map u8D blk) := by
 rw [List.take_append_of_le_length (by simp [h])]
 exact List.take_of_length_le (by simp [h])
theorem zih (x : AV) : List.take 65 (List.map AV.dat (List.map u8D blk) ++ [x]) = List.map AV.dat (List.map u8D blk) ++ [x] := List.take_of_length_le (by simp [h])
theorem zcs (x : AV) : List.drop 65 (List.map AV.dat (List.map u8D blk) ++ [x]) = [] := List.drop_of_length_le (by simp [h])
end
theorem zrn {blk : List Int} (h : blk.length = 64) (x : Dat) : List.take 64 (List.map u8D blk ++ [x]) = List.map u8D blk := by
 rw [List.take_append_of_le_length (by simp [h])]
 exact List.take_of_length_le (by simp [h])
theorem zvo (blk : List Int) (n : Int) : zk (List.map AV.dat (List.map u8D blk) ++ [.dat (.int .u64 n)]) = some (List.map u8D blk ++ [.int .u64 n]) := by
 have e : List.map AV.dat (List.map u8D blk) ++ [AV.dat (.int .u64 n)] = (List.map u8D blk ++ [Dat.int .u64 n]).map AV.dat := by simp
 rw [e]
 exact zbu _ fun d hd => by
  simp only [List.mem_append, List.mem_map, List.mem_singleton] at hd
  rcases hd with ⟨y, _, rfl⟩ | rfl <;> rfl
theorem zuy (s : S8) {blk : List Int} (h : blk.length = 64) (n : Nat) (at_ k : Nat) (hk : at_ + k ≤ 64) (c : List Int) :
  Dat.agg (List.take (8 + at_) (wD s.a :: wD s.b :: wD s.c :: wD s.d :: wD s.e :: wD s.f :: wD s.g :: wD s.h :: (blk.map u8D ++ [.int .u64 n])) ++ c.map (Dat.int .u8) ++ List.drop (8 + at_ + k) (wD s.a :: wD s.b :: wD s.c :: wD s.d :: wD s.e :: wD s.f :: wD s.g :: wD s.h :: (blk.map u8D ++ [.int .u64 n])))
   = z23 s (blk.take at_ ++ c ++ blk.drop (at_ + k)) n := by
 have e1 : 8 + at_ = at_ + 1 + 1 + 1 + 1 + 1 + 1 + 1 + 1 := by omega
 have e2 : 8 + at_ + k = (at_ + k) + 1 + 1 + 1 + 1 + 1 + 1 + 1 + 1 := by omega
 rw [e2, e1]
 simp only [List.take_succ_cons, List.drop_succ_cons, List.cons_append]
 rw [List.take_append_of_le_length (by rw [List.length_map]; omega), List.drop_append_of_le_length (by rw [List.length_map]; omega)]
 simp only [z23, List.map_append, List.map_take, List.map_drop, List.append_assoc]
theorem zuz (s : S8) (l : List AV) {k : Nat} (h : k < 8) : ((AV.dat (wD s.a) :: AV.dat (wD s.b) :: AV.dat (wD s.c) :: AV.dat (wD s.d) :: AV.dat (wD s.e) :: AV.dat (wD s.f) :: AV.dat (wD s.g) :: AV.dat (wD s.h) :: l)[k]?).getD .junk = .dat (wD ((sL s).getD k 0#32)) := by
 have hk : k = 0 ∨ k = 1 ∨ k = 2 ∨ k = 3 ∨ k = 4 ∨ k = 5 ∨ k = 6 ∨ k = 7 := by omega
 rcases hk with rfl | rfl | rfl | rfl | rfl | rfl | rfl | rfl <;> rfl
theorem zn9 {M blk : List Int} {n0 : Nat} {text : ByteArray} (hb : blk.length = 64) (hM : M.length = n0 + text.size) (ht : vl text = M.drop n0) {p a k : Nat} (ha : a = (n0 + p) % 64) (hk : k = min (text.size - p) (64 - a)) (hp : p ≤ text.size) :
  (bkF M blk n0 p).take a ++ (vl (yx text p)).take (64 - a) ++ (bkF M blk n0 p).drop (a + k) = bkF M blk n0 (p + k) := by
 have e : vl (yx text p) = M.drop (n0 + p) := by rw [zue, ht, List.drop_drop]
 have e2 : (M.drop (n0 + p)).take (64 - a) = (M.drop (n0 + p)).take k := by
  rw [List.take_eq_take_iff, List.length_drop]
  omega
 rw [e, e2, z9d hb p k (by omega) (by omega), ← ha]
theorem zlu (s : ByteArray) : yx s s.size = ⟨#[]⟩ := by
 apply ByteArray.ext
 rw [yx, ByteArray.data_extract]
 apply Array.eq_empty_of_size_eq_zero
 simp
def z8 : S8 := ⟨0, 0, 0, 0, 0, 0, 0, 0⟩
theorem zvb : mkAgg (List.replicate 8 (AV.dat (.int .u32 0)) ++ List.replicate 64 (AV.dat (.int .u8 0)) ++ List.replicate 1 (AV.dat (.int .u64 0))) = .dat (z23 z8 y64 0) := by rfl
theorem zbl (m : List Int) (text : ByteArray) : (m ++ vl text).length = m.length + text.size := by rw [List.length_append, ye]
set_option maxRecDepth 100000 in
set_option maxHeartbeats 1000000 in
theorem znj (G) : zl Tryz.prog G 132 [] [stD [] y64] := by
 skip
 refine GI [] [] [] Tryz.func132 Tryz.ntmps132 fun F hP hG hN hR hA => ?_
 have hE := @Tryz.results132
 refine WS [0] [0] ?_
 refine WS [0] [0] ?_
 apply z9
 exact E0
set_option maxRecDepth 100000 in
set_option maxHeartbeats 1000000 in
theorem zn7 (G) (hgk : G.lookup 1 = some (wsD kH)) (M blk : List Int) (n0 : Nat) (hb0 : z24 M n0 blk) (text : ByteArray) (hib : isB M) (hM : M.length = n0 + text.size) (ht : vl text = M.drop n0) (hl : M.length ≤ 2199023255552) : zl Tryz.prog G 133 [z23 (blocksM iv8 M (n0 / 64)) blk n0, .str text] [z23 (blocksM iv8 M ((n0 + text.size) / 64)) (bkF M blk n0 text.size) (n0 + text.size)] := by
 have hbl : ∀ p, (bkF M blk n0 p).length = 64 := fun p => by rw [Xg]; exact hb0.1
 skip
 skip
 refine GI [] [] [] Tryz.func133 Tryz.ntmps133 fun F hP hG hN hR hA => ?_
 have hE := And.intro @Tryz.results133 (And.intro @hbl (And.intro @hb0.1 (And.intro @Int.toNat_natCast (And.intro @Nat.add_zero (And.intro (bkF.eq_1 M blk n0) (And.intro @zud (And.intro (fun q => zii (hbl q)) (And.intro (fun q => zct (hbl q)) (And.intro (fun q => zih (hbl q)) (And.intro (fun q => zcs (hbl q)) (@zvo)))))))))))
 apply zm [1, 2, 4] [2, 4]
 ·simp (maxSteps := 2000000) (disch := omega) only [wo, avA, zk, zo, seval, ↓List.forall_mem_cons, Op.operands, hA, tiA, hE, ↓zvb, -List.reduceReplicate]
  exact SC
 apply z3
 apply z7
 refine WL (ι := {p : Nat // p ≤ text.size}) [2, 4] [4] (fun ⟨p, hp⟩ => [(1, .dat (.str (yx text p)))]) (fun ⟨p, hp⟩ => [(2, ⟨73, [.dat (z23 (blocksM iv8 M ((n0 + p) / 64)) (bkF M blk n0 p) (n0 + p))]⟩)]) (fun ⟨p, hp⟩ => text.size - p) (⟨0, by omega⟩) ?_
 rintro ⟨p, hp⟩
 refine LA ?_
 have hrs := z7y text p
 apply z3
 refine WS [1, 2, 4, 8] [2, 4] ?_
 refine WI ?_ ?_ <;> intro hb
 ·have hlt : p < text.size := by
   rcases Nat.lt_or_ge p text.size with h | h
   ·exact h
   ·exfalso
    have : p = text.size := by omega
    subst this
    exact hb (by rw [zlu])
  obtain ⟨a, ha⟩ : ∃ a, a = (n0 + p) % 64 := ⟨_, rfl⟩
  obtain ⟨k, hk⟩ : ∃ k, k = min (text.size - p) (64 - a) := ⟨_, rfl⟩
  have q1 : IntKind.i64.wrap (((n0 + p : Nat) : Int).tmod 64) = ((a : Nat) : Int) := by rw [Int.tmod_eq_emod_of_nonneg (by omega), IntWalk.i64_in _ (by omega)]; omega
  have hmk : min (yx text p).size (64 - a) = k := by rw [hrs]; exact hk.symm
  have hcut : (yx text p).extract k (yx text p).size = yx text (p + k) := zlt text p k
  have q4 : IntKind.u64.wrap ((k : Nat) : Int) = ((k : Nat) : Int) := IntWalk.u64_in _ (by omega)
  have q5 : IntKind.u64.wrap (((n0 + p : Nat) : Int) + ((k : Nat) : Int)) = ((n0 + (p + k) : Nat) : Int) := by rw [IntWalk.u64_in _ (by omega)]; omega
  have q6 : IntKind.i64.wrap (((a : Nat) : Int) + ((k : Nat) : Int)) = ((a + k : Nat) : Int) := by rw [IntWalk.i64_in _ (by omega)]; omega
  have hcp := zuy (blocksM iv8 M ((n0 + p) / 64)) (hbl p) (n0 + p) a k (by omega) ((vl (yx text p)).take (64 - a))
  rw [zn9 hb0.1 hM ht ha hk hp] at hcp
  have hE := And.intro hE (And.intro q1 (And.intro hcut (And.intro q4 (And.intro q5 q6))))
  apply z6
  apply z5
  apply z7
  refine WS [1, 2, 4, 5] [2, 4] ?_
  refine wp ?_
  apply wy
  ·(iterate 4 apply Seg.cons); exact Seg.nil _
  ·refine RK ?_
   exact SC
  refine yg rfl (zo2 rfl rfl (by rw [hN]; omega) (by rw [hP]; exact ti117) rfl (by rw [hP]; exact ti5) rfl rfl rfl rfl rfl rfl (by simp only [List.length_cons, List.length_append, List.length_map, List.length_nil, hbl]; omega)) ?_
  rw [z4q, yq, hmk]
  rw [hcp]
  apply wi [1, 2, 4, 5, 6] [2, 4]
  ·refine RN ?_
   exact SC
  refine WS [1, 2, 4, 5, 6] [2, 4] ?_
  refine WS [1, 2, 4, 5, 6] [2, 4] ?_
  refine WS [1, 2, 4, 30] [2, 4] ?_
  refine WI ?_ ?_ <;> intro hb
  ·have hdiv : (n0 + (p + k)) / 64 = (n0 + p) / 64 + 1 := by omega
   have hfull : bkF M blk n0 (p + k) = z45 M ((n0 + p) / 64) := by rw [znm hb0 (by omega) (by omega) (by omega), hdiv, Nat.add_sub_cancel]
   have hlb : (z45 M ((n0 + p) / 64)).length = 64 := ziz (by omega)
   have hE := And.intro hE (And.intro hdiv (And.intro hfull (And.intro hlb (And.intro (zrn hlb) (And.intro (zii hlb) (And.intro (zct hlb) (And.intro (zih hlb) (And.intro (zcs hlb) (blocksM.eq_2 iv8 M ((n0 + p) / 64))))))))))
   apply z43 [1, 2, 4] [2, 4] [0, 1, 2, 3, 4, 5, 6] []
   ·rw [hP]; kernel_rfl
   ·exact hR
   ·kernel_rfl
   ·(repeat (apply PickL.cons; exact rfl)); exact PickL.nil _
   ·refine RN ?_
    (repeat' refine And.intro ?_ ?_) <;> try exact SD
    refine CallC.use (gvF hP hG (zdm G hgk (blocksM iv8 M ((n0 + p) / 64)) (z45 M ((n0 + p) / 64)) (zte hib _) hlb)) (by simp only [qp, qd, zy, xm, qs, wx, xh, xp, xl, ww, xn, xq, xy, avA, zk, zo, seval, ↓List.forall_mem_cons, Op.operands, hE] <;> rfl) ?_
    try simp (maxSteps := 2000000) (disch := omega) only [wo, avA, zk, zo, seval, ↓List.forall_mem_cons, Op.operands, hA, tiA, hE]
    exact SC
   apply zh
   refine WN (⟨p + k, by omega⟩)
  ·have hdiv : (n0 + (p + k)) / 64 = (n0 + p) / 64 := by omega
   have hE := And.intro hE hdiv
   apply z6
   apply zh
   refine WN (⟨p + k, by omega⟩)
 ·apply zj
  apply zc
  have hend : p = text.size := by
   have h1 : yx text p = ⟨#[]⟩ := z3u hb
   have h2 := congrArg ByteArray.size h1
   rw [hrs] at h2
   have h3 : (⟨#[]⟩ : ByteArray).size = 0 := rfl
   omega
  subst hend
  apply zb
  apply zn
  apply z5
  apply zm [4] [4]
  ·simp (maxSteps := 2000000) (disch := omega) only [wo, avA, zk, zo, seval, ↓List.forall_mem_cons, Op.operands, hA, tiA, hE, zd0]
   exact SC
  apply z9
  exact E0
theorem zvu (G) (hgk : G.lookup 1 = some (wsD kH)) (m blk : List Int) (hb0 : z24 m m.length blk) (text : ByteArray) (hib : isB m) (hl : m.length + text.size ≤ 2199023255552) : zl Tryz.prog G 133 [stD m blk, .str text] [stD (m ++ vl text) (bkF (m ++ vl text) blk m.length text.size)] := by
 have h := zn7 G hgk (m ++ vl text) blk m.length (zdd hb0) text (zjh hib (ztg text)) (zbl m text) (by simp) (by rw [zbl]; exact hl)
 rw [z6e iv8 m (vl text) _ (by omega)] at h
 have e := zbl m text
 show zl Tryz.prog G 133 [z23 (blocksM iv8 m (m.length / 64)) blk m.length, .str text] [z23 (blocksM iv8 (m ++ vl text) ((m ++ vl text).length / 64)) (bkF (m ++ vl text) blk m.length text.size) ((m ++ vl text).length : Nat)]
 rw [e]
 exact h
def zpM (j : Nat) : List Int := 128 :: List.replicate j 0
def tpM (n i : Nat) : List Int := zpM (yf n) ++ (zek n).take i
theorem zd1 (j : Nat) : (zpM j).length = 1 + j := by simp [zpM]; omega
theorem zs6 (j : Nat) : zpM (j + 1) = zpM j ++ [0] := by
 unfold zpM
 rw [List.replicate_succ']
 simp
theorem zcv (n i : Nat) (h : i ≤ 8) : (tpM n i).length = 1 + yf n + i := by simp [tpM, zd1, z0u, Nat.min_eq_left h]
theorem zyl (n : Nat) : tpM n 0 = zpM (yf n) := by simp [tpM]
theorem zrx (n i : Nat) (h : i < 8) : tpM n (i + 1) = tpM n i ++ [((8 * n / 2 ^ (56 - 8 * i) % 256 : Nat) : Int)] := by
 unfold tpM
 rw [List.append_assoc]
 congr 1
 have hi : i < (zek n).length := by rw [z0u]; exact h
 rw [List.take_succ, List.getElem?_eq_getElem hi]
 simp [zek]
theorem zv4 (m : List Int) : m ++ tpM m.length 8 = z1v m := by
 unfold tpM zpM z1v
 rw [List.take_of_length_le (by rw [z0u]; exact Nat.le_refl _)]
 simp
theorem zwq (n : Nat) : isB (tpM n 8) := by
 intro x hx
 unfold tpM zpM at hx
 have hx' := List.mem_append.1 hx
 rcases hx' with hx | hx
 ·simp only [List.mem_cons, List.mem_replicate] at hx
  rcases hx with rfl | ⟨_, rfl⟩ <;> omega
 ·have hx := List.mem_of_mem_take hx
  simp only [zek, List.mem_map] at hx
  obtain ⟨i, _, rfl⟩ := hx
  omega
theorem zij {b : List Int} (h : isB b) : vl (vv b) = b := by
 apply List.ext_getElem?
 intro i
 show (List.map (fun c : UInt8 => (c.toNat : Int)) (vv b).data.toList)[i]? = _
 have e : (vv b).data.toList = b.map fun n : Int => UInt8.ofNat n.toNat := rfl
 rw [e, List.map_map, List.getElem?_map]
 cases hq : b[i]? with
 | none => rfl
 | some x =>
  have := h x (List.mem_of_getElem? hq)
  simp only [Option.map_some, Function.comp, Option.some.injEq]
  rw [UInt8.toNat_ofNat']
  omega
theorem zgc (G) (hgk : G.lookup 1 = some (wsD kH)) (m blk t : List Int) (hb0 : z24 m m.length blk) (hib : isB m) (hit : isB t) (hl : m.length + t.length ≤ 2199023255552) : zl Tryz.prog G 133 [stD m blk, .str (vv t)] [stD (m ++ t) (bkF (m ++ t) blk m.length t.length)] := by
 have h := zvu G hgk m blk hb0 (vv t) hib (by rw [z2s]; exact hl)
 rwa [zij hit, z2s] at h
theorem zve {m blk : List Int} (t : List Int) (hb0 : z24 m m.length blk) : z24 (m ++ t) (m ++ t).length (bkF (m ++ t) blk m.length t.length) := by
 have h := zw2 (zdd (t := t) hb0) t.length
 rwa [← List.length_append] at h
theorem zs9 (G) (hgk : G.lookup 1 = some (wsD kH)) (m blk : List Int) (hb0 : z24 m m.length blk) (hib : isB m) (hl : m.length ≤ 1099511627776) : zl Tryz.prog G 133 [stD m blk, .str (vv (tpM m.length 8))] [stD (z1v m) (bkF (z1v m) blk m.length (tpM m.length 8).length)] := by
 have h := zgc G hgk m blk (tpM m.length 8) hb0 hib (zwq _) (by rw [zcv _ _ (by omega)]; have := z8w m.length; omega)
 rwa [zv4] at h
set_option maxRecDepth 100000 in
set_option maxHeartbeats 1000000 in
theorem zux (G) (hgk : G.lookup 1 = some (wsD kH)) (m blk : List Int) (hb0 : z24 m m.length blk) (hib : isB m) (hl : m.length ≤ 1099511627776) : zl Tryz.prog G 134 [stD m blk] [bsD (zv0 m)] := by
 have hz := z8w m.length
 have h8n : IntKind.u64.wrap (8 * (m.length : Int)) = ((8 * m.length : Nat) : Int) := by rw [IntWalk.u64_in _ (by omega)]; omega
 have hpm := zql m
 skip
 skip
 refine GI [11] [] [] Tryz.func134 Tryz.ntmps134 fun F hP hG hN hR hA => ?_
 have hE := And.intro @Tryz.results134 (And.intro @hb0.1 (And.intro (zii hb0.1) (And.intro (zct hb0.1) (And.intro (zcs hb0.1) (And.intro (zih hb0.1) (And.intro @zvo (And.intro @h8n (And.intro @zd1 (@Int.toNat_natCast)))))))))
 refine WS [1, 2] [1, 2] ?_
 refine WS [1, 2, 3] [1, 2] ?_
 refine WS [1, 2, 3, 4] [1, 2, 11, 22, 34] ?_
 apply z3
 apply z7
 refine j1 11 22 (by omega) (by omega) ?_
 refine WL (ι := {j : Nat // j ≤ yf m.length}) [1, 2, 3] [1, 2, 11, 21, 33, 34] (fun ⟨j, hj⟩ => [(4, .osl 22 1 0 (1 + j))]) (fun ⟨j, hj⟩ => [(22, ⟨1, ((zpM j).map u8D).map .dat⟩)]) (fun ⟨j, hj⟩ => yf m.length - j) (⟨0, by omega⟩) ?_
 rintro ⟨j, hj⟩
 refine LA ?_
 have hpl := zd1 j
 apply z3
 refine WS [1, 2, 3, 4, 19] [1, 2, 11, 21, 22, 34] ?_
 refine WI ?_ ?_ <;> intro hb
 ·have htm : ((m.length : Int) + ((1 + j : Nat) : Int)).tmod 64 = (((m.length + (1 + j)) % 64 : Nat) : Int) := by rw [Int.tmod_eq_emod_of_nonneg (by omega)]; omega
  rw [htm] at hb
  have hs := zs6 j
  have hE := And.intro hE hs
  apply z6
  apply z5
  apply z7
  refine WQ [1, 2, 3, 4] [1, 2, 11, 21, 22, 34] ?_
  apply zh
  refine WN (⟨j + 1, by omega⟩)
 ·have htm : ((m.length : Int) + ((1 + j : Nat) : Int)).tmod 64 = (((m.length + (1 + j)) % 64 : Nat) : Int) := by rw [Int.tmod_eq_emod_of_nonneg (by omega)]; omega
  rw [htm] at hb
  have hend : j = yf m.length := by omega
  subst hend
  rw [← zyl]
  apply zj
  apply zc
  apply zb
  apply zn
  apply z5
  apply z3
  refine WS [1, 2, 3, 4, 23] [1, 2, 11, 21, 22, 34] ?_
  apply z7
  refine j1 22 34 (by omega) (by omega) ?_
  refine WL (ι := {i : Nat // i ≤ 8}) [1, 2, 3] [1, 2, 11, 21, 22, 33] (fun ⟨i, hi⟩ => [(4, .osl 34 1 0 (1 + yf m.length + i)), (23, .dat (iD i))]) (fun ⟨i, hi⟩ => [(34, ⟨1, ((tpM m.length i).map u8D).map .dat⟩)]) (fun ⟨i, hi⟩ => 8 - i) (⟨0, by omega⟩) ?_
  rintro ⟨i, hi⟩
  refine LA ?_
  have hql := zcv m.length i (by omega)
  refine WS [1, 2, 3, 4, 23, 24] [1, 2, 11, 21, 22, 33, 34] ?_
  apply z3
  refine WI ?_ ?_ <;> intro hb
  ·have hs := zrx m.length i (by omega)
   have hb1 := zpi m.length i (by omega) (by omega)
   have hb2 : IntKind.i64.wrap (8 * (i : Int)) = ((8 * i : Nat) : Int) := by rw [IntWalk.i64_in _ (by omega)]; omega
   have hb3 : IntKind.i64.wrap (56 - ((8 * i : Nat) : Int)) = ((56 - 8 * i : Nat) : Int) := by rw [IntWalk.i64_in _ (by omega)]; omega
   have hE := And.intro hE (And.intro hs (And.intro hb1 (And.intro hb2 (And.intro hb3 hql))))
   apply z6
   apply z5
   apply z3
   apply z7
   refine WS [1, 2, 3, 4, 5, 23] [1, 2, 11, 21, 22, 33, 34] ?_
   refine WQ [1, 2, 3, 4, 23] [1, 2, 11, 21, 22, 33, 34] ?_
   apply zh
   apply z5
   refine WQ [1, 2, 3, 4, 23] [1, 2, 11, 21, 22, 33, 34] ?_
   refine WN (⟨i + 1, by omega⟩)
  ·apply zj
   apply zc
   have hend : i = 8 := by omega
   subst hend
   apply zb
   apply zn
   apply z5
   refine vp 34 hR.2.2.2 rfl (datE_map _) ?_
   have hq8 := zcv m.length 8 (by omega)
   have hft : List.take (1 + yf m.length + 8) (List.map u8D (tpM m.length 8)) = List.map u8D (tpM m.length 8) := List.take_of_length_le (by rw [List.length_map]; omega)
   have hbq : ∀ j, (bkF (z1v m) blk m.length j).length = 64 := fun j => by rw [Xg]; exact hb0.1
   have hE := And.intro hE (And.intro hft (And.intro hq8 hbq))
   have hc := gvF hP hG (zs9 G hgk m blk hb0 hib hl)
   refine WSc [1, 2] [1, 2] ?_
   obtain ⟨S, hS⟩ : ∃ S, S = blocksM iv8 (z1v m) ((z1v m).length / 64) := ⟨_, rfl⟩
   obtain ⟨pb, hpb⟩ : ∃ pb, pb = bkF (z1v m) blk m.length (1 + yf m.length + 8) := ⟨_, rfl⟩
   rw [show stD (z1v m) (bkF (z1v m) blk m.length (1 + yf m.length + 8)) = z23 S pb (z1v m).length from by rw [hS, hpb]]
   have hfin : bsD (outL S 32) = bsD (zv0 m) := by rw [zu5, hS]; rfl
   refine WS [1, 2, 6] [1, 2, 6] ?_
   apply z3
   rw [zyn]
   have hE := And.intro hE (And.intro (z3h S) (And.intro zc5 zj3))
   refine WS [1, 2, 6, 40] [1, 2, 6] ?_
   apply z7
   refine WL (ι := {i : Nat // i ≤ 32}) [1, 2, 6] [1, 2] (fun ⟨i, hi⟩ => [(40, .dat (iD i))]) (fun ⟨i, hi⟩ => [(6, ⟨32, [.dat (bsD (outL S i))]⟩)]) (fun ⟨i, hi⟩ => 32 - i) (⟨0, by omega⟩) ?_
   rintro ⟨i, hi⟩
   refine LA ?_
   refine WS [1, 2, 6, 40, 41] [1, 2, 6] ?_
   apply z3
   refine WI ?_ ?_ <;> intro hb
   ·have q1 : IntKind.i64.wrap ((i : Int).tdiv 4) = ((i / 4 : Nat) : Int) := by rw [Int.tdiv_eq_ediv_of_nonneg (by omega), IntWalk.i64_in _ (by omega)]; omega
    have q2 : (i : Int).tmod 4 = ((i % 4 : Nat) : Int) := by rw [Int.tmod_eq_emod_of_nonneg (by omega)]; omega
    have q3 : IntKind.i64.wrap (8 * ((i % 4 : Nat) : Int)) = ((8 * (i % 4) : Nat) : Int) := by rw [IntWalk.i64_in _ (by omega)]; omega
    have q4 : IntKind.i64.wrap (24 - ((8 * (i % 4) : Nat) : Int)) = ((24 - 8 * (i % 4) : Nat) : Int) := by rw [IntWalk.i64_in _ (by omega)]; omega
    have g1 := fun l => zuz S l (k := i / 4) (by omega)
    have t1 := zxa (outL S i) i (by rw [z3h]; omega)
    have hE := And.intro hE (And.intro q1 (And.intro q2 (And.intro q3 (And.intro q4 (And.intro g1 (And.intro t1 (And.intro (outL.eq_2 S i) (And.intro (outB.eq_1 S i) (And.intro zgi zw6)))))))))
    apply z6
    apply z5
    apply z3
    apply z7
    refine WS [1, 2, 6, 7, 40] [1, 2, 6] ?_
    refine WQ [1, 2, 6, 40] [1, 2, 6] ?_
    apply zh
    apply z5
    refine WQ [1, 2, 6, 40] [1, 2, 6] ?_
    refine WN (⟨i + 1, by omega⟩)
   ·apply zj
    apply zc
    have hend : i = 32 := by omega
    subst hend
    apply zb
    apply zn
    apply z5
    rw [hfin]
    refine WS [2] [2] ?_
    apply z9
    exact E0
end Go.Proofs.YtkeopokhnfpgpaaGreatDoor

namespace Go.Proofs.YtkeopokhnfpgpaaGreatDoor
open Go.Av
def opN (l : List Int) (a : Int) : Int := atM l a 65536
def opT (l : List Int) (a : Int) : List ByteArray := if (opN l a).tmod 3 = 0 then yv l (a + 1) (((opN l a).tdiv 3).tmod 3).toNat else []
def opP (l : List Int) (a : Int) : List (Int × Int) := if (opN l a).tmod 3 = 0 then [((opN l a).tmod 2, ((opN l a).tdiv 2).tmod 3)] else []
def opS (l : List Int) (a : Int) : SpotM := if (opN l a).tmod 4 = 0 then ⟨((opN l a).tdiv 4).tmod 2, ((opN l a).tdiv 8).tmod 3, ((opN l a).tdiv 16).tmod 4⟩ else ⟨0, 0, 0⟩
def opR (l : List Int) (a : Int) : List IdM := if (opN l a).tmod 4 = 0 then [idM ((opN l a).tdiv 5)] else []
def opM (l : List Int) (a : Int) : OpM := { Kind := (opN l a).tmod 10, At := idM ((opN l a).tdiv 10), To := ⟨0, 0, 0⟩, Spot := opS l a, N := ((opN l a).tdiv 100).tmod 5, Form := 0, Lang := 0, Text := wordM ((opN l a).tdiv 7), Texts := opT l a, Pairs := opP l a, Refs := opR l a }
def idZ : IdM := ⟨0, 0, 0⟩
def z0t (l : List Int) : Int := atM l 3 7
def zut (n : Int) (i : Nat) : Int := IntKind.i64.wrap ↑(BitVec.ofInt IntKind.i64.bits (n.fdiv (2 ^ min i IntKind.i64.bits)) &&& BitVec.ofInt IntKind.i64.bits 1).toNat
def nmG (l : List Int) (i : Nat) : NameM := ⟨i, atM l (5 + (i : Int)) 64⟩
def refsG (l : List Int) : Nat → List NameM
 | 0 => []
 | i + 1 => refsG l i ++ if zut (atM l 4 64) i = 1 ∧ ((i : Int) = atM l 0 6 → ¬ atM l (5 + (i : Int)) 64 = atM l 1 64) then [nmG l i] else []
def qy (l : List Int) : Int := atM l 11 4096
def z0c : OpM := { Kind := 0, At := idZ, To := idZ, Spot := ⟨0, 0, 0⟩, N := 0, Form := 0, Lang := 0, Text := ⟨#[]⟩, Texts := [], Pairs := [], Refs := [] }
def z03 : TermM := { Name := ⟨#[]⟩, Kind := 0, Lang := 0, See := ⟨#[]⟩, Broader := [] }
def zbb (l : List Int) : TermM := { Name := wordM (qy l), Kind := (qy l).tmod 3, Lang := ((qy l).tdiv 3).tmod 4, See := if (qy l).tmod 5 = 0 then wordM ((qy l).tdiv 5) else ⟨#[]⟩, Broader := yv l 12 (((qy l).tdiv 12).tmod 3).toNat }
def postG (l : List Int) (i : Nat) : PostM := { ID := idM (qy l), Path := yv l (12 + 4 * (i : Int)) (1 + atM l (30 + (i : Int)) 4).toNat, Main := decide (zut (qy l) i = 1) }
def yc (l : List Int) (i : Nat) : List PostM := (List.range i).map (postG l)
def evI (l : List Int) (i : Nat) : EventM := { By := atM l 0 6, Seq := atM l 1 64, Tick := atM l 2 1048577, Kind := z0t l, Refs := refsG l i, Op := z0c, Term := z03, ID := idZ, Posts := [], N := 0 }
def evG (l : List Int) : EventM :=
 if z0t l = 0 then { evI l 6 with Op := opM l 12 }
 else if z0t l = 2 then { evI l 6 with Term := zbb l }
 else if z0t l = 3 ∨ z0t l = 4 then { evI l 6 with ID := idM (qy l), Posts := yc l ((qy l).tmod 4).toNat }
 else if z0t l = 5 ∨ z0t l = 6 then { evI l 6 with ID := idM (qy l), N := atM l 12 1048577 }
 else evI l 6
theorem z4y (l : List Int) : ∀ i, (refsG l i).length ≤ i
 | 0 => Nat.le_refl _
 | i + 1 => by
  have := z4y l i
  rw [refsG, List.length_append]
  split
  ·simp; omega
  ·simp; omega
def kl (x : EventM) (out : List EventM) : Nat → Nat
 | 0 => 0
 | k + 1 => if x8 x (out.getD k default) = true then kl x out k else k + 1
theorem zce (x : EventM) (out : List EventM) : ∀ k, kl x out k ≤ k
 | 0 => Nat.le_refl _
 | k + 1 => by
  rw [kl]
  split
  ·exact Nat.le_succ_of_le (zce x out k)
  ·exact Nat.le_refl _
def z72 (x : EventM) (out : List EventM) (p : Nat) : List EventM := out.take p ++ [x] ++ out.drop p
theorem zp1 (x : EventM) (out : List EventM) (p : Nat) (h : p ≤ out.length) : (z72 x out p).length = out.length + 1 := by
 simp [z72]; omega
def rsN (l : List EventM) : Nat → List EventM
 | 0 => []
 | i + 1 => z72 (l.getD i default) (rsN l i) (kl (l.getD i default) (rsN l i) (rsN l i).length)
theorem Zg (l : List EventM) : ∀ i, (rsN l i).length = i
 | 0 => rfl
 | i + 1 => by rw [rsN, zp1 _ _ _ (zce _ _ _), Zg l i]
theorem zrp (P : List EventM) (a x : EventM) (Q : List EventM) : swapM (P ++ a :: x :: Q) (P.length + 1) = P ++ x :: a :: Q := by
 simp [swapM, List.getD_eq_getElem?_getD]
theorem z9n (x : EventM) (A R : List EventM) : ∀ k, k ≤ A.length → Z8 (A.take k ++ x :: (A.drop k ++ R)) k = A.take (kl x A k) ++ x :: (A.drop (kl x A k) ++ R)
 | 0, _ => rfl
 | k + 1, h => by
  have ht : A.take (k + 1) = A.take k ++ [A.getD k default] := by
   rw [List.getD_eq_getElem?_getD, List.getElem?_eq_getElem h, Option.getD_some, List.take_append_getElem]
  have hd : A.drop k = A.getD k default :: A.drop (k + 1) := by
   rw [List.getD_eq_getElem?_getD, List.getElem?_eq_getElem h, Option.getD_some, List.drop_eq_getElem_cons h]
  have hl : (A.take k).length = k := by simp; omega
  have e : A.take (k + 1) ++ x :: (A.drop (k + 1) ++ R) = A.take k ++ A.getD k default :: x :: (A.drop (k + 1) ++ R) := by rw [ht]; simp
  rw [e, Z8, kl]
  have g1 : (A.take k ++ A.getD k default :: x :: (A.drop (k + 1) ++ R)).getD (k + 1) default = x := by
   rw [List.getD_eq_getElem?_getD, List.getElem?_append_right (by omega), hl]
   simp
  have g0 : (A.take k ++ A.getD k default :: x :: (A.drop (k + 1) ++ R)).getD k default = A.getD k default := by
   rw [List.getD_eq_getElem?_getD, List.getElem?_append_right (by omega), hl]
   simp
  rw [g1, g0]
  split
  ·have hs := zrp (A.take k) (A.getD k default) x (A.drop (k + 1) ++ R)
   rw [hl] at hs
   rw [hs]
   have := z9n x A R k (by omega)
   rw [hd] at this
   simpa using this
  ·rw [e]
theorem zjf (l : List EventM) : ∀ i, i ≤ l.length → z32 l i = rsN l i ++ l.drop i
 | 0, _ => rfl
 | i + 1, h => by
  have hd : l.drop i = l.getD i default :: l.drop (i + 1) := by
   rw [List.getD_eq_getElem?_getD, List.getElem?_eq_getElem h, Option.getD_some, List.drop_eq_getElem_cons h]
  rw [z32, zjf l i (by omega), rsN]
  have := z9n (l.getD i default) (rsN l i) (l.drop (i + 1)) i (by rw [Zg]; exact Nat.le_refl _)
  have hl := Zg l i
  rw [List.take_of_length_le (by omega), List.drop_of_length_le (by omega), List.nil_append, ← hd] at this
  rw [this, z72, Zg]
  simp
theorem z3r (l : List EventM) : rsN l l.length = qv l := by
 have := zjf l l.length (Nat.le_refl _)
 rw [List.drop_of_length_le (Nat.le_refl _), List.append_nil] at this
 exact this.symm
def Qk (n : NameM) (e : EventM) : Bool := zz (evName e) n
def vc (l : List EventM) (n : NameM) : Int := kc (Qk n) l
def z42 {α : Type} (p : α → Bool) (l : List α) (i : Nat) : Bool := (l.take i).any p
theorem yn {α : Type} [Inhabited α] (l : List α) {i : Nat} (h : i < l.length) : l.take (i + 1) = l.take i ++ [l.getD i default] := by
 rw [List.getD_eq_getElem?_getD, List.getElem?_eq_getElem h, Option.getD_some, List.take_append_getElem]
theorem zkc {α : Type} (p : α → Bool) (l : List α) : z42 p l 0 = false := rfl
theorem zkb {α : Type} [Inhabited α] (p : α → Bool) (l : List α) {i : Nat} (h : i < l.length) : z42 p l (i + 1) = (z42 p l i || p (l.getD i default)) := by
 rw [z42, yn l h, List.any_append, ← z42]
 simp
def zyx (e x : EventM) : Bool := x.By == e.By
theorem z4w {x : EventM} {out : List EventM} {k : Nat} (h : 0 < k → ¬ x8 x (out.getD (k - 1) default) = true) : kl x out k = k := by
 cases k with
 | zero => rfl
 | succ k => rw [kl, if_neg (by simpa using h (by omega))]
theorem zu6 {x : EventM} {out : List EventM} {k : Nat} (hk : 0 < k) (h : x8 x (out.getD (k - 1) default) = true) : kl x out (k - 1) = kl x out k := by
 obtain ⟨j, rfl⟩ : ∃ j, k = j + 1 := ⟨k - 1, by omega⟩
 rw [kl, if_pos (by simpa using h)]
 rfl
end Go.Proofs.YtkeopokhnfpgpaaGreatDoor

namespace Go.Proofs.YtkeopokhnfpgpaaGreatDoor
open Go.Av
abbrev zxx : Dat → Prop := fun d => ∃ n, d = .int .i64 n
abbrev zth : Dat → Prop := fun d => ∃ a b, d = .agg [.int .i64 a, .int .i64 b]
theorem zl7 (m n : NameM) : Xm (xz m) (xz n) = zz m n := rfl
theorem Zj {m n : NameM} (h : zz m n = true) : m = n := by
 cases m; cases n
 simp only [zz, Bool.and_eq_true, beq_iff_eq] at h
 rw [h.1, h.2]
theorem kb (m : NameM) : zz m m = true := by simp [zz]
structure ClInv (l : List EventM) (k1 v1 k2 v2 k3 v3 : List Dat) : Prop where
 l1 : k1.length = v1.length
 l2 : k2.length = v2.length
 l3 : k3.length = v3.length
 q1 : ∀ k ∈ k1, zth k
 q2 : ∀ k ∈ k2, zxx k
 q3 : ∀ k ∈ k3, zxx k
 tick : ∀ n, (vc l n = -1 ∧ lkp k1 v1 (xz n) = none) ∨ (0 ≤ vc l n ∧ lkp k1 v1 (xz n) = some (iD (l.getD (vc l n).toNat default).Tick))
 count : ∀ b, (lkp k2 v2 (iD b)).getD (iD 0) = iD (l.countP (fun x => x.By == b))
 last : ∀ b, ((l.countP (fun x => x.By == b)) = 0 ∧ lkp k3 v3 (iD b) = none) ∨ (0 < l.countP (fun x => x.By == b) ∧ ∃ t, lkp k3 v3 (iD b) = some (iD t) ∧ (∃ x ∈ l, x.By = b ∧ x.Tick = t) ∧ ∀ x ∈ l, x.By = b → x.Tick ≤ t)
theorem zp2 {x a : EventM} {out : List EventM} {p : Nat} (h : x ∈ z72 a out p) : x = a ∨ x ∈ out := by
 simp only [z72, List.mem_append, List.mem_singleton] at h
 rcases h with (h | h) | h
 ·exact .inr (List.mem_of_mem_take h)
 ·exact .inl h
 ·exact .inr (List.mem_of_mem_drop h)
theorem zk0 {x : EventM} (l : List EventM) : ∀ i, i ≤ l.length → x ∈ rsN l i → x ∈ l
 | 0, _, h => by simp [rsN] at h
 | i + 1, hi, h => by
  rw [rsN] at h
  rcases zp2 h with h | h
  ·rw [h, List.getD_eq_getElem?_getD, List.getElem?_eq_getElem hi]
   exact List.getElem_mem hi
  ·exact zk0 l i (by omega) h
theorem zml {x : EventM} {l : List EventM} (h : x ∈ qv l) : x ∈ l := by
 rw [← z3r] at h
 exact zk0 l _ (Nat.le_refl _) h
theorem z2d : I64 0 := by unfold I64; omega
theorem okZ : OkOp z0c where
 head := by
  intro x hx
  have : x = 0 := by
   simp [vy, z0c, idZ] at hx
   exact hx
  rw [this]; exact z2d
 pairs := by simp [z0c]
 refs := by simp [z0c]
 text := by decide
 texts := by simp [z0c]
 ntexts := by decide
 npairs := by decide
 nrefs := by decide
 all := by decide +kernel
inductive GoodL : List EventM → Prop
 | nil : GoodL []
 | snoc {s : List EventM} {e : EventM} : GoodL s → (∀ x ∈ s, x.Tick < e.Tick) → qn e = 0 → (∀ x ∈ s, evName x ≠ evName e) → ((s.countP (zyx e) : Nat) : Int) = e.Seq → (∀ n ∈ e.Refs, ∃ x ∈ s, evName x = n) → GoodL (s ++ [e])
theorem zlo {x : EventM} {out : List EventM} (h : ∀ y ∈ out, y.Tick < x.Tick) : kl x out out.length = out.length := by
 refine z4w fun hp => ?_
 have hm := h (out.getD (out.length - 1) default) (by
  rw [List.getD_eq_getElem?_getD, List.getElem?_eq_getElem (by omega)]
  exact List.getElem_mem _)
 unfold x8
 rw [if_pos (by omega), decide_eq_true_eq]
 omega
theorem zfo {l : List EventM} (h : l.Pairwise (fun x y => x.Tick < y.Tick)) : ∀ i, i ≤ l.length → rsN l i = l.take i
 | 0, _ => rfl
 | i + 1, hi => by
  have ht := yn l hi
  rw [rsN, zfo h i (by omega), zlo, z72, List.take_length, List.drop_length, List.append_nil, ht]
  intro y hy
  have h2 := h.sublist (List.take_sublist (i + 1) l)
  rw [ht, List.pairwise_append] at h2
  exact h2.2.2 y hy _ (by simp)
theorem zrj {l : List EventM} (h : l.Pairwise (fun x y => x.Tick < y.Tick)) : qv l = l := by
 rw [← z3r, zfo h _ (Nat.le_refl _), List.take_length]
structure LsOk (out : List EventM) (t : Int) : Prop where
 good : GoodL out
 tick : ∀ x ∈ out, x.Tick < t
 by_ : ∀ x ∈ out, 0 ≤ x.By ∧ x.By ≤ 2 ∧ 0 ≤ x.Seq ∧ x.Seq ≤ out.length
end Go.Proofs.YtkeopokhnfpgpaaGreatDoor

namespace Go.Proofs.YtkeopokhnfpgpaaGreatDoor
open Go.Av
theorem xt {n : Int} (h1 : -1000000000 ≤ n) (h2 : n ≤ 1000000000) : I64 n := by unfold I64; omega
theorem z6z (n : Int) : zc1 (idM n) := by
 have h1 := Int.tmod_lt_of_pos n (b := 4) (by omega)
 have h2 := Int.lt_tmod_of_pos n (b := 4) (by omega)
 have h3 := Int.tmod_lt_of_pos (n.tdiv 4) (b := 8) (by omega)
 have h4 := Int.lt_tmod_of_pos (n.tdiv 4) (b := 8) (by omega)
 have h5 := Int.tmod_lt_of_pos (n.tdiv 32) (b := 3) (by omega)
 have h6 := Int.lt_tmod_of_pos (n.tdiv 32) (b := 3) (by omega)
 unfold idM
 exact ⟨xt (by dsimp only; omega) (by dsimp only; omega), xt (by dsimp only; omega) (by dsimp only; omega), xt (by dsimp only; omega) (by dsimp only; omega)⟩
theorem z01 (n : Int) : (wordM n).size ≤ 12 := by
 have h := wd (n := n) (m := 8) (by omega)
 have key : ∀ i : Fin 8, (wordsL.getD i.val default).size ≤ 12 := by decide
 have := key ⟨(yh n 8).toNat, by omega⟩
 exact this
structure SmOp (o : OpM) : Prop where
 head : ∀ x ∈ vy o, I64 x
 pairs : ∀ p ∈ o.Pairs, I64 p.1 ∧ I64 p.2
 refs : ∀ r ∈ o.Refs, zc1 r
 text : o.Text.size ≤ 100
 texts : ∀ s ∈ o.Texts, s.size ≤ 100
 ntexts : o.Texts.length ≤ 10
 npairs : o.Pairs.length ≤ 10
 nrefs : o.Refs.length ≤ 10
theorem Zu {s : ByteArray} {c : Nat} (h : s.size ≤ c) (hc : c ≤ 1000000) : (qw s).length ≤ 9 + c := by
 have h1 := yj (n := (s.size : Int)) (by unfold I64; omega)
 rw [qw, List.length_append, ye]
 omega
theorem Xk {α : Type} {f : α → List Int} {l : List α} {c : Nat} (hf : ∀ x ∈ l, (f x).length ≤ c ∧ ∀ y ∈ f x, I64 y) (hl : c * l.length ≤ 1000000) : (intsM (l.flatMap f)).length ≤ 9 + 9 * (c * l.length) := by
 have h1 := kw f c l fun x hx => (hf x hx).1
 have h2 := vi (l := l.flatMap f) (fun y hy => by
  obtain ⟨x, hx, hy⟩ := List.mem_flatMap.1 hy
  exact (hf x hx).2 y hy) (by omega)
 omega
theorem zyj {o : OpM} (h : SmOp o) : OkOp o where
 head := h.head
 pairs := h.pairs
 refs := h.refs
 text := by have := h.text; omega
 texts := fun s hs => by have := h.texts s hs; omega
 ntexts := by have := h.ntexts; omega
 npairs := by have := h.npairs; omega
 nrefs := by have := h.nrefs; omega
 all := by
  have h0 := vi h.head (by simp [vy])
  have e0 : (vy o).length = 13 := rfl
  have h1 := Zu h.text (by omega)
  have h2 : (strsM o.Texts).length ≤ 9 + 109 * o.Texts.length := by
   rw [strsM, Qu, z0y, List.length_append]
   have ha := kw qw 109 o.Texts fun s hs => Zu (h.texts s hs) (by omega)
   have hb := yj (n := (o.Texts.length : Int)) (by have := h.ntexts; unfold I64; omega)
   omega
  have n1 := h.ntexts
  have n2 := h.npairs
  have n3 := h.nrefs
  have h3 := Xk (f := pairI) (l := o.Pairs) (c := 2) (fun p hp => ⟨Nat.le_refl _, fun y hy => by
   have := h.pairs p hp
   simp only [pairI, List.mem_cons, List.not_mem_nil, or_false] at hy
   rcases hy with rfl | rfl
   ·exact this.1
   ·exact this.2⟩) (by omega)
  have h4 := Xk (f := idI) (l := o.Refs) (c := 3) (fun p hp => ⟨Nat.le_refl _, fun y hy => by
   have := h.refs p hp
   simp only [idI, List.mem_cons, List.not_mem_nil, or_false] at hy
   rcases hy with rfl | rfl | rfl
   ·exact this.1
   ·exact this.2.1
   ·exact this.2.2⟩) (by omega)
  rw [opB, List.length_append, List.length_append, List.length_append, List.length_append]
  omega
structure SmEv (k : Nat) (e : EventM) : Prop where
 by_ : I64 e.By
 seq : I64 e.Seq
 tick : I64 e.Tick
 kind : I64 e.Kind
 n : I64 e.N
 id : zc1 e.ID
 tk : I64 e.Term.Kind
 tl : I64 e.Term.Lang
 refs : ∀ r ∈ e.Refs, I64 r.By ∧ I64 r.Seq
 nrefs : e.Refs.length ≤ 20 * (k + 1)
 op : SmOp e.Op
 name : e.Term.Name.size ≤ 100
 see : e.Term.See.size ≤ 100
 broader : ∀ s ∈ e.Term.Broader, s.size ≤ 100
 nbroader : e.Term.Broader.length ≤ 10 * (k + 1)
 posts : ∀ p ∈ e.Posts, zc1 p.ID ∧ p.Path.length ≤ 10 ∧ ∀ s ∈ p.Path, s.size ≤ 100
 nposts : e.Posts.length ≤ 10 * (k + 1)
theorem zb6 {k : Nat} {e : EventM} (h : SmEv k e) (hk : k ≤ 20) : OkEv e where
 by_ := h.by_
 seq := h.seq
 tick := h.tick
 kind := h.kind
 n := h.n
 id := h.id
 tk := h.tk
 tl := h.tl
 refs := h.refs
 nrefs := by have := h.nrefs; omega
 op := zyj h.op
 name := by have := h.name; omega
 see := by have := h.see; omega
 broader := fun s hs => by have := h.broader s hs; omega
 nbroader := by have := h.nbroader; omega
 posts := fun p hp => by
  have := h.posts p hp
  exact ⟨this.1, by omega, fun s hs => by have := this.2.2 s hs; omega⟩
 nposts := by have := h.nposts; omega
theorem zvn {k : Nat} {e : EventM} (h : SmEv k e) : SmEv (k + 1) e := { h with
 nrefs := by have := h.nrefs; omega
 nbroader := by have := h.nbroader; omega
 nposts := by have := h.nposts; omega }
theorem smZ : SmOp z0c where
 head := okZ.head
 pairs := by simp [z0c]
 refs := by simp [z0c]
 text := by decide
 texts := by simp [z0c]
 ntexts := by decide
 npairs := by decide
 nrefs := by decide
theorem zs2 (n : Int) : wk (wordM n) = true := by
 have h := wd (n := n) (m := 8) (by omega)
 have key : ∀ i : Fin 8, wk (wordsL.getD i.val default) = true := by decide +kernel
 exact key ⟨(yh n 8).toNat, by omega⟩
theorem z37 (l : List Int) (a : Int) (i : Nat) : (yv l a i).length = i ∧ (∀ s ∈ yv l a i, s.size ≤ 12) ∧ vj (yv l a i) = true := by
 refine ⟨by simp [yv], fun s hs => ?_, ?_⟩
 ·obtain ⟨j, _, rfl⟩ := List.mem_map.1 hs
  exact z01 _
 ·unfold vj
  rw [List.all_eq_true]
  intro s hs
  obtain ⟨j, _, rfl⟩ := List.mem_map.1 hs
  exact zs2 _
theorem jq {n c : Int} (hc : 0 < c) (h2 : c ≤ 1000) : I64 (n.tmod c) := by
 have h1 := Int.tmod_lt_of_pos n hc
 have h3 := Int.lt_tmod_of_pos n hc
 exact xt (by omega) (by omega)
theorem zwx (l : List Int) (a : Int) : SmOp (opM l a) where
 head := by
  have h0 := z6z ((opN l a).tdiv 10)
  have hs : I64 (opS l a).Volume ∧ I64 (opS l a).Article ∧ I64 (opS l a).Index := by
   unfold opS
   split
   ·exact ⟨jq (by omega) (by omega), jq (by omega) (by omega), jq (by omega) (by omega)⟩
   ·exact ⟨z2d, z2d, z2d⟩
  intro x hx
  simp only [vy, opM, List.mem_cons, List.not_mem_nil, or_false] at hx
  rcases hx with rfl | rfl | rfl | rfl | rfl | rfl | rfl | rfl | rfl | rfl | rfl | rfl | rfl
  ·exact jq (by omega) (by omega)
  ·exact h0.1
  ·exact h0.2.1
  ·exact h0.2.2
  ·exact z2d
  ·exact z2d
  ·exact z2d
  ·exact hs.1
  ·exact hs.2.1
  ·exact hs.2.2
  ·exact jq (by omega) (by omega)
  ·exact z2d
  ·exact z2d
 pairs := by
  intro p hp
  have hp : p ∈ opP l a := hp
  unfold opP at hp
  split at hp
  ·rw [List.mem_singleton.1 hp]
   exact ⟨jq (by omega) (by omega), jq (by omega) (by omega)⟩
  ·simp at hp
 refs := by
  intro p hp
  have hp : p ∈ opR l a := hp
  unfold opR at hp
  split at hp
  ·rw [List.mem_singleton.1 hp]
   exact z6z _
  ·simp at hp
 text := by
  have := z01 ((opN l a).tdiv 7)
  show (wordM _).size ≤ 100
  omega
 texts := by
  intro s hs
  have hs : s ∈ opT l a := hs
  unfold opT at hs
  split at hs
  ·have := (z37 l (a + 1) (((opN l a).tdiv 3).tmod 3).toNat).2.1 s hs
   omega
  ·simp at hs
 ntexts := by
  show (opT l a).length ≤ 10
  unfold opT
  split
  ·rw [(z37 l (a + 1) (((opN l a).tdiv 3).tmod 3).toNat).1]
   have := Int.tmod_lt_of_pos ((opN l a).tdiv 3) (b := 3) (by omega)
   omega
  ·simp
 npairs := by
  show (opP l a).length ≤ 10
  unfold opP
  split <;> simp
 nrefs := by
  show (opR l a).length ≤ 10
  unfold opR
  split <;> simp
theorem zaq (l : List Int) {r : NameM} : ∀ {i : Nat}, r ∈ refsG l i → (0 ≤ r.By ∧ r.By < i ∧ 0 ≤ r.Seq ∧ r.Seq ≤ 63) ∧ r ≠ ⟨atM l 0 6, atM l 1 64⟩
 | 0, h => by simp [refsG] at h
 | i + 1, h => by
  rw [refsG] at h
  rcases List.mem_append.1 h with h | h
  ·have := zaq l h
   exact ⟨by omega, this.2⟩
  ·split at h
   ·rename_i hc
    rw [List.mem_singleton.1 h]
    have := x6 (l := l) (i := 5 + (i : Int)) (m := 64) (by omega)
    unfold nmG
    refine ⟨by dsimp only; omega, fun hq => ?_⟩
    simp only [NameM.mk.injEq] at hq
    exact hc.2 hq.1 hq.2
   ·simp at h
theorem zlq (l : List Int) (i : Nat) : (yc l i).length = i ∧ ∀ p ∈ yc l i, p.ID = idM (qy l) ∧ 1 ≤ p.Path.length ∧ p.Path.length ≤ 4 ∧ vj p.Path = true ∧ ∀ s ∈ p.Path, s.size ≤ 12 := by
 refine ⟨by simp [yc], fun p hp => ?_⟩
 obtain ⟨j, _, rfl⟩ := List.mem_map.1 hp
 have h := x6 (l := l) (i := 30 + (j : Int)) (m := 4) (by omega)
 have hl := z37 l (12 + 4 * (j : Int)) (1 + atM l (30 + (j : Int)) 4).toNat
 unfold postG
 exact ⟨rfl, by dsimp only; rw [hl.1]; omega, by dsimp only; rw [hl.1]; omega, hl.2.2, hl.2.1⟩
theorem zwm (l : List Int) : SmEv 0 (evI l 6) := by
 have a0 := x6 (l := l) (i := 0) (m := 6) (by omega)
 have a1 := x6 (l := l) (i := 1) (m := 64) (by omega)
 have a2 := x6 (l := l) (i := 2) (m := 1048577) (by omega)
 have a3 := x6 (l := l) (i := 3) (m := 7) (by omega)
 have hrl := z4y l 6
 exact { by_ := xt (by show _ ≤ atM l 0 6; omega) (by show atM l 0 6 ≤ _; omega), seq := xt (by show _ ≤ atM l 1 64; omega) (by show atM l 1 64 ≤ _; omega)
         tick := xt (by show _ ≤ atM l 2 1048577; omega) (by show atM l 2 1048577 ≤ _; omega), kind := xt (by show _ ≤ atM l 3 7; omega) (by show atM l 3 7 ≤ _; omega)
         n := z2d, id := ⟨z2d, z2d, z2d⟩, tk := z2d, tl := z2d
         refs := fun r hr => by
          have := (zaq l hr).1
          exact ⟨xt (by omega) (by omega), xt (by omega) (by omega)⟩
         nrefs := by show (refsG l 6).length ≤ _; omega
         op := smZ
         name := by show (0 : Nat) ≤ 100; omega
         see := by show (0 : Nat) ≤ 100; omega
         broader := by simp [evI, z03]
         nbroader := by show (0 : Nat) ≤ _; omega
         posts := by simp [evI]
         nposts := by show (0 : Nat) ≤ _; omega }
theorem ztx (l : List Int) : 0 ≤ qy l ∧ qy l < 4096 := x6 (l := l) (i := 11) (m := 4096) (by omega)
theorem zwl (l : List Int) : SmEv 0 (evG l) := by
 have h := zwm l
 have hn := ztx l
 have t4 := Int.tmod_nonneg (b := 4) (a := qy l) hn.1
 have t4b := Int.tmod_lt_of_pos (qy l) (b := 4) (by omega)
 unfold evG
 split
 ·exact { h with op := zwx l 12 }
 split
 ·have hw := z01 (qy l)
  have hw2 := z01 ((qy l).tdiv 5)
  have hl := z37 l 12 (((qy l).tdiv 12).tmod 3).toNat
  have t3 := Int.tmod_lt_of_pos ((qy l).tdiv 12) (b := 3) (by omega)
  refine { h with tk := jq (by omega) (by omega), tl := jq (by omega) (by omega), name := ?_, see := ?_, broader := fun s hs => ?_, nbroader := ?_ }
  ·show (wordM (qy l)).size ≤ 100; omega
  ·show (if (qy l).tmod 5 = 0 then wordM ((qy l).tdiv 5) else ⟨#[]⟩ : ByteArray).size ≤ 100
   split
   ·omega
   ·decide
  ·have := hl.2.1 s hs; omega
  ·show (yv l 12 (((qy l).tdiv 12).tmod 3).toNat).length ≤ _
   rw [hl.1]; omega
 split
 ·have hp := zlq l ((qy l).tmod 4).toNat
  refine { h with id := z6z _, posts := fun p hpm => ?_, nposts := ?_ }
  ·obtain ⟨h1, h2, h3, h4, h5⟩ := hp.2 p hpm
   refine ⟨by rw [h1]; exact z6z _, by omega, fun s hs => by have := h5 s hs; omega⟩
  ·show (yc l ((qy l).tmod 4).toNat).length ≤ _
   rw [hp.1]; omega
 split
 ·have a12 := x6 (l := l) (i := 12) (m := 1048577) (by omega)
  exact { h with id := z6z _, n := xt (by show _ ≤ atM l 12 1048577; omega) (by show atM l 12 1048577 ≤ _; omega) }
 ·exact h
end Go.Proofs.YtkeopokhnfpgpaaGreatDoor

namespace Go.Proofs.YtkeopokhnfpgpaaGreatDoor
open Go.Av
theorem zt9 {n : Nat} (h : n ≤ 1000000000000) : I64 (n : Int) := by unfold I64; omega
theorem zjd {i : IdM} (h : zc1 i) : ∀ x ∈ idI i, I64 x := fun x hx => by
 simp only [idI, List.mem_cons, List.not_mem_nil, or_false] at hx
 rcases hx with rfl | rfl | rfl
 ·exact h.1
 ·exact h.2.1
 ·exact h.2.2
theorem z9z (l : List NameM) : (l.flatMap nameI).length = 2 * l.length := by
 induction l with
 | nil => rfl
 | cons p l ih => simp only [List.flatMap_cons, List.length_append, ih, nameI, List.length_cons, List.length_nil]; omega
theorem zxe {o : OpM} (h : SmOp o) : (opB o).length ≤ 3000 := by
 have h0 := vi h.head (by simp [vy])
 have e0 : (vy o).length = 13 := rfl
 have h1 := Zu h.text (by omega)
 have h2 : (strsM o.Texts).length ≤ 9 + 109 * o.Texts.length := by
  rw [strsM, Qu, z0y, List.length_append]
  have ha := kw qw 109 o.Texts fun s hs => Zu (h.texts s hs) (by omega)
  have hb := yj (n := (o.Texts.length : Int)) (by have := h.ntexts; unfold I64; omega)
  omega
 have n1 := h.ntexts
 have n2 := h.npairs
 have n3 := h.nrefs
 have h3 := Xk (f := pairI) (l := o.Pairs) (c := 2) (fun p hp => ⟨Nat.le_refl _, fun y hy => by
  have := h.pairs p hp
  simp only [pairI, List.mem_cons, List.not_mem_nil, or_false] at hy
  rcases hy with rfl | rfl
  ·exact this.1
  ·exact this.2⟩) (by omega)
 have h4 := Xk (f := idI) (l := o.Refs) (c := 3) (fun p hp => ⟨Nat.le_refl _, fun y hy => by
  have := h.refs p hp
  simp only [idI, List.mem_cons, List.not_mem_nil, or_false] at hy
  rcases hy with rfl | rfl | rfl
  ·exact this.1
  ·exact this.2.1
  ·exact this.2.2⟩) (by omega)
 rw [opB, List.length_append, List.length_append, List.length_append, List.length_append]
 omega
theorem zk4 {l : List ByteArray} (h : ∀ s ∈ l, s.size ≤ 100) (hl : l.length ≤ 100000) : (strsM l).length ≤ 9 + 109 * l.length := by
 rw [strsM, Qu, z0y, List.length_append]
 have ha := kw qw 109 l fun s hs => Zu (h s hs) (by omega)
 have hb := yj (n := (l.length : Int)) (by unfold I64; omega)
 omega
theorem zxd {k : Nat} {e : EventM} (h : SmEv k e) (hk : k ≤ 4) : (evB e).length ≤ 17000 + 13000 * k := by
 have ok := zb6 h (by omega)
 have n1 := h.nrefs
 have n2 := h.nbroader
 have n3 := h.nposts
 have m1 : 20 * (k + 1) ≤ 100 := by omega
 have m2 : 10 * (k + 1) ≤ 50 := by omega
 have hb1 := vi (l := [e.By, e.Seq, e.Tick, e.Kind]) (by
  simp only [List.forall_mem_cons]
  exact ⟨h.by_, h.seq, h.tick, h.kind, by simp⟩) (by simp)
 simp only [List.length_cons, List.length_nil] at hb1
 have hb2 := vi (z7h ok) (by rw [z9z]; omega)
 rw [z9z] at hb2
 have ht : (z5q e).length ≤ 16100 + 12600 * k := by
  unfold z5q
  split
  ·have := zxe h.op; omega
  split
  ·have q1 := vi (l := [e.Term.Kind, e.Term.Lang]) (by
    simp only [List.forall_mem_cons]
    exact ⟨h.tk, h.tl, by simp⟩) (by simp)
   have q2 := zk4 (l := e.Term.Name :: e.Term.See :: e.Term.Broader) (by
    intro s hs
    rcases List.mem_cons.1 hs with rfl | hs
    ·exact h.name
    ·rcases List.mem_cons.1 hs with rfl | hs
     ·exact h.see
     ·exact h.broader s hs) (by simp only [List.length_cons]; omega)
   simp only [List.length_append, List.length_cons, List.length_nil] at q1 q2 ⊢
   omega
  split
  ·have q1 := vi (l := idI e.ID) (zjd h.id) (by simp [idI])
   have q2 := yj (n := (e.Posts.length : Int)) (by unfold I64; omega)
   have q3 := kw vk 1200 e.Posts fun p hp => by
    obtain ⟨_, p1, p2⟩ := h.posts p hp
    have r1 := zk4 p2 (by omega)
    have r2 := yj (n := (if p.Main = true then 1 else 0)) (by split <;> (unfold I64; omega))
    rw [vk, List.length_append]
    omega
   have q4 : (idI e.ID).length = 3 := rfl
   simp only [List.length_append]
   omega
  split
  ·have q1 := vi (l := idI e.ID ++ [e.N]) (fun x hx => by
    rcases List.mem_append.1 hx with hx | hx
    ·exact zjd h.id x hx
    ·simp at hx; subst hx; exact h.n) (by simp [idI])
   have q2 : (idI e.ID ++ [e.N]).length = 4 := rfl
   omega
  ·simp
 simp only [evB, z6y, List.length_append]
 omega
theorem zp3 {n : Int} (hn : I64 n) : isB (yp n) := fun x hx => by
 have hk := Zz hn
 unfold yp z4i at hx
 rcases List.mem_cons.1 hx with rfl | hx
 ·exact ze5 (by omega)
 ·obtain ⟨i, _, rfl⟩ := List.mem_map.1 hx
  unfold digM
  exact ze5 (by omega)
theorem ztd {a b : List Int} (ha : isB a) (hb : isB b) : isB (a ++ b) := fun x hx => by
 rcases List.mem_append.1 hx with h | h
 ·exact ha x h
 ·exact hb x h
theorem zro (s : ByteArray) : isB (vl s) := fun x hx => by
 unfold vl at hx
 obtain ⟨c, _, rfl⟩ := List.mem_map.1 hx
 have := c.toNat_lt
 omega
theorem z6g {s : ByteArray} (h : s.size ≤ 1000000000000) : isB (qw s) := ztd (zp3 (zt9 h)) (zro s)
def z0a (t : Int) (l : List ByteArray) : Nat → List Int
 | 0 => [t]
 | i + 1 => z0a t l i ++ qw (l.getD i default)
def zca (t : Int) (l : List ByteArray) : Nat → List Int
 | 0 => bkF [t] y64 0 1
 | i + 1 => bkF (z0a t l (i + 1)) (zca t l i) (z0a t l i).length (qw (l.getD i default)).length
def dgM (t : Int) (l : List ByteArray) : List Int := (zv0 (z0a t l l.length)).take 16
theorem z62 (t : Int) (l : List ByteArray) : ∀ i, z24 (z0a t l i) (z0a t l i).length (zca t l i)
 | 0 => zve [t] (zde zd0)
 | i + 1 => zve (qw (l.getD i default)) (z62 t l i)
theorem z7o {t : Int} {l : List ByteArray} (h : ∀ s ∈ l, s.size ≤ 1000000) : ∀ i, i ≤ l.length → (z0a t l i).length ≤ 1 + 1000009 * i
 | 0, _ => Nat.le_refl _
 | i + 1, hi => by
  have h1 := z7o (t := t) h i (by omega)
  have h2 := Zt (h (l.getD i default) (by rw [List.getD_eq_getElem?_getD, List.getElem?_eq_getElem (by omega)]; exact List.getElem_mem _))
  simp only [z0a, List.length_append]
  omega
theorem z33 {t : Int} (ht : 0 ≤ t ∧ t ≤ 255) {l : List ByteArray} (h : ∀ s ∈ l, s.size ≤ 1000000) : ∀ i, i ≤ l.length → isB (z0a t l i)
 | 0, _ => fun x hx => by simp only [z0a, List.mem_singleton] at hx; subst hx; exact ht
 | i + 1, hi => zjh (z33 ht h i (by omega)) (z6g (by have := h (l.getD i default) (by rw [List.getD_eq_getElem?_getD, List.getElem?_eq_getElem (by omega)]; exact List.getElem_mem _); omega))
set_option maxRecDepth 100000 in
set_option maxHeartbeats 2000000 in
theorem zov (G) (t : Int) (ht : 0 ≤ t ∧ t ≤ 255) (h7 : IntKind.u8.wrap t = t) (hgk : G.lookup 1 = some (wsD kH)) (l : List ByteArray) (hl : l.length ≤ 1000) (h : ∀ s ∈ l, s.size ≤ 1000000) : zl Tryz.prog G 96 [iD t, ssD l] [bsD (dgM t l)] := by
 have hbl : ∀ i, (zca t l i).length = 64 := fun i => (z62 t l i).1
 have h8 : zcw [Dat.int IntKind.u8 t] = some [t] := rfl
 have hz : isB (z0a t l 0) := z33 ht h 0 (by omega)
 have c0 : zl Tryz.prog G 133 [stD [] y64, .str (vv [t])] [stD (z0a t l 0) (zca t l 0)] := zgc G hgk [] y64 [t] (zde zd0) (fun x hx => by cases hx) hz (by simp)
 have hsl := zfw (z0a t l l.length)
 skip
 skip
 refine GI [] [] [] Tryz.func96 Tryz.ntmps96 fun F hP hG hN hR hA => ?_
 have hE := And.intro @Tryz.results96 (And.intro @h7 (And.intro @h8 (And.intro @hbl (@hsl))))
 refine WS [0, 1, 4] [4] ?_
 apply w9 [1, 4, 5] [4, 5] [0, 1, 2, 3, 4, 5, 6, 7] [5]
 ·rw [hP]; kernel_rfl
 ·exact hR
 ·kernel_rfl
 ·(repeat (apply PickL.cons; exact rfl)); exact PickL.nil _
 ·refine RN ?_
  refine CU (znj G) ?_
  refine CU (c0) ?_
  exact SC
 apply z3
 refine WS [4, 5, 15, 16, 17] [4, 5] ?_
 apply z7
 refine WL (ι := {i : Nat // i ≤ l.length}) [4, 5, 15, 16] [4] (fun ⟨i, hi⟩ => [(17, .dat (iD i))]) (fun ⟨i, hi⟩ => [(5, ⟨73, [.dat (stD (z0a t l i) (zca t l i))]⟩)]) (fun ⟨i, hi⟩ => l.length - i) (⟨0, by omega⟩) ?_
 rintro ⟨i, hi⟩
 refine LA ?_
 refine WS [4, 5, 15, 16, 17, 18] [4, 5] ?_
 apply z3
 refine WI ?_ ?_ <;> intro hb
 ·have hs := h (l.getD i default) (by rw [List.getD_eq_getElem?_getD, List.getElem?_eq_getElem (by omega)]; exact List.getElem_mem _)
  have c1 : zl Tryz.prog G 133 [stD (z0a t l i) (zca t l i), .str (vv (qw (l.getD i default)))] [stD (z0a t l (i + 1)) (zca t l (i + 1))] := zgc G hgk (z0a t l i) (zca t l i) (qw (l.getD i default)) (z62 t l i) (z33 ht h i hi) (z6g (by omega)) (by have := z7o (t := t) h i hi; have := Zt hs; omega)
  apply z6
  apply z5
  apply z3
  apply z7
  refine WS [4, 5, 7, 15, 16, 17] [4, 5] ?_
  apply z43 [4, 5, 15, 16, 17] [4, 5] [0, 1, 2, 3, 4, 5] []
  ·rw [hP]; kernel_rfl
  ·exact hR
  ·kernel_rfl
  ·(repeat (apply PickL.cons; exact rfl)); exact PickL.nil _
  ·refine RN ?_
   refine CU (zbh G (l.getD i default) hs) ?_
   refine CU (c1) ?_
   exact SC
  apply zh
  apply z5
  refine WQ [4, 5, 15, 16, 17] [4, 5] ?_
  refine WN (⟨i + 1, by omega⟩)
 ·have hie : i = l.length := by omega
  subst hie
  apply zj
  apply zc
  apply zb
  apply zn
  apply z5
  have hc := gvF hP hG (zux G hgk (z0a t l l.length) (zca t l l.length) (z62 t l _) (z33 ht h _ (Nat.le_refl _)) (by have := z7o (t := t) h l.length (Nat.le_refl _); omega))
  refine WSc [4, 8] [4, 8] ?_
  refine WS [4] [4] ?_
  apply z9
  exact E0
theorem tr6 {α : Type} {f : α → Dat} (A B C D E F : List α) (n : Nat) (h : A.length + B.length + C.length + D.length + E.length + F.length ≤ n) : List.take n (List.map AV.dat (List.map f A) ++ List.map AV.dat (List.map f B) ++ List.map AV.dat (List.map f C) ++ List.map AV.dat (List.map f D) ++ List.map AV.dat (List.map f E) ++ List.map AV.dat (List.map f F)) = List.map AV.dat (List.map f A) ++ List.map AV.dat (List.map f B) ++ List.map AV.dat (List.map f C) ++ List.map AV.dat (List.map f D) ++ List.map AV.dat (List.map f E) ++ List.map AV.dat (List.map f F) := List.take_of_length_le (by simpa [Nat.add_assoc] using h)
theorem tr7 {α : Type} {f : α → Dat} (A B C D E F G : List α) (n : Nat) (h : A.length + B.length + C.length + D.length + E.length + F.length + G.length ≤ n) : List.take n (List.map AV.dat (List.map f A) ++ List.map AV.dat (List.map f B) ++ List.map AV.dat (List.map f C) ++ List.map AV.dat (List.map f D) ++ List.map AV.dat (List.map f E) ++ List.map AV.dat (List.map f F) ++ List.map AV.dat (List.map f G)) = List.map AV.dat (List.map f A) ++ List.map AV.dat (List.map f B) ++ List.map AV.dat (List.map f C) ++ List.map AV.dat (List.map f D) ++ List.map AV.dat (List.map f E) ++ List.map AV.dat (List.map f F) ++ List.map AV.dat (List.map f G) := List.take_of_length_le (by simpa [Nat.add_assoc] using h)
set_option maxRecDepth 100000 in
set_option maxHeartbeats 2000000 in
theorem zxi (G) (e : EventM) (h : OkEv e) : zl Tryz.prog G 131 [zf e] [z3w (evB e)] := by
 have hnr := h.nrefs
 have hnp := h.nposts
 have hnb := h.nbroader
 have hpl := jt (f := nameI) (k := 2) (fun _ => rfl) e.Refs
 have hrl := hpl e.Refs.length (Nat.le_refl _)
 rw [y0] at hrl
 have hhd : ∀ x ∈ [e.By, e.Seq, e.Tick, e.Kind], I64 x := by
  simp only [List.forall_mem_cons]
  exact ⟨h.by_, h.seq, h.tick, h.kind, by simp⟩
 have hid : ∀ x ∈ idI e.ID, I64 x := by
  simp only [idI, List.forall_mem_cons]
  exact ⟨h.id.1, h.id.2.1, h.id.2.2, by simp⟩
 have hb1 := vi hhd (by simp)
 have hb2 := vi (z7h h) (by omega)
 simp only [List.length_cons, List.length_nil] at hb1
 rw [hrl] at hb2
 have hoa := h.op.all
 have o1 := zqe e.Kind
 have o2 := zcc e.Kind
 have o4 := zf2 e.Kind
 have o5 := zye e.Kind
 skip
 skip
 skip
 refine GI [] [21, 50, 130] [] Tryz.func131 Tryz.ntmps131 fun F hP hG hN hR hA => ?_
 have hE := And.intro @Tryz.results131 (And.intro @Xi (And.intro @Nat.min_self (And.intro @tr2 (And.intro @tr3 (@tr4)))))
 refine WS [1] [1, 21] ?_
 apply zm [1, 3] [1, 102, 120, 21]
 ·refine RN ?_
  refine CX (fun _ => 21) [18] (zbi G [e.By, e.Seq, e.Tick, e.Kind] hhd (by simp)) ?_
  exact SC
 refine WS [1, 3, 4] [1, 35, 102, 120, 21] ?_
 apply z3
 refine WS [1, 3, 4, 23, 24, 25] [1, 35, 102, 120, 21] ?_
 apply z7
 refine x7 35 1 (by omega) ?_
 refine xx 4 35 1 rfl rfl ?_
 refine WL (ι := {i : Nat // i ≤ e.Refs.length}) [1, 3, 23, 24] [1, 34, 40, 61, 74, 89, 96, 102, 115, 120, 132, 21] (fun ⟨i, hi⟩ => [(4, .osl 35 1 0 (ws nameI e.Refs i).length), (25, .dat (iD i))]) (fun ⟨i, hi⟩ => [(35, ⟨1, ((ws nameI e.Refs i).map iD).map .dat⟩)]) (fun ⟨i, hi⟩ => e.Refs.length - i) (⟨0, by omega⟩) ?_
 rintro ⟨i, hi⟩
 refine LA ?_
 have hl := hpl i hi
 refine WS [1, 3, 4, 23, 24, 25, 26] [1, 34, 35, 102, 120, 21] ?_
 apply z3
 refine WI ?_ ?_ <;> intro hb
 ·have hl2 := hpl (i + 1) (by omega)
  have hsc := ju nameI e.Refs i (by omega)
  have hE := And.intro hE (And.intro hsc (nameI.eq_1 (e.Refs.getD i default)))
  apply z6
  apply z5
  apply z3
  apply z7
  refine WS [1, 3, 4, 6, 23, 24, 25] [1, 6, 34, 35, 102, 120, 21] ?_
  refine WQ [1, 3, 4, 23, 24, 25] [1, 34, 35, 102, 120, 21] ?_
  apply zh
  apply z5
  refine WQ [1, 3, 4, 23, 24, 25] [1, 34, 35, 102, 120, 21] ?_
  refine WN (⟨i + 1, by omega⟩)
 ·apply zj
  apply zc
  have hend : i = e.Refs.length := by omega
  subst hend
  have hf := y0 nameI e.Refs
  have hE := And.intro hE hf
  apply zb
  apply zn
  apply z5
  refine vp 35 hR.2.2.2 rfl (datE_map _) ?_
  have hc := gvF hP hG (Z0 G (e.Refs.flatMap nameI) (z7h h) (by omega))
  refine WSc [1, 3] [1, 40, 102, 120, 21] ?_
  refine WS [1, 3, 7] [1, 40, 50, 102, 120, 21] ?_
  apply z3
  have hc := gvF hP hG (zvm G e.Kind)
  refine WSc [1, 3, 7, 8] [1, 8, 40, 50, 102, 120, 21] ?_
  apply z7
  refine WS [1, 3, 7, 8, 54] [1, 8, 40, 50, 102, 120, 21] ?_
  refine WI ?_ ?_ <;> intro hb
  ·have hk : e.Kind = 0 := by grind
   have hv : evB e = intsM [e.By, e.Seq, e.Tick, e.Kind] ++ intsM (e.Refs.flatMap nameI) ++ opB e.Op := by
    unfold evB z6y z5q
    rw [if_pos hk]
   have hE := And.intro hE hv
   have hc := gvF hP hG (zs0 G e.Op h.op)
   refine WQc [3] [40, 61, 102, 120, 21] ?_
   apply zh
   apply z5
   refine WS [2] [40, 61, 74, 89, 96, 102, 115, 120, 132, 21] ?_
   apply z9
   refine EN ?_
   all_goals try trivial
   all_goals (simp only [← List.map_append, datE_map] <;> rfl)
  ·refine WS [1, 3, 7, 8, 62] [1, 8, 40, 50, 102, 120, 21] ?_
   refine WI ?_ ?_ <;> intro hb
   ·have hk : e.Kind = 2 := by grind
    have hk0 : e.Kind ≠ 0 := by omega
    have hv : evB e = intsM [e.By, e.Seq, e.Tick, e.Kind] ++ intsM (e.Refs.flatMap nameI) ++ intsM [e.Term.Kind, e.Term.Lang] ++ strsM (e.Term.Name :: e.Term.See :: e.Term.Broader) := by
     unfold evB z6y z5q
     rw [if_neg hk0, if_pos hk]
     simp only [List.append_assoc]
    have hE := And.intro hE hv
    have htk : ∀ x ∈ [e.Term.Kind, e.Term.Lang], I64 x := by
     simp only [List.forall_mem_cons]
     exact ⟨h.tk, h.tl, by simp⟩
    have hts : ∀ s ∈ e.Term.Name :: e.Term.See :: e.Term.Broader, s.size ≤ 1000000 := by
     simp only [List.forall_mem_cons]
     exact ⟨by have := h.name; omega, by have := h.see; omega, fun s hs => by have := h.broader s hs; omega⟩
    have hb3 := vi htk (by simp)
    have hb4 := z8h hts (by simp; omega)
    simp only [List.length_cons, List.length_nil] at hb3 hb4
    have hfl : ([[e.Term.Name, e.Term.See], e.Term.Broader] : List (List ByteArray)).flatten = e.Term.Name :: e.Term.See :: e.Term.Broader := by simp
    have hE := And.intro hE hfl
    have hc := gvF hP hG (Z0 G [e.Term.Kind, e.Term.Lang] htk (by simp))
    refine WSc [1, 3] [1, 40, 74, 102, 120, 21] ?_
    apply js [3] [40, 74, 89, 102, 120, 21]
    ·refine RN ?_
     refine CU (zgv G [[e.Term.Name, e.Term.See], e.Term.Broader] (by simp) (by simp; omega) (by simp; omega)) ?_
     refine CU (z3z G (e.Term.Name :: e.Term.See :: e.Term.Broader) hts (by simp; omega)) ?_
     exact SC
    apply zh
    apply z5
    refine WS [2] [40, 61, 74, 89, 96, 102, 115, 120, 132, 21] ?_
    apply z9
    refine EN ?_
    all_goals try trivial
    all_goals (simp only [← List.map_append, datE_map] <;> rfl)
   ·refine WS [1, 3, 7, 8, 90] [1, 8, 40, 50, 102, 120, 21] ?_
    refine WI ?_ ?_ <;> intro hb
    ·have hk : e.Kind = 3 ∨ e.Kind = 4 := by grind
     have hk0 : e.Kind ≠ 0 := by omega
     have hk2 : e.Kind ≠ 2 := by omega
     have hv : evB e = intsM [e.By, e.Seq, e.Tick, e.Kind] ++ intsM (e.Refs.flatMap nameI) ++ intsM (idI e.ID) ++ yp e.Posts.length ++ e.Posts.flatMap vk := by
      unfold evB z6y z5q
      rw [if_neg hk0, if_neg hk2, if_pos hk]
      simp only [List.append_assoc]
     have hE := And.intro hE hv
     have hb3 : (intsM (idI e.ID)).length ≤ 36 := vi hid (by simp [idI])
     have hb4 : (yp (e.Posts.length : Int)).length ≤ 9 := yj (by unfold I64; omega)
     refine zsc 7 rfl ?_
     have hc := gvF hP hG (Z0 G (idI e.ID) hid (by simp [idI]))
     refine WSc [1, 3] [1, 40, 96, 102, 120, 21] ?_
     have hc := gvF hP hG (zcz G e.Posts.length (by unfold I64; omega))
     refine WSc [1, 3] [1, 40, 96, 102, 120, 21] ?_
     refine WS [3, 104, 105, 106] [40, 96, 102, 120, 21] ?_
     apply z7
     refine j1 102 120 (by omega) (by omega) ?_
     have hE := And.intro hE (And.intro (tr5 (α := Int) (f := u8D)) (And.intro (tr6 (α := Int) (f := u8D)) (tr7 (α := Int) (f := u8D))))
     refine WL (ι := {i : Nat // i ≤ e.Posts.length}) [104, 105] [40, 61, 74, 89, 96, 102, 115, 132, 21] (fun ⟨i, hi⟩ => [(3, .osl 120 1 0 ((intsM [e.By, e.Seq, e.Tick, e.Kind]).length + (intsM (e.Refs.flatMap nameI)).length + (intsM (idI e.ID)).length + (yp e.Posts.length).length + (ws vk e.Posts i).length)), (106, .dat (iD i))]) (fun ⟨i, hi⟩ => [(120, ⟨1, ((intsM [e.By, e.Seq, e.Tick, e.Kind] ++ intsM (e.Refs.flatMap nameI) ++ intsM (idI e.ID) ++ yp e.Posts.length ++ ws vk e.Posts i).map u8D).map .dat⟩)]) (fun ⟨i, hi⟩ => e.Posts.length - i) (⟨0, by omega⟩) ?_
     rintro ⟨i, hi⟩
     refine LA ?_
     have hpi := zlp h i hi
     refine WS [3, 104, 105, 106, 107] [40, 96, 102, 115, 120, 21] ?_
     apply z3
     refine WI ?_ ?_ <;> intro hb
     ·have hsc := ju vk e.Posts i (by omega)
      have hpp := zt h.posts (i := i) (by omega)
      have hsl : (ws vk e.Posts (i + 1)).length = (ws vk e.Posts i).length + (vk (e.Posts.getD i default)).length := by rw [hsc, List.length_append]
      have hps := z8h (l := (e.Posts.getD i default).Path) (fun s hs => by have := hpp.2.2 s hs; omega) (by omega)
      apply z6
      apply z5
      apply z3
      apply z7
      refine WS [3, 10, 104, 105, 106] [10, 40, 96, 102, 115, 120, 21] ?_
      refine WS [3, 10, 11, 104, 105, 106] [10, 40, 96, 102, 115, 120, 21] ?_
      apply z3
      refine WS [3, 10, 11, 104, 105, 106, 111] [10, 40, 96, 102, 115, 120, 21] ?_
      refine WI ?_ ?_ <;> intro hb
      ·have hpb : vk (e.Posts.getD i default) = yp 1 ++ strsM (e.Posts.getD i default).Path := by unfold vk; rw [if_pos hb]
       have him : (yp 1).length ≤ 9 := yj (by unfold I64; omega)
       have hsx : ∀ X : List Int, X ++ ws vk e.Posts (i + 1) = X ++ ws vk e.Posts i ++ yp 1 ++ strsM (e.Posts.getD i default).Path := fun X => by rw [hsc, hpb]; simp only [List.append_assoc]
       rw [hpb, List.length_append, ← Nat.add_assoc] at hsl
       have hsy : ∀ Y : Nat, Y + (ws vk e.Posts (i + 1)).length = Y + (ws vk e.Posts i).length + (yp 1).length + (strsM (e.Posts.getD i default).Path).length := fun Y => by omega
       have hE := And.intro hE (And.intro hsx hsy)
       refine WQ [3, 10, 11, 104, 105, 106] [10, 40, 96, 102, 115, 120, 21] ?_
       apply z5
       have hc := gvF hP hG (zcz G 1 (by unfold I64; omega))
       refine WSc [3, 10, 104, 105, 106] [10, 40, 96, 102, 115, 120, 21] ?_
       have hc := gvF hP hG (z3z G (e.Posts.getD i default).Path (fun s hs => by have := hpp.2.2 s hs; omega) (by omega))
       refine WQc [3, 104, 105, 106] [40, 96, 102, 115, 120, 21] ?_
       apply zh
       apply z5
       refine WQ [3, 104, 105, 106] [40, 96, 102, 115, 120, 21] ?_
       refine WN (⟨i + 1, by omega⟩)
      ·have hpb : vk (e.Posts.getD i default) = yp 0 ++ strsM (e.Posts.getD i default).Path := by unfold vk; rw [if_neg (by rw [hb]; exact Bool.false_ne_true)]
       have him : (yp 0).length ≤ 9 := yj (by unfold I64; omega)
       have hsx : ∀ X : List Int, X ++ ws vk e.Posts (i + 1) = X ++ ws vk e.Posts i ++ yp 0 ++ strsM (e.Posts.getD i default).Path := fun X => by rw [hsc, hpb]; simp only [List.append_assoc]
       rw [hpb, List.length_append, ← Nat.add_assoc] at hsl
       have hsy : ∀ Y : Nat, Y + (ws vk e.Posts (i + 1)).length = Y + (ws vk e.Posts i).length + (yp 0).length + (strsM (e.Posts.getD i default).Path).length := fun Y => by omega
       have hE := And.intro hE (And.intro hsx hsy)
       apply z6
       apply z5
       have hc := gvF hP hG (zcz G 0 (by unfold I64; omega))
       refine WSc [3, 10, 104, 105, 106] [10, 40, 96, 102, 115, 120, 21] ?_
       have hc := gvF hP hG (z3z G (e.Posts.getD i default).Path (fun s hs => by have := hpp.2.2 s hs; omega) (by omega))
       refine WQc [3, 104, 105, 106] [40, 96, 102, 115, 120, 21] ?_
       apply zh
       apply z5
       refine WQ [3, 104, 105, 106] [40, 96, 102, 115, 120, 21] ?_
       refine WN (⟨i + 1, by omega⟩)
     ·apply zj
      apply zc
      have hend : i = e.Posts.length := by omega
      subst hend
      have hf2 := y0 vk e.Posts
      have hE := And.intro hE hf2
      apply zb
      apply zn
      apply zh
      apply z5
      refine WS [2] [40, 61, 74, 89, 96, 102, 115, 120, 132, 21] ?_
      apply z9
      refine EN ?_
      all_goals try trivial
      all_goals (simp only [← List.map_append, datE_map] <;> rfl)
    ·refine WS [1, 3, 7, 122] [1, 40, 50, 102, 120, 21] ?_
     refine WI ?_ ?_ <;> intro hb
     ·have hk : e.Kind = 5 ∨ e.Kind = 6 := by grind
      have hk0 : e.Kind ≠ 0 := by omega
      have hk2 : e.Kind ≠ 2 := by omega
      have hk3 : ¬ (e.Kind = 3 ∨ e.Kind = 4) := by omega
      have hv : evB e = intsM [e.By, e.Seq, e.Tick, e.Kind] ++ intsM (e.Refs.flatMap nameI) ++ intsM (idI e.ID ++ [e.N]) := by
       unfold evB z6y z5q
       rw [if_neg hk0, if_neg hk2, if_neg hk3, if_pos hk]
      have hE := And.intro hE hv
      have hin : ∀ x ∈ idI e.ID ++ [e.N], I64 x := by
       simp only [idI, List.cons_append, List.nil_append, List.forall_mem_cons]
       exact ⟨h.id.1, h.id.2.1, h.id.2.2, h.n, by simp⟩
      have hb3 : (intsM (idI e.ID ++ [e.N])).length ≤ 45 := vi hin (by simp [idI])
      have hc := gvF hP hG (Z0 G (idI e.ID ++ [e.N]) hin (by simp [idI]))
      refine WQc [3] [40, 102, 120, 132, 21] ?_
      apply zh
      apply z5
      refine WS [2] [40, 61, 74, 89, 96, 102, 115, 120, 132, 21] ?_
      apply z9
      refine EN ?_
      all_goals try trivial
      all_goals (simp only [← List.map_append, datE_map] <;> rfl)
     ·have hv : evB e = intsM [e.By, e.Seq, e.Tick, e.Kind] ++ intsM (e.Refs.flatMap nameI) := by
       unfold evB z6y z5q
       rw [if_neg (by grind), if_neg (by grind), if_neg (by grind), if_neg (by grind)]
       simp only [List.append_nil]
      have hE := And.intro hE hv
      apply z6
      apply zh
      apply z5
      refine WS [2] [40, 61, 74, 89, 96, 102, 115, 120, 132, 21] ?_
      apply z9
      refine EN ?_
      all_goals try trivial
      all_goals (simp only [← List.map_append, datE_map] <;> rfl)
end Go.Proofs.YtkeopokhnfpgpaaGreatDoor

namespace Go.Proofs.YtkeopokhnfpgpaaGreatDoor
open Go.Av
theorem zs5 : mkAgg (List.replicate 16 (AV.dat (.int .u8 0))) = .dat (bsD (List.replicate 16 0)) := by rfl
set_option maxRecDepth 100000 in
theorem zku (G) (hgk : G.lookup 1 = some (wsD kH)) (e : EventM) (h : OkEv e) (hs : (evB e).length ≤ 1000000) : zl Tryz.prog G 95 [zf e] [bsD (dgM 7 [vv (evB e)])] := by
 skip
 refine GI [] [] [] Tryz.func95 Tryz.ntmps95 fun F hP hG hN hR hA => ?_
 have hE := @Tryz.results95
 refine WS [1, 2] [1, 2] ?_
 apply zm [2] [2]
 ·refine RN ?_
  refine CU (zxi G e h) ?_
  refine CU (zov G 7 (by decide) (by decide) hgk [vv (evB e)] (by simp) (by intro s hs'; rw [List.mem_singleton] at hs'; rw [hs', z2s]; exact hs)) ?_
  exact SC
 apply z9
 exact E0
def zx (L : List EventM) (n : NameM) : Option EventM := L.find? (Qk n)
def qx (L : List EventM) (b : Int) : Nat := L.countP fun e => e.By == b
def qz (p : Nat) (L : List EventM) : List Int := (List.range p).map fun i : Nat => (qx L (i : Int) : Int)
abbrev z0l (L : List EventM) : List Dat := L.map fun e => xz (evName e)
abbrev arO (p : Nat) (L : List EventM) : List (Nat × AObj) := [(1000, ⟨2, [.agg [.osl 1001 1 0 p, .mp 1002]]⟩), (1001, ⟨1, ((qz p L).map iD).map .dat⟩), (1002, ⟨0, [.tup [], .dat (.sl (z0l L)), .dat (.sl (L.map zf))]⟩)]
theorem qu (p : Nat) (L : List EventM) : (qz p L).length = p := by simp [qz]
theorem y7 {p : Nat} {L : List EventM} {i : Nat} (h : i < p) : (qz p L).getD i default = (qx L i : Int) := by
 simp [qz, List.getD_eq_getElem?_getD, h]
theorem z38 (n : NameM) : ∀ L : List EventM, lkp (z0l L) (L.map zf) (xz n) = (zx L n).map zf
 | [] => rfl
 | e :: L => by
  have ih := z38 n L
  simp only [List.map_cons, lkp, zl7, zx, List.find?_cons, Qk] at ih ⊢
  by_cases h : zz n (evName e) = true
  ·have h' : zz (evName e) n = true := by rw [Zj h]; exact kb _
   simp [h, h']
  ·have h' : zz (evName e) n = false := by
    cases hq : zz (evName e) n
    ·rfl
    ·rw [Zj hq] at h; exact absurd (kb _) h
   simp only [h, h', if_false]
   exact ih
theorem zd8 {F : FC} {o : Oper} {st : ASt} {d : Nat} {t kt et : TypeId} {m k : Operand} {id : Nat} {L : List EventM} {n : NameM} (ho : o.op = .lookup t m k true) (hdst : o.dst = some d) (hd : d < F.N) (ht : ∃ i, ti F.P t = some i ∧ i.tk = .map kt et) (hr : z5t F.P kt)
  (hm : evA st.env m = .mp id) (hob : st.objs id = some ⟨0, [.tup [], .dat (.sl (z0l L)), .dat (.sl (L.map zf))]⟩) (hk : evA st.env k = .dat (xz n)) (hz : ziq F.P et (zf default)) :
  StepOK F o st (st.put (some d) (.tup [.dat (zf ((zx L n).getD default)), .dat (.bool (zx L n).isSome)])) := by
 have := z7b (isK := zth) ho hdst hd ⟨ht, z2e .i64 .i64 hr, hm, hob, by intro q hq; obtain ⟨e, _, rfl⟩ := List.mem_map.1 hq; exact ⟨_, _, rfl⟩⟩ hk ⟨_, _, rfl⟩ hz
 rw [z38, zpl] at this
 cases hf : zx L n with
 | none => rw [hf] at this; exact this
 | some e => rw [hf] at this; exact this
theorem z6c {F : FC} {o : Oper} {st : ASt} {d : Nat} {t kt et : TypeId} {m k : Operand} {id : Nat} {L : List EventM} {n : NameM} (ho : o.op = .lookup t m k false) (hdst : o.dst = some d) (hd : d < F.N) (ht : ∃ i, ti F.P t = some i ∧ i.tk = .map kt et) (hr : z5t F.P kt)
  (hm : evA st.env m = .mp id) (hob : st.objs id = some ⟨0, [.tup [], .dat (.sl (z0l L)), .dat (.sl (L.map zf))]⟩) (hk : evA st.env k = .dat (xz n)) (hz : ziq F.P et (zf default)) :
  StepOK F o st (st.put (some d) (.dat (zf ((zx L n).getD default)))) := by
 have := z7b (isK := zth) ho hdst hd ⟨ht, z2e .i64 .i64 hr, hm, hob, by intro q hq; obtain ⟨e, _, rfl⟩ := List.mem_map.1 hq; exact ⟨_, _, rfl⟩⟩ hk ⟨_, _, rfl⟩ hz
 rw [z38, zlb] at this
 cases hf : zx L n with
 | none => rw [hf] at this; exact this
 | some e => rw [hf] at this; exact this
theorem zxo {L : List EventM} {e : EventM} (h : zx L (evName e) = none) : z5v (z0l L) (xz (evName e)) = z0l (L ++ [e]) ∧ z5w (z0l L) (L.map zf) (xz (evName e)) (zf e) = (L ++ [e]).map zf := by
 have hl := z38 (evName e) L
 rw [h] at hl
 obtain ⟨h1, h2⟩ := zpm (by simp) hl
 rw [h1, h2]
 simp
theorem zxp {F : FC} {o : Oper} {st : ASt} {t kt et : TypeId} {m k y : Operand} {id : Nat} {L : List EventM} {e : EventM} (ho : o.op = .mapUpdate t m k y) (hdst : o.dst = none) (ht : ∃ i, ti F.P t = some i ∧ i.tk = .map kt et) (hr : z5t F.P kt)
  (hm : evA st.env m = .mp id) (hob : st.objs id = some ⟨0, [.tup [], .dat (.sl (z0l L)), .dat (.sl (L.map zf))]⟩) (hk : evA st.env k = .dat (xz (evName e))) (hy : evA st.env y = .dat (zf e)) (hno : zx L (evName e) = none) :
  StepOK F o st (st.obj id ⟨0, [.tup [], .dat (.sl (z0l (L ++ [e]))), .dat (.sl ((L ++ [e]).map zf))]⟩) := by
 have := zc8 (isK := zth) ho hdst ⟨ht, z2e .i64 .i64 hr, hm, hob, by intro q hq; obtain ⟨e, _, rfl⟩ := List.mem_map.1 hq; exact ⟨_, _, rfl⟩⟩ hk ⟨_, _, rfl⟩ hy
 obtain ⟨h1, h2⟩ := zxo hno
 rw [h1, h2] at this
 exact this
def wq (L : List EventM) (c : EventM) (n : NameM) : Bool := decide (c.Tick ≤ ((zx L n).getD default).Tick)
def kh (L : List EventM) (c : EventM) : Bool := c.Seq != (qx L c.By : Int) || c.Refs.any fun n => !(zx L n).isSome
def wv (L : List EventM) (c : EventM) : Bool := c.Refs.any (wq L c) || (decide (0 < c.Seq) && wq L c ⟨c.By, c.Seq - 1⟩)
def zq (p : Nat) (L : List EventM) (c : EventM) : List EventM × Bool × Int :=
 if qn c ≠ 0 then (L, false, qn c)
 else if (p : Int) ≤ c.By then (L, false, 1)
 else if (zx L (evName c)).isSome = true then (L, false, if x4 ((zx L (evName c)).getD default) c = true then 0 else 7)
 else if kh L c = true then (L, false, 10)
 else if wv L c = true then (L, false, 5)
 else (L ++ [c], true, 0)
theorem zsq (L : List EventM) (c : EventM) (b : Int) : (qx (L ++ [c]) b : Int) = if c.By = b then (qx L b : Int) + 1 else qx L b := by
 unfold qx
 rw [List.countP_append]
 by_cases h : c.By = b <;> simp [h]
theorem zgz {p : Nat} {L : List EventM} {c : EventM} (h0 : 0 ≤ c.By) (hp : c.By < p) : (qz p L).set c.By.toNat ((qx L c.By : Int) + 1) = qz p (L ++ [c]) := by
 apply List.ext_getElem (by simp [qz])
 intro i h1 h2
 simp only [qz, List.length_map, List.length_range] at h2
 simp only [List.getElem_set, qz, List.getElem_map, List.getElem_range]
 rw [zsq]
 by_cases hi : c.By = (i : Int)
 ·rw [if_pos (by omega), if_pos hi, hi]
 ·rw [if_neg (by omega), if_neg hi]
theorem z7t : Xl Tryz.prog 47 := by unfold Xl; kernel_rfl
theorem zac : z5t Tryz.prog 81 := by unfold z5t; kernel_rfl
theorem z8u : ziq Tryz.prog 42 (zf default) := by
 refine ⟨.agg #[.int .i64 0, .int .i64 0, .int .i64 0, .int .i64 0, .slice none 0 0, .int .i64 0, .int .i64 0, .int .i64 0, .int .i64 0, .int .i64 0, .int .i64 0, .int .i64 0, .int .i64 0, .int .i64 0, .int .i64 0, .int .i64 0, .int .i64 0, .int .i64 0, .string ⟨#[]⟩, .slice none 0 0, .slice none 0 0, .slice none 0 0, .string ⟨#[]⟩, .int .i64 0, .int .i64 0, .string ⟨#[]⟩, .slice none 0 0, .int .i64 0, .int .i64 0, .int .i64 0, .slice none 0 0, .int .i64 0], by kernel_rfl, fun S w => ?_⟩
 have h0 : ∀ es, RepS S w es [] none := fun es => by simp [RepS]
 simp only [RepX]
 refine ⟨_, rfl, ?_⟩
 simp only [RepL, Rep1]
 repeat' first | exact rfl | exact h0 _ | exact Nat.le_refl _ | refine ⟨_, _, rfl, ?_, ?_⟩ | refine ⟨1, none, 0, rfl, ?_, ?_⟩
theorem zay {x : AV} : ∀ {l L : List AV} {k : Nat} {y : AV}, jm l = some L → z1z x = some y → L[k]? = some y → jm (l.set k x) = some L
 | [], L, k, y, h, _, _ => by simpa using h
 | z :: l, L, k, y, h, hx, hk => by
  rw [jm] at h
  split at h
  ·rename_i z' m hz hm
   simp only [Option.some.injEq] at h
   subst h
   cases k with
   | zero =>
    simp only [List.getElem?_cons_zero, Option.some.injEq] at hk
    subst hk
    simp only [List.set_cons_zero, jm, hx, hm]
   | succ k =>
    have := zay hm hx (by simpa using hk)
    simp only [List.set_cons_succ, jm, hz, this]
  ·cases h
theorem z84 : ∀ l : List Dat, jm (l.map .dat) = some (l.map .dat)
 | [] => rfl
 | d :: l => by simp only [List.map_cons, jm, z1z, z84 l]
theorem zgq (G) (l : List NameM) (hn : l.length ≤ 100000) : GivesX Tryz.prog G 101 [.dat (Qn l)] [] [.osl 7 2 0 l.length] [(7, ⟨2, (l.map xz).map .dat⟩)] := by
 skip
 refine GX [] [] [] Tryz.func101 Tryz.ntmps101 fun F hP hG hN hR hA => ?_
 have hE := @Tryz.results101
 refine WS [0] [] ?_
 apply z3
 refine wp ?_
 apply wy
 ·(iterate 1 apply Seg.cons); exact Seg.nil _
 ·refine RK ?_
  exact SC
 refine Zq rfl rfl rfl (by rw [hN]; omega) (by rw [hP]; exact ti28) rfl rfl fun b hb0 => ?_
 rw [yq]
 apply wi [0, 4] []
 ·refine RN ?_
  exact SC
 refine WI ?_ ?_ <;> intro hb
 ·have hl0 : l = [] := by
   cases l with
   | nil => rfl
   | cons x l =>
    rw [hb0 (by simp)] at hb
    cases hb
  subst hl0
  refine WS [2] [7] ?_
  refine x7 7 2 (by omega) ?_
  refine xx 2 7 2 rfl rfl ?_
  apply z9
  apply za
  exact E0
 ·apply z6
  apply z5
  refine WS [2] [5, 7] ?_
  apply z9
  exact E0
theorem zkl (G) (l : List NameM) (hn : l.length ≤ 100000) : zl Tryz.prog G 101 [Qn l] [Qn l] := (zgq G l hn).row (by simp)
theorem zgt (G) (l : List ByteArray) (hn : l.length ≤ 100000) : GivesX Tryz.prog G 102 [.dat (ssD l)] [] [.osl 7 1 0 l.length] [(7, ⟨1, (l.map sD).map .dat⟩)] := by
 skip
 refine GX [] [] [] Tryz.func102 Tryz.ntmps102 fun F hP hG hN hR hA => ?_
 have hE := @Tryz.results102
 refine WS [0] [] ?_
 apply z3
 refine wp ?_
 apply wy
 ·(iterate 1 apply Seg.cons); exact Seg.nil _
 ·refine RK ?_
  exact SC
 refine Zq rfl rfl rfl (by rw [hN]; omega) (by rw [hP]; exact ti33) rfl rfl fun b hb0 => ?_
 rw [yq]
 apply wi [0, 4] []
 ·refine RN ?_
  exact SC
 refine WI ?_ ?_ <;> intro hb
 ·have hl0 : l = [] := by
   cases l with
   | nil => rfl
   | cons x l =>
    rw [hb0 (by simp)] at hb
    cases hb
  subst hl0
  refine WS [2] [7] ?_
  refine x7 7 1 (by omega) ?_
  refine xx 2 7 1 rfl rfl ?_
  apply z9
  apply za
  exact E0
 ·apply z6
  apply z5
  refine WS [2] [5, 7] ?_
  apply z9
  exact E0
theorem z49 (G) (l : List ByteArray) (hn : l.length ≤ 100000) : zl Tryz.prog G 102 [ssD l] [ssD l] := (zgt G l hn).row (by simp)
theorem zgr (G) (l : List (Int × Int)) (hn : l.length ≤ 100000) : GivesX Tryz.prog G 103 [.dat (z4u l)] [] [.osl 7 2 0 l.length] [(7, ⟨2, (l.map zak).map .dat⟩)] := by
 skip
 refine GX [] [] [] Tryz.func103 Tryz.ntmps103 fun F hP hG hN hR hA => ?_
 have hE := @Tryz.results103
 refine WS [0] [] ?_
 apply z3
 refine wp ?_
 apply wy
 ·(iterate 1 apply Seg.cons); exact Seg.nil _
 ·refine RK ?_
  exact SC
 refine Zq rfl rfl rfl (by rw [hN]; omega) (by rw [hP]; exact ti34) rfl rfl fun b hb0 => ?_
 rw [yq]
 apply wi [0, 4] []
 ·refine RN ?_
  exact SC
 refine WI ?_ ?_ <;> intro hb
 ·have hl0 : l = [] := by
   cases l with
   | nil => rfl
   | cons x l =>
    rw [hb0 (by simp)] at hb
    cases hb
  subst hl0
  refine WS [2] [7] ?_
  refine x7 7 2 (by omega) ?_
  refine xx 2 7 2 rfl rfl ?_
  apply z9
  apply za
  exact E0
 ·apply z6
  apply z5
  refine WS [2] [5, 7] ?_
  apply z9
  exact E0
theorem zkm (G) (l : List (Int × Int)) (hn : l.length ≤ 100000) : zl Tryz.prog G 103 [z4u l] [z4u l] := (zgr G l hn).row (by simp)
theorem zgp (G) (l : List IdM) (hn : l.length ≤ 100000) : GivesX Tryz.prog G 104 [.dat (zec l)] [] [.osl 7 3 0 l.length] [(7, ⟨3, (l.map idD).map .dat⟩)] := by
 skip
 refine GX [] [] [] Tryz.func104 Tryz.ntmps104 fun F hP hG hN hR hA => ?_
 have hE := @Tryz.results104
 refine WS [0] [] ?_
 apply z3
 refine wp ?_
 apply wy
 ·(iterate 1 apply Seg.cons); exact Seg.nil _
 ·refine RK ?_
  exact SC
 refine Zq rfl rfl rfl (by rw [hN]; omega) (by rw [hP]; exact ti35) rfl rfl fun b hb0 => ?_
 rw [yq]
 apply wi [0, 4] []
 ·refine RN ?_
  exact SC
 refine WI ?_ ?_ <;> intro hb
 ·have hl0 : l = [] := by
   cases l with
   | nil => rfl
   | cons x l =>
    rw [hb0 (by simp)] at hb
    cases hb
  subst hl0
  refine WS [2] [7] ?_
  refine x7 7 3 (by omega) ?_
  refine xx 2 7 3 rfl rfl ?_
  apply z9
  apply za
  exact E0
 ·apply z6
  apply z5
  refine WS [2] [5, 7] ?_
  apply z9
  exact E0
theorem zkk (G) (l : List IdM) (hn : l.length ≤ 100000) : zl Tryz.prog G 104 [zec l] [zec l] := (zgp G l hn).row (by simp)
theorem zgs (G) (l : List PostM) (hn : l.length ≤ 100000) : GivesX Tryz.prog G 105 [.dat (zcf l)] [] [.osl 7 5 0 l.length] [(7, ⟨5, (l.map z3i).map .dat⟩)] := by
 skip
 refine GX [] [] [] Tryz.func105 Tryz.ntmps105 fun F hP hG hN hR hA => ?_
 have hE := @Tryz.results105
 refine WS [0] [] ?_
 apply z3
 refine wp ?_
 apply wy
 ·(iterate 1 apply Seg.cons); exact Seg.nil _
 ·refine RK ?_
  exact SC
 refine Zq rfl rfl rfl (by rw [hN]; omega) (by rw [hP]; exact ti40) rfl rfl fun b hb0 => ?_
 rw [yq]
 apply wi [0, 4] []
 ·refine RN ?_
  exact SC
 refine WI ?_ ?_ <;> intro hb
 ·have hl0 : l = [] := by
   cases l with
   | nil => rfl
   | cons x l =>
    rw [hb0 (by simp)] at hb
    cases hb
  subst hl0
  refine WS [2] [5, 7] ?_
  refine x7 7 5 (by omega) ?_
  refine xx 2 7 5 rfl rfl ?_
  apply z9
  apply za
  exact E0
 ·apply z6
  apply z5
  refine WS [2] [5, 7] ?_
  apply z9
  exact E0
theorem z2r (G) (e : EventM) : zl Tryz.prog G 58 [zf e] [xz (evName e)] := by
 skip
 refine GI [] [] [] Tryz.func58 Tryz.ntmps58 fun F hP hG hN hR hA => ?_
 have hE := @Tryz.results58
 refine WS [1, 2] [1, 2] ?_
 refine WS [2] [2] ?_
 apply z9
 simp only [jr, y5, vd, qj, q9, qq, vb, qd, zy, xm, qs, wx, xh, xp, xl, ww, xn, xq, xy, xj, avA, zk, zo, seval, ↓List.forall_mem_cons, Op.operands, hP, hG, tiA, hE, evName]
 all_goals try trivial
set_option maxRecDepth 100000 in
set_option maxHeartbeats 4000000 in
theorem zcd (G) (e : EventM) (h : OkEv e) : zl Tryz.prog G 56 [zf e] [zf e] := by
 have hnr := h.nrefs
 have hnp := h.nposts
 have hnb := h.nbroader
 have hnt := h.op.ntexts
 have hnq := h.op.npairs
 have hni := h.op.nrefs
 skip
 skip
 refine GI [] [35] [] Tryz.func56 Tryz.ntmps56 fun F hP hG hN hR hA => ?_
 have hE := @Tryz.results56
 refine WS [1, 2] [1, 2, 35] ?_
 have hc := gvF hP hG (zkl G e.Refs (by omega))
 refine WSc [1, 2] [1, 2, 35] ?_
 apply w9 [1, 2] [1, 2, 35] [0, 1, 2, 3, 4, 5, 6, 7, 8, 9, 10, 11, 12, 13, 14, 15, 16, 17, 18, 19, 20] []
 ·rw [hP]; kernel_rfl
 ·exact hR
 ·kernel_rfl
 ·(repeat (apply PickL.cons; exact rfl)); exact PickL.nil _
 ·refine RN ?_
  refine CU (z49 G e.Op.Texts (by omega)) ?_
  refine CU (zkm G e.Op.Pairs (by omega)) ?_
  refine CU (zkk G e.Op.Refs (by omega)) ?_
  exact SC
 have hc := gvF hP hG (z49 G e.Term.Broader (by omega))
 refine WSc [1, 2] [1, 2, 35] ?_
 apply zm [1, 2] [1, 2, 35]
 ·refine RN ?_
  refine CX (fun _ => 35) [7] (zgs G e.Posts (by omega)) ?_
  exact SC
 apply z3
 refine WS [1, 2, 38, 39, 40] [1, 2, 35] ?_
 apply z7
 refine WL (ι := {i : Nat // i ≤ e.Posts.length}) [1, 2, 38, 39] [1, 2, 35] (fun ⟨i, hi⟩ => [(40, .dat (iD i))]) (fun ⟨i, hi⟩ => []) (fun ⟨i, hi⟩ => e.Posts.length - i) (⟨0, by omega⟩) ?_
 rintro ⟨i, hi⟩
 refine LA ?_
 refine WS [1, 2, 38, 39, 40, 41] [1, 2, 35] ?_
 apply z3
 refine WI ?_ ?_ <;> intro hb
 ·apply z6
  apply z5
  apply z3
  apply z7
  refine WS [1, 2, 3, 4, 38, 39, 40] [1, 2, 4, 35] ?_
  apply z43 [1, 2, 38, 39, 40] [1, 2, 35] [0, 1, 2, 3, 4, 5, 6, 7, 8] []
  ·rw [hP]; kernel_rfl
  ·exact hR
  ·kernel_rfl
  ·(repeat (apply PickL.cons; exact rfl)); exact PickL.nil _
  ·refine RN ?_
   refine CU (z49 G (e.Posts.getD i default).Path (by have := zt h.posts (i := i) (by omega); have := this.2.1; omega)) ?_
   exact SC
  apply zh
  apply z5
  refine zix 35 (l' := (e.Posts.map z3i).map .dat) rfl (zay (z84 _) rfl (by simp [List.getD_eq_getElem?_getD, show i < e.Posts.length by omega])) ?_
  refine WQ [1, 2, 38, 39, 40] [1, 2, 35] ?_
  refine WN (⟨i + 1, by omega⟩)
 ·apply zj
  apply zc
  have hend : i = e.Posts.length := by omega
  subst hend
  apply zb
  apply zn
  apply z5
  refine WS [2] [2, 35] ?_
  apply z9
  exact E0
abbrev zg6 : AV := .agg [.dat (iD 0), .dat (iD 0), .dat (iD 0), .dat (iD 0), .nils, .dat (iD 0), .dat (iD 0), .dat (iD 0), .dat (iD 0), .dat (iD 0), .dat (iD 0), .dat (iD 0), .dat (iD 0), .dat (iD 0), .dat (iD 0), .dat (iD 0), .dat (iD 0), .dat (iD 0), .dat (sD ⟨#[]⟩), .nils, .nils, .nils, .dat (sD ⟨#[]⟩), .dat (iD 0), .dat (iD 0), .dat (sD ⟨#[]⟩), .nils, .dat (iD 0), .dat (iD 0), .dat (iD 0), .nils, .dat (iD 0)]
abbrev bxA : Nat × AObj := (999, ⟨1, [.ptr 1000 2 0 0]⟩)
set_option maxRecDepth 100000 in
set_option maxHeartbeats 4000000 in
theorem zv8 (G) (p : Nat) (L : List EventM) (n : NameM) : GivesX Tryz.prog G 98 [.dat (xz n), .ptr 999 1 0 0] (bxA :: arO p L) [.dat (bD (!(zx L n).isSome))] (bxA :: arO p L) := by
 skip
 skip
 refine GX [] [] [] Tryz.func98 Tryz.ntmps98 fun F hP hG hN hR hA => ?_
 have hE := @Tryz.results98
 refine WS [1, 2] [2, 999, 1000, 1001, 1002] ?_
 refine WDF [5] [999, 1000, 1001, 1002] [(0, 7, _), (1, 8, _), (2, 9, _), (3, 10, _), (4, 11, _), (5, 12, .tup [.dat (zf ((zx L n).getD default)), .dat (bD (zx L n).isSome)]), (6, 6, .tup [.dat (zf ((zx L n).getD default)), .dat (bD (zx L n).isSome)]), (7, 13, .dat (zf ((zx L n).getD default))), (8, 14, .dat (bD (zx L n).isSome)), (9, 4, .ptr 4 32 0 0), (11, 5, .dat (bD (zx L n).isSome))] [(10, 4, some ⟨32, [.dat (zf ((zx L n).getD default))]⟩), (9, 4, some ⟨32, [zg6]⟩)] ⟨FV 0 [] [1, 2, 3, 5, 6, 7, 8, 10, 11], FV 1 [0] [2, 3, 5, 6, 7, 8, 10, 11], FV 2 [0, 1] [3, 5, 6, 7, 8, 10, 11], FV 3 [0, 1, 2] [5, 6, 7, 8, 10, 11], FV 4 [] [5, 6, 7, 8, 10, 11], (FVs 5 [0, 1, 2, 3, 4] [6, 7, 8, 10, 11] (fun D hA1 hA2 => by simp only [qt, NoD] at hA1 hA2; exact zd8 (kt := 81) (et := 42) (id := 1002) (L := L) (n := n) rfl rfl (by rw [hN]; omega) ⟨_, by rw [hP]; exact ti101, rfl⟩ (by rw [hP]; exact zac) EV' EV' EV' (by rw [hP]; exact z8u))), FV 6 [0, 1, 2, 3, 4, 5] [7, 8, 10, 11], FV 7 [0, 1, 2, 3, 4, 5, 6] [10, 11], FV 8 [0, 1, 2, 3, 4, 5, 6] [11], FNd 9 1 [] [10, 11], FS 0 [0, 1, 2, 3, 4, 5, 6, 7, 9] [11], FV 10 [0, 1, 2, 3, 4, 5, 6, 7, 8, 9, 10] [], trivial⟩ ?_
 refine WS [3] [999, 1000, 1001, 1002] ?_
 apply z9
 exact E0
abbrev bxC (c : EventM) : Nat × AObj := (998, ⟨32, [.dat (zf c)]⟩)
set_option maxRecDepth 100000 in
set_option maxHeartbeats 4000000 in
theorem zej (G) (p : Nat) (L : List EventM) (c : EventM) (n : NameM) : GivesX Tryz.prog G 100 [.dat (xz n), .ptr 999 1 0 0, .ptr 998 32 0 0] (bxA :: bxC c :: arO p L) [.dat (bD (wq L c n))] (bxA :: bxC c :: arO p L) := by
 skip
 skip
 refine GX [] [] [] Tryz.func100 Tryz.ntmps100 fun F hP hG hN hR hA => ?_
 have hE := @Tryz.results100
 refine WS [1, 2, 3] [3, 998, 999, 1000, 1001, 1002] ?_
 refine WDF [4] [998, 999, 1000, 1001, 1002] [(0, 5, _), (1, 6, _), (2, 7, _), (3, 8, _), (4, 9, _), (5, 10, .dat (zf ((zx L n).getD default))), (6, 11, _), (7, 12, _), (8, 13, _), (9, 14, _), (10, 4, _)] [] ⟨FV 0 [] [1, 2, 3, 5, 6, 9, 10], FV 1 [0] [2, 3, 5, 6, 9, 10], FV 2 [0, 1] [3, 5, 6, 9, 10], FV 3 [0, 1, 2] [5, 6, 9, 10], FV 4 [] [5, 6, 9, 10], (FVs 5 [0, 1, 2, 3, 4] [6, 9, 10] (fun D hA1 hA2 => by simp only [qt, NoD] at hA1 hA2; exact z6c (kt := 81) (et := 42) (id := 1002) (L := L) (n := n) rfl rfl (by rw [hN]; omega) ⟨_, by rw [hP]; exact ti101, rfl⟩ (by rw [hP]; exact zac) EV' EV' EV' (by rw [hP]; exact z8u))), FV 6 [0, 1, 2, 3, 4, 5] [9, 10], FV 7 [] [8, 9, 10], FV 8 [7] [9, 10], FV 9 [0, 1, 2, 3, 4, 5, 6, 7, 8] [10], FV 10 [0, 1, 2, 3, 4, 5, 6, 7, 8, 9] [], trivial⟩ ?_
 apply z9
 simp only [jr, y5, vd, qj, q9, qq, vb, qd, zy, xm, qs, wx, xh, xp, xl, ww, xn, xq, xy, xj, avA, zk, zo, seval, ↓List.forall_mem_cons, Op.operands, hP, hG, tiA, hE, wq]
 all_goals try trivial
theorem zoy (G) (p : Nat) (L : List EventM) (l : List NameM) (hl : l.length ≤ 281474976710656) : GivesX Tryz.prog G 138 [.dat (Qn l), .fn 98 [.ptr 999 1 0 0]] (bxA :: arO p L) [.dat (iD (kc (fun n => !(zx L n).isSome) l))] (bxA :: arO p L) := by
 skip
 skip
 refine GX [] [16] [] Tryz.func138 Tryz.ntmps138 fun F hP hG hN hR hA => ?_
 have hE := @Tryz.results138
 refine WS [0, 1] [999, 1000, 1001, 1002] ?_
 apply z3
 refine WS [0, 1, 7, 8] [999, 1000, 1001, 1002] ?_
 apply z7
 refine WL (ι := {i : Nat // i ≤ l.length ∧ ∀ j, j < i → (fun n => !(zx L n).isSome) (l.getD j default) = false}) [0, 1, 7] [999, 1000, 1001, 1002] (fun ⟨i, hif⟩ => [(8, .dat (iD i))]) (fun ⟨i, hif⟩ => []) (fun ⟨i, hif⟩ => l.length - i) (⟨0, by omega, Ze⟩) ?_
 rintro ⟨i, hif⟩
 refine LA ?_
 obtain ⟨hi, hf⟩ := id hif
 refine WS [0, 1, 7, 8, 9] [999, 1000, 1001, 1002] ?_
 apply z3
 refine WI ?_ ?_ <;> intro hb
 ·apply z6
  apply z5
  apply z3
  apply z7
  refine WS [0, 1, 5, 7, 8] [999, 1000, 1001, 1002] ?_
  apply zm [0, 1, 5, 7, 8, 16] [999, 1000, 1001, 1002]
  ·refine RN ?_
   refine CX (fun i => i) [] (zv8 G p L (l.getD i default)) ?_
   exact SC
  refine WI ?_ ?_ <;> intro hb
  ·have hv := Q5 (p := (fun n => !(zx L n).isSome)) (show i < l.length by omega) (by simpa using hb) hf
   have hE := And.intro hE hv
   refine WS [4] [999, 1000, 1001, 1002] ?_
   apply z9
   apply zd
   apply za
   apply zu
   apply zd
   apply za
   exact E0
  ·apply z6
   apply zh
   apply z5
   refine WQ [0, 1, 7, 8] [999, 1000, 1001, 1002] ?_
   refine WN (⟨i + 1, by omega, xf hif.2 (by simpa using hb)⟩)
 ·apply zj
  apply zc
  obtain rfl : i = l.length := by omega
  have hv := Q4 (p := (fun n => !(zx L n).isSome)) hf
  have hE := And.intro hE hv
  apply zb
  apply zn
  apply z5
  refine WS [4] [999, 1000, 1001, 1002] ?_
  apply z9
  exact E0
theorem zko (G) (p : Nat) (L : List EventM) (l : List NameM) (hl : l.length ≤ 281474976710656) : GivesX Tryz.prog G 99 [.dat (Qn l), .fn 98 [.ptr 999 1 0 0]] (bxA :: arO p L) [.dat (bD (l.any (fun n => !(zx L n).isSome)))] (bxA :: arO p L) := by
 have hia : decide (0 ≤ kc (fun n => !(zx L n).isSome) l) = l.any (fun n => !(zx L n).isSome) := by rw [Bool.eq_iff_iff, decide_eq_true_eq]; exact kd
 skip
 skip
 skip
 refine GX [] [7] [] Tryz.func99 Tryz.ntmps99 fun F hP hG hN hR hA => ?_
 have hE := And.intro @Tryz.results99 (@hia)
 refine WS [0, 1] [999, 1000, 1001, 1002] ?_
 apply zm [4] [999, 1000, 1001, 1002]
 ·refine RN ?_
  refine CX (fun i => i) [] (zoy G p L l hl) ?_
  exact SC
 apply z9
 exact E0
theorem zox (G) (p : Nat) (L : List EventM) (c : EventM) (l : List NameM) (hl : l.length ≤ 281474976710656) : GivesX Tryz.prog G 138 [.dat (Qn l), .fn 100 [.ptr 999 1 0 0, .ptr 998 32 0 0]] (bxA :: bxC c :: arO p L) [.dat (iD (kc (wq L c) l))] (bxA :: bxC c :: arO p L) := by
 skip
 skip
 refine GX [] [16] [] Tryz.func138 Tryz.ntmps138 fun F hP hG hN hR hA => ?_
 have hE := @Tryz.results138
 refine WS [0, 1] [998, 999, 1000, 1001, 1002] ?_
 apply z3
 refine WS [0, 1, 7, 8] [998, 999, 1000, 1001, 1002] ?_
 apply z7
 refine WL (ι := {i : Nat // i ≤ l.length ∧ ∀ j, j < i → (wq L c) (l.getD j default) = false}) [0, 1, 7] [998, 999, 1000, 1001, 1002] (fun ⟨i, hif⟩ => [(8, .dat (iD i))]) (fun ⟨i, hif⟩ => []) (fun ⟨i, hif⟩ => l.length - i) (⟨0, by omega, Ze⟩) ?_
 rintro ⟨i, hif⟩
 refine LA ?_
 obtain ⟨hi, hf⟩ := id hif
 refine WS [0, 1, 7, 8, 9] [998, 999, 1000, 1001, 1002] ?_
 apply z3
 refine WI ?_ ?_ <;> intro hb
 ·apply z6
  apply z5
  apply z3
  apply z7
  refine WS [0, 1, 5, 7, 8] [998, 999, 1000, 1001, 1002] ?_
  apply zm [0, 1, 5, 7, 8, 16] [998, 999, 1000, 1001, 1002]
  ·refine RN ?_
   refine CX (fun i => i) [] (zej G p L c (l.getD i default)) ?_
   exact SC
  refine WI ?_ ?_ <;> intro hb
  ·have hv := Q5 (p := (wq L c)) (show i < l.length by omega) (by simpa using hb) hf
   have hE := And.intro hE hv
   refine WS [4] [998, 999, 1000, 1001, 1002] ?_
   apply z9
   apply zd
   apply za
   apply zu
   apply zd
   apply za
   exact E0
  ·apply z6
   apply zh
   apply z5
   refine WQ [0, 1, 7, 8] [998, 999, 1000, 1001, 1002] ?_
   refine WN (⟨i + 1, by omega, xf hif.2 (by simpa using hb)⟩)
 ·apply zj
  apply zc
  obtain rfl : i = l.length := by omega
  have hv := Q4 (p := wq L c) hf
  have hE := And.intro hE hv
  apply zb
  apply zn
  apply z5
  refine WS [4] [998, 999, 1000, 1001, 1002] ?_
  apply z9
  exact E0
theorem z4a (G) (p : Nat) (L : List EventM) (c : EventM) (l : List NameM) (hl : l.length ≤ 281474976710656) : GivesX Tryz.prog G 99 [.dat (Qn l), .fn 100 [.ptr 999 1 0 0, .ptr 998 32 0 0]] (bxA :: bxC c :: arO p L) [.dat (bD (l.any (wq L c)))] (bxA :: bxC c :: arO p L) := by
 have hia : decide (0 ≤ kc (wq L c) l) = l.any (wq L c) := by rw [Bool.eq_iff_iff, decide_eq_true_eq]; exact kd
 skip
 skip
 skip
 refine GX [] [7] [] Tryz.func99 Tryz.ntmps99 fun F hP hG hN hR hA => ?_
 have hE := And.intro @Tryz.results99 (@hia)
 refine WS [0, 1] [998, 999, 1000, 1001, 1002] ?_
 apply zm [4] [998, 999, 1000, 1001, 1002]
 ·refine RN ?_
  refine CX (fun i => i) [] (zox G p L c l hl) ?_
  exact SC
 apply z9
 exact E0
set_option maxRecDepth 100000 in
set_option maxHeartbeats 2000000 in
theorem z3x (G) (e : EventM) (h : OkEv e) : zl Tryz.prog G 32 [zf e] [iD (qn e)] := by
 have hnr := h.nrefs
 have hnp := h.nposts
 have hnb := h.nbroader
 have hoz := z68 h.op
 have hol := h.op.all
 skip
 skip
 refine GI [] [] [] Tryz.func32 Tryz.ntmps32 fun F hP hG hN hR hA => ?_
 have hE := And.intro @Tryz.results32 (And.intro @z0j (And.intro @zbv (@Xz)))
 refine WS [1] [1] ?_
 have hc := gvF hP hG (zvm G e.Kind)
 refine WSc [1, 3] [1, 3] ?_
 apply z3
 apply zm [1, 3, 39] [1, 3]
 ·refine RN ?_
  refine CG (zs0 G e.Op h.op) ?_
  exact SC
 refine WI ?_ ?_ <;> intro hb
 ·have hv := zbd (e := e) (by unfold z36; grind)
  have hE := And.intro hE hv
  refine WS [2] [] ?_
  apply z9
  apply za
  exact E0
 ·have h0 : z36 e = false := by unfold z36; grind
  apply z6
  apply z5
  apply z3
  apply z7
  apply zm [1, 3, 40] [1, 3]
  ·refine RN ?_
   refine CU (z1n G e) ?_
   refine CU (z5k G (evName e)) ?_
   refine CG (Xc G e.Tick 1048576) ?_
   refine CG (Xc G e.Kind 6) ?_
   exact SC
  refine WI ?_ ?_ <;> intro hb
  ·have hv := z1s h0 (.inl (by unfold z26; grind))
   have hE := And.intro hE hv
   refine WS [2] [] ?_
   apply z9
   apply zd
   apply za
   exact E0
  ·have h1 : z26 e = false := by unfold z26; grind
   apply zm [1, 3, 57] [1, 3]
   ·refine RN ?_
    refine CG (zri G e.Op zOp hoz) ?_
    refine CG (zfv G e.Term zs4 (by omega)) ?_
    exact SC
   refine WI ?_ ?_ <;> intro hb
   ·have hv := z1s h0 (.inr (.inl (by unfold z07; grind)))
    have hE := And.intro hE hv
    refine WS [2] [] ?_
    apply z9
    apply zd
    apply za
    exact E0
   ·have h2 : z07 e = false := by unfold z07; grind
    apply zm [1, 3, 80] [1, 3]
    ·refine RN ?_
     refine CG (Xc G e.N 1048576) ?_
     exact SC
    refine WI ?_ ?_ <;> intro hb
    ·have hv := z1s h0 (.inr (.inr (by unfold z0e qm; grind)))
     have hE := And.intro hE hv
     refine WS [2] [] ?_
     apply z9
     apply zd
     apply za
     exact E0
    ·have h3 : z0e e = false ∧ wa e.N 1048576 = true := by unfold z0e qm; grind
     have h123 := And.intro h1 (And.intro h2 h3)
     apply z6
     apply zh
     apply z5
     apply z3
     refine WS [1, 3, 118, 119, 120] [1, 3] ?_
     apply z7
     refine WL (ι := {i : Nat // i ≤ e.Refs.length ∧ ∀ j, j < i → j4 e j = false}) [1, 3, 118, 119] [1, 3] (fun ⟨i, hic⟩ => [(120, .dat (iD i))]) (fun ⟨i, hic⟩ => []) (fun ⟨i, hic⟩ => e.Refs.length - i) (⟨0, by omega, Ze⟩) ?_
     rintro ⟨i, hic⟩
     refine LA ?_
     obtain ⟨hi, hall⟩ := id hic
     have hi1 : ((i : Int) - 1).toNat = i - 1 := by omega
     have hE := And.intro hE hi1
     refine WS [1, 3, 118, 119, 120, 121] [1, 3] ?_
     apply z3
     refine WI ?_ ?_ <;> intro hb
     ·apply z6
      apply z5
      apply z3
      apply z7
      refine WS [1, 3, 4, 5, 118, 119, 120] [1, 3, 5] ?_
      apply w9 [1, 3, 118, 119, 120, 148] [1, 3] [0, 1, 2, 3, 4, 5, 6, 7, 8, 9, 10, 11, 12, 13, 14, 15, 16, 17, 18, 19, 20, 21, 22, 23] []
      ·rw [hP]; kernel_rfl
      ·exact hR
      ·kernel_rfl
      ·(repeat (apply PickL.cons; exact rfl)); exact PickL.nil _
      ·refine RN ?_
       refine CU (z5k G (e.Refs.getD i default)) ?_
       refine CG (z1n G e) ?_
       refine CG (zjl G (e.Refs.getD (i - 1) default) (e.Refs.getD i default)) ?_
       exact SC
      refine WI ?_ ?_ <;> intro hb
      ·have hv := zbe h0 h123 (i := i) (by omega) (by unfold j4 zz; grind)
       have hE := And.intro hE hv
       refine WS [2] [] ?_
       apply z9
       apply zd
       apply za
       apply zu
       apply zd
       apply za
       exact E0
      ·have hnb1 : j4 e i = false := by unfold j4 zz; grind
       apply z6
       apply zh
       apply z5
       refine WQ [1, 3, 118, 119, 120] [1, 3] ?_
       refine WN (⟨i + 1, by omega, xf hic.2 hnb1⟩)
     ·apply zj
      apply zc
      obtain rfl : i = e.Refs.length := by omega
      apply zb
      apply zn
      apply z5
      apply z3
      refine WS [1, 3, 6] [1, 3, 6] ?_
      apply zm [1, 188] [1]
      ·refine RN ?_
       refine CG (z8t G e.Term.Name (by have := h.name; omega)) ?_
       refine CG (z8t G e.Term.See (by have := h.see; omega)) ?_
       refine CG (Xc G e.Term.Kind 2) ?_
       refine CG (Xc G e.Term.Lang 3) ?_
       refine CG (zg5 G e.Term.Broader (by omega) (fun s hs => by have := h.broader s hs; omega)) ?_
       exact SC
      refine WI ?_ ?_ <;> intro hb
      ·have hv := zka h0 h123 hall (by unfold z8y; grind)
       have hE := And.intro hE hv
       refine WS [2] [] ?_
       apply z9
       apply za
       exact E0
      ·have h5 : z8y e = false := by unfold z8y; grind
       apply z6
       apply z5
       apply z3
       refine WS [1, 190, 191, 192] [1] ?_
       apply z7
       refine WL (ι := {i : Nat // i ≤ e.Posts.length ∧ ∀ j, j < i → jg e j = false}) [1, 190, 191] [1] (fun ⟨i, hic⟩ => [(192, .dat (iD i))]) (fun ⟨i, hic⟩ => []) (fun ⟨i, hic⟩ => e.Posts.length - i) (⟨0, by omega, Ze⟩) ?_
       rintro ⟨i, hic⟩
       refine LA ?_
       obtain ⟨hi, hallp⟩ := id hic
       refine WS [1, 190, 191, 192, 193] [1] ?_
       apply z3
       refine WI ?_ ?_ <;> intro hb
       ·have hp := zt h.posts (i := i) (by omega)
        apply z6
        apply z5
        apply z3
        apply z7
        refine WS [1, 8, 190, 191, 192] [1, 8] ?_
        apply zm [1, 190, 191, 192, 218] [1]
        ·refine RN ?_
         refine CG (zg5 G (e.Posts.getD i default).Path (by omega) (fun s hs => by have := hp.2.2 s hs; omega)) ?_
         exact SC
        refine WI ?_ ?_ <;> intro hb
        ·have hv := z8p h0 h123 hall h5 (i := i) (by omega) (by unfold jg qm; grind)
         have hE := And.intro hE hv
         refine WS [2] [] ?_
         apply z9
         apply zd
         apply za
         apply zu
         apply zd
         apply za
         exact E0
        ·have hnb1 : jg e i = false := by unfold jg qm; grind
         apply z6
         apply zh
         apply z5
         refine WQ [1, 190, 191, 192] [1] ?_
         refine WN (⟨i + 1, by omega, xf hic.2 hnb1⟩)
       ·apply zj
        apply zc
        obtain rfl : i = e.Posts.length := by omega
        have hv := zbc h0 h123 hall h5 hallp
        have hE := And.intro hE hv
        apply zb
        apply zn
        apply z5
        refine WS [2] [] ?_
        apply z9
        exact E0
theorem Z6 (L : List EventM) (b : Int) : qx L b ≤ L.length := List.countP_le_length
theorem ze4 {L : List EventM} {n : NameM} {e : EventM} (h : zx L n = some e) : e ∈ L := List.mem_of_find?_eq_some h
theorem Qq {l : List Int} {i : Nat} (h : i < l.length) : (List.map AV.dat (List.map iD l))[i]?.getD AV.junk = .dat (iD (l.getD i default)) := by simp [List.getD_eq_getElem?_getD, h]
theorem zif {l : List Int} {i : Nat} {z : Int} : ((l.map iD).map AV.dat).set i (.dat (iD z)) = ((l.set i z).map iD).map AV.dat := by rw [List.map_set, List.map_set]
theorem zn1 {c : EventM} (h : qn c = 0) : 0 ≤ c.By ∧ c.By < 6 := by
 unfold qn at h
 by_cases h1 : z36 c = true
 ·rw [if_pos h1] at h; cases h
 ·rw [if_neg h1] at h
  by_cases h2 : z26 c = true ∨ z07 c = true ∨ z0e c = true ∨ wa c.N 1048576 = false
  ·rw [if_pos h2] at h; cases h
  ·simp only [not_or, Bool.not_eq_true] at h2
   have := h2.1
   simp only [z26, yl, Bool.or_eq_false_iff, Bool.not_eq_false', Bool.and_eq_true, decide_eq_true_eq] at this
   exact this.1.1.1.1
set_option maxRecDepth 100000 in
set_option maxHeartbeats 8000000 in
theorem zfy (G) (p : Nat) (L : List EventM) (c : EventM) (hp : p ≤ 1000) (hce : OkEv c) (hL : ∀ e ∈ L, OkEv e) (hn : L.length ≤ 100000) : GivesX Tryz.prog G 55 [.ptr 1000 2 0 0, .dat (zf c)] (arO p L) [.dat (bD (zq p L c).2.1), .dat (iD (zq p L c).2.2)] (arO p (zq p L c).1) := by
 have hs64 := hce.seq
 unfold I64 at hs64
 skip
 skip
 skip
 refine GX [] [] [] Tryz.func55 Tryz.ntmps55 fun F hP hG hN hR hA => ?_
 have hE := And.intro @Tryz.results55 (@qu)
 refine WS [2, 3] [2, 3, 1000, 1001, 1002] ?_
 apply z3
 have hc := gvF hP hG (z3x G c hce)
 refine WSc [2, 3, 6] [2, 3, 1000, 1001, 1002] ?_
 refine WS [2, 3, 6, 14] [2, 3, 1000, 1001, 1002] ?_
 refine WI ?_ ?_ <;> intro hb
 ·have hv : zq p L c = (L, false, qn c) := by unfold zq; rw [if_pos (by simpa using hb)]
  have hE := And.intro hE hv
  refine WS [4, 5] [1000, 1001, 1002] ?_
  apply z9
  apply za
  exact E0
 ·have hvd : qn c = 0 := by simpa using hb
  have hby := (zn1 hvd).1
  apply z6
  apply z5
  apply z3
  refine WD [2, 3, 23] [2, 3, 1000, 1001, 1002] [0, 1, 2, 3, 4, 5, 6, 7] [] ?_
  refine WI ?_ ?_ <;> intro hb
  ·have hv : zq p L c = (L, false, 1) := by unfold zq; rw [if_neg (by omega), if_pos (by omega)]
   have hE := And.intro hE hv
   refine WS [4, 5] [1000, 1001, 1002] ?_
   apply z9
   apply za
   exact E0
  ·have hbp : c.By < p := by omega
   apply z6
   apply z5
   apply z3
   refine WDF [2, 3, 7, 8] [2, 3, 7, 1000, 1001, 1002] [(0, 25, _), (1, 26, _), (2, 27, _), (3, 28, _), (4, 29, _), (5, 30, _), (6, 31, .tup [.dat (zf ((zx L (evName c)).getD default)), .dat (bD (zx L (evName c)).isSome)]), (7, 24, .tup [.dat (zf ((zx L (evName c)).getD default)), .dat (bD (zx L (evName c)).isSome)]), (8, 32, .dat (zf ((zx L (evName c)).getD default))), (9, 33, .dat (bD (zx L (evName c)).isSome)), (10, 7, .ptr 7 32 0 0), (12, 8, .dat (bD (zx L (evName c)).isSome))] [(11, 7, some ⟨32, [.dat (zf ((zx L (evName c)).getD default))]⟩), (10, 7, some ⟨32, [zg6]⟩)] ⟨FV 0 [] [1, 2, 3, 6, 7, 8, 9, 11, 12], FV 1 [0] [2, 3, 6, 7, 8, 9, 11, 12], FV 2 [0, 1] [3, 6, 7, 8, 9, 11, 12], FV 3 [0, 1, 2] [6, 7, 8, 9, 11, 12], FV 4 [] [5, 6, 7, 8, 9, 11, 12], (by have hc := gvF hP hG (z2r G c); exact FVc 5 [4] [6, 7, 8, 9, 11, 12]), (FVs 6 [0, 1, 2, 3, 4, 5] [7, 8, 9, 11, 12] (fun D hA1 hA2 => by simp only [qt, NoD] at hA1 hA2; exact zd8 (kt := 81) (et := 42) (id := 1002) (L := L) (n := evName c) rfl rfl (by rw [hN]; omega) ⟨_, by rw [hP]; exact ti101, rfl⟩ (by rw [hP]; exact zac) EV' EV' EV' (by rw [hP]; exact z8u))), FV 7 [0, 1, 2, 3, 4, 5, 6] [8, 9, 11, 12], FV 8 [0, 1, 2, 3, 4, 5, 6, 7] [11, 12], FV 9 [0, 1, 2, 3, 4, 5, 6, 7] [12], FNd 10 1 [] [11, 12], FS 0 [0, 1, 2, 3, 4, 5, 6, 7, 8, 10] [12], FV 11 [0, 1, 2, 3, 4, 5, 6, 7, 8, 9, 10, 11] [], trivial⟩ ?_
   refine WS [2, 3, 7, 34] [2, 3, 7, 1000, 1001, 1002] ?_
   refine WI ?_ ?_ <;> intro hb
   ·obtain ⟨old, hold⟩ := Option.isSome_iff_exists.1 hb
    have hok := hL old (ze4 hold)
    have hE := And.intro hE (And.intro hold (Option.getD_some (a := old) (b := (default : EventM))))
    apply z3
    have hc := gvF hP hG (zoj G old c hok)
    refine WSc [37] [1000, 1001, 1002] ?_
    refine WI ?_ ?_ <;> intro hb
    ·have hv : zq p L c = (L, false, 0) := by unfold zq; rw [if_neg (by omega), if_neg (by omega), if_pos (by rw [hold]; rfl), hold, Option.getD_some, if_pos hb]
     have hE := And.intro hE hv
     refine WS [4, 5] [1000, 1001, 1002] ?_
     apply z9
     apply za
     apply za
     exact E0
    ·have hv : zq p L c = (L, false, 7) := by unfold zq; rw [if_neg (by omega), if_neg (by omega), if_pos (by rw [hold]; rfl), hold, Option.getD_some, if_neg (by simpa using hb)]
     have hE := And.intro hE hv
     apply z6
     apply z5
     refine WS [4, 5] [1000, 1001, 1002] ?_
     apply z9
     apply za
     exact E0
   ·have hno : zx L (evName c) = none := by simpa using hb
    have hcg := y7 (L := L) (i := c.By.toNat) (p := p) (by omega)
    rw [show ((c.By.toNat : Nat) : Int) = c.By by omega] at hcg
    have hcl := Z6 L c.By
    have hrw := Qq (l := qz p L) (i := c.By.toNat) (by rw [qu]; omega)
    rw [hcg] at hrw
    have hE := And.intro hE hrw
    apply z6
    apply z5
    refine WS [2, 3, 9] [2, 3, 1000, 1001, 1002] ?_
    apply z3
    refine v7 (.of [(2, .ptr 2 1 0 0), (3, .ptr 3 32 0 0), (55, .dat (bD (kh L c)))] [(2, ⟨1, [.ptr 1000 2 0 0]⟩), (3, ⟨32, [.dat (zf c)]⟩), (1000, ⟨2, [.agg [.osl 1001 1 0 p, .mp 1002]]⟩), (1001, ⟨1, ((qz p L).map iD).map .dat⟩), (1002, ⟨0, [.tup [], .dat (.sl (z0l L)), .dat (.sl (L.map zf))]⟩)]) ?_ ?_
    ·by_cases hsq : c.Seq = (qx L c.By : Int)
     ·have hn1 : (c.Seq != (qx L c.By : Int)) = false := by simp [hsq]
      have hn2 : kh L c = c.Refs.any fun n => !(zx L n).isSome := by unfold kh; rw [hn1, Bool.false_or]
      have hE := And.intro hE (And.intro hn1 hn2)
      refine z1u [2, 3, 55] [2, 3, 1000, 1001, 1002] [(0, 39, _), (1, 40, _), (2, 41, _), (3, 42, _), (4, 43, _), (5, 44, _), (6, 45, _), (7, 46, _), (8, 47, _), (9, 48, _), (10, 49, .dat (bD false)), (11, 50, .dat (bD false)), (12, 51, _), (13, 52, _), (14, 53, _), (15, 54, .dat (bD (c.Refs.any fun n => !(zx L n).isSome))), (16, 55, _)] [] ⟨FV 0 [] [1, 10, 11, 12, 13, 14, 15, 16], FV 1 [0] [10, 11, 12, 13, 14, 15, 16], FV 2 [] [3, 4, 5, 8, 9, 10, 11, 12, 13, 14, 15, 16], FV 3 [2] [4, 5, 8, 9, 10, 11, 12, 13, 14, 15, 16], FV 4 [2, 3] [5, 8, 9, 10, 11, 12, 13, 14, 15, 16], FV 5 [2, 3, 4] [8, 9, 10, 11, 12, 13, 14, 15, 16], FV 6 [] [7, 8, 9, 10, 11, 12, 13, 14, 15, 16], FV 7 [6] [8, 9, 10, 11, 12, 13, 14, 15, 16], FV 8 [2, 3, 4, 5, 6, 7] [9, 10, 11, 12, 13, 14, 15, 16], FV 9 [2, 3, 4, 5, 6, 7, 8] [10, 11, 12, 13, 14, 15, 16], FV 10 [0, 1, 2, 3, 4, 5, 6, 7, 8, 9] [11, 12, 13, 14, 15, 16], FV 11 [0, 1, 2, 3, 4, 5, 6, 7, 8, 9, 10] [12, 13, 14, 15, 16], FG 12 [0, 1, 2, 3, 4, 5, 6, 7, 8, 9, 10, 11] [13, 15, 16], FG 13 [0, 1, 2, 3, 4, 5, 6, 7, 8, 9, 10, 11, 12] [15, 16], FG 14 [0, 1, 2, 3, 4, 5, 6, 7, 8, 9, 10, 11] [15, 16], (FGs 15 [0, 1, 2, 3, 4, 5, 6, 7, 8, 9, 10, 11, 12, 13, 14] [16] (fun D hA1 hA2 => by simp only [qt, NoD] at hA1 hA2; exact xk (m := fun i => if i = 999 then 2 else i) rfl rfl (by rw [hN]; omega) EV' (z0r hP hG (zko G p L c.Refs (by have := hce.nrefs; omega))) EX' (wh hN EL' (by rfl)))), FV 16 [0, 1, 2, 3, 4, 5, 6, 7, 8, 9, 10, 11, 12, 13, 14, 15] [], trivial⟩ ?_
      exact ML
     ·have hn1 : (c.Seq != (qx L c.By : Int)) = true := by simp [hsq]
      have hn2 : kh L c = true := by unfold kh; rw [hn1, Bool.true_or]
      have hE := And.intro hE (And.intro hn1 hn2)
      refine z1u [2, 3, 55] [2, 3, 1000, 1001, 1002] [(0, 39, _), (1, 40, _), (2, 41, _), (3, 42, _), (4, 43, _), (5, 44, _), (6, 45, _), (7, 46, _), (8, 47, _), (9, 48, _), (10, 49, .dat (bD true)), (11, 50, .dat (bD true)), (12, 51, .cond false .junk), (13, 52, .cond false .junk), (14, 53, .cond false .junk), (15, 54, .cond false (.dat (bD false))), (16, 55, _)] [] ⟨FV 0 [] [1, 10, 11, 12, 13, 14, 15, 16], FV 1 [0] [10, 11, 12, 13, 14, 15, 16], FV 2 [] [3, 4, 5, 8, 9, 10, 11, 12, 13, 14, 15, 16], FV 3 [2] [4, 5, 8, 9, 10, 11, 12, 13, 14, 15, 16], FV 4 [2, 3] [5, 8, 9, 10, 11, 12, 13, 14, 15, 16], FV 5 [2, 3, 4] [8, 9, 10, 11, 12, 13, 14, 15, 16], FV 6 [] [7, 8, 9, 10, 11, 12, 13, 14, 15, 16], FV 7 [6] [8, 9, 10, 11, 12, 13, 14, 15, 16], FV 8 [2, 3, 4, 5, 6, 7] [9, 10, 11, 12, 13, 14, 15, 16], FV 9 [2, 3, 4, 5, 6, 7, 8] [10, 11, 12, 13, 14, 15, 16], FV 10 [0, 1, 2, 3, 4, 5, 6, 7, 8, 9] [11, 12, 13, 14, 15, 16], FV 11 [0, 1, 2, 3, 4, 5, 6, 7, 8, 9, 10] [12, 13, 14, 15, 16], FO 12 [0, 1, 2, 3, 4, 5, 6, 7, 8, 9, 10, 11] [13, 15, 16], FO 13 [0, 1, 2, 3, 4, 5, 6, 7, 8, 9, 10, 11, 12] [15, 16], FO 14 [0, 1, 2, 3, 4, 5, 6, 7, 8, 9, 10, 11] [15, 16], FO 15 [0, 1, 2, 3, 4, 5, 6, 7, 8, 9, 10, 11, 12, 13, 14] [16], FV 16 [0, 1, 2, 3, 4, 5, 6, 7, 8, 9, 10, 11, 12, 13, 14, 15] [], trivial⟩ ?_
      exact ML
    refine WI ?_ ?_ <;> intro hb
    ·have hv : zq p L c = (L, false, 10) := by unfold zq; rw [if_neg (by omega), if_neg (by omega), if_neg (by rw [hno]; simp), if_pos hb]
     have hE := And.intro hE hv
     refine WS [4, 5] [1000, 1001, 1002] ?_
     apply z9
     apply za
     exact E0
    ·apply z6
     apply z5
     refine WS [2, 3, 10] [2, 3, 1000, 1001, 1002] ?_
     apply z3
     refine v7 (.of [(2, .ptr 2 1 0 0), (3, .ptr 3 32 0 0), (75, .dat (bD (wv L c)))] [(2, ⟨1, [.ptr 1000 2 0 0]⟩), (3, ⟨32, [.dat (zf c)]⟩), (1000, ⟨2, [.agg [.osl 1001 1 0 p, .mp 1002]]⟩), (1001, ⟨1, ((qz p L).map iD).map .dat⟩), (1002, ⟨0, [.tup [], .dat (.sl (z0l L)), .dat (.sl (L.map zf))]⟩)]) ?_ ?_
     ·rcases hla : c.Refs.any (wq L c) with _ | _
      ·by_cases hs0 : 0 < c.Seq
       ·have hd0 : decide (0 < c.Seq) = true := by simpa using hs0
        have ht : wv L c = wq L c ⟨c.By, c.Seq - 1⟩ := by unfold wv; rw [hla, hd0, Bool.false_or, Bool.true_and]
        have hE := And.intro hE (And.intro hla (And.intro hd0 ht))
        refine Zk [2, 3, 75] [2, 3, 1000, 1001, 1002] [(0, 57, _), (1, 58, _), (2, 59, _), (3, 60, .dat (bD (c.Refs.any (wq L c)))), (4, 61, .dat (bD false)), (5, 62, _), (6, 63, _), (7, 64, .dat (bD true)), (8, 65, .dat (bD true)), (9, 66, _), (10, 67, _), (11, 68, _), (12, 69, _), (13, 70, _), (14, 71, .dat (iD (c.Seq - 1))), (15, 72, .dat (xz ⟨c.By, c.Seq - 1⟩)), (16, 73, .dat (bD (wq L c ⟨c.By, c.Seq - 1⟩))), (17, 74, _), (18, 75, _)] [] ⟨FV 0 [] [1, 3, 4, 5, 6, 7, 8, 9, 10, 11, 12, 13, 14, 15, 16, 17, 18], FV 1 [0] [3, 4, 5, 6, 7, 8, 9, 10, 11, 12, 13, 14, 15, 16, 17, 18], FV 2 [] [3, 4, 5, 6, 7, 8, 9, 10, 11, 12, 13, 14, 15, 16, 17, 18], (FVs 3 [0, 1, 2] [4, 5, 6, 7, 8, 9, 10, 11, 12, 13, 14, 15, 16, 17, 18] (fun D hA1 hA2 => by simp only [qt, NoD] at hA1 hA2; exact xk (m := fun i => if i = 999 then 2 else if i = 998 then 3 else i) rfl rfl (by rw [hN]; omega) EV' (z0r hP hG (z4a G p L c c.Refs (by have := hce.nrefs; omega))) EX' (wh hN EL' (by rfl)))), FV 4 [0, 1, 2, 3] [5, 6, 7, 8, 9, 10, 11, 12, 13, 14, 15, 16, 17, 18], FG 5 [0, 1, 2, 3, 4] [6, 7, 8, 9, 10, 11, 12, 13, 14, 15, 16, 17, 18], FG 6 [0, 1, 2, 3, 4, 5] [7, 8, 9, 10, 11, 12, 13, 14, 15, 16, 17, 18], FG 7 [0, 1, 2, 3, 4, 5, 6] [8, 9, 10, 11, 12, 13, 14, 15, 16, 17, 18], FG 8 [0, 1, 2, 3, 4, 5, 6, 7] [9, 10, 11, 12, 13, 14, 15, 16, 17, 18], FG 9 [0, 1, 2, 3, 4, 5, 6, 7, 8] [16, 17, 18], FG 10 [0, 1, 2, 3, 4, 5, 6, 7, 8] [11, 15, 16, 17, 18], FG 11 [0, 1, 2, 3, 4, 5, 6, 7, 8, 10] [15, 16, 17, 18], FG 12 [0, 1, 2, 3, 4, 5, 6, 7, 8] [13, 14, 15, 16, 17, 18], FG 13 [0, 1, 2, 3, 4, 5, 6, 7, 8, 12] [14, 15, 16, 17, 18], FG 14 [0, 1, 2, 3, 4, 5, 6, 7, 8, 12, 13] [15, 16, 17, 18], FG 15 [0, 1, 2, 3, 4, 5, 6, 7, 8, 10, 11, 12, 13, 14] [16, 17, 18], (FGs 16 [0, 1, 2, 3, 4, 5, 6, 7, 8, 9, 10, 11, 12, 13, 14, 15] [17, 18] (fun D hA1 hA2 => by simp only [qt, NoD] at hA1 hA2; exact xk (m := fun i => if i = 999 then 2 else if i = 998 then 3 else i) rfl rfl (by rw [hN]; omega) EV' (z0r hP hG (zej G p L c ⟨c.By, c.Seq - 1⟩)) EX' (wh hN EL' (by rfl)))), FG 17 [0, 1, 2, 3, 4, 5, 6, 7, 8, 9, 10, 11, 12, 13, 14, 15, 16] [18], FV 18 [0, 1, 2, 3, 4, 5, 6, 7, 8, 9, 10, 11, 12, 13, 14, 15, 16, 17] [], trivial⟩ ?_
        exact ML
       ·have hd0 : decide (0 < c.Seq) = false := by simpa using hs0
        have ht : wv L c = false := by unfold wv; rw [hla, hd0]; rfl
        have hE := And.intro hE (And.intro hla (And.intro hd0 ht))
        refine Zk [2, 3, 75] [2, 3, 1000, 1001, 1002] [(0, 57, _), (1, 58, _), (2, 59, _), (3, 60, .dat (bD (c.Refs.any (wq L c)))), (4, 61, .dat (bD false)), (5, 62, _), (6, 63, _), (7, 64, .dat (bD false)), (8, 65, .dat (bD false)), (9, 66, .cond false .junk), (10, 67, .cond false .junk), (11, 68, .cond false .junk), (12, 69, .cond false .junk), (13, 70, .cond false .junk), (14, 71, .cond false .junk), (15, 72, .cond false .junk), (16, 73, .cond false (.dat (bD false))), (17, 74, _), (18, 75, _)] [] ⟨FV 0 [] [1, 3, 4, 5, 6, 7, 8, 9, 10, 11, 12, 13, 14, 15, 16, 17, 18], FV 1 [0] [3, 4, 5, 6, 7, 8, 9, 10, 11, 12, 13, 14, 15, 16, 17, 18], FV 2 [] [3, 4, 5, 6, 7, 8, 9, 10, 11, 12, 13, 14, 15, 16, 17, 18], (FVs 3 [0, 1, 2] [4, 5, 6, 7, 8, 9, 10, 11, 12, 13, 14, 15, 16, 17, 18] (fun D hA1 hA2 => by simp only [qt, NoD] at hA1 hA2; exact xk (m := fun i => if i = 999 then 2 else if i = 998 then 3 else i) rfl rfl (by rw [hN]; omega) EV' (z0r hP hG (z4a G p L c c.Refs (by have := hce.nrefs; omega))) EX' (wh hN EL' (by rfl)))), FV 4 [0, 1, 2, 3] [5, 6, 7, 8, 9, 10, 11, 12, 13, 14, 15, 16, 17, 18], FG 5 [0, 1, 2, 3, 4] [6, 7, 8, 9, 10, 11, 12, 13, 14, 15, 16, 17, 18], FG 6 [0, 1, 2, 3, 4, 5] [7, 8, 9, 10, 11, 12, 13, 14, 15, 16, 17, 18], FG 7 [0, 1, 2, 3, 4, 5, 6] [8, 9, 10, 11, 12, 13, 14, 15, 16, 17, 18], FG 8 [0, 1, 2, 3, 4, 5, 6, 7] [9, 10, 11, 12, 13, 14, 15, 16, 17, 18], FO 9 [0, 1, 2, 3, 4, 5, 6, 7, 8] [16, 17, 18], FO 10 [0, 1, 2, 3, 4, 5, 6, 7, 8] [11, 15, 16, 17, 18], FO 11 [0, 1, 2, 3, 4, 5, 6, 7, 8, 10] [15, 16, 17, 18], FO 12 [0, 1, 2, 3, 4, 5, 6, 7, 8] [13, 14, 15, 16, 17, 18], FO 13 [0, 1, 2, 3, 4, 5, 6, 7, 8, 12] [14, 15, 16, 17, 18], FO 14 [0, 1, 2, 3, 4, 5, 6, 7, 8, 12, 13] [15, 16, 17, 18], FO 15 [0, 1, 2, 3, 4, 5, 6, 7, 8, 10, 11, 12, 13, 14] [16, 17, 18], FO 16 [0, 1, 2, 3, 4, 5, 6, 7, 8, 9, 10, 11, 12, 13, 14, 15] [17, 18], FG 17 [0, 1, 2, 3, 4, 5, 6, 7, 8, 9, 10, 11, 12, 13, 14, 15, 16] [18], FV 18 [0, 1, 2, 3, 4, 5, 6, 7, 8, 9, 10, 11, 12, 13, 14, 15, 16, 17] [], trivial⟩ ?_
        exact ML
      ·have ht : wv L c = true := by unfold wv; rw [hla]; rfl
       have hE := And.intro hE (And.intro hla ht)
       refine Zk [2, 3, 75] [2, 3, 1000, 1001, 1002] [(0, 57, _), (1, 58, _), (2, 59, _), (3, 60, .dat (bD (c.Refs.any (wq L c)))), (4, 61, .dat (bD true)), (5, 62, .cond false .junk), (6, 63, .cond false .junk), (7, 64, .cond false .junk), (8, 65, .cond false (.dat (bD false))), (9, 66, .cond false .junk), (10, 67, .cond false .junk), (11, 68, .cond false .junk), (12, 69, .cond false .junk), (13, 70, .cond false .junk), (14, 71, .cond false .junk), (15, 72, .cond false .junk), (16, 73, .cond false .junk), (17, 74, .cond false (.dat (bD false))), (18, 75, _)] [] ⟨FV 0 [] [1, 3, 4, 5, 6, 7, 8, 9, 10, 11, 12, 13, 14, 15, 16, 17, 18], FV 1 [0] [3, 4, 5, 6, 7, 8, 9, 10, 11, 12, 13, 14, 15, 16, 17, 18], FV 2 [] [3, 4, 5, 6, 7, 8, 9, 10, 11, 12, 13, 14, 15, 16, 17, 18], (FVs 3 [0, 1, 2] [4, 5, 6, 7, 8, 9, 10, 11, 12, 13, 14, 15, 16, 17, 18] (fun D hA1 hA2 => by simp only [qt, NoD] at hA1 hA2; exact xk (m := fun i => if i = 999 then 2 else if i = 998 then 3 else i) rfl rfl (by rw [hN]; omega) EV' (z0r hP hG (z4a G p L c c.Refs (by have := hce.nrefs; omega))) EX' (wh hN EL' (by rfl)))), FV 4 [0, 1, 2, 3] [5, 6, 7, 8, 9, 10, 11, 12, 13, 14, 15, 16, 17, 18], FO 5 [0, 1, 2, 3, 4] [6, 7, 8, 9, 10, 11, 12, 13, 14, 15, 16, 17, 18], FO 6 [0, 1, 2, 3, 4, 5] [7, 8, 9, 10, 11, 12, 13, 14, 15, 16, 17, 18], FO 7 [0, 1, 2, 3, 4, 5, 6] [8, 9, 10, 11, 12, 13, 14, 15, 16, 17, 18], FO 8 [0, 1, 2, 3, 4, 5, 6, 7] [9, 10, 11, 12, 13, 14, 15, 16, 17, 18], FO 9 [0, 1, 2, 3, 4, 5, 6, 7, 8] [16, 17, 18], FO 10 [0, 1, 2, 3, 4, 5, 6, 7, 8] [11, 15, 16, 17, 18], FO 11 [0, 1, 2, 3, 4, 5, 6, 7, 8, 10] [15, 16, 17, 18], FO 12 [0, 1, 2, 3, 4, 5, 6, 7, 8] [13, 14, 15, 16, 17, 18], FO 13 [0, 1, 2, 3, 4, 5, 6, 7, 8, 12] [14, 15, 16, 17, 18], FO 14 [0, 1, 2, 3, 4, 5, 6, 7, 8, 12, 13] [15, 16, 17, 18], FO 15 [0, 1, 2, 3, 4, 5, 6, 7, 8, 10, 11, 12, 13, 14] [16, 17, 18], FO 16 [0, 1, 2, 3, 4, 5, 6, 7, 8, 9, 10, 11, 12, 13, 14, 15] [17, 18], FO 17 [0, 1, 2, 3, 4, 5, 6, 7, 8, 9, 10, 11, 12, 13, 14, 15, 16] [18], FV 18 [0, 1, 2, 3, 4, 5, 6, 7, 8, 9, 10, 11, 12, 13, 14, 15, 16, 17] [], trivial⟩ ?_
       exact ML
     refine WI ?_ ?_ <;> intro hb
     ·have hv : zq p L c = (L, false, 5) := by unfold zq; rw [if_neg (by omega), if_neg (by omega), if_neg (by rw [hno]; simp), if_neg (by simp_all), if_pos hb]
      have hE := And.intro hE hv
      refine WS [4, 5] [1000, 1001, 1002] ?_
      apply z9
      apply za
      exact E0
     ·have hv : zq p L c = (L ++ [c], true, 0) := by unfold zq; rw [if_neg (by omega), if_neg (by omega), if_neg (by rw [hno]; simp), if_neg (by simp_all), if_neg (by simp_all)]
      apply z6
      apply z5
      refine WDF [2, 3] [2, 3, 1000, 1001, 1002] [(0, 76, _), (1, 77, _), (2, 78, _), (3, 79, _), (4, 80, _), (5, 81, _), (6, 82, _), (7, 83, _)] [(8, 1002, some ⟨0, [.tup [], .dat (.sl (z0l (L ++ [c]))), .dat (.sl ((L ++ [c]).map zf))]⟩)] ⟨FV 0 [] [1, 2, 3, 8], FV 1 [0] [2, 3, 8], FV 2 [0, 1] [3, 8], FV 3 [0, 1, 2] [8], FV 4 [] [5, 7, 8], (by have hc := gvF hP hG (z2r G c); exact FVc 5 [4] [7, 8]), FV 6 [] [7, 8], (by have hc := gvF hP hG (zcd G c hce); exact FVc 7 [4, 5, 6] [8]), (FSs 0 [0, 1, 2, 3, 4, 5, 6, 7] [] (fun D hA1 hA2 => by simp only [qt, NoD] at hA1 hA2; exact zxp (id := 1002) (L := L) (e := c) rfl rfl ⟨_, by rw [hP]; exact ti101, rfl⟩ (by rw [hP]; exact zac) EV' EV' EV' EV' hno)), trivial⟩ ?_
      have hE := And.intro hE (And.intro @zif (And.intro (zgz (L := L) hby hbp) hv))
      refine WD [] [1000, 1001, 1002] [0, 1, 2, 3, 4, 5, 6, 7, 8, 9, 10] [] ?_
      refine WS [4, 5] [1000, 1001, 1002] ?_
      apply z9
      exact E0
theorem znt (i : Nat) : (AV.mp i).cells = [AV.mp i] := rfl
def xd (L : List EventM) (b : Int) (n : Nat) : List EventM := (List.range n).map fun k : Nat => (zx L ⟨b, (k : Int)⟩).getD default
theorem w6 (L : List EventM) (b : Int) (n : Nat) : (xd L b n).length = n := by simp [xd]
theorem zdi (L : List EventM) (b : Int) (n : Nat) : xd L b (n + 1) = xd L b n ++ [(zx L ⟨b, (n : Int)⟩).getD default] := by simp [xd, List.range_succ]
theorem z0h (L : List EventM) (b : Int) (n : Nat) : List.take n (xd L b n) = xd L b n := List.take_of_length_le (by simp [w6])
def sumN (l : List EventM) : Nat → List Int
 | 0 => List.replicate 16 0
 | i + 1 => dgM 1 [vv (sumN l i), vv (dgM 7 [vv (evB (l.getD i default))])]
def z00 (l : List EventM) : List Int := sumN l l.length
theorem zj2 (t : Int) (l : List ByteArray) : (dgM t l).length = 16 := by simp [dgM, zfw]
theorem Qv (l : List EventM) : ∀ i, (sumN l i).length = 16
 | 0 => by simp [sumN]
 | i + 1 => zj2 _ _
def clkN (L : List EventM) : Nat → Int
 | 0 => 0
 | i + 1 => if 0 < qx L (i : Int) then (if clkN L i < ((zx L ⟨(i : Int), (qx L (i : Int) : Int) - 1⟩).getD default).Tick then ((zx L ⟨(i : Int), (qx L (i : Int) : Int) - 1⟩).getD default).Tick else clkN L i) else clkN L i
theorem zi4 (n : Nat) : List.replicate n (AV.dat (iD 0)) = ((qz n []).map iD).map AV.dat := by
 apply List.ext_getElem (by simp [qz])
 intro i h1 h2
 simp [qz, qx]
theorem zc9 (G) (n : Nat) (h1 : 1 ≤ n) (h6 : n ≤ 6) : GivesX Tryz.prog G 34 [.dat (iD n)] [] [.ptr 14 2 0 0, .dat (iD 0)] [(14, ⟨2, [.agg [.osl 11 1 0 n, .mp 12]]⟩), (11, ⟨1, ((qz n []).map iD).map .dat⟩), (12, ⟨0, [.tup [], .dat (.sl []), .dat (.sl [])]⟩)] := by
 have hrp := zi4 n
 skip
 skip
 skip
 refine GX [] [] [] Tryz.func34 Tryz.ntmps34 fun F hP hG hN hR hA => ?_
 have hE := And.intro @Tryz.results34 (And.intro @hrp (And.intro @znt (@jl)))
 refine WS [0] [11, 12, 14] ?_
 apply z3
 refine WS [0, 9] [11, 12, 14] ?_
 refine WI ?_ ?_ <;> intro hb
 ·exact absurd hb (by simp; omega)
 ·apply z6
  apply z5
  refine wp ?_
  apply wy
  ·(iterate 2 apply Seg.cons); exact Seg.nil _
  ·refine RK ?_
   exact SC
  refine yg rfl (zhq rfl rfl (by rw [hN]; omega)) ?_
  simp only [avA, seval]
  apply wi [2, 3] [11, 14, 12]
  ·refine RN ?_
   exact SC
  apply z9
  exact E0
set_option maxRecDepth 100000 in
set_option maxHeartbeats 2000000 in
theorem z1e (G) (p : Nat) (L : List EventM) (b : Int) (n : Nat) (hn : n ≤ 100000) : GivesX Tryz.prog G 52 [.ptr 1000 2 0 0, .dat (iD b), .dat (iD n)] (arO p L) [.dat (zr (xd L b n))] (arO p L) := by
 skip
 skip
 skip
 refine GX [] [] [] Tryz.func52 Tryz.ntmps52 fun F hP hG hN hR hA => ?_
 have hE := And.intro @Tryz.results52 (And.intro @w6 (And.intro @jl (And.intro @Zm (And.intro @Nat.min_self (@z0h)))))
 refine WS [0, 1, 2] [23, 1000, 1001, 1002] ?_
 refine WS [0, 1, 2, 7] [23, 1000, 1001, 1002] ?_
 apply z3
 refine WS [0, 1, 7, 9, 10] [23, 1000, 1001, 1002] ?_
 apply z7
 refine x7 23 32 (by omega) ?_
 refine xx 7 23 32 rfl rfl ?_
 refine WL (ι := {k : Nat // k ≤ n}) [0, 1, 9] [22, 1000, 1001, 1002] (fun ⟨k, hk⟩ => [(7, .osl 23 32 0 k), (10, .dat (iD k))]) (fun ⟨k, hk⟩ => [(23, ⟨32, ((xd L b k).map zf).map .dat⟩)]) (fun ⟨k, hk⟩ => n - k) (⟨0, by omega⟩) ?_
 rintro ⟨k, hk⟩
 refine LA ?_
 refine WS [0, 1, 7, 9, 10, 11] [22, 23, 1000, 1001, 1002] ?_
 apply z3
 refine WI ?_ ?_ <;> intro hb
 ·apply z6
  apply z5
  apply z3
  apply z7
  refine WS [0, 1, 7, 8, 9, 10] [22, 23, 1000, 1001, 1002] ?_
  refine z1a ?_
  apply wy
  ·(iterate 8 apply Seg.cons); exact Seg.nil _
  ·refine RK ?_
   exact SC
  refine yg rfl (z6c (kt := 81) (et := 42) (id := 1002) (L := L) (n := ⟨b, (k : Int)⟩) rfl rfl (by rw [hN]; omega) ⟨_, by rw [hP]; exact ti101, rfl⟩ (by rw [hP]; exact zac) rfl rfl rfl (by rw [hP]; exact z8u)) ?_
  rw [yq]
  apply wi [0, 1, 7, 9, 10] [22, 23, 1000, 1001, 1002]
  ·refine RN ?_
   exact SC
  apply zh
  apply z5
  have hE := And.intro hE (zdi L b k)
  refine WQ [0, 1, 7, 9, 10] [22, 23, 1000, 1001, 1002] ?_
  refine WN (⟨k + 1, by omega⟩)
 ·apply zj
  apply zc
  have hend : k = n := by omega
  subst hend
  apply zb
  apply zn
  apply z5
  refine Xe 23 hR.2.2.2 rfl (datE_map _) rfl ?_
  have htk : List.take k ((xd L b k).map zf) = (xd L b k).map zf := List.take_of_length_le (by simp [w6])
  simp (disch := omega) only [avA, zk, zo, seval, hE, htk]
  refine WS [6] [22, 23, 1000, 1001, 1002] ?_
  apply z9
  exact E0
set_option maxRecDepth 100000 in
set_option maxHeartbeats 2000000 in
theorem z9h (G) (p : Nat) (hp : p ≤ 1000) (L : List EventM) (hL : L.length ≤ 100000) : GivesX Tryz.prog G 43 [.ptr 1000 2 0 0] (arO p L) [.dat (iD (clkN L p))] (arO p L) := by
 skip
 skip
 skip
 refine GX [] [] [] Tryz.func43 Tryz.ntmps43 fun F hP hG hN hR hA => ?_
 have hE := And.intro @Tryz.results43 (And.intro @z7t (@qu))
 refine WS [0] [1000, 1001, 1002] ?_
 apply z3
 refine WS [0, 7] [1000, 1001, 1002] ?_
 refine WI ?_ ?_ <;> intro hb
 ·exact absurd hb (by simp)
 ·apply z6
  apply z5
  refine WS [0, 3] [1000, 1001, 1002] ?_
  apply z3
  refine WS [0, 3, 11, 12, 13] [1000, 1001, 1002] ?_
  apply z7
  refine WL (ι := {i : Nat // i ≤ p}) [0, 11, 12] [1000, 1001, 1002] (fun ⟨i, hi⟩ => [(13, .dat (iD i)), (3, .dat (iD (clkN L i)))]) (fun ⟨i, hi⟩ => []) (fun ⟨i, hi⟩ => p - i) (⟨0, by omega⟩) ?_
  rintro ⟨i, hi⟩
  refine LA ?_
  refine WS [0, 3, 11, 12, 13, 14] [1000, 1001, 1002] ?_
  apply z3
  refine WI ?_ ?_ <;> intro hb
  ·have hcg := y7 (L := L) (i := i) (p := p) (by omega)
   have hrw := Qq (l := qz p L) (i := i) (by rw [qu]; omega)
   rw [hcg] at hrw
   have hcl := Z6 L (i : Int)
   have hE := And.intro hE hrw
   have hc1 := clkN.eq_2 L i
   apply z6
   apply z5
   apply z3
   apply z7
   refine WS [0, 3, 4, 5, 11, 12, 13] [1000, 1001, 1002] ?_
   refine WS [0, 3, 4, 5, 11, 12, 13, 19] [1000, 1001, 1002] ?_
   refine WI ?_ ?_ <;> intro hb
   ·rw [if_pos (by omega)] at hc1
    have hE := And.intro hE hc1
    refine z1a ?_
    apply wy
    ·(iterate 9 apply Seg.cons); exact Seg.nil _
    ·refine RK ?_
     exact SC
    refine yg rfl (z6c (kt := 81) (et := 42) (id := 1002) (L := L) (n := ⟨(i : Int), (qx L (i : Int) : Int) - 1⟩) rfl rfl (by rw [hN]; omega) ⟨_, by rw [hP]; exact ti101, rfl⟩ (by rw [hP]; exact zac) rfl rfl rfl (by rw [hP]; exact z8u)) ?_
    rw [yq]
    apply wi [0, 3, 11, 12, 13] [1000, 1001, 1002]
    ·refine RN ?_
     exact SC
    apply zh
    apply z5
    refine WQ [0, 3, 11, 12, 13] [1000, 1001, 1002] ?_
    refine WN (⟨i + 1, by omega⟩)
   ·rw [if_neg (by omega)] at hc1
    have hE := And.intro hE hc1
    apply z6
    apply zh
    apply z5
    refine WQ [0, 3, 11, 12, 13] [1000, 1001, 1002] ?_
    refine WN (⟨i + 1, by omega⟩)
  ·apply zj
   apply zc
   have hend : i = p := by omega
   subst hend
   apply zb
   apply zn
   apply z5
   refine WS [2] [1000, 1001, 1002] ?_
   apply z9
   exact E0
theorem zyt (a b : List Int) (ha : a.length = 16) (hb : b.length = 16) : ∀ s ∈ [vv a, vv b], s.size ≤ 1000000 := by
 intro s hs
 simp only [List.mem_cons, List.not_mem_nil, or_false] at hs
 rcases hs with rfl | rfl <;> rw [z2s] <;> omega
set_option maxRecDepth 100000 in
set_option maxHeartbeats 2000000 in
theorem zs8 (G) (hgk : G.lookup 1 = some (wsD kH)) (c : EventM) (hce : OkEv c) (hs : (evB c).length ≤ 1000000) (d : List Int) (hd : d.length = 16) : GivesX Tryz.prog G 94 [.dat (zf c), .ptr 999 16 0 0] [(999, ⟨16, [.dat (bsD d)]⟩)] [] [(999, ⟨16, [.dat (bsD (dgM 1 [vv d, vv (dgM 7 [vv (evB c)])]))]⟩)] := by
 have hdl := zj2 7 [vv (evB c)]
 have tk1 : List.take 16 (d.map u8D) = d.map u8D := List.take_of_length_le (by rw [List.length_map, hd]; exact Nat.le_refl _)
 have tk2 : List.take 16 ((dgM 7 [vv (evB c)]).map u8D) = (dgM 7 [vv (evB c)]).map u8D := List.take_of_length_le (by rw [List.length_map, hdl]; exact Nat.le_refl _)
 skip
 skip
 skip
 refine GX [] [] [] Tryz.func94 Tryz.ntmps94 fun F hP hG hN hR hA => ?_
 have hE := And.intro @Tryz.results94 (And.intro @hd (And.intro @hdl (And.intro @tk1 (@tk2))))
 refine WS [1, 2] [2, 3, 999] ?_
 have hc := gvF hP hG (zku G hgk c hce hs)
 refine WSc [1, 3] [3, 999] ?_
 refine z1u [] [3, 999] [(0, 6, _), (1, 7, .dat (.str (vv d))), (2, 8, _), (3, 9, .dat (.str (vv (dgM 7 [vv (evB c)])))), (4, 10, _), (5, 11, _)] [(6, 999, some ⟨16, [.dat (bsD (dgM 1 [vv d, vv (dgM 7 [vv (evB c)])]))]⟩)] ⟨FV 0 [] [1, 4, 5, 6], (FVs 1 [0] [4, 5, 6] (fun D hA1 hA2 => by simp only [qt, NoD] at hA1 hA2; exact zdp (ns := d) rfl rfl (by rw [hN]; omega) (by rw [hP]; exact ti117) rfl (by rw [hP]; exact ti9) rfl (by rw [hP]; exact ti5) ⟨rfl, rfl⟩ EW')), FV 2 [] [3, 4, 5, 6], (FVs 3 [2] [4, 5, 6] (fun D hA1 hA2 => by simp only [qt, NoD] at hA1 hA2; exact zdp (ns := dgM 7 [vv (evB c)]) rfl rfl (by rw [hN]; omega) (by rw [hP]; exact ti117) rfl (by rw [hP]; exact ti9) rfl (by rw [hP]; exact ti5) ⟨rfl, rfl⟩ EW')), FV 4 [0, 1, 2, 3] [5, 6], (by have hc := gvF hP hG (zov G 1 (by decide) (by decide) hgk [vv d, vv (dgM 7 [vv (evB c)])] (by simp) (zyt _ _ hd hdl)); exact FVc 5 [0, 1, 2, 3, 4] [6]), FS 0 [0, 1, 2, 3, 4, 5] [], trivial⟩ ?_
 exact E0
def jf (e : EventM) : Prop := OkEv e ∧ (evB e).length ≤ 1000000
theorem okDef : OkEv default := by
 have z : I64 0 := by unfold I64; omega
 have zi : zc1 default := ⟨z, z, z⟩
 exact { by_ := z, seq := z, tick := z, kind := z, n := z, id := zi, tk := z, tl := z, refs := fun r hr => (by cases hr), nrefs := Nat.zero_le _, op := { head := fun x hx => (by rw [(show ∀ y ∈ vy (default : EventM).Op, y = 0 by decide +kernel) x hx]; exact z), pairs := fun r hr => (by cases hr), refs := fun r hr => (by cases hr), text := Nat.zero_le _, texts := fun r hr => (by cases hr), ntexts := Nat.zero_le _, npairs := Nat.zero_le _, nrefs := Nat.zero_le _, all := (by decide +kernel) }, name := Nat.zero_le _, see := Nat.zero_le _, broader := fun r hr => (by cases hr), nbroader := Nat.zero_le _, posts := fun r hr => (by cases hr), nposts := Nat.zero_le _ }
theorem zw1 : jf default := ⟨okDef, by decide +kernel⟩
theorem z6o : ∀ l : List Int, zk ((l.map u8D).map AV.dat) = some (l.map u8D)
 | [] => rfl
 | x :: l => by
  have ih := z6o l
  simp only [List.map_cons, zk, ih, Option.map_some]
  rfl
theorem Xt (m : Nat → Nat) (i : Nat) : AV.ren m (.mp i) = .mp (m i) := by simp [AV.ren]
abbrev Za (h : Int × List Int) : Dat := .agg (iD h.1 :: h.2.map u8D)
abbrev wz (l : List (Int × List Int)) : Dat := .sl (l.map Za)
def qf (L : List EventM) (n : Nat) : List (Int × List Int) := (List.range n).map fun b : Nat => ((qx L (b : Int) : Int), z00 (xd L (b : Int) (qx L (b : Int))))
theorem wt (L : List EventM) (n : Nat) : (qf L n).length = n := by simp [qf]
theorem ze9 (L : List EventM) (n : Nat) : qf L (n + 1) = qf L n ++ [((qx L (n : Int) : Int), z00 (xd L (n : Int) (qx L (n : Int))))] := by simp [qf, List.range_succ]
theorem zea (L : List EventM) (n : Nat) : List.take n (qf L n) = qf L n := List.take_of_length_le (by simp [wt])
theorem zsg {L : List EventM} (h : ∀ e ∈ L, jf e) (n : NameM) : jf ((zx L n).getD default) := by
 cases hf : zx L n with
 | none => exact zw1
 | some e => exact h e (ze4 hf)
theorem z1b {L : List EventM} (h : ∀ e ∈ L, jf e) (b : Int) (n : Nat) : ∀ e ∈ xd L b n, jf e := by
 intro e he
 obtain ⟨k, _, rfl⟩ := List.mem_map.1 he
 exact zsg h _
set_option maxRecDepth 100000 in
set_option maxHeartbeats 2000000 in
theorem zik (G) (hgk : G.lookup 1 = some (wsD kH)) (l : List EventM) (hl : ∀ e ∈ l, jf e) (hn : l.length ≤ 100000) : zl Tryz.prog G 51 [zr l] [bsD (z00 l)] := by
 skip
 skip
 refine GI [] [16] [] Tryz.func51 Tryz.ntmps51 fun F hP hG hN hR hA => ?_
 have hE := And.intro @Tryz.results51 (And.intro @zs5 (And.intro @zc5 (And.intro @zj3 (@Qv))))
 refine WS [0, 2] [2] ?_
 refine WS [0, 2, 3] [2, 3] ?_
 refine WS [0, 2, 3, 4] [2, 3] ?_
 apply z3
 refine WS [2, 3, 4, 8, 9, 10] [2, 3] ?_
 apply z7
 refine WL (ι := {i : Nat // i ≤ l.length}) [2, 3, 4, 8, 9] [2] (fun ⟨i, hi⟩ => [(10, .dat (iD i))]) (fun ⟨i, hi⟩ => [(3, ⟨16, [.dat (bsD (sumN l i))]⟩)]) (fun ⟨i, hi⟩ => l.length - i) (⟨0, by omega⟩) ?_
 rintro ⟨i, hi⟩
 refine LA ?_
 refine WS [2, 3, 4, 8, 9, 10, 11] [2, 3] ?_
 apply z3
 refine WI ?_ ?_ <;> intro hb
 ·have hx := zt hl (i := i) (by omega)
  have hE := And.intro hE (sumN.eq_2 l i)
  apply z6
  apply z5
  apply z3
  apply z7
  refine WS [2, 3, 4, 6, 8, 9, 10] [2, 3, 6] ?_
  apply js [2, 3, 4, 8, 9, 10] [2, 3]
  ·refine RN ?_
   refine CX (fun _ => 3) [] (zs8 G hgk (l.getD i default) hx.1 hx.2 (sumN l i) (Qv l i)) ?_
   exact SC
  apply zh
  apply z5
  refine WQ [2, 3, 4, 8, 9, 10] [2, 3] ?_
  refine WN (⟨i + 1, by omega⟩)
 ·apply zj
  apply zc
  have hend : i = l.length := by omega
  subst hend
  have hE := And.intro hE (show z00 l = sumN l l.length from rfl)
  apply zb
  apply zn
  apply z5
  refine WS [2] [2] ?_
  apply z9
  exact E0
set_option maxRecDepth 100000 in
set_option maxHeartbeats 2000000 in
theorem Q3 (G) (hgk : G.lookup 1 = some (wsD kH)) (p : Nat) (hp : p ≤ 1000) (L : List EventM) (hL : ∀ e ∈ L, jf e) (hn : L.length ≤ 100000) : GivesX Tryz.prog G 14 [.ptr 1000 2 0 0] (arO p L) [.dat (wz (qf L p))] (arO p L) := by
 skip
 skip
 skip
 refine GX [] [23] [] Tryz.func14 Tryz.ntmps14 fun F hP hG hN hR hA => ?_
 have hE := And.intro @Tryz.results14 (And.intro @z7t (And.intro @qu (And.intro @wt (And.intro @z6o (And.intro @Xt (And.intro @jl (And.intro @Zm (And.intro @zea (@Nat.min_self)))))))))
 refine WS [0] [27, 1000, 1001, 1002] ?_
 apply z3
 refine WS [0, 7] [27, 1000, 1001, 1002] ?_
 refine WI ?_ ?_ <;> intro hb
 ·exact absurd hb (by simp)
 ·apply z6
  apply z5
  refine WS [0, 3] [27, 1000, 1001, 1002] ?_
  apply z3
  refine WS [0, 3, 11, 12, 13] [27, 1000, 1001, 1002] ?_
  apply z7
  refine x7 27 17 (by omega) ?_
  refine xx 3 27 17 rfl rfl ?_
  refine WL (ι := {i : Nat // i ≤ p}) [0, 11, 12] [26, 1000, 1001, 1002] (fun ⟨i, hi⟩ => [(3, .osl 27 17 0 i), (13, .dat (iD i))]) (fun ⟨i, hi⟩ => [(27, ⟨17, ((qf L i).map Za).map .dat⟩)]) (fun ⟨i, hi⟩ => p - i) (⟨0, by omega⟩) ?_
  rintro ⟨i, hi⟩
  refine LA ?_
  refine WS [0, 3, 11, 12, 13, 14] [26, 27, 1000, 1001, 1002] ?_
  apply z3
  refine WI ?_ ?_ <;> intro hb
  ·have hcg := y7 (L := L) (i := i) (p := p) (by omega)
   have hrw := Qq (l := qz p L) (i := i) (by rw [qu]; omega)
   rw [hcg] at hrw
   have hcl := Z6 L (i : Int)
   have hln : (z00 (xd L (i : Int) (qx L (i : Int)))).length = 16 := Qv _ _
   have hE := And.intro hE (And.intro hrw (And.intro (ze9 L i) hln))
   apply z6
   apply z5
   apply z3
   apply z7
   refine WS [0, 3, 4, 5, 11, 12, 13] [26, 27, 1000, 1001, 1002] ?_
   apply js [0, 3, 11, 12, 13] [26, 27, 1000, 1001, 1002]
   ·refine RN ?_
    refine CX (fun i => i) [] (z1e G p L (i : Int) (qx L (i : Int)) (by omega)) ?_
    refine CU (zik G hgk (xd L (i : Int) (qx L (i : Int))) (z1b hL _ _) (by rw [w6]; omega)) ?_
    exact SC
   apply zh
   apply z5
   refine WQ [0, 3, 11, 12, 13] [26, 27, 1000, 1001, 1002] ?_
   refine WN (⟨i + 1, by omega⟩)
  ·apply zj
   apply zc
   have hend : i = p := by omega
   subst hend
   apply zb
   apply zn
   apply z5
   refine Xe 27 hR.2.2.2 rfl (datE_map _) rfl ?_
   have htk : List.take i ((qf L i).map Za) = (qf L i).map Za := List.take_of_length_le (by simp [wt])
   simp (disch := omega) only [avA, zk, zo, seval, hE, htk]
   refine WS [2] [26, 27, 1000, 1001, 1002] ?_
   apply z9
   exact E0
def xe (p : Nat) : List EventM → List EventM → Nat → List EventM × Nat × Int
 | L, [], n => (L, n, 0)
 | L, c :: l, n => if (zq p L c).2.2 ≠ 0 then ((zq p L c).1, n, (zq p L c).2.2) else xe p (zq p L c).1 l (if (zq p L c).2.1 = true then n + 1 else n)
theorem zmu {p : Nat} {L : List EventM} {c : EventM} : ∀ e ∈ (zq p L c).1, e ∈ L ∨ e = c := by
 intro e he
 unfold zq at he
 (repeat' split at he) <;> first | exact .inl he | (rcases List.mem_append.1 he with h | h; exact .inl h; exact .inr (List.mem_singleton.1 h))
theorem zmt {p : Nat} {L : List EventM} {c : EventM} : (zq p L c).1.length ≤ L.length + 1 := by
 unfold zq
 (repeat' split) <;> simp
theorem z1f {α : Type} [Inhabited α] {l : List α} {i : Nat} (h : i < l.length) : l.drop i = l.getD i default :: l.drop (i + 1) := by
 rw [List.getD_eq_getElem?_getD, List.getElem?_eq_getElem h, Option.getD_some]
 exact List.drop_eq_getElem_cons h
def zd4 (p : Nat) (L l : List EventM) (i : Nat) (M : List EventM) (n : Nat) : Prop := i ≤ l.length ∧ xe p L l 0 = xe p M (l.drop i) n ∧ (∀ e ∈ M, OkEv e) ∧ M.length ≤ L.length + i ∧ n ≤ i
set_option maxRecDepth 100000 in
set_option maxHeartbeats 2000000 in
theorem Xa (G) (p : Nat) (hp : p ≤ 1000) (L l : List EventM) (hL : ∀ e ∈ L, OkEv e) (hl : ∀ e ∈ l, OkEv e) (hn : L.length + l.length ≤ 100000) : GivesX Tryz.prog G 15 [.ptr 1000 2 0 0, .dat (zr l)] (arO p L) [.dat (iD (xe p L l 0).2.1), .dat (iD (xe p L l 0).2.2)] (arO p (xe p L l 0).1) := by
 skip
 skip
 skip
 refine GX [] [22] [] Tryz.func15 Tryz.ntmps15 fun F hP hG hN hR hA => ?_
 have hE := And.intro @Tryz.results15 (And.intro @z7t (And.intro @qu (And.intro @jl (And.intro @Zm (@Xt)))))
 refine WS [0, 1] [1000, 1001, 1002] ?_
 apply z3
 refine WS [0, 1, 12] [1000, 1001, 1002] ?_
 refine WI ?_ ?_ <;> intro hb
 ·exact absurd hb (by simp)
 ·apply z6
  apply z5
  refine WS [0, 1, 6] [1000, 1001, 1002] ?_
  apply z3
  refine WS [0, 6, 13, 14, 15] [1000, 1001, 1002] ?_
  apply z7
  refine WL (ι := {x : Nat × List EventM × Nat // zd4 p L l x.1 x.2.1 x.2.2}) [0, 13, 14] [1000] (fun ⟨⟨i, M, n⟩, hx⟩ => [(15, .dat (iD i)), (6, .dat (iD n))]) (fun ⟨⟨i, M, n⟩, hx⟩ => [(1001, ⟨1, ((qz p M).map iD).map .dat⟩), (1002, ⟨0, [.tup [], .dat (.sl (z0l M)), .dat (.sl (M.map zf))]⟩)]) (fun ⟨⟨i, M, n⟩, hx⟩ => l.length - i) (⟨⟨0, L, 0⟩, ⟨Nat.zero_le _, by simp, hL, by simp, Nat.zero_le _⟩⟩) ?_
  rintro ⟨⟨i, M, n⟩, hx⟩
  refine LA ?_
  have hx2 : zd4 p L l i M n := hx
  obtain ⟨hi, htk, hM, hMn, hni⟩ := hx2
  refine WS [0, 6, 13, 14, 15, 16] [1000, 1001, 1002] ?_
  apply z3
  refine WI ?_ ?_ <;> intro hb
  ·have hce := zt hl (i := i) (by omega)
   rw [z1f (by omega), xe] at htk
   apply z6
   apply z5
   apply z3
   apply z7
   refine WS [0, 6, 8, 13, 14, 15] [8, 1000, 1001, 1002] ?_
   apply zm [0, 6, 9, 10, 13, 14, 15] [1000, 1001, 1002]
   ·refine RN ?_
    refine CX (fun i => i) [] (zfy G p M (l.getD i default) hp hce hM (by omega)) ?_
    exact SC
   apply z3
   refine WS [0, 6, 9, 10, 13, 14, 15, 26] [1000, 1001, 1002] ?_
   refine WI ?_ ?_ <;> intro hb
   ·rw [if_pos (by simpa using hb)] at htk
    have hE := And.intro hE htk
    refine WS [4, 5] [1000, 1001, 1002] ?_
    apply z9
    apply za
    apply zd
    apply za
    apply zu
    apply zd
    apply za
    exact E0
   ·rw [if_neg (by simpa using hb)] at htk
    have hM2 : ∀ e ∈ (zq p M (l.getD i default)).1, OkEv e := fun e he => by
     rcases zmu e he with h | rfl
     ·exact hM e h
     ·exact hce
    have hln := zmt (p := p) (L := M) (c := l.getD i default)
    apply z6
    apply z5
    refine WS [0, 6, 13, 14, 15, 29] [1000, 1001, 1002] ?_
    refine WI ?_ ?_ <;> intro hb
    ·rw [if_pos (by simpa using hb)] at htk
     have hnx : zd4 p L l (i + 1) (zq p M (l.getD i default)).1 (n + 1) := ⟨by omega, htk, hM2, by omega, by omega⟩
     refine WQ [0, 6, 13, 14, 15] [1000, 1001, 1002] ?_
     apply zh
     apply z5
     refine WQ [0, 6, 13, 14, 15] [1000, 1001, 1002] ?_
     refine WN (⟨⟨i + 1, (zq p M (l.getD i default)).1, n + 1⟩, hnx⟩)
    ·rw [if_neg (by simpa using hb)] at htk
     have hnx : zd4 p L l (i + 1) (zq p M (l.getD i default)).1 n := ⟨by omega, htk, hM2, by omega, by omega⟩
     apply z6
     apply zh
     apply z5
     refine WQ [0, 6, 13, 14, 15] [1000, 1001, 1002] ?_
     refine WN (⟨⟨i + 1, (zq p M (l.getD i default)).1, n⟩, hnx⟩)
  ·apply zj
   apply zc
   have hie : i = l.length := by omega
   rw [List.drop_eq_nil_of_le (by omega), xe] at htk
   have hE := And.intro hE htk
   apply zb
   apply zn
   apply z5
   refine WS [4, 5] [1000, 1001, 1002] ?_
   apply z9
   exact E0
def wb (L : List EventM) (p : Nat) (c : EventM) : EventM := { c with Seq := (qx L c.By : Int), Tick := clkN L p + 1 }
def kp (p : Nat) (c : EventM) : Bool := decide (c.By < 0) || decide ((p : Int) ≤ c.By)
def xi (p : Nat) (L : List EventM) (c : EventM) : List EventM × EventM × Int :=
 if kp p c = true then (L, default, 1)
 else if (zq p L (wb L p c)).2.2 ≠ 0 then ((zq p L (wb L p c)).1, default, (zq p L (wb L p c)).2.2)
 else ((zq p L (wb L p c)).1, wb L p c, 0)
theorem zjo {L : List EventM} {p : Nat} {c : EventM} (h : OkEv c) (hL : L.length ≤ 100000) (hk : 0 ≤ clkN L p ∧ clkN L p ≤ 2000000) : OkEv (wb L p c) := by
 have hc := Z6 L c.By
 exact { h with seq := (by show I64 (qx L c.By : Int); unfold I64; omega), tick := (by show I64 (clkN L p + 1); unfold I64; omega) }
set_option maxRecDepth 100000 in
set_option maxHeartbeats 4000000 in
theorem z7e (G) (p : Nat) (hp : p ≤ 1000) (L : List EventM) (hL : ∀ e ∈ L, OkEv e) (hn : L.length ≤ 90000) (c : EventM) (hce : OkEv c) (hk : 0 ≤ clkN L p ∧ clkN L p ≤ 2000000) : GivesX Tryz.prog G 35 [.ptr 1000 2 0 0, .dat (zf c)] (arO p L) [.dat (zf (xi p L c).2.1), .dat (iD (xi p L c).2.2)] (arO p (xi p L c).1) := by
 have hnx := zjo (p := p) hce (by omega) hk
 skip
 skip
 skip
 refine GX [] [44] [] Tryz.func35 Tryz.ntmps35 fun F hP hG hN hR hA => ?_
 have hE := And.intro @Tryz.results35 (And.intro @z7t (And.intro @qu (And.intro @jl (And.intro @Zm (@Xt)))))
 refine WS [0, 3, 4] [3, 4, 1000, 1001, 1002] ?_
 apply z3
 refine v7 (.of [(0, .ptr 1000 2 0 0), (3, .ptr 3 32 0 0), (4, .ptr 4 32 0 0), (24, .dat (bD (kp p c)))] [(3, ⟨32, [.dat (zf c)]⟩), (4, ⟨32, [zg6]⟩), (1000, ⟨2, [.agg [.osl 1001 1 0 p, .mp 1002]]⟩), (1001, ⟨1, ((qz p L).map iD).map .dat⟩), (1002, ⟨0, [.tup [], .dat (.sl (z0l L)), .dat (.sl (L.map zf))]⟩)]) ?_ ?_
 ·by_cases h0 : c.By < 0
  ·have hd0 : decide (c.By < 0) = true := by simpa using h0
   have hbb : kp p c = true := by unfold kp; rw [hd0]; rfl
   have hE := And.intro hE (And.intro hd0 hbb)
   refine z1u [0, 3, 4, 24] [3, 4, 1000, 1001, 1002] [(0, 8, _), (1, 9, .dat (bD false)), (2, 10, .dat (bD false)), (3, 11, _), (4, 12, _), (5, 13, .dat (bD true)), (6, 14, _), (7, 15, .dat (bD true)), (8, 16, .cond false .junk), (9, 17, .cond false .junk), (10, 18, .cond false .junk), (11, 19, .cond false .junk), (12, 20, .cond false .junk), (13, 21, .cond false .junk), (14, 22, .cond false .junk), (15, 23, .cond false (.dat (bD false))), (16, 24, _)] [] ⟨FV 0 [] [1, 2, 3, 4, 5, 6, 7, 8, 9, 10, 11, 12, 13, 14, 15, 16], FV 1 [0] [2, 3, 4, 5, 6, 7, 8, 9, 10, 11, 12, 13, 14, 15, 16], FV 2 [0, 1] [3, 4, 5, 6, 7, 8, 9, 10, 11, 12, 13, 14, 15, 16], FG 3 [0, 1, 2] [4, 5, 6, 7, 8, 9, 10, 11, 12, 13, 14, 15, 16], FG 4 [0, 1, 2, 3] [5, 6, 7, 8, 9, 10, 11, 12, 13, 14, 15, 16], FG 5 [0, 1, 2, 3, 4] [6, 7, 8, 9, 10, 11, 12, 13, 14, 15, 16], FV 6 [0, 1, 2, 3, 4, 5] [7, 8, 9, 10, 11, 12, 13, 14, 15, 16], FV 7 [0, 1, 2, 3, 4, 5, 6] [8, 9, 10, 11, 12, 13, 14, 15, 16], FO 8 [0, 1, 2, 3, 4, 5, 6, 7] [9, 15, 16], FO 9 [0, 1, 2, 3, 4, 5, 6, 7, 8] [15, 16], FO 10 [0, 1, 2, 3, 4, 5, 6, 7] [11, 12, 13, 14, 15, 16], FO 11 [0, 1, 2, 3, 4, 5, 6, 7, 10] [12, 13, 14, 15, 16], FO 12 [0, 1, 2, 3, 4, 5, 6, 7, 10, 11] [13, 14, 15, 16], FO 13 [0, 1, 2, 3, 4, 5, 6, 7, 10, 11, 12] [14, 15, 16], FO 14 [0, 1, 2, 3, 4, 5, 6, 7, 10, 11, 12, 13] [15, 16], FO 15 [0, 1, 2, 3, 4, 5, 6, 7, 8, 9, 10, 11, 12, 13, 14] [16], FV 16 [0, 1, 2, 3, 4, 5, 6, 7, 8, 9, 10, 11, 12, 13, 14, 15] [], trivial⟩ ?_
   exact ML
  ·have hd0 : decide (c.By < 0) = false := by simpa using h0
   have hbb : kp p c = decide ((p : Int) ≤ c.By) := by unfold kp; rw [hd0]; rfl
   have hE := And.intro hE (And.intro hd0 hbb)
   refine z1u [0, 3, 4, 24] [3, 4, 1000, 1001, 1002] [(0, 8, _), (1, 9, .dat (bD false)), (2, 10, .dat (bD false)), (3, 11, _), (4, 12, _), (5, 13, .dat (bD false)), (6, 14, _), (7, 15, .dat (bD false)), (8, 16, _), (9, 17, _), (10, 18, _), (11, 19, _), (12, 20, _), (13, 21, _), (14, 22, _), (15, 23, _), (16, 24, _)] [] ⟨FV 0 [] [1, 2, 3, 4, 5, 6, 7, 8, 9, 10, 11, 12, 13, 14, 15, 16], FV 1 [0] [2, 3, 4, 5, 6, 7, 8, 9, 10, 11, 12, 13, 14, 15, 16], FV 2 [0, 1] [3, 4, 5, 6, 7, 8, 9, 10, 11, 12, 13, 14, 15, 16], FG 3 [0, 1, 2] [4, 5, 6, 7, 8, 9, 10, 11, 12, 13, 14, 15, 16], FG 4 [0, 1, 2, 3] [5, 6, 7, 8, 9, 10, 11, 12, 13, 14, 15, 16], FG 5 [0, 1, 2, 3, 4] [6, 7, 8, 9, 10, 11, 12, 13, 14, 15, 16], FV 6 [0, 1, 2, 3, 4, 5] [7, 8, 9, 10, 11, 12, 13, 14, 15, 16], FV 7 [0, 1, 2, 3, 4, 5, 6] [8, 9, 10, 11, 12, 13, 14, 15, 16], FG 8 [0, 1, 2, 3, 4, 5, 6, 7] [9, 15, 16], FG 9 [0, 1, 2, 3, 4, 5, 6, 7, 8] [15, 16], FG 10 [0, 1, 2, 3, 4, 5, 6, 7] [11, 12, 13, 14, 15, 16], FG 11 [0, 1, 2, 3, 4, 5, 6, 7, 10] [12, 13, 14, 15, 16], FG 12 [0, 1, 2, 3, 4, 5, 6, 7, 10, 11] [13, 14, 15, 16], FG 13 [0, 1, 2, 3, 4, 5, 6, 7, 10, 11, 12] [14, 15, 16], FG 14 [0, 1, 2, 3, 4, 5, 6, 7, 10, 11, 12, 13] [15, 16], FG 15 [0, 1, 2, 3, 4, 5, 6, 7, 8, 9, 10, 11, 12, 13, 14] [16], FV 16 [0, 1, 2, 3, 4, 5, 6, 7, 8, 9, 10, 11, 12, 13, 14, 15] [], trivial⟩ ?_
   exact ML
 refine WI ?_ ?_ <;> intro hb
 ·have hv : xi p L c = (L, default, 1) := by unfold xi; rw [if_pos hb]
  have hE := And.intro hE hv
  refine WS [4, 5] [4, 1000, 1001, 1002] ?_
  apply z9
  apply za
  refine EN ?_
  all_goals try trivial
  all_goals first | exact ⟨_, rfl, rfl⟩ | exact .inl rfl | exact .inr ⟨_, rfl, rfl⟩
 ·have hnb : ¬ kp p c = true := by simpa using hb
  have hb2 : ¬ c.By < 0 ∧ ¬ (p : Int) ≤ c.By := by simpa [kp] using hb
  have hcg := y7 (L := L) (i := c.By.toNat) (p := p) (by omega)
  rw [show ((c.By.toNat : Nat) : Int) = c.By by omega] at hcg
  have hrw := Qq (l := qz p L) (i := c.By.toNat) (by rw [qu]; omega)
  rw [hcg] at hrw
  have hE := And.intro hE hrw
  apply z6
  apply z5
  have hc := gvF hP hG (zcd G c hce)
  refine WSc [0, 3, 4] [3, 4, 1000, 1001, 1002] ?_
  refine WDF [0, 3, 4] [3, 4, 1000, 1001, 1002] [(0, 28, _), (1, 29, _), (2, 30, _), (3, 31, _), (4, 32, _), (5, 33, _), (6, 34, _), (7, 35, _), (8, 36, _), (9, 37, .dat (iD (clkN L p))), (10, 38, .dat (iD (clkN L p + 1))), (11, 39, _), (13, 40, _)] [(14, 3, some ⟨32, [.dat (zf (wb L p c))]⟩), (12, 3, some ⟨32, [.dat (zf { c with Seq := (qx L c.By : Int) })]⟩)] ⟨FV 0 [] [1, 2, 3, 6, 7, 11, 12, 13, 14], FV 1 [0] [2, 3, 6, 7, 11, 12, 13, 14], FV 2 [0, 1] [3, 6, 7, 11, 12, 13, 14], FV 3 [0, 1, 2] [6, 7, 11, 12, 13, 14], FV 4 [] [5, 6, 7, 11, 12, 13, 14], FV 5 [4] [6, 7, 11, 12, 13, 14], FV 6 [0, 1, 2, 3, 4, 5] [7, 11, 12, 13, 14], FV 7 [0, 1, 2, 3, 4, 5, 6] [11, 12, 13, 14], FV 8 [] [9, 10, 12, 13, 14], (FVs 9 [8] [10, 12, 13, 14] (fun D hA1 hA2 => by simp only [qt, NoD] at hA1 hA2; exact xk (m := fun i => i) rfl rfl (by rw [hN]; omega) EV' (z0r hP hG (z9h G p hp L (by omega))) EX' (wh hN EL' (by rfl)))), FV 10 [8, 9] [13, 14], FV 11 [0, 1, 2, 3, 4, 5, 6, 7] [12, 13, 14], FS 1 [0, 1, 2, 3, 4, 5, 6, 7, 8, 9, 11] [13, 14], FV 12 [0, 1, 2, 3, 4, 5, 6, 7, 8, 9, 10, 11, 12] [14], FS 0 [0, 1, 2, 3, 4, 5, 6, 7, 8, 9, 10, 11, 12, 13] [], trivial⟩ ?_
  apply z3
  apply zm [3, 4, 7] [3, 4, 1000, 1001, 1002]
  ·refine RN ?_
   refine CX (fun i => i) [] (zfy G p L (wb L p c) hp hnx hL (by omega)) ?_
   exact SC
  refine WS [3, 4, 7, 48] [3, 4, 1000, 1001, 1002] ?_
  refine WI ?_ ?_ <;> intro hb
  ·have hv : xi p L c = ((zq p L (wb L p c)).1, default, (zq p L (wb L p c)).2.2) := by unfold xi; rw [if_neg hnb, if_pos (by simpa using hb)]
   have hE := And.intro hE hv
   refine WS [4, 5] [4, 1000, 1001, 1002] ?_
   apply z9
   apply za
   refine EN ?_
   all_goals try trivial
   all_goals first | exact ⟨_, rfl, rfl⟩ | exact .inl rfl | exact .inr ⟨_, rfl, rfl⟩
  ·have hv : xi p L c = ((zq p L (wb L p c)).1, wb L p c, 0) := by unfold xi; rw [if_neg hnb, if_neg (by simpa using hb)]
   have hE := And.intro hE hv
   apply z6
   apply z5
   refine WS [4, 5] [4, 1000, 1001, 1002] ?_
   apply z9
   refine EN ?_
   all_goals try trivial
   all_goals first | exact ⟨_, rfl, rfl⟩ | exact .inl rfl | exact .inr ⟨_, rfl, rfl⟩
def qc (L : List EventM) (n : Nat) : List EventM := (List.range n).flatMap fun b : Nat => xd L (b : Int) (qx L (b : Int))
theorem Qe (L : List EventM) (n : Nat) : qc L (n + 1) = qc L n ++ xd L (n : Int) (qx L (n : Int)) := by simp [qc, List.range_succ]
theorem z6r (L : List EventM) {i n : Nat} (h : i ≤ n) : (qc L i).length ≤ (qc L n).length := by
 induction n with
 | zero =>
  have : i = 0 := by omega
  rw [this]; exact Nat.le_refl _
 | succ n ih =>
  by_cases hi : i = n + 1
  ·rw [hi]; exact Nat.le_refl _
  ·have := ih (by omega)
   rw [Qe, List.length_append]
   omega
def z2m (A C : List EventM) (k : Nat) : List EventM := A ++ C.take k
theorem zb1 (A C : List EventM) : z2m A C 0 = A := by simp [z2m]
theorem z85 {A C : List EventM} {k : Nat} (h : k ≤ C.length) : (z2m A C k).length = A.length + k := by simp [z2m]; omega
theorem zb0 {A C : List EventM} {k : Nat} (h : k ≤ C.length) : List.take (A.length + k) (z2m A C k) = z2m A C k := List.take_of_length_le (by rw [z85 h]; exact Nat.le_refl _)
theorem zaz {A C : List EventM} {k : Nat} (h : k < C.length) : z2m A C (k + 1) = z2m A C k ++ [C.getD k default] := by rw [z2m, yn C h, ← List.append_assoc]; rfl
theorem zrk (G) (l : List EventM) (hn : l.length < 20) : GivesX Tryz.prog G 30 [.dat (zr l)] [] [.osl 5 32 0 l.length] [(5, ⟨32, ((qv l).map zf).map .dat⟩)] := by
 have hsl : (qv l).length = l.length := Qh l _
 skip
 skip
 skip
 refine GX [] [5, 7] [] Tryz.func30 Tryz.ntmps30 fun F hP hG hN hR hA => ?_
 have hE := And.intro @Tryz.results30 (@hsl)
 refine WS [0] [5] ?_
 apply zm [3] [5]
 ·refine RN ?_
  refine CX (fun _ => 5) [7] (z9i G l (by omega)) ?_
  exact SC
 apply zm [3] [5]
 ·refine RN ?_
  refine CX (fun _ => 5) [] (z22 G l hn) ?_
  exact SC
 refine WS [2] [5] ?_
 apply z9
 exact E0
set_option maxRecDepth 100000 in
set_option maxHeartbeats 2000000 in
theorem zh5 (G) (p : Nat) (hp : p ≤ 1000) (L : List EventM) (hL : ∀ e ∈ L, jf e) (hn : L.length ≤ 100000) (h20 : (qc L p).length < 20) : GivesX Tryz.prog G 17 [.ptr 1000 2 0 0] (arO p L) [.osl 37 32 0 (qc L p).length] ((37, ⟨32, ((qv (qc L p)).map zf).map .dat⟩) :: arO p L) := by
 have hsl : (qv (qc L p)).length = (qc L p).length := Qh _ _
 skip
 skip
 skip
 refine GX [] [23, 37] [] Tryz.func17 Tryz.ntmps17 fun F hP hG hN hR hA => ?_
 have hE := And.intro @Tryz.results17 (And.intro @z7t (And.intro @qu (And.intro @hsl (And.intro @Xt (And.intro @jl (And.intro @Zm (@w6)))))))
 refine WS [0] [33, 37, 1000, 1001, 1002] ?_
 apply z3
 refine WS [0, 9] [33, 37, 1000, 1001, 1002] ?_
 refine WI ?_ ?_ <;> intro hb
 ·exact absurd hb (by simp)
 ·apply z6
  apply z5
  refine WS [0, 3] [32, 33, 37, 1000, 1001, 1002] ?_
  apply z3
  refine WS [0, 3, 13, 14, 15] [32, 33, 37, 1000, 1001, 1002] ?_
  apply z7
  refine x7 33 32 (by omega) ?_
  refine xx 3 33 32 rfl rfl ?_
  refine WL (ι := {i : Nat // i ≤ p}) [0, 13, 14] [32, 37, 1000, 1001, 1002] (fun ⟨i, hi⟩ => [(3, .osl 33 32 0 (qc L i).length), (15, .dat (iD i))]) (fun ⟨i, hi⟩ => [(33, ⟨32, ((qc L i).map zf).map .dat⟩)]) (fun ⟨i, hi⟩ => p - i) (⟨0, by omega⟩) ?_
  rintro ⟨i, hi⟩
  refine LA ?_
  refine WS [0, 3, 13, 14, 15, 16] [32, 33, 37, 1000, 1001, 1002] ?_
  apply z3
  refine WI ?_ ?_ <;> intro hb
  ·have hcg := y7 (L := L) (i := i) (p := p) (by omega)
   have hrw := Qq (l := qz p L) (i := i) (by rw [qu]; omega)
   rw [hcg] at hrw
   have hcl := Z6 L (i : Int)
   have hm1 := z6r L (show i + 1 ≤ p by omega)
   rw [Qe, List.length_append, w6] at hm1
   have hE := And.intro hE hrw
   apply z6
   apply z5
   apply z3
   apply z7
   refine WS [0, 3, 4, 5, 13, 14, 15] [32, 33, 37, 1000, 1001, 1002] ?_
   apply zm [0, 3, 13, 14, 15, 23, 24, 25] [32, 33, 37, 1000, 1001, 1002]
   ·refine RN ?_
    refine CX (fun i => i) [] (z1e G p L (i : Int) (qx L (i : Int)) (by omega)) ?_
    exact SC
   have hlc := w6 L (i : Int) (qx L (i : Int))
   have hbc := z1b hL (i : Int) (qx L (i : Int))
   have hevs := Qe L i
   have htkc := z0h L (i : Int) (qx L (i : Int))
   generalize xd L (i : Int) (qx L (i : Int)) = C at hlc hbc hevs htkc ⊢
   apply z7
   have hE := And.intro hE (zb1 (qc L i) C)
   refine WL (ι := {k : Nat // k ≤ qx L (i : Int)}) [0, 13, 14, 15, 23, 24] [32, 37, 1000, 1001, 1002] (fun ⟨k, hk⟩ => [(3, .osl 33 32 0 ((qc L i).length + k)), (25, .dat (iD k))]) (fun ⟨k, hk⟩ => [(33, ⟨32, ((z2m (qc L i) C k).map zf).map .dat⟩)]) (fun ⟨k, hk⟩ => qx L (i : Int) - k) (⟨0, by omega⟩) ?_
   rintro ⟨k, hk⟩
   refine LA ?_
   refine WS [0, 3, 13, 14, 15, 23, 24, 25, 26] [32, 33, 37, 1000, 1001, 1002] ?_
   apply z3
   refine WI ?_ ?_ <;> intro hb
   ·have hok := zt hbc (i := k) (by omega)
    have hrl := z85 (A := qc L i) (C := C) (k := k) (by omega)
    have hrt := zb0 (A := qc L i) (C := C) (k := k) (by omega)
    have hrs := zaz (A := qc L i) (C := C) (k := k) (by omega)
    have hE := And.intro hE (And.intro hrl hrt)
    apply z6
    apply z5
    apply z3
    apply z7
    refine WS [0, 3, 7, 13, 14, 15, 23, 24, 25] [7, 32, 33, 37, 1000, 1001, 1002] ?_
    have hc := gvF hP hG (zcd G (C.getD k default) hok.1)
    refine WQc [0, 3, 13, 14, 15, 23, 24, 25] [32, 33, 37, 1000, 1001, 1002] ?_
    apply zh
    apply z5
    have hE := And.intro hE hrs
    refine WQ [0, 3, 13, 14, 15, 23, 24, 25] [32, 33, 37, 1000, 1001, 1002] ?_
    refine WN (⟨k + 1, by omega⟩)
   ·apply zj
    apply zc
    have hend : k = qx L (i : Int) := by omega
    subst hend
    have hfull : z2m (qc L i) C (qx L (i : Int)) = qc L (i + 1) := by rw [hevs, z2m, htkc]
    have hll : (qc L (i + 1)).length = (qc L i).length + qx L (i : Int) := by rw [hevs, List.length_append, hlc]
    have hE := And.intro hE (And.intro hfull hll)
    apply zb
    apply zn
    apply zh
    apply z5
    refine WQ [0, 3, 13, 14, 15] [32, 33, 37, 1000, 1001, 1002] ?_
    refine WN (⟨i + 1, by omega⟩)
  ·apply zj
   apply zc
   have hend : i = p := by omega
   subst hend
   apply zb
   apply zn
   apply z5
   refine Xe 33 hR.2.2.2 rfl (datE_map _) rfl ?_
   have htk : List.take (qc L i).length ((qc L i).map zf) = (qc L i).map zf := List.take_of_length_le (by simp)
   simp (disch := omega) only [avA, zk, zo, seval, hE, htk]
   apply zm [2] [33, 37, 1000, 1001, 1002]
   ·refine RN ?_
    refine CX (fun _ => 37) [5] (zrk G (qc L i) (by omega)) ?_
    exact SC
   apply z9
   exact E0
theorem zfg (G) (l : List EventM) (n : NameM) (hl : l.length ≤ 1000) : zl Tryz.prog G 114 [zr l, xz n] [iD (vc l n)] := by
 skip
 skip
 refine GI [] [] [] Tryz.func114 Tryz.ntmps114 fun F hP hG hN hR hA => ?_
 have hE := And.intro @Tryz.results114 (@z0j)
 refine WS [0, 3] [3] ?_
 apply z3
 refine WS [0, 3, 5] [3] ?_
 apply z7
 refine WL (ι := {i : Nat // i ≤ l.length ∧ ∀ j, j < i → Qk n (l.getD j default) = false}) [0, 3] [3] (fun ⟨i, hif⟩ => [(5, .dat (iD i))]) (fun ⟨i, hif⟩ => []) (fun ⟨i, hif⟩ => l.length - i) (⟨0, by omega, Ze⟩) ?_
 rintro ⟨i, hif⟩
 refine LA ?_
 obtain ⟨hi, hf⟩ := id hif
 apply z3
 refine WS [0, 3, 5, 9] [3] ?_
 refine WI ?_ ?_ <;> intro hb
 ·apply z6
  apply z5
  apply z3
  apply z7
  apply w9 [0, 3, 5, 18] [3] [0, 1, 2, 3, 4, 5, 6] []
  ·rw [hP]; kernel_rfl
  ·exact hR
  ·kernel_rfl
  ·(repeat (apply PickL.cons; exact rfl)); exact PickL.nil _
  ·refine RN ?_
   refine CU (X7 G (l.getD i default)) ?_
   exact SC
  refine WI ?_ ?_ <;> intro hb
  ·have hv : vc l n = i := Q5 (show i < l.length by omega) (by unfold Qk zz; rw [hb.1, hb.2]; simp) hf
   have hE := And.intro hE hv
   refine WS [4] [] ?_
   apply z9
   apply zd
   apply za
   apply zu
   apply zd
   apply za
   exact E0
  ·have hnb : Qk n (l.getD i default) = false := by unfold Qk zz; grind
   apply z6
   apply zh
   apply z5
   refine WQ [0, 3, 5] [3] ?_
   refine WN (⟨i + 1, by omega, xf hif.2 hnb⟩)
 ·apply zj
  apply zc
  obtain rfl : i = l.length := by omega
  have hv : vc l n = -1 := Q4 hf
  have hE := And.intro hE hv
  apply zb
  apply zn
  apply z5
  refine WS [4] [] ?_
  apply z9
  exact E0
def wg (h : List (Int × List Int)) (c : EventM) : Bool := decide (c.Seq < (h.getD c.By.toNat default).1)
def vn (h : List (Int × List Int)) (l : List EventM) : List EventM := l.filter fun c => !wg h c
theorem za6 {α : Type} [Inhabited α] (p : α → Bool) (l : List α) : (kc p l = -1 ∧ ∀ x ∈ l, p x = false) ∨ ∃ k, k < l.length ∧ kc p l = k ∧ p (l.getD k default) = true ∧ ∀ j, j < k → p (l.getD j default) = false := by
 have e : ∀ j (h : j < l.length), l.getD j default = l[j] := fun j h => by rw [List.getD_eq_getElem?_getD, List.getElem?_eq_getElem h]; rfl
 by_cases h : l.findIdx p < l.length
 ·refine .inr ⟨l.findIdx p, h, by unfold kc; rw [if_pos h], ?_, fun (j : Nat) (hj : j < l.findIdx p) => ?_⟩
  ·rw [e _ h]; exact List.findIdx_getElem
  ·have hjl : j < l.length := Nat.lt_trans hj h
   rw [e j hjl]; simpa using List.not_of_lt_findIdx (p := p) hj
 ·refine .inl ⟨by unfold kc; rw [if_neg h], fun x hx => ?_⟩
  have := (List.findIdx_eq_length (p := p) (xs := l)).1 (Nat.le_antisymm List.findIdx_le_length (by omega)) x hx
  simpa using this
theorem zxb {l : List EventM} {i : Nat} {c : EventM} : ((l.map zf).map AV.dat).set i (.dat (zf c)) = ((l.set i c).map zf).map AV.dat := by rw [List.map_set, List.map_set]
def Xd (h : List (Int × List Int)) (l : List EventM) (j i : Nat) (R : List EventM) : Prop := j ≤ l.length ∧ R.length = l.length ∧ R.take i = vn h (l.take j) ∧ R.drop j = l.drop j ∧ i ≤ j
theorem zsu {h : List (Int × List Int)} {l R : List EventM} {j i : Nat} (hd : Xd h l j i R) (hj : j < l.length) : R.getD j default = l.getD j default := by
 have h1 := congrArg (fun x : List EventM => x.getD 0 default) hd.2.2.2.1
 simpa [List.getD_eq_getElem?_getD, List.getElem?_drop] using h1
theorem z4l (h : List (Int × List Int)) {l : List EventM} {j : Nat} (hj : j < l.length) : vn h (l.take (j + 1)) = vn h (l.take j) ++ if wg h (l.getD j default) = true then [] else [l.getD j default] := by
 unfold vn
 rw [yn l hj, List.filter_append]
 cases hk : wg h (l.getD j default) <;> simp only [List.filter_cons, List.filter_nil, hk, Bool.not_true, Bool.not_false, if_true, Bool.false_eq_true, if_false]
theorem zds {h : List (Int × List Int)} {l R : List EventM} {j i : Nat} (hd : Xd h l j i R) (hj : j < l.length) (hk : wg h (l.getD j default) = true) : Xd h l (j + 1) i R := by
 obtain ⟨h1, h2, h3, h4, h5⟩ := hd
 refine ⟨hj, h2, by rw [h3, z4l h hj, if_pos hk, List.append_nil], ?_, by omega⟩
 have := congrArg (List.drop 1) h4
 simpa [List.drop_drop, Nat.add_comm] using this
theorem zdr {h : List (Int × List Int)} {l R : List EventM} {j i : Nat} (hd : Xd h l j i R) (hj : j < l.length) (hk : ¬ wg h (l.getD j default) = true) : Xd h l (j + 1) (i + 1) (R.set i (l.getD j default)) := by
 obtain ⟨h1, h2, h3, h4, h5⟩ := hd
 refine ⟨hj, by simp [h2], ?_, ?_, by omega⟩
 ·rw [z4l h hj, if_neg hk, ← h3]
  rw [List.take_succ_eq_append_getElem (by simp; omega)]
  rw [List.take_set_of_le (Nat.le_refl i)]
  simp
 ·rw [List.drop_set_of_lt (by omega)]
  have := congrArg (List.drop 1) h4
  simpa [List.drop_drop, Nat.add_comm] using this
theorem zei (G) (h : List (Int × List Int)) (hh : ∀ x ∈ h, x.2.length = 16) (c : EventM) (h0 : 0 ≤ c.By) (hn : c.By < h.length) : zl Tryz.prog G 53 [zf c, .ref (wz h)] [bD (wg h c)] := by
 have h16 := zt hh (i := c.By.toNat) (by omega)
 skip
 refine GI [] [] [] Tryz.func53 Tryz.ntmps53 fun F hP hG hN hR hA => ?_
 have hE := @Tryz.results53
 refine WS [1, 2] [2] ?_
 refine WD [3] [] [0, 1, 2, 3, 4, 5, 6, 7, 8, 9] [] ?_
 apply z9
 simp only [jr, y5, vd, qj, q9, qq, vb, qd, zy, xm, qs, wx, xh, xp, xl, ww, xn, xq, xy, xj, avA, zk, zo, seval, ↓List.forall_mem_cons, Op.operands, hP, hG, tiA, hE, wg]
 all_goals try trivial
theorem ztb (G) (h : List (Int × List Int)) (hh : ∀ x ∈ h, x.2.length = 16) (l : List EventM) (hl : l.length ≤ 1000) (hbb : ∀ e ∈ l, 0 ≤ e.By ∧ e.By < h.length) : zl Tryz.prog G 80 [zr l, .fn 53 [.ref (wz h)]] [iD (kc (wg h) l)] := by
 skip
 refine yi [] [] [] Tryz.func80 rfl (by rfl) (by simp [Tryz.ntmps80]) fun F hP hG hN hR => ?_
 rw [Tryz.ntmps80] at hN
 have hA := And.intro hN (And.intro hP (And.intro hG (And.intro hR.1 (And.intro hR.2.1 hR.2.2.1))))
 have hE := @Tryz.results80
 refine WS [0, 1] [] ?_
 apply z3
 refine WS [0, 1, 7, 8] [] ?_
 apply z7
 refine WL (ι := {i : Nat // i ≤ l.length ∧ ∀ j, j < i → wg h (l.getD j default) = false}) [0, 1, 7] [] (fun ⟨i, hif⟩ => [(8, .dat (iD i))]) (fun ⟨i, hif⟩ => []) (fun ⟨i, hif⟩ => l.length - i) (⟨0, by omega, Ze⟩) ?_
 rintro ⟨i, hif⟩
 refine LA ?_
 obtain ⟨hi, hf⟩ := id hif
 refine WS [0, 1, 7, 8, 9] [] ?_
 apply z3
 refine WI ?_ ?_ <;> intro hb
 ·have hbk := zt hbb (i := i) (by omega)
  apply z6
  apply z5
  apply z3
  apply z7
  refine WS [0, 1, 5, 7, 8] [] ?_
  apply zm [0, 1, 5, 7, 8, 16] []
  ·refine RN ?_
   (repeat' refine And.intro ?_ ?_) <;> try exact SD
   refine CallC.use (gvF hP hG (zei G h hh (l.getD i default) hbk.1 hbk.2)) (by simp only [qp, qd, zy, xm, qs, wx, xh, xp, xl, ww, xn, xq, xy, avA, zk, zo, seval, ↓List.forall_mem_cons, Op.operands, hE] <;> rfl) ?_
   try simp (maxSteps := 2000000) (disch := omega) only [wo, avA, zk, zo, seval, ↓List.forall_mem_cons, Op.operands, hA, tiA, hE]
   exact SC
  refine WI ?_ ?_ <;> intro hb
  ·have hv := Q5 (show i < l.length by omega) hb hf
   have hE := And.intro hE hv
   refine WS [4] [] ?_
   apply z9
   apply zd
   apply za
   apply zu
   apply zd
   apply za
   exact E0
  ·apply z6
   apply zh
   apply z5
   refine WQ [0, 1, 7, 8] [] ?_
   refine WN (⟨i + 1, by omega, xf hif.2 hb⟩)
 ·apply zj
  apply zc
  obtain rfl : i = l.length := by omega
  have hv := Q4 hf
  have hE := And.intro hE hv
  apply zb
  apply zn
  apply z5
  refine WS [4] [] ?_
  apply z9
  exact E0
theorem zav : ∀ (l : List Dat) {m m' : List AV}, jm m = some m' → jm (l.map .dat ++ m) = some (l.map .dat ++ m')
 | [], _, _, h => h
 | d :: l, m, m', h => by simp only [List.map_cons, List.cons_append, jm, z1z, zav l h]
theorem zr7 : z1z zg6 = some (.dat (zf default)) := by kernel_rfl
theorem zjk (h : List (Int × List Int)) (l : List EventM) : (vn h l).length ≤ l.length := List.length_filter_le _ _
theorem zeg {h : List (Int × List Int)} {l : List EventM} (hno : ∀ x ∈ l, wg h x = false) : vn h l = l := List.filter_eq_self.2 fun x hx => by simp [hno x hx]
theorem zkr {h : List (Int × List Int)} {l : List EventM} {k : Nat} (hk : k < l.length) (hk1 : wg h (l.getD k default) = true) (hk2 : ∀ j, j < k → wg h (l.getD j default) = false) : Xd h l (k + 1) k l := by
 refine ⟨hk, rfl, ?_, rfl, by omega⟩
 rw [z4l h hk, if_pos hk1, List.append_nil]
 have : ∀ x ∈ l.take k, wg h x = false := fun x hx => by
  obtain ⟨j, hj, rfl⟩ := List.getElem_of_mem hx
  have hj' : j < k := by simp at hj; omega
  have := hk2 j hj'
  rw [List.getD_eq_getElem?_getD, List.getElem?_eq_getElem (by omega)] at this
  simpa using this
 exact (zeg this).symm
theorem zst {h : List (Int × List Int)} {l R : List EventM} {i : Nat} (hd : Xd h l l.length i R) : R.take i = vn h l ∧ i = (vn h l).length := by
 obtain ⟨h1, h2, h3, h4, h5⟩ := hd
 rw [List.take_length] at h3
 exact ⟨h3, by rw [← h3, List.length_take]; omega⟩
theorem zwo {h : List (Int × List Int)} {l : List EventM} (hi : kc (wg h) l = -1) : vn h l = l := by
 rcases za6 (wg h) l with ⟨_, hno⟩ | ⟨k, _, h1, _⟩
 ·exact zeg hno
 ·omega
theorem ztc {h : List (Int × List Int)} {l : List EventM} (hi : ¬ kc (wg h) l = -1) : ∃ k, k < l.length ∧ kc (wg h) l = k ∧ Xd h l (k + 1) k l := by
 rcases za6 (wg h) l with ⟨h1, _⟩ | ⟨k, hk, h1, h2, h3⟩
 ·exact absurd h1 hi
 ·exact ⟨k, hk, h1, zkr hk h2 h3⟩
theorem zmv (R : List EventM) : List.take R.length (R.map zf) = R.map zf := List.take_of_length_le (by simp)
set_option maxRecDepth 100000 in
set_option maxHeartbeats 2000000 in
theorem zsw (G) (h : List (Int × List Int)) (hh : ∀ x ∈ h, x.2.length = 16) (l : List EventM) (hl : l.length ≤ 1000) (hbb : ∀ e ∈ l, 0 ≤ e.By ∧ e.By < h.length) : GivesX Tryz.prog G 54 [.osl 1000 32 0 l.length, .fn 53 [.rp (wz h) 0]] [(1000, ⟨32, (l.map zf).map .dat⟩)] [.osl 1000 32 0 (vn h l).length] [(1000, ⟨32, ((vn h l ++ List.replicate (l.length - (vn h l).length) default).map zf).map .dat⟩)] := by
 have htk : List.take l.length (l.map zf) = l.map zf := List.take_of_length_le (by simp)
 have hkl := zjk h l
 skip
 skip
 skip
 refine GX [] [] [] Tryz.func54 Tryz.ntmps54 fun F hP hG hN hR hA => ?_
 have hE := And.intro @Tryz.results54 (And.intro @htk (And.intro @zxb (And.intro @Nat.sub_zero (And.intro (@List.map_append EventM Dat zf) ((@List.map_append Dat AV .dat))))))
 refine WS [0, 1] [1000] ?_
 apply zm [0, 1, 5] [1000]
 ·refine RN ?_
  (repeat' refine And.intro ?_ ?_) <;> try exact SD
  refine CallC.use (gvF hP hG (ztb G h hh l hl hbb)) (by simp only [qp, qd, zy, xm, qs, wx, xh, xp, xl, ww, xn, xq, xy, avA, zk, zo, seval, ↓List.forall_mem_cons, Op.operands, hE] <;> rfl) ?_
  try simp (maxSteps := 2000000) (disch := omega) only [wo, avA, zk, zo, seval, ↓List.forall_mem_cons, Op.operands, hA, tiA, hE]
  exact SC
 apply z3
 refine WS [0, 1, 5, 12] [1000] ?_
 refine WI ?_ ?_ <;> intro hb
 ·have hkp := zwo hb
  have hE := And.intro hE (And.intro hb (And.intro hkp (And.intro (Nat.sub_self l.length) (@List.append_nil EventM l))))
  refine WS [4] [1000] ?_
  apply z9
  apply za
  exact E0
 ·apply z6
  apply z5
  apply z3
  obtain ⟨k, hk, hi1, hd0⟩ := ztc hb
  have hE := And.intro hE hi1
  refine WS [0, 1, 5, 6] [1000] ?_
  apply z7
  refine WL (ι := {s : List EventM × Nat × Nat // Xd h l s.2.1 s.2.2 s.1}) [0, 1] [] (fun ⟨⟨R, j, i⟩, hd⟩ => [(5, .dat (iD i)), (6, .dat (iD j))]) (fun ⟨⟨R, j, i⟩, hd⟩ => [(1000, ⟨32, (R.map zf).map .dat⟩)]) (fun ⟨⟨R, j, i⟩, hd⟩ => l.length - j) (⟨(l, k + 1, k), hd0⟩) ?_
  rintro ⟨⟨R, j, i⟩, hd⟩
  refine LA ?_
  dsimp only at hd ⊢
  obtain ⟨hj, hRl, hR3, hR4, hij⟩ := id hd
  have hRg := zmv R
  have hE := And.intro hE (And.intro hRl hRg)
  apply z3
  refine WS [0, 1, 5, 6, 19] [1000] ?_
  refine WI ?_ ?_ <;> intro hb
  ·have hjl : j < l.length := by omega
   have hgt := zsu hd hjl
   have hbk := zt hbb (i := j) hjl
   have hE := And.intro hE hgt
   apply z6
   apply z5
   apply z3
   apply z7
   refine WS [0, 1, 5, 6, 7] [7, 1000] ?_
   have hc := gvF hP hG (zei G h hh (l.getD j default) hbk.1 hbk.2)
   refine WSc [0, 1, 5, 6, 7, 29] [7, 1000] ?_
   refine WI ?_ ?_ <;> intro hb
   ·have hkk : ¬ wg h (l.getD j default) = true := by simpa using hb
    refine WS [0, 1, 5, 6] [1000] ?_
    refine WQ [0, 1, 5, 6] [1000] ?_
    apply zh
    apply z5
    refine WQ [0, 1, 5, 6] [1000] ?_
    refine WN (⟨(_, _, _), (by first | exact zdr hd hjl hkk | exact zds hd hjl hkk)⟩)
   ·have hkk : wg h (l.getD j default) = true := by simpa using hb
    apply z6
    apply zh
    apply z5
    refine WQ [0, 1, 5, 6] [1000] ?_
    refine WN (⟨(_, _, _), (by first | exact zdr hd hjl hkk | exact zds hd hjl hkk)⟩)
  ·apply zj
   apply zc
   obtain rfl : j = l.length := by omega
   obtain ⟨hRt, hi⟩ := zst hd
   subst hi
   have hE := And.intro hE hRt
   apply zb
   apply zn
   apply z5
   refine wp ?_
   apply wy
   ·(iterate 3 apply Seg.cons); exact Seg.nil _
   ·refine RK ?_
    exact SC
   refine yg rfl (znv rfl rfl (by rw [hP]; exact ti23) rfl (by rw [hP]; exact ti42) rfl rfl rfl rfl rfl rfl rfl (by simp; omega)) ?_
   simp only [avA, seval]
   apply wi [0, 5] [1000]
   ·refine RN ?_
    exact SC
   refine zix 1000 (l' := ((vn h l ++ List.replicate (l.length - (vn h l).length) default).map zf).map .dat) rfl (by have := zav ((vn h l).map zf) (zax zr7 (l.length - (vn h l).length)); simpa [List.map_append, List.map_replicate] using this) ?_
   refine WS [4] [1000] ?_
   apply z9
   exact E0
def z08 (h : Int × List Int) : Bool := decide (h.1 < 0) || decide (64 < h.1)
def z04 (L : List EventM) (h : List (Int × List Int)) (i : Nat) : Bool := decide ((h.getD i default).1 ≤ qx L (i : Int)) && !(z00 (xd L (i : Int) (h.getD i default).1.toNat) == (h.getD i default).2)
def je (p : Nat) (L : List EventM) (h : List (Int × List Int)) : List EventM × Int :=
 if h.length ≠ p then ([], 1) else if h.any z08 = true then ([], 1) else if (List.range p).any (z04 L h) = true then ([], 9) else (vn h (qv (qc L p)), 0)
theorem zsf (G) (h : Int × List Int) (hh : h.2.length = 16) : zl Tryz.prog G 50 [Za h] [bD (z08 h)] := by
 skip
 refine GI [] [] [] Tryz.func50 Tryz.ntmps50 fun F hP hG hN hR hA => ?_
 have hE := @Tryz.results50
 refine WS [1] [1] ?_
 refine v7 (.of [(2, .dat (bD (z08 h)))] []) ?_ ?_
 ·by_cases h0 : h.1 < 0
  ·have hd0 : decide (h.1 < 0) = true := by simpa using h0
   have hbb : z08 h = true := by unfold z08; rw [hd0]; rfl
   have hE := And.intro hE (And.intro hd0 hbb)
   refine Zk [2] [] [(0, 3, _), (1, 4, _), (2, 5, .dat (bD true)), (3, 6, .dat (bD true)), (4, 7, .cond false .junk), (5, 8, .cond false .junk), (6, 9, .cond false (.dat (bD false))), (7, 10, .dat (bD true)), (8, 2, _)] [] ⟨FV 0 [] [1, 2, 3, 4, 5, 6, 7, 8], FV 1 [0] [2, 3, 4, 5, 6, 7, 8], FV 2 [0, 1] [3, 4, 5, 6, 7, 8], FV 3 [0, 1, 2] [4, 5, 6, 7, 8], FO 4 [0, 1, 2, 3] [5, 6, 7, 8], FO 5 [0, 1, 2, 3, 4] [6, 7, 8], FO 6 [0, 1, 2, 3, 4, 5] [7, 8], FV 7 [0, 1, 2, 3, 4, 5, 6] [8], FV 8 [0, 1, 2, 3, 4, 5, 6, 7] [], trivial⟩ ?_
   exact ML
  ·have hd0 : decide (h.1 < 0) = false := by simpa using h0
   have hbb : z08 h = decide (64 < h.1) := by unfold z08; rw [hd0]; rfl
   have hE := And.intro hE (And.intro hd0 hbb)
   refine Zk [2] [] [(0, 3, _), (1, 4, _), (2, 5, .dat (bD false)), (3, 6, .dat (bD false)), (4, 7, _), (5, 8, _), (6, 9, _), (7, 10, _), (8, 2, _)] [] ⟨FV 0 [] [1, 2, 3, 4, 5, 6, 7, 8], FV 1 [0] [2, 3, 4, 5, 6, 7, 8], FV 2 [0, 1] [3, 4, 5, 6, 7, 8], FV 3 [0, 1, 2] [4, 5, 6, 7, 8], FG 4 [0, 1, 2, 3] [5, 6, 7, 8], FG 5 [0, 1, 2, 3, 4] [6, 7, 8], FG 6 [0, 1, 2, 3, 4, 5] [7, 8], FV 7 [0, 1, 2, 3, 4, 5, 6] [8], FV 8 [0, 1, 2, 3, 4, 5, 6, 7] [], trivial⟩ ?_
   exact ML
 apply z9
 exact E0
theorem zta (G) (h : List (Int × List Int)) (hh : ∀ x ∈ h, x.2.length = 16) (hl : h.length ≤ 1000) : zl Tryz.prog G 93 [wz h, .fn 50 []] [iD (kc z08 h)] := by
 skip
 refine yi [] [] [] Tryz.func93 rfl (by rfl) (by simp [Tryz.ntmps93]) fun F hP hG hN hR => ?_
 rw [Tryz.ntmps93] at hN
 have hA := And.intro hN (And.intro hP (And.intro hG (And.intro hR.1 (And.intro hR.2.1 hR.2.2.1))))
 have hE := @Tryz.results93
 refine WS [0, 1] [] ?_
 apply z3
 refine WS [0, 1, 7, 8] [] ?_
 apply z7
 refine WL (ι := {i : Nat // i ≤ h.length ∧ ∀ j, j < i → z08 (h.getD j default) = false}) [0, 1, 7] [] (fun ⟨i, hif⟩ => [(8, .dat (iD i))]) (fun ⟨i, hif⟩ => []) (fun ⟨i, hif⟩ => h.length - i) (⟨0, by omega, Ze⟩) ?_
 rintro ⟨i, hif⟩
 refine LA ?_
 obtain ⟨hi, hf⟩ := id hif
 refine WS [0, 1, 7, 8, 9] [] ?_
 apply z3
 refine WI ?_ ?_ <;> intro hb
 ·have hbk := zt hh (i := i) (by omega)
  have hE := And.intro hE hbk
  apply z6
  apply z5
  apply z3
  apply z7
  refine WS [0, 1, 5, 7, 8] [] ?_
  have hc := gvF hP hG (zsf G (h.getD i default) hbk)
  refine WSc [0, 1, 5, 7, 8, 16] [] ?_
  refine WI ?_ ?_ <;> intro hb
  ·have hv := Q5 (show i < h.length by omega) hb hf
   have hE := And.intro hE hv
   refine WS [4] [] ?_
   apply z9
   apply zd
   apply za
   apply zu
   apply zd
   apply za
   exact E0
  ·apply z6
   apply zh
   apply z5
   refine WQ [0, 1, 7, 8] [] ?_
   refine WN (⟨i + 1, by omega, xf hif.2 hb⟩)
 ·apply zj
  apply zc
  obtain rfl : i = h.length := by omega
  have hv := Q4 hf
  have hE := And.intro hE hv
  apply zb
  apply zn
  apply z5
  refine WS [4] [] ?_
  apply z9
  exact E0
theorem zt6 (G) (h : List (Int × List Int)) (hh : ∀ x ∈ h, x.2.length = 16) (hl : h.length ≤ 1000) : zl Tryz.prog G 49 [wz h, .fn 50 []] [bD (h.any z08)] := by
 have hia : decide (0 ≤ kc z08 h) = h.any z08 := by rw [Bool.eq_iff_iff, decide_eq_true_eq]; exact kd
 skip
 skip
 refine yi [] [] [] Tryz.func49 rfl (by rfl) (by simp [Tryz.ntmps49]) fun F hP hG hN hR => ?_
 rw [Tryz.ntmps49] at hN
 have hA := And.intro hN (And.intro hP (And.intro hG (And.intro hR.1 (And.intro hR.2.1 hR.2.2.1))))
 have hE := And.intro @Tryz.results49 (@hia)
 refine WS [0, 1] [] ?_
 have hc := gvF hP hG (zta G h hh hl)
 refine WSc [4] [] ?_
 apply z9
 exact E0
theorem zsv (G) (h : List (Int × List Int)) (hh : ∀ x ∈ h, x.2.length = 16) (l : List EventM) (n : Nat) (hn : l.length = n) (hl : l.length ≤ 1000) (hbb : ∀ e ∈ l, 0 ≤ e.By ∧ e.By < h.length) : GivesX Tryz.prog G 54 [.osl 1000 32 0 n, .fn 53 [.rp (wz h) 0]] [(1000, ⟨32, (l.map zf).map .dat⟩)] [.osl 1000 32 0 (vn h l).length] [(1000, ⟨32, ((vn h l ++ List.replicate (l.length - (vn h l).length) default).map zf).map .dat⟩)] := hn ▸ zsw G h hh l hl hbb
theorem zo7 (A B : List Dat) : y3 (A.map .dat ++ B.map .dat) = some (A ++ B) := by rw [← List.map_append, datE_map]
theorem zvi (l : List Int) : zk ((l.map u8D).map AV.dat) = some (l.map u8D) := z6o l
theorem zd6 {p : Nat → Bool} {i : Nat} (h : ∀ j, j < i → p j = false) (hb : ¬ p i = true) : ∀ j, j < i + 1 → p j = false := fun j hj => by
 rcases Nat.lt_succ_iff_lt_or_eq.1 hj with h1 | rfl
 ·exact h j h1
 ·simpa using hb
theorem zww {h : List (Int × List Int)} (hn : ¬ h.any z08 = true) {i : Nat} (hi : i < h.length) : 0 ≤ (h.getD i default).1 ∧ (h.getD i default).1 ≤ 64 := by
 have h1 : z08 (h.getD i default) = false := by
  rw [List.getD_eq_getElem?_getD, List.getElem?_eq_getElem hi, Option.getD_some]
  have := List.any_eq_false.1 (by simpa using hn) _ (List.getElem_mem hi)
  simpa using this
 unfold z08 at h1
 simp only [Bool.or_eq_false_iff, decide_eq_false_iff_not] at h1
 omega
set_option maxRecDepth 100000 in
set_option maxHeartbeats 4000000 in
theorem zg4 (G) (hgk : G.lookup 1 = some (wsD kH)) (p : Nat) (hp : p ≤ 1000) (L : List EventM) (hL : ∀ e ∈ L, jf e) (hn : L.length ≤ 100000) (h20 : (qc L p).length < 20) (hby : ∀ e ∈ qc L p, 0 ≤ e.By ∧ e.By < p) (h : List (Int × List Int)) (hh : ∀ x ∈ h, x.2.length = 16) (hhl : h.length ≤ 1000) : GivesX Tryz.prog G 13 [.ptr 1000 2 0 0, .dat (wz h)] (arO p L) [.dat (zr (je p L h).1), .dat (iD (je p L h).2)] (arO p L) := by
 skip
 skip
 skip
 refine GX [] [45, 54, 56] [] Tryz.func13 Tryz.ntmps13 fun F hP hG hN hR hA => ?_
 have hE := And.intro @Tryz.results13 (And.intro @z7t (And.intro @qu (And.intro @jl (And.intro @Zm (And.intro @Xt (And.intro @zj3 (And.intro @zc5 (@zvi))))))))
 refine WS [0, 3] [3, 37, 1000, 1001, 1002] ?_
 apply z3
 refine Xe 3 hR.2.2.2 rfl rfl rfl ?_
 simp (disch := omega) only [avA, zk, zo, seval, hE]
 refine WDF [0, 3, 20] [3, 37, 1000, 1001, 1002] [(0, 9, _), (1, 10, .dat (bD false)), (2, 11, .dat (bD false)), (3, 12, _), (4, 13, _), (5, 14, _), (6, 15, _), (7, 16, _), (8, 17, _), (9, 18, _), (10, 19, _), (11, 20, _)] [] ⟨FV 0 [] [1, 2, 3, 4, 5, 6, 7, 8, 9, 10, 11], FV 1 [0] [2, 3, 4, 5, 6, 7, 8, 9, 10, 11], FV 2 [0, 1] [3, 4, 5, 6, 7, 8, 9, 10, 11], FG 3 [0, 1, 2] [4, 10, 11], FG 4 [0, 1, 2, 3] [10, 11], FG 5 [0, 1, 2] [6, 7, 8, 9, 10, 11], FG 6 [0, 1, 2, 5] [7, 8, 9, 10, 11], FG 7 [0, 1, 2, 5, 6] [8, 9, 10, 11], FG 8 [0, 1, 2, 5, 6, 7] [9, 10, 11], FG 9 [0, 1, 2, 5, 6, 7, 8] [10, 11], FG 10 [0, 1, 2, 3, 4, 5, 6, 7, 8, 9] [11], FV 11 [0, 1, 2, 3, 4, 5, 6, 7, 8, 9, 10] [], trivial⟩ ?_
 refine WI ?_ ?_ <;> intro hb
 ·have hv : je p L h = ([], 1) := by unfold je; rw [if_pos (by omega)]
  have hE := And.intro hE hv
  refine WS [4, 5] [37, 1000, 1001, 1002] ?_
  apply z9
  apply za
  refine EN ?_
  all_goals try trivial
  all_goals first | exact ⟨_, rfl, rfl⟩ | exact .inl rfl | exact .inr ⟨_, rfl, rfl⟩
 ·have hlp : h.length = p := by omega
  apply z6
  apply z5
  apply z3
  have hc := gvF hP hG (zt6 G h hh hhl)
  refine WSc [0, 3, 22] [3, 37, 1000, 1001, 1002] ?_
  refine WI ?_ ?_ <;> intro hb
  ·have hv : je p L h = ([], 1) := by unfold je; rw [if_neg (by omega), if_pos hb]
   have hE := And.intro hE hv
   refine WS [4, 5] [37, 1000, 1001, 1002] ?_
   apply z9
   apply za
   refine EN ?_
   all_goals try trivial
   all_goals first | exact ⟨_, rfl, rfl⟩ | exact .inl rfl | exact .inr ⟨_, rfl, rfl⟩
  ·have hnb : ¬ h.any z08 = true := by simpa using hb
   apply z6
   apply z5
   apply z3
   refine WS [0, 3, 23, 24, 25] [3, 37, 1000, 1001, 1002] ?_
   apply z7
   refine WL (ι := {i : Nat // i ≤ p ∧ ∀ j, j < i → z04 L h j = false}) [0, 3, 23, 24] [3, 37, 1000, 1001, 1002] (fun ⟨i, hif⟩ => [(25, .dat (iD i))]) (fun ⟨i, hif⟩ => []) (fun ⟨i, hif⟩ => p - i) (⟨0, by omega, fun j hj => absurd hj (Nat.not_lt_zero j)⟩) ?_
   rintro ⟨i, hif⟩
   refine LA ?_
   obtain ⟨hi, hf⟩ := id hif
   refine WS [0, 3, 23, 24, 25, 26] [3, 37, 1000, 1001, 1002] ?_
   apply z3
   refine WI ?_ ?_ <;> intro hb
   ·have h16 := zt hh (i := i) (by omega)
    have hb64 := zww hnb (i := i) (by omega)
    obtain ⟨n0, hn0⟩ : ∃ n : Nat, (h.getD i default).1 = (n : Int) := ⟨(h.getD i default).1.toNat, by omega⟩
    have hcg := y7 (L := L) (i := i) (p := p) (by omega)
    have hrw := Qq (l := qz p L) (i := i) (by rw [qu]; omega)
    rw [hcg] at hrw
    have ht16 : List.take 16 ((h.getD i default).2.map u8D) = (h.getD i default).2.map u8D := List.take_of_length_le (by simp only [List.length_map]; omega)
    have ht17 : List.take 16 (((h.getD i default).2.map u8D).map AV.dat) = ((h.getD i default).2.map u8D).map AV.dat := List.take_of_length_le (by simp only [List.length_map]; omega)
    have hE := And.intro hE (And.intro hrw (And.intro h16 (And.intro hn0 (And.intro ht16 ht17))))
    apply z6
    apply z5
    apply z3
    apply z7
    refine WS [0, 3, 6, 7, 23, 24, 25] [3, 7, 37, 1000, 1001, 1002] ?_
    refine v7 (.of [(0, .ptr 1000 2 0 0), (3, .rp (wz h) 0), (23, .dat (wz h)), (24, .dat (iD h.length)), (25, .dat (iD i)), (50, .dat (bD (z04 L h i)))] [(1000, ⟨2, [.agg [.osl 1001 1 0 p, .mp 1002]]⟩), (1001, ⟨1, ((qz p L).map iD).map .dat⟩), (1002, ⟨0, [.tup [], .dat (.sl (z0l L)), .dat (.sl (L.map zf))]⟩)]) ?_ ?_
    ·by_cases h0 : (n0 : Int) ≤ qx L (i : Int)
     ·have hd0 : decide ((n0 : Int) ≤ qx L (i : Int)) = true := by simpa using h0
      have hbb : z04 L h i = !(z00 (xd L (i : Int) n0) == (h.getD i default).2) := by unfold z04; rw [hn0, hd0, Int.toNat_natCast]; rfl
      have hln := w6 L (i : Int) n0
      have hE := And.intro hE (And.intro hd0 hbb)
      refine z1u [0, 3, 23, 24, 25, 50] [3, 37, 1000, 1001, 1002] [(0, 30, _), (1, 31, .dat (iD (n0 : Int))), (2, 32, _), (3, 33, _), (4, 34, _), (5, 35, _), (6, 36, _), (7, 37, _), (8, 38, _), (9, 39, .dat (bD true)), (10, 40, .dat (bD true)), (11, 41, _), (12, 42, _), (13, 43, _), (14, 44, _), (15, 45, .dat (zr (xd L (i : Int) n0))), (16, 46, .dat (bsD (z00 (xd L (i : Int) n0)))), (17, 47, _), (18, 48, .dat (bsD (h.getD i default).2)), (19, 49, .dat (bD (!(z00 (xd L (i : Int) n0) == (h.getD i default).2)))), (20, 50, .dat (bD (!(z00 (xd L (i : Int) n0) == (h.getD i default).2))))] [] ⟨FV 0 [] [1, 9, 10, 11, 12, 13, 14, 15, 16, 17, 18, 19, 20], FV 1 [0] [9, 10, 11, 12, 13, 14, 15, 16, 17, 18, 19, 20], FV 2 [] [3, 4, 5, 7, 8, 9, 10, 11, 12, 13, 14, 15, 16, 17, 18, 19, 20], FV 3 [2] [4, 5, 7, 8, 9, 10, 11, 12, 13, 14, 15, 16, 17, 18, 19, 20], FV 4 [2, 3] [5, 7, 8, 9, 10, 11, 12, 13, 14, 15, 16, 17, 18, 19, 20], FV 5 [2, 3, 4] [7, 8, 9, 10, 11, 12, 13, 14, 15, 16, 17, 18, 19, 20], FV 6 [] [7, 8, 9, 10, 11, 12, 13, 14, 15, 16, 17, 18, 19, 20], FV 7 [2, 3, 4, 5, 6] [8, 9, 10, 11, 12, 13, 14, 15, 16, 17, 18, 19, 20], FV 8 [2, 3, 4, 5, 6, 7] [9, 10, 11, 12, 13, 14, 15, 16, 17, 18, 19, 20], FV 9 [0, 1, 2, 3, 4, 5, 6, 7, 8] [10, 11, 12, 13, 14, 15, 16, 17, 18, 19, 20], FV 10 [0, 1, 2, 3, 4, 5, 6, 7, 8, 9] [11, 12, 13, 14, 15, 16, 17, 18, 19, 20], FG 11 [0, 1, 2, 3, 4, 5, 6, 7, 8, 9, 10] [15, 16, 19, 20], FG 12 [0, 1, 2, 3, 4, 5, 6, 7, 8, 9, 10] [15, 16, 19, 20], FG 13 [0, 1, 2, 3, 4, 5, 6, 7, 8, 9, 10] [14, 15, 16, 19, 20], FG 14 [0, 1, 2, 3, 4, 5, 6, 7, 8, 9, 10, 13] [15, 16, 19, 20], (FGs 15 [0, 1, 2, 3, 4, 5, 6, 7, 8, 9, 10, 11, 12, 13, 14] [16, 19, 20] (fun D hA1 hA2 => by simp only [qt, NoD] at hA1 hA2; exact xk (m := fun i => i) rfl rfl (by rw [hN]; omega) EV' (z0r hP hG (z1e G p L (i : Int) n0 (by omega))) EX' (wh hN EL' (by rfl)))), (by have hc := gvF hP hG (zik G hgk (xd L (i : Int) n0) (z1b hL _ _) (by rw [w6]; omega)); exact FGc 16 [0, 1, 2, 3, 4, 5, 6, 7, 8, 9, 10, 11, 12, 13, 14, 15] [19, 20]), FG 17 [0, 1, 2, 3, 4, 5, 6, 7, 8, 9, 10] [18, 19, 20], FG 18 [0, 1, 2, 3, 4, 5, 6, 7, 8, 9, 10, 17] [19, 20], (FGs 19 [0, 1, 2, 3, 4, 5, 6, 7, 8, 9, 10, 11, 12, 13, 14, 15, 16, 17, 18] [20] (fun D hA1 hA2 => by simp only [qt, NoD] at hA1 hA2; exact zd9 (n := 16) rfl rfl (by rw [hN]; omega) (by rw [hP]; unfold zky; kernel_rfl) EV' EV' (Qv _ _) h16)), FV 20 [0, 1, 2, 3, 4, 5, 6, 7, 8, 9, 10, 11, 12, 13, 14, 15, 16, 17, 18, 19] [], trivial⟩ ?_
      exact ML
     ·have hd0 : decide ((n0 : Int) ≤ qx L (i : Int)) = false := by simpa using h0
      have hbb : z04 L h i = false := by unfold z04; rw [hn0, hd0]; rfl
      have hE := And.intro hE (And.intro hd0 hbb)
      refine z1u [0, 3, 23, 24, 25, 50] [3, 37, 1000, 1001, 1002] [(0, 30, _), (1, 31, .dat (iD (n0 : Int))), (2, 32, _), (3, 33, _), (4, 34, _), (5, 35, _), (6, 36, _), (7, 37, _), (8, 38, _), (9, 39, .dat (bD false)), (10, 40, .dat (bD false)), (11, 41, .cond false .junk), (12, 42, .cond false .junk), (13, 43, .cond false .junk), (14, 44, .cond false .junk), (15, 45, .cond false .junk), (16, 46, .cond false .junk), (17, 47, .cond false .junk), (18, 48, .cond false .junk), (19, 49, .cond false (.dat (bD false))), (20, 50, _)] [] ⟨FV 0 [] [1, 9, 10, 11, 12, 13, 14, 15, 16, 17, 18, 19, 20], FV 1 [0] [9, 10, 11, 12, 13, 14, 15, 16, 17, 18, 19, 20], FV 2 [] [3, 4, 5, 7, 8, 9, 10, 11, 12, 13, 14, 15, 16, 17, 18, 19, 20], FV 3 [2] [4, 5, 7, 8, 9, 10, 11, 12, 13, 14, 15, 16, 17, 18, 19, 20], FV 4 [2, 3] [5, 7, 8, 9, 10, 11, 12, 13, 14, 15, 16, 17, 18, 19, 20], FV 5 [2, 3, 4] [7, 8, 9, 10, 11, 12, 13, 14, 15, 16, 17, 18, 19, 20], FV 6 [] [7, 8, 9, 10, 11, 12, 13, 14, 15, 16, 17, 18, 19, 20], FV 7 [2, 3, 4, 5, 6] [8, 9, 10, 11, 12, 13, 14, 15, 16, 17, 18, 19, 20], FV 8 [2, 3, 4, 5, 6, 7] [9, 10, 11, 12, 13, 14, 15, 16, 17, 18, 19, 20], FV 9 [0, 1, 2, 3, 4, 5, 6, 7, 8] [10, 11, 12, 13, 14, 15, 16, 17, 18, 19, 20], FV 10 [0, 1, 2, 3, 4, 5, 6, 7, 8, 9] [11, 12, 13, 14, 15, 16, 17, 18, 19, 20], FO 11 [0, 1, 2, 3, 4, 5, 6, 7, 8, 9, 10] [15, 16, 19, 20], FO 12 [0, 1, 2, 3, 4, 5, 6, 7, 8, 9, 10] [15, 16, 19, 20], FO 13 [0, 1, 2, 3, 4, 5, 6, 7, 8, 9, 10] [14, 15, 16, 19, 20], FO 14 [0, 1, 2, 3, 4, 5, 6, 7, 8, 9, 10, 13] [15, 16, 19, 20], FO 15 [0, 1, 2, 3, 4, 5, 6, 7, 8, 9, 10, 11, 12, 13, 14] [16, 19, 20], FO 16 [0, 1, 2, 3, 4, 5, 6, 7, 8, 9, 10, 11, 12, 13, 14, 15] [19, 20], FO 17 [0, 1, 2, 3, 4, 5, 6, 7, 8, 9, 10] [18, 19, 20], FO 18 [0, 1, 2, 3, 4, 5, 6, 7, 8, 9, 10, 17] [19, 20], FO 19 [0, 1, 2, 3, 4, 5, 6, 7, 8, 9, 10, 11, 12, 13, 14, 15, 16, 17, 18] [20], FV 20 [0, 1, 2, 3, 4, 5, 6, 7, 8, 9, 10, 11, 12, 13, 14, 15, 16, 17, 18, 19] [], trivial⟩ ?_
      exact ML
    refine WI ?_ ?_ <;> intro hb
    ·have hv : je p L h = ([], 9) := by unfold je; rw [if_neg (by omega), if_neg hnb, if_pos (List.any_eq_true.2 ⟨i, List.mem_range.2 (by omega), hb⟩)]
     have hE := And.intro hE hv
     refine WS [4, 5] [37, 1000, 1001, 1002] ?_
     apply z9
     apply zd
     apply za
     apply zu
     apply zd
     apply za
     refine EN ?_
     all_goals try trivial
     all_goals first | exact ⟨_, rfl, rfl⟩ | exact .inl rfl | exact .inr ⟨_, rfl, rfl⟩
    ·apply z6
     apply zh
     apply z5
     refine WQ [0, 3, 23, 24, 25] [3, 37, 1000, 1001, 1002] ?_
     refine WN (⟨i + 1, by omega, zd6 hif.2 (by simp [hb])⟩)
   ·apply zj
    apply zc
    have hip : i = p := by omega
    have hna : ¬ (List.range p).any (z04 L h) = true := by
     rw [List.any_eq_true]
     rintro ⟨j, hj, hj2⟩
     have := hf j (by have := List.mem_range.1 hj; omega)
     rw [this] at hj2
     exact absurd hj2 (by simp)
    have hv : je p L h = (vn h (qv (qc L p)), 0) := by unfold je; rw [if_neg (by omega), if_neg hnb, if_neg hna]
    have hsl : (qv (qc L p)).length = (qc L p).length := Qh _ _
    have hbs : ∀ e ∈ qv (qc L p), 0 ≤ e.By ∧ e.By < h.length := fun e he => by
     have := hby e (zml he)
     omega
    have hkl := zjk h (qv (qc L p))
    have hE := And.intro hE (And.intro hv hsl)
    apply zb
    apply zn
    apply z5
    refine WS [0, 8] [3, 37, 1000, 1001, 1002] ?_
    apply zm [4, 5] [37, 1000, 1001, 1002]
    ·refine RN ?_
     refine CX (fun i => i) [37] (zh5 G p hp L hL hn h20) ?_
     refine CX (fun _ => 37) [] (zsv G h hh (qv (qc L p)) (qc L p).length hsl (by omega) hbs) ?_
     exact SC
    refine Xe 37 hR.2.2.2 rfl (zo7 _ _) rfl ?_
    have htk : ∀ R : List Dat, List.take (vn h (qv (qc L p))).length ((vn h (qv (qc L p))).map zf ++ R) = (vn h (qv (qc L p))).map zf := fun R => List.take_left' (by simp)
    simp (disch := omega) only [avA, zk, zo, seval, hE, htk, Nat.le_add_right, if_true]
    apply z9
    refine EN ?_
    all_goals try trivial
    all_goals first | exact ⟨_, rfl, rfl⟩ | exact .inl rfl | exact .inr ⟨_, rfl, rfl⟩
def zjt (l : List EventM) : Nat → Int
 | 0 => -1
 | i + 1 => (l.getD i default).Tick
def zgf (b : Int) : Bool := decide (b < 0) || decide (6 ≤ b)
def z6j (b : Int) (l : List EventM) (i : Nat) : Bool := !(qn (l.getD i default) == 0) || (!(decide ((evName (l.getD i default)).By = b) && decide ((evName (l.getD i default)).Seq = (i : Int))) || decide ((l.getD i default).Tick ≤ zjt l i))
def zdk (l : List EventM) (h : Int × List Int) : Bool := !(h.1 == (l.length : Int)) || !(h.2 == z00 l)
def Qc (l : List EventM) (h : Int × List Int) (b : Int) : Int :=
 if zgf b = true then 1 else if (List.range l.length).any (z6j b l) = true then 1 else if zdk l h = true then 9 else 0
theorem zyv : ze0 Tryz.prog 81 := .inr (by unfold z5t; kernel_rfl)
set_option maxRecDepth 100000 in
set_option maxHeartbeats 4000000 in
theorem znu (G) (hgk : G.lookup 1 = some (wsD kH)) (l : List EventM) (hl : ∀ e ∈ l, jf e) (hn : l.length ≤ 100000) (h : Int × List Int) (hh : h.2.length = 16) (b : Int) : zl Tryz.prog G 23 [zr l, Za h, iD b] [iD (Qc l h b)] := by
 have ht16 : List.take 16 (h.2.map u8D) = h.2.map u8D := List.take_of_length_le (by simp only [List.length_map]; omega)
 have ht17 : List.take 16 ((h.2.map u8D).map AV.dat) = (h.2.map u8D).map AV.dat := List.take_of_length_le (by simp only [List.length_map]; omega)
 skip
 skip
 refine GI [] [] [] Tryz.func23 Tryz.ntmps23 fun F hP hG hN hR hA => ?_
 have hE := And.intro @Tryz.results23 (And.intro @zyv (And.intro @zj3 (And.intro @zc5 (And.intro @zvi (And.intro @hh (And.intro @ht16 (@ht17)))))))
 refine WS [0, 2, 4] [4] ?_
 apply z3
 refine v7 (.of [(0, .dat (zr l)), (2, .dat (iD b)), (4, .ptr 4 17 0 0), (15, .dat (bD (zgf b)))] [(4, ⟨17, [.dat (Za h)]⟩)]) ?_ ?_
 ·by_cases h0 : b < 0
  ·have hd0 : decide (b < 0) = true := by simpa using h0
   have hbb : zgf b = true := by unfold zgf; rw [hd0]; rfl
   have hE := And.intro hE (And.intro hd0 hbb)
   refine Zk [0, 2, 4, 15] [4] [(0, 10, _), (1, 11, .dat (bD true)), (2, 12, .dat (bD true)), (3, 13, .cond false .junk), (4, 14, .cond false (.dat (bD false))), (5, 15, .dat (bD true))] [] ⟨FV 0 [] [1, 2, 3, 4, 5], FV 1 [0] [2, 3, 4, 5], FV 2 [0, 1] [3, 4, 5], FO 3 [0, 1, 2] [4, 5], FO 4 [0, 1, 2, 3] [5], FV 5 [0, 1, 2, 3, 4] [], trivial⟩ ?_
   exact ML
  ·have hd0 : decide (b < 0) = false := by simpa using h0
   have hbb : zgf b = decide (6 ≤ b) := by unfold zgf; rw [hd0]; rfl
   have hE := And.intro hE (And.intro hd0 hbb)
   refine Zk [0, 2, 4, 15] [4] [(0, 10, _), (1, 11, .dat (bD false)), (2, 12, .dat (bD false)), (3, 13, _), (4, 14, _), (5, 15, _)] [] ⟨FV 0 [] [1, 2, 3, 4, 5], FV 1 [0] [2, 3, 4, 5], FV 2 [0, 1] [3, 4, 5], FG 3 [0, 1, 2] [4, 5], FG 4 [0, 1, 2, 3] [5], FV 5 [0, 1, 2, 3, 4] [], trivial⟩ ?_
   exact ML
 refine WI ?_ ?_ <;> intro hb
 ·have hv : Qc l h b = 1 := by unfold Qc; rw [if_pos hb]
  have hE := And.intro hE hv
  refine WS [6] [] ?_
  apply z9
  apply za
  exact E0
 ·have hnb : ¬ zgf b = true := by simpa using hb
  apply z6
  apply z5
  refine WS [0, 2, 4, 7] [4] ?_
  apply z3
  refine WS [0, 2, 4, 7, 16, 17, 18] [4] ?_
  apply z7
  refine WL (ι := {i : Nat // i ≤ l.length ∧ ∀ j, j < i → z6j b l j = false}) [0, 2, 4, 16, 17] [4] (fun ⟨i, hif⟩ => [(18, .dat (iD i)), (7, .dat (iD (zjt l i)))]) (fun ⟨i, hif⟩ => []) (fun ⟨i, hif⟩ => l.length - i) (⟨0, by omega, fun j hj => absurd hj (Nat.not_lt_zero j)⟩) ?_
  rintro ⟨i, hif⟩
  refine LA ?_
  obtain ⟨hi, hf⟩ := id hif
  refine WS [0, 2, 4, 7, 16, 17, 18, 19] [4] ?_
  apply z3
  refine WI ?_ ?_ <;> intro hb
  ·have hce := zt hl (i := i) (by omega)
   have hE := And.intro hE (show zjt l (i + 1) = (l.getD i default).Tick from rfl)
   apply z6
   apply z5
   apply z3
   apply z7
   refine WS [0, 2, 4, 7, 8, 9, 16, 17, 18] [4, 9] ?_
   apply z3
   refine v7 (.of [(0, .dat (zr l)), (2, .dat (iD b)), (4, .ptr 4 17 0 0), (9, .ptr 9 32 0 0), (16, .dat (zr l)), (17, .dat (iD l.length)), (18, .dat (iD i)), (39, .dat (bD (z6j b l i)))] [(4, ⟨17, [.dat (Za h)]⟩), (9, ⟨32, [.dat (zf (l.getD i default))]⟩)]) ?_ ?_
   ·by_cases h0 : (!(qn (l.getD i default) == 0)) = true
    ·have hbb : z6j b l i = true := by unfold z6j; rw [h0]; rfl
     have hE := And.intro hE (And.intro h0 hbb)
     refine Zk [0, 2, 4, 9, 16, 17, 18, 39] [4, 9] [(0, 23, _), (1, 24, .dat (iD (qn (l.getD i default)))), (2, 25, .dat (bD true)), (3, 26, .dat (bD true)), (4, 27, .cond false .junk), (5, 28, .cond false .junk), (6, 29, .cond false .junk), (7, 30, .cond false .junk), (8, 31, .cond false .junk), (9, 32, .cond false (.dat (bD false))), (10, 33, .dat (bD true)), (11, 34, .dat (bD true)), (12, 35, .cond false .junk), (13, 36, .cond false .junk), (14, 37, .cond false .junk), (15, 38, .cond false (.dat (bD false))), (16, 39, .dat (bD true))] [] ⟨FV 0 [] [1, 2, 3, 4, 5, 6, 7, 8, 9, 10, 11, 12, 13, 14, 15, 16], (by have hc := gvF hP hG (z3x G (l.getD i default) hce.1); exact FVc 1 [0] [2, 3, 4, 5, 6, 7, 8, 9, 10, 11, 12, 13, 14, 15, 16]), FV 2 [0, 1] [3, 4, 5, 6, 7, 8, 9, 10, 11, 12, 13, 14, 15, 16], FV 3 [0, 1, 2] [4, 5, 6, 7, 8, 9, 10, 11, 12, 13, 14, 15, 16], FO 4 [0, 1, 2, 3] [5, 9, 10, 11, 12, 13, 14, 15, 16], FO 5 [0, 1, 2, 3, 4] [9, 10, 11, 12, 13, 14, 15, 16], FO 6 [0, 1, 2, 3] [8, 9, 10, 11, 12, 13, 14, 15, 16], FO 7 [0, 1, 2, 3] [8, 9, 10, 11, 12, 13, 14, 15, 16], FO 8 [0, 1, 2, 3, 6, 7] [9, 10, 11, 12, 13, 14, 15, 16], FO 9 [0, 1, 2, 3, 4, 5, 6, 7, 8] [10, 11, 12, 13, 14, 15, 16], FV 10 [0, 1, 2, 3, 4, 5, 6, 7, 8, 9] [11, 12, 13, 14, 15, 16], FV 11 [0, 1, 2, 3, 4, 5, 6, 7, 8, 9, 10] [12, 13, 14, 15, 16], FO 12 [0, 1, 2, 3, 4, 5, 6, 7, 8, 9, 10, 11] [13, 15, 16], FO 13 [0, 1, 2, 3, 4, 5, 6, 7, 8, 9, 10, 11, 12] [15, 16], FO 14 [0, 1, 2, 3, 4, 5, 6, 7, 8, 9, 10, 11] [15, 16], FO 15 [0, 1, 2, 3, 4, 5, 6, 7, 8, 9, 10, 11, 12, 13, 14] [16], FV 16 [0, 1, 2, 3, 4, 5, 6, 7, 8, 9, 10, 11, 12, 13, 14, 15] [], trivial⟩ ?_
     exact ML
    ·have h0 : (!(qn (l.getD i default) == 0)) = false := by simpa using h0
     by_cases h1 : (!(decide ((evName (l.getD i default)).By = b) && decide ((evName (l.getD i default)).Seq = (i : Int)))) = true
     ·have hbb : z6j b l i = true := by unfold z6j; rw [h0, h1]; rfl
      have hE := And.intro hE (And.intro h0 (And.intro h1 hbb))
      refine Zk [0, 2, 4, 9, 16, 17, 18, 39] [4, 9] [(0, 23, _), (1, 24, .dat (iD (qn (l.getD i default)))), (2, 25, .dat (bD false)), (3, 26, .dat (bD false)), (4, 27, _), (5, 28, .dat (xz (evName (l.getD i default)))), (6, 29, _), (7, 30, _), (8, 31, _), (9, 32, .dat (bD true)), (10, 33, .dat (bD true)), (11, 34, .dat (bD true)), (12, 35, .cond false .junk), (13, 36, .cond false .junk), (14, 37, .cond false .junk), (15, 38, .cond false (.dat (bD false))), (16, 39, .dat (bD true))] [] ⟨FV 0 [] [1, 2, 3, 4, 5, 6, 7, 8, 9, 10, 11, 12, 13, 14, 15, 16], (by have hc := gvF hP hG (z3x G (l.getD i default) hce.1); exact FVc 1 [0] [2, 3, 4, 5, 6, 7, 8, 9, 10, 11, 12, 13, 14, 15, 16]), FV 2 [0, 1] [3, 4, 5, 6, 7, 8, 9, 10, 11, 12, 13, 14, 15, 16], FV 3 [0, 1, 2] [4, 5, 6, 7, 8, 9, 10, 11, 12, 13, 14, 15, 16], FG 4 [0, 1, 2, 3] [5, 9, 10, 11, 12, 13, 14, 15, 16], (by have hc := gvF hP hG (z2r G (l.getD i default)); exact FGc 5 [0, 1, 2, 3, 4] [9, 10, 11, 12, 13, 14, 15, 16]), FG 6 [0, 1, 2, 3] [8, 9, 10, 11, 12, 13, 14, 15, 16], FG 7 [0, 1, 2, 3] [8, 9, 10, 11, 12, 13, 14, 15, 16], FG 8 [0, 1, 2, 3, 6, 7] [9, 10, 11, 12, 13, 14, 15, 16], FG 9 [0, 1, 2, 3, 4, 5, 6, 7, 8] [10, 11, 12, 13, 14, 15, 16], FV 10 [0, 1, 2, 3, 4, 5, 6, 7, 8, 9] [11, 12, 13, 14, 15, 16], FV 11 [0, 1, 2, 3, 4, 5, 6, 7, 8, 9, 10] [12, 13, 14, 15, 16], FO 12 [0, 1, 2, 3, 4, 5, 6, 7, 8, 9, 10, 11] [13, 15, 16], FO 13 [0, 1, 2, 3, 4, 5, 6, 7, 8, 9, 10, 11, 12] [15, 16], FO 14 [0, 1, 2, 3, 4, 5, 6, 7, 8, 9, 10, 11] [15, 16], FO 15 [0, 1, 2, 3, 4, 5, 6, 7, 8, 9, 10, 11, 12, 13, 14] [16], FV 16 [0, 1, 2, 3, 4, 5, 6, 7, 8, 9, 10, 11, 12, 13, 14, 15] [], trivial⟩ ?_
      exact ML
     ·have h1 : (!(decide ((evName (l.getD i default)).By = b) && decide ((evName (l.getD i default)).Seq = (i : Int)))) = false := by simpa using h1
      have hbb : z6j b l i = decide ((l.getD i default).Tick ≤ zjt l i) := by unfold z6j; rw [h0, h1]; rfl
      have hE := And.intro hE (And.intro h0 (And.intro h1 hbb))
      refine Zk [0, 2, 4, 9, 16, 17, 18, 39] [4, 9] [(0, 23, _), (1, 24, .dat (iD (qn (l.getD i default)))), (2, 25, .dat (bD false)), (3, 26, .dat (bD false)), (4, 27, _), (5, 28, .dat (xz (evName (l.getD i default)))), (6, 29, _), (7, 30, _), (8, 31, _), (9, 32, .dat (bD false)), (10, 33, .dat (bD false)), (11, 34, .dat (bD false)), (12, 35, _), (13, 36, _), (14, 37, _), (15, 38, _), (16, 39, _)] [] ⟨FV 0 [] [1, 2, 3, 4, 5, 6, 7, 8, 9, 10, 11, 12, 13, 14, 15, 16], (by have hc := gvF hP hG (z3x G (l.getD i default) hce.1); exact FVc 1 [0] [2, 3, 4, 5, 6, 7, 8, 9, 10, 11, 12, 13, 14, 15, 16]), FV 2 [0, 1] [3, 4, 5, 6, 7, 8, 9, 10, 11, 12, 13, 14, 15, 16], FV 3 [0, 1, 2] [4, 5, 6, 7, 8, 9, 10, 11, 12, 13, 14, 15, 16], FG 4 [0, 1, 2, 3] [5, 9, 10, 11, 12, 13, 14, 15, 16], (by have hc := gvF hP hG (z2r G (l.getD i default)); exact FGc 5 [0, 1, 2, 3, 4] [9, 10, 11, 12, 13, 14, 15, 16]), FG 6 [0, 1, 2, 3] [8, 9, 10, 11, 12, 13, 14, 15, 16], FG 7 [0, 1, 2, 3] [8, 9, 10, 11, 12, 13, 14, 15, 16], FG 8 [0, 1, 2, 3, 6, 7] [9, 10, 11, 12, 13, 14, 15, 16], FG 9 [0, 1, 2, 3, 4, 5, 6, 7, 8] [10, 11, 12, 13, 14, 15, 16], FV 10 [0, 1, 2, 3, 4, 5, 6, 7, 8, 9] [11, 12, 13, 14, 15, 16], FV 11 [0, 1, 2, 3, 4, 5, 6, 7, 8, 9, 10] [12, 13, 14, 15, 16], FG 12 [0, 1, 2, 3, 4, 5, 6, 7, 8, 9, 10, 11] [13, 15, 16], FG 13 [0, 1, 2, 3, 4, 5, 6, 7, 8, 9, 10, 11, 12] [15, 16], FG 14 [0, 1, 2, 3, 4, 5, 6, 7, 8, 9, 10, 11] [15, 16], FG 15 [0, 1, 2, 3, 4, 5, 6, 7, 8, 9, 10, 11, 12, 13, 14] [16], FV 16 [0, 1, 2, 3, 4, 5, 6, 7, 8, 9, 10, 11, 12, 13, 14, 15] [], trivial⟩ ?_
      exact ML
   refine WI ?_ ?_ <;> intro hb
   ·have hv : Qc l h b = 1 := by unfold Qc; rw [if_neg hnb, if_pos (List.any_eq_true.2 ⟨i, List.mem_range.2 (by omega), hb⟩)]
    have hE := And.intro hE hv
    refine WS [6] [] ?_
    apply z9
    apply za
    apply zd
    apply za
    apply zu
    apply zd
    apply za
    exact E0
   ·apply z6
    apply z5
    refine WQ [0, 2, 4, 7, 16, 17, 18] [4] ?_
    apply zh
    apply z5
    refine WQ [0, 2, 4, 7, 16, 17, 18] [4] ?_
    refine WN (⟨i + 1, by omega, zd6 hif.2 (by simp [hb])⟩)
  ·apply zj
   apply zc
   have hip : i = l.length := by omega
   have hna : ¬ (List.range l.length).any (z6j b l) = true := by
    rw [List.any_eq_true]
    rintro ⟨j, hj, hj2⟩
    have := hf j (by have := List.mem_range.1 hj; omega)
    rw [this] at hj2
    exact absurd hj2 (by simp)
   apply zb
   apply zn
   apply z5
   apply z3
   refine v7 (.of [(54, .dat (bD (zdk l h)))] []) ?_ ?_
   ·by_cases h0 : (!(h.1 == (l.length : Int))) = true
    ·have hbb : zdk l h = true := by unfold zdk; rw [h0]; rfl
     have hE := And.intro hE (And.intro h0 hbb)
     refine z1u [54] [] [(0, 43, _), (1, 44, .dat (iD h.1)), (2, 45, _), (3, 46, _), (4, 47, .dat (bD true)), (5, 48, .dat (bD true)), (6, 49, .cond false .junk), (7, 50, .cond false .junk), (8, 51, .cond false .junk), (9, 52, .cond false .junk), (10, 53, .cond false (.dat (bD false))), (11, 54, .dat (bD true))] [] ⟨FV 0 [] [1, 4, 5, 6, 7, 8, 9, 10, 11], FV 1 [0] [4, 5, 6, 7, 8, 9, 10, 11], FV 2 [] [3, 4, 5, 6, 7, 8, 9, 10, 11], FV 3 [2] [4, 5, 6, 7, 8, 9, 10, 11], FV 4 [0, 1, 2, 3] [5, 6, 7, 8, 9, 10, 11], FV 5 [0, 1, 2, 3, 4] [6, 7, 8, 9, 10, 11], FO 6 [0, 1, 2, 3, 4, 5] [7, 10, 11], FO 7 [0, 1, 2, 3, 4, 5, 6] [10, 11], FO 8 [0, 1, 2, 3, 4, 5] [9, 10, 11], FO 9 [0, 1, 2, 3, 4, 5, 8] [10, 11], FO 10 [0, 1, 2, 3, 4, 5, 6, 7, 8, 9] [11], FV 11 [0, 1, 2, 3, 4, 5, 6, 7, 8, 9, 10] [], trivial⟩ ?_
     exact ML
    ·have h0 : (!(h.1 == (l.length : Int))) = false := by simpa using h0
     have hbb : zdk l h = !(h.2 == z00 l) := by unfold zdk; rw [h0]; rfl
     have hE := And.intro hE (And.intro h0 hbb)
     refine z1u [54] [] [(0, 43, _), (1, 44, .dat (iD h.1)), (2, 45, _), (3, 46, _), (4, 47, .dat (bD false)), (5, 48, .dat (bD false)), (6, 49, _), (7, 50, .dat (bsD h.2)), (8, 51, _), (9, 52, .dat (bsD (z00 l))), (10, 53, .dat (bD (!(h.2 == z00 l)))), (11, 54, .dat (bD (!(h.2 == z00 l))))] [] ⟨FV 0 [] [1, 4, 5, 6, 7, 8, 9, 10, 11], FV 1 [0] [4, 5, 6, 7, 8, 9, 10, 11], FV 2 [] [3, 4, 5, 6, 7, 8, 9, 10, 11], FV 3 [2] [4, 5, 6, 7, 8, 9, 10, 11], FV 4 [0, 1, 2, 3] [5, 6, 7, 8, 9, 10, 11], FV 5 [0, 1, 2, 3, 4] [6, 7, 8, 9, 10, 11], FG 6 [0, 1, 2, 3, 4, 5] [7, 10, 11], FG 7 [0, 1, 2, 3, 4, 5, 6] [10, 11], FG 8 [0, 1, 2, 3, 4, 5] [9, 10, 11], (by have hc := gvF hP hG (zik G hgk l hl hn); exact FGc 9 [0, 1, 2, 3, 4, 5, 8] [10, 11]), (FGs 10 [0, 1, 2, 3, 4, 5, 6, 7, 8, 9] [11] (fun D hA1 hA2 => by simp only [qt, NoD] at hA1 hA2; exact zd9 (n := 16) rfl rfl (by rw [hN]; omega) (by rw [hP]; unfold zky; kernel_rfl) EV' EV' hh (Qv _ _))), FV 11 [0, 1, 2, 3, 4, 5, 6, 7, 8, 9, 10] [], trivial⟩ ?_
     exact ML
   refine WI ?_ ?_ <;> intro hb
   ·have hv : Qc l h b = 9 := by unfold Qc; rw [if_neg hnb, if_neg hna, if_pos hb]
    have hE := And.intro hE hv
    refine WS [6] [] ?_
    apply z9
    apply za
    exact E0
   ·have hv : Qc l h b = 0 := by unfold Qc; rw [if_neg hnb, if_neg hna, if_neg (by simpa using hb)]
    have hE := And.intro hE hv
    apply z6
    apply z5
    refine WS [6] [] ?_
    apply z9
    exact E0
abbrev va (p : Nat) (L : List EventM) : Dat := .agg [iD p, zr L]
def qg (L : List EventM) (b : Int) : List EventM := L.filter fun e => decide (e.By = b)
def z3k (L : List EventM) (b : Int) (i : Nat) : List EventM := qg (L.take i) b
theorem zqp {L : List EventM} {b : Int} {i : Nat} (hi : i < L.length) (h : (L.getD i default).By = b) : z3k L b (i + 1) = z3k L b i ++ [L.getD i default] := by
 unfold z3k qg
 rw [yn L hi, List.filter_append]
 simp only [List.filter_cons, List.filter_nil, h, decide_true, if_true]
theorem zu9 {L : List EventM} {b : Int} {i : Nat} (hi : i < L.length) (h : ¬ (L.getD i default).By = b) : z3k L b (i + 1) = z3k L b i := by
 unfold z3k qg
 rw [yn L hi, List.filter_append]
 simp only [List.filter_cons, List.filter_nil, h, decide_false, Bool.false_eq_true, if_false, List.append_nil]
theorem zqo (L : List EventM) (b : Int) (i : Nat) : (z3k L b i).length ≤ i := Nat.le_trans (List.length_filter_le _ _) (by rw [List.length_take]; omega)
set_option maxRecDepth 100000 in
set_option maxHeartbeats 2000000 in
theorem z4x (G) (p : Nat) (L : List EventM) (hn : L.length ≤ 100000) (b : Int) : zl Tryz.prog G 22 [va p L, iD b] [zr (qg L b)] := by
 skip
 refine GI [] [] [] Tryz.func22 Tryz.ntmps22 fun F hP hG hN hR hA => ?_
 have hE := @Tryz.results22
 refine WS [1, 2] [2] ?_
 refine WS [1, 2, 5] [2, 29] ?_
 apply z3
 refine WS [1, 2, 5, 6] [2, 29] ?_
 apply z7
 refine x7 29 32 (by omega) ?_
 refine xx 5 29 32 rfl rfl ?_
 refine WL (ι := {i : Nat // i ≤ L.length}) [1, 2] [2, 28] (fun ⟨i, hi⟩ => [(5, .osl 29 32 0 (z3k L b i).length), (6, .dat (iD i))]) (fun ⟨i, hi⟩ => [(29, ⟨32, ((z3k L b i).map zf).map .dat⟩)]) (fun ⟨i, hi⟩ => L.length - i) (⟨0, by omega⟩) ?_
 rintro ⟨i, hi⟩
 refine LA ?_
 apply z3
 refine WS [1, 2, 5, 6, 11] [2, 28, 29] ?_
 refine WI ?_ ?_ <;> intro hb
 ·have hlr := zqo L b i
  have htk : List.take (z3k L b i).length ((z3k L b i).map zf) = (z3k L b i).map zf := List.take_of_length_le (by simp)
  have hE := And.intro hE htk
  apply z6
  apply z5
  apply z3
  apply z7
  refine WS [1, 2, 5, 6, 21] [2, 28, 29] ?_
  refine WI ?_ ?_ <;> intro hb
  ·have hs := zqp (L := L) (b := b) (i := i) (by omega) (by simpa using hb)
   have hE := And.intro hE hs
   refine WQ [1, 2, 5, 6] [2, 28, 29] ?_
   apply zh
   apply z5
   refine WQ [1, 2, 5, 6] [2, 28, 29] ?_
   refine WN (⟨i + 1, by omega⟩)
  ·have hs := zu9 (L := L) (b := b) (i := i) (by omega) (by simpa using hb)
   have hE := And.intro hE hs
   apply z6
   apply zh
   apply z5
   refine WQ [1, 2, 5, 6] [2, 28, 29] ?_
   refine WN (⟨i + 1, by omega⟩)
 ·apply zj
  apply zc
  have hend : i = L.length := by omega
  subst hend
  apply zb
  apply zn
  apply z5
  have hfl : z3k L b L.length = qg L b := by unfold z3k; rw [List.take_length]
  have htk : List.take (qg L b).length ((qg L b).map zf) = (qg L b).map zf := List.take_of_length_le (by simp)
  have hE := And.intro hE (And.intro hfl htk)
  refine WS [4] [28, 29] ?_
  apply z9
  exact E0
def rclN (L : List EventM) : Nat → Int
 | 0 => 0
 | i + 1 => if rclN L i < (L.getD i default).Tick then (L.getD i default).Tick else rclN L i
set_option maxRecDepth 100000 in
set_option maxHeartbeats 2000000 in
theorem zls (G) (p : Nat) (L : List EventM) (hn : L.length ≤ 100000) : zl Tryz.prog G 46 [va p L] [iD (rclN L L.length)] := by
 skip
 refine GI [] [] [] Tryz.func46 Tryz.ntmps46 fun F hP hG hN hR hA => ?_
 have hE := @Tryz.results46
 refine WS [1] [1] ?_
 refine WS [1, 3] [1] ?_
 apply z3
 refine WS [1, 3, 4] [1] ?_
 apply z7
 refine WL (ι := {i : Nat // i ≤ L.length}) [1] [1] (fun ⟨i, hi⟩ => [(3, .dat (iD (rclN L i))), (4, .dat (iD i))]) (fun ⟨i, hi⟩ => []) (fun ⟨i, hi⟩ => L.length - i) (⟨0, by omega⟩) ?_
 rintro ⟨i, hi⟩
 refine LA ?_
 apply z3
 refine WS [1, 3, 4, 9] [1] ?_
 refine WI ?_ ?_ <;> intro hb
 ·have hE := And.intro hE (rclN.eq_2 L i)
  apply z6
  apply z5
  apply z3
  apply z7
  refine WQ [1, 3, 4] [1] ?_
  apply zh
  apply z5
  refine WQ [1, 3, 4] [1] ?_
  refine WN (⟨i + 1, by omega⟩)
 ·apply zj
  apply zc
  have hend : i = L.length := by omega
  subst hend
  apply zb
  apply zn
  apply z5
  refine WS [2] [] ?_
  apply z9
  exact E0
end Go.Proofs.YtkeopokhnfpgpaaGreatDoor

namespace Go.Proofs.YtkeopokhnfpgpaaGreatDoor
open Go.Av
def zx0 (L : List EventM) (n : Nat) : List (Int × List Int) := (List.range n).map fun b : Nat => (((qg L (b : Int)).length : Int), z00 (qg L (b : Int)))
theorem zfa (L : List EventM) (b : Int) : (qg L b).length ≤ L.length := List.length_filter_le _ _
def hdT (l : List (Int × List Int)) (i : Nat) : List (Int × List Int) := l.take i
theorem zou (l : List (Int × List Int)) : hdT l 0 = [] := List.take_zero
theorem zjb {l : List (Int × List Int)} {i : Nat} (h : i ≤ l.length) : (hdT l i).length = i := by unfold hdT; rw [List.length_take]; omega
theorem zot {l : List (Int × List Int)} {i : Nat} (h : i ≤ l.length) : List.take i ((hdT l i).map Za) = (hdT l i).map Za := List.take_of_length_le (by rw [List.length_map, zjb h]; exact Nat.le_refl i)
theorem zos {l : List (Int × List Int)} {i : Nat} (h : i < l.length) : hdT l (i + 1) = hdT l i ++ [((l.getD i default).1, (l.getD i default).2)] := yn l h
theorem zt8 (l : List (Int × List Int)) : hdT l l.length = l := List.take_length
theorem Q2 (L : List EventM) (n : Nat) : ∀ x ∈ qf L n, x.2.length = 16 := fun x hx => by
 obtain ⟨b, _, rfl⟩ := List.mem_map.1 hx
 exact Qv _ _
set_option maxRecDepth 100000 in
set_option maxHeartbeats 2000000 in
theorem z2g (G) (hgk : G.lookup 1 = some (wsD kH)) (p : Nat) (hp : p ≤ 1000) (L : List EventM) (hL : ∀ e ∈ L, jf e) (hn : L.length ≤ 100000) : GivesX Tryz.prog G 20 [.ptr 1000 2 0 0] (arO p L) [.dat (wz (qf L p))] (arO p L) := by
 have hh := Q2 L p
 have hlp := wt L p
 skip
 skip
 skip
 refine GX [] [7] [] Tryz.func20 Tryz.ntmps20 fun F hP hG hN hR hA => ?_
 have hE := And.intro @Tryz.results20 (And.intro @z7t (And.intro @qu (And.intro @z6o (And.intro @Xt (And.intro @jl (And.intro @Zm (@hlp)))))))
 refine WS [0] [27, 1000, 1001, 1002] ?_
 refine WS [0, 3] [27, 1000, 1001, 1002] ?_
 apply zm [3, 4] [27, 1000, 1001, 1002]
 ·refine RN ?_
  refine CX (fun i => i) [] (Q3 G hgk p hp L hL hn) ?_
  exact SC
 apply z3
 refine WS [3, 4, 5] [27, 1000, 1001, 1002] ?_
 apply z7
 refine x7 27 17 (by omega) ?_
 refine xx 3 27 17 rfl rfl ?_
 generalize qf L p = l at hh hlp ⊢
 have hE := And.intro hE (zou l)
 refine WL (ι := {i : Nat // i ≤ p}) [4] [26, 1000, 1001, 1002] (fun ⟨i, hi⟩ => [(3, .osl 27 17 0 i), (5, .dat (iD i))]) (fun ⟨i, hi⟩ => [(27, ⟨17, ((hdT l i).map Za).map .dat⟩)]) (fun ⟨i, hi⟩ => p - i) (⟨0, by omega⟩) ?_
 rintro ⟨i, hi⟩
 refine LA ?_
 apply z3
 refine WS [3, 4, 5, 11] [26, 27, 1000, 1001, 1002] ?_
 refine WI ?_ ?_ <;> intro hb
 ·have hs := zos (l := l) (i := i) (by omega)
  have htl := zjb (l := l) (i := i) (by omega)
  have htk3 := zot (l := l) (i := i) (by omega)
  have h16 := zt hh (i := i) (by omega)
  have ht16 : List.take 16 ((l.getD i default).2.map u8D) = (l.getD i default).2.map u8D := List.take_of_length_le (by simp only [List.length_map]; omega)
  have ht17 : List.take 16 (((l.getD i default).2.map u8D).map AV.dat) = ((l.getD i default).2.map u8D).map AV.dat := List.take_of_length_le (by simp only [List.length_map]; omega)
  have hE := And.intro hE (And.intro htl (And.intro htk3 (And.intro h16 (And.intro ht16 ht17))))
  apply z6
  apply z5
  apply z3
  apply z7
  refine WDQ [3, 4, 5] [26, 27, 1000, 1001, 1002] [0, 1, 2, 3, 4, 5, 6, 7, 8, 9, 10, 11, 12, 13, 14] [] ?_
  apply zh
  apply z5
  have hE := And.intro hE hs
  refine WQ [3, 4, 5] [26, 27, 1000, 1001, 1002] ?_
  refine WN (⟨i + 1, by omega⟩)
 ·apply zj
  apply zc
  have hend : i = p := by omega
  subst hend
  apply zb
  apply zn
  apply z5
  refine Xe 27 hR.2.2.2 rfl (datE_map _) rfl ?_
  have htk : hdT l i = l := by rw [← hlp]; exact zt8 l
  have htk2 : List.take i (l.map Za) = l.map Za := List.take_of_length_le (by rw [List.length_map]; omega)
  have hle : i ≤ l.length := by omega
  have hE := And.intro hE (And.intro htk (And.intro htk2 hle))
  simp (disch := omega) only [avA, zk, zo, seval, hE, if_true]
  refine WS [2] [26, 27, 1000, 1001, 1002] ?_
  apply z9
  exact E0
set_option maxRecDepth 100000 in
theorem zr9 (G) (l : List EventM) (hl : l.length ≤ 1000) : zl Tryz.prog G 18 [zr l] [zr (qv l)] := by
 skip
 skip
 refine GI [41, 45] [] [] Tryz.func18 Tryz.ntmps18 fun F hP hG hN hR hA => ?_
 have hE := And.intro @Tryz.results18 (@Zg)
 refine WS [0] [] ?_
 refine WS [0, 3] [45] ?_
 apply z3
 refine WS [0, 3, 4] [45] ?_
 apply z7
 refine zse 3 rfl ?_
 refine WL (ι := {i : Nat // i ≤ l.length}) [0] [30, 34, 40, 41, 45] (fun ⟨i, hi⟩ => [(3, .dat (zr (rsN l i))), (4, .dat (iD i))]) (fun ⟨i, hi⟩ => []) (fun ⟨i, hi⟩ => l.length - i) (⟨0, by omega⟩) ?_
 rintro ⟨i, hi⟩
 refine LA ?_
 have hrl := Zg l i
 apply z3
 refine WS [0, 3, 4, 10] [30, 34, 40, 41, 45] ?_
 refine WI ?_ ?_ <;> intro hb
 ·apply z6
  apply z5
  apply z3
  apply z7
  refine WS [0, 3, 4, 5] [30, 34, 40, 41, 45] ?_
  apply z3
  apply z7
  refine WL (ι := {k : Nat // k ≤ i ∧ kl (l.getD i default) (rsN l i) k = kl (l.getD i default) (rsN l i) i}) [0, 3, 4] [30, 34, 40, 41, 45] (fun ⟨k, hk⟩ => [(5, .dat (iD k))]) (fun ⟨k, hk⟩ => []) (fun ⟨k, hk⟩ => k) (⟨i, by omega, rfl⟩) ?_
  rintro ⟨k, hk⟩
  refine LA ?_
  obtain ⟨hk1, hk2⟩ := id hk
  have hj1 : ((k : Int) - 1).toNat = k - 1 := by omega
  have hE := And.intro hE hj1
  apply z3
  refine WS [0, 3, 4, 5, 16] [30, 34, 40, 41, 45] ?_
  refine WI ?_ ?_ <;> intro hb
  ·apply z6
   apply z5
   apply z7
   apply z3
   apply w9 [0, 3, 4, 5, 27] [30, 34, 40, 41, 45] [0, 1, 2, 3, 4, 5, 6, 7, 8, 9, 10] []
   ·rw [hP]; kernel_rfl
   ·exact hR
   ·kernel_rfl
   ·(repeat (apply PickL.cons; exact rfl)); exact PickL.nil _
   ·refine RN ?_
    refine CU (zi2 G (l.getD i default) ((rsN l i).getD (k - 1) default)) ?_
    exact SC
   refine WI ?_ ?_ <;> intro hb
   ·have hpk : kl (l.getD i default) (rsN l i) k = k := z4w (by intro _; grind)
    apply zj
    apply zc
    apply z3j (by decide)
    have hkl : k ≤ (rsN l i).length := by omega
    have htl : (List.take k (rsN l i)).length = k := by rw [List.length_take]; omega
    have hdl : (List.drop k (rsN l i)).length = i - k := by rw [List.length_drop]; omega
    have htk : List.take (k + 1) (List.map AV.dat (List.map (fun e => zf e) (List.take k (rsN l i))) ++ [AV.dat (zf (l.getD i default))]) = List.map AV.dat (List.map (fun e => zf e) (List.take k (rsN l i) ++ [l.getD i default])) := by rw [List.take_of_length_le (by simp only [List.length_append, List.length_map, htl, List.length_singleton]; omega)]; simp only [List.map_append, List.map_cons, List.map_nil]
    have hkk : k + 1 + (i - k) = i + 1 := by omega
    have hins : List.take k (rsN l i) ++ [l.getD i default] ++ List.drop k (rsN l i) = rsN l (i + 1) := by rw [rsN, hrl, ← hk2, hpk]; rfl
    have hil := Zg l (i + 1)
    have hE := And.intro hE (And.intro htl (And.intro hdl (And.intro htk (And.intro hkk (And.intro Nat.min_self hins)))))
    apply zb
    apply zn
    apply z5
    refine WS [0, 3, 4, 5, 6] [30, 34, 40, 41, 45] ?_
    refine WDQ [0, 3, 4] [30, 34, 40, 41, 45] [0, 1, 2, 3, 4, 5, 6, 7, 8, 9, 10, 11] [41, 45] ?_
    apply zh
    apply z5
    refine vp (ds := (rsN l (i + 1)).map (fun e => zf e)) 45 hR.2.2.2 rfl (by rw [← hins]; have e := datE_map ((List.take k (rsN l i) ++ [l.getD i default] ++ List.drop k (rsN l i)).map (fun e => zf e)); simpa only [List.map_append, List.map_cons, List.map_nil] using e) ?_
    refine WQ [0, 3, 4] [30, 34, 40, 41, 45] ?_
    refine WN (⟨i + 1, by omega⟩)
   ·have hk3 : k - 1 ≤ i ∧ kl (l.getD i default) (rsN l i) (k - 1) = kl (l.getD i default) (rsN l i) i := ⟨by omega, by rw [zu6 (by omega) (by grind)]; exact hk2⟩
    apply z6
    apply z5
    refine WQ [0, 3, 4, 5] [30, 34, 40, 41, 45] ?_
    apply zh
    refine WN (⟨k - 1, hk3⟩)
  ·have hpk : kl (l.getD i default) (rsN l i) k = k := z4w (by omega)
   apply zj
   apply zc
   have hkl : k ≤ (rsN l i).length := by omega
   have htl : (List.take k (rsN l i)).length = k := by rw [List.length_take]; omega
   have hdl : (List.drop k (rsN l i)).length = i - k := by rw [List.length_drop]; omega
   have htk : List.take (k + 1) (List.map AV.dat (List.map (fun e => zf e) (List.take k (rsN l i))) ++ [AV.dat (zf (l.getD i default))]) = List.map AV.dat (List.map (fun e => zf e) (List.take k (rsN l i) ++ [l.getD i default])) := by rw [List.take_of_length_le (by simp only [List.length_append, List.length_map, htl, List.length_singleton]; omega)]; simp only [List.map_append, List.map_cons, List.map_nil]
   have hkk : k + 1 + (i - k) = i + 1 := by omega
   have hins : List.take k (rsN l i) ++ [l.getD i default] ++ List.drop k (rsN l i) = rsN l (i + 1) := by rw [rsN, hrl, ← hk2, hpk]; rfl
   have hil := Zg l (i + 1)
   have hE := And.intro hE (And.intro htl (And.intro hdl (And.intro htk (And.intro hkk (And.intro Nat.min_self hins)))))
   apply zb
   apply zn
   apply z5
   refine WS [0, 3, 4, 5, 6] [30, 34, 40, 41, 45] ?_
   refine WDQ [0, 3, 4] [30, 34, 40, 41, 45] [0, 1, 2, 3, 4, 5, 6, 7, 8, 9, 10, 11] [41, 45] ?_
   apply zh
   apply z5
   refine vp (ds := (rsN l (i + 1)).map (fun e => zf e)) 45 hR.2.2.2 rfl (by rw [← hins]; have e := datE_map ((List.take k (rsN l i) ++ [l.getD i default] ++ List.drop k (rsN l i)).map (fun e => zf e)); simpa only [List.map_append, List.map_cons, List.map_nil] using e) ?_
   refine WQ [0, 3, 4] [30, 34, 40, 41, 45] ?_
   refine WN (⟨i + 1, by omega⟩)
 ·apply zj
  apply zc
  have hend : i = l.length := by omega
  subst hend
  have hrs := z3r l
  have hE := And.intro hE hrs
  apply zb
  apply zn
  apply z5
  refine WS [2] [30, 34, 40, 41, 45] ?_
  apply z9
  exact E0
end Go.Proofs.YtkeopokhnfpgpaaGreatDoor

namespace Go.Proofs.YtkeopokhnfpgpaaGreatDoor
open Go.Av
set_option maxRecDepth 100000 in
set_option maxHeartbeats 2000000 in
theorem zh7 (G) (n : Nat) (h1 : 1 ≤ n) (h6 : n ≤ 6) (l : List EventM) (hl : ∀ e ∈ l, OkEv e) (hn : l.length ≤ 100000) (h0 : (xe n [] l 0).2.2 = 0) : GivesX Tryz.prog G 12 [.dat (iD n), .dat (zr l)] [] [.ptr 14 2 0 0] [(14, ⟨2, [.agg [.osl 11 1 0 n, .mp 12]]⟩), (11, ⟨1, ((qz n (xe n [] l 0).1).map iD).map .dat⟩), (12, ⟨0, [.tup [], .dat (.sl (z0l (xe n [] l 0).1)), .dat (.sl ((xe n [] l 0).1.map zf))]⟩)] := by
 skip
 skip
 skip
 refine GX [] [11, 23] [] Tryz.func12 Tryz.ntmps12 fun F hP hG hN hR hA => ?_
 have hE := And.intro @Tryz.results12 (And.intro @h0 (@z7t))
 refine WS [0, 1] [11, 12, 14] ?_
 apply zm [1, 5, 6] [11, 12, 14]
 ·refine RN ?_
  refine CX (fun i => i) [14, 11, 12] (zc9 G n h1 h6) ?_
  exact SC
 apply z3
 refine WS [1, 5, 19] [11, 12, 14] ?_
 refine WI ?_ ?_ <;> intro hb
 ·exact absurd hb (by simp)
 ·apply z6
  apply z5
  apply zm [5, 8] [11, 12, 14]
  ·refine RN ?_
   refine CX (fun i => if i = 1000 then 14 else if i = 1001 then 11 else 12) [] (Xa G n (by omega) [] l (by simp) hl (by simpa using hn)) ?_
   exact SC
  apply z3
  refine WS [5, 27] [11, 12, 14] ?_
  refine WI ?_ ?_ <;> intro hb
  ·exact absurd hb (by simp)
  ·apply z6
   apply z5
   refine WS [4] [11, 12, 14] ?_
   apply z9
   exact E0
def leE (a b : EventM) : Prop := x8 b a = false
theorem Xf (a b : EventM) : x8 a b = true ↔ a.Tick < b.Tick ∨ (a.Tick = b.Tick ∧ (a.By < b.By ∨ (a.By = b.By ∧ a.Seq < b.Seq))) := by
 unfold x8 z0v evName
 dsimp only
 split
 ·rw [decide_eq_true_eq]; omega
 ·split
  ·rw [decide_eq_true_eq]; omega
  ·rw [decide_eq_true_eq]; omega
theorem ztk (a b : EventM) : leE a b ↔ a.Tick < b.Tick ∨ (a.Tick = b.Tick ∧ (a.By < b.By ∨ (a.By = b.By ∧ a.Seq ≤ b.Seq))) := by
 unfold leE
 rw [Bool.eq_false_iff, ne_eq, Xf]
 omega
theorem zla {a b c : EventM} (h1 : leE a b) (h2 : leE b c) : leE a c := by
 rw [ztk] at *
 omega
theorem zbq {a b : EventM} (h : x8 a b = true) : x8 b a = false := by
 rw [Bool.eq_false_iff, ne_eq, Xf]
 rw [Xf] at h
 omega
theorem zbr {a b : EventM} (h1 : x8 a b = false) (h2 : x8 b a = false) : evName a = evName b := by
 rw [Bool.eq_false_iff, ne_eq, Xf] at h1 h2
 unfold evName
 rw [NameM.mk.injEq]
 omega
theorem zao {x : EventM} {out : List EventM} : ∀ {k}, k ≤ out.length → ∀ j, kl x out k ≤ j → j < k → x8 x (out.getD j default) = true
 | 0, _, j, _, h => absurd h (Nat.not_lt_zero j)
 | k + 1, hk, j, h1, h2 => by
  rw [kl] at h1
  split at h1
  ·rename_i hb
   by_cases hj : j = k
   ·rw [hj]; exact hb
   ·exact zao (by omega) j h1 (by omega)
  ·omega
theorem zf6 {x : EventM} {out : List EventM} : ∀ {k}, 0 < kl x out k → x8 x (out.getD (kl x out k - 1) default) = false
 | 0, h => absurd h (Nat.lt_irrefl 0)
 | k + 1, h => by
  rw [kl] at h ⊢
  split
  ·rename_i hb
   rw [if_pos hb] at h
   exact zf6 h
  ·rename_i hb
   simpa using hb
theorem zl4 (x : EventM) (out : List EventM) (p : Nat) : (z72 x out p).Perm (x :: out) := by
 unfold z72
 rw [List.append_assoc]
 refine List.perm_middle.trans ?_
 show (x :: (List.take p out ++ List.drop p out)).Perm (x :: out)
 rw [List.take_append_drop]
theorem zee {x : EventM} {out : List EventM} (h : out.Pairwise leE) : (z72 x out (kl x out out.length)).Pairwise leE := by
 have hp := zce x out out.length
 generalize hq : kl x out out.length = p at *
 have hg : ∀ j, p ≤ j → j < out.length → leE x (out.getD j default) := fun j h1 h2 => zbq (zao (Nat.le_refl _) j (by omega) h2)
 have hl : ∀ j, j < p → leE (out.getD j default) x := fun j h1 => by
  have h0 : leE (out.getD (p - 1) default) x := by
   have := zf6 (x := x) (out := out) (k := out.length) (by omega)
   rw [hq] at this
   exact this
  by_cases hj : j = p - 1
  ·rw [hj]; exact h0
  ·refine zla ?_ h0
   rw [List.getD_eq_getElem?_getD, List.getElem?_eq_getElem (by omega), List.getD_eq_getElem?_getD, List.getElem?_eq_getElem (by omega)]
   exact List.pairwise_iff_getElem.1 h j (p - 1) (by omega) (by omega) (by omega)
 have hm1 : ∀ y ∈ out.take p, leE y x := fun y hy => by
  obtain ⟨j, hj, rfl⟩ := List.getElem_of_mem hy
  have hj' : j < p := by simp at hj; omega
  have := hl j hj'
  rw [List.getD_eq_getElem?_getD, List.getElem?_eq_getElem (by omega)] at this
  simpa using this
 have hm2 : ∀ y ∈ out.drop p, leE x y := fun y hy => by
  obtain ⟨j, hj, rfl⟩ := List.getElem_of_mem hy
  have hj' : p + j < out.length := by simp at hj; omega
  have := hg (p + j) (by omega) hj'
  rw [List.getD_eq_getElem?_getD, List.getElem?_eq_getElem (by omega)] at this
  simpa using this
 unfold z72
 have h2 := h
 rw [← List.take_append_drop p out, List.pairwise_append] at h2
 rw [List.pairwise_append, List.pairwise_append]
 refine ⟨⟨h2.1, by simp, by simpa using hm1⟩, h2.2.1, ?_⟩
 intro a ha b hb
 rcases List.mem_append.1 ha with ha | ha
 ·exact h2.2.2 a ha b hb
 ·rw [List.mem_singleton.1 ha]; exact hm2 b hb
theorem zfn (l : List EventM) : ∀ i, i ≤ l.length → (rsN l i).Perm (l.take i)
 | 0, _ => by rw [rsN, List.take_zero]
 | i + 1, h => by
  rw [rsN, yn l h]
  refine (zl4 _ _ _).trans (((zfn l i (by omega)).cons _).trans ?_)
  exact List.perm_append_comm (l₁ := [_])
theorem z86 (l : List EventM) : ∀ i, (rsN l i).Pairwise leE
 | 0 => .nil
 | i + 1 => zee (z86 l i)
theorem j7 (l : List EventM) : (qv l).Perm l := by
 have := zfn l l.length (Nat.le_refl _)
 rwa [z3r, List.take_length] at this
theorem z3s (l : List EventM) : (qv l).Pairwise leE := by
 rw [← z3r]; exact z86 l _
theorem Z9 {l : List EventM} {i : Nat} (h : i < l.length) : l.getD i default = l[i] := by
 rw [List.getD_eq_getElem?_getD, List.getElem?_eq_getElem h, Option.getD_some]
end Go.Proofs.YtkeopokhnfpgpaaGreatDoor

