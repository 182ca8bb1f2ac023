/- A part of the proof. -/
import Derived.Test.YtkeopokhnfpgpaaGreatDoorHP43
import Derived.Test.YtkeopokhnfpgpaaGreatDoorHAv48
import Derived.Test.YtkeopokhnfpgpaaGreatDoorHAv54
import Derived.Test.YtkeopokhnfpgpaaGreatDoorHP42
import Derived.Test.YtkeopokhnfpgpaaGreatDoorHAv51
import Derived.Test.YtkeopokhnfpgpaaGreatDoorHAv46
set_option linter.all false
namespace Go.Proofs.YtkeopokhnfpgpaaGreatDoor
open Go.Av
def bkF (M blk : List Int) (n0 : Nat) : Nat → List Int
 | 0 => blk
 | j + 1 => (bkF M blk n0 j).set ((n0 + j) % 64) (M.getD (n0 + j) 0)
theorem X5 (M blk : List Int) (n0 : Nat) : ∀ j, (bkF M blk n0 j).length = blk.length
 | 0 => rfl
 | j + 1 => by simp [bkF, X5 M blk n0 j]
def z1x (M : List Int) (n : Nat) (blk : List Int) : Prop := blk.length = 64 ∧ ∀ i, i < n % 64 → blk.getD i 0 = M.getD (64 * (n / 64) + i) 0
theorem z6p (l : List Int) (i k : Nat) (x : Int) (hi : i < l.length) : (l.set i x).getD k 0 = if k = i then x else l.getD k 0 := by
 simp only [List.getD_eq_getElem?_getD, List.getElem?_set]
 by_cases h : i = k
 ·subst h; simp [hi]
 ·simp [h, Ne.symm h]
theorem zfy {M blk : List Int} {n0 : Nat} (h : z1x M n0 blk) : ∀ j i, i < 64 → (i < (n0 + j) % 64 → (bkF M blk n0 j).getD i 0 = M.getD (64 * ((n0 + j) / 64) + i) 0) ∧ (0 < j → (n0 + j) % 64 = 0 → (bkF M blk n0 j).getD i 0 = M.getD (64 * ((n0 + j) / 64 - 1) + i) 0)
 | 0, i, hi => ⟨fun h1 => h.2 i h1, fun h0 => absurd h0 (Nat.lt_irrefl 0)⟩
 | j + 1, i, hi => by
  have ih := zfy h j i hi
  have hl : (n0 + j) % 64 < (bkF M blk n0 j).length := by rw [X5, h.1]; omega
  simp only [bkF]
  rw [z6p _ _ _ _ hl]
  constructor
  ·intro h1
   by_cases he : i = (n0 + j) % 64
   ·rw [if_pos he]
    congr 1
    omega
   ·rw [if_neg he, ih.1 (by omega)]
    congr 2
    omega
  ·intro _ h1
   by_cases he : i = (n0 + j) % 64
   ·rw [if_pos he]
    congr 1
    omega
   ·rw [if_neg he, ih.1 (by omega)]
    congr 2
    omega
theorem zw2 {M blk : List Int} {n0 : Nat} (h : z1x M n0 blk) (j : Nat) : z1x M (n0 + j) (bkF M blk n0 j) :=
 ⟨by rw [X5]; exact h.1, fun i hi => (zfy h j i (by omega)).1 hi⟩
theorem znj {M blk : List Int} {n0 j : Nat} (h : z1x M n0 blk) (hj : 0 < j) (h0 : (n0 + j) % 64 = 0) (hl : n0 + j ≤ M.length) : bkF M blk n0 j = z3u M ((n0 + j) / 64 - 1) := by
 have hlen : (bkF M blk n0 j).length = 64 := by rw [X5]; exact h.1
 have hb : (z3u M ((n0 + j) / 64 - 1)).length = 64 := zik (by omega)
 refine List.ext_getElem (by rw [hlen, hb]) fun i h1 h2 => ?_
 have h3 := (zfy h j i (by omega)).2 hj h0
 have e1 : (bkF M blk n0 j).getD i 0 = (bkF M blk n0 j)[i] := by simp [h1]
 rw [← e1, h3]
 have h4 : 64 * ((n0 + j) / 64 - 1) + i < M.length := by omega
 simp only [z3u, List.getElem_take, List.getElem_drop]
 simp [h4]
theorem z92 {M blk : List Int} {n0 : Nat} (hb : blk.length = 64) (j : Nat) : ∀ k, (n0 + j) % 64 + k ≤ 64 → n0 + j + k ≤ M.length →
  bkF M blk n0 (j + k) = (bkF M blk n0 j).take ((n0 + j) % 64) ++ (M.drop (n0 + j)).take k ++ (bkF M blk n0 j).drop ((n0 + j) % 64 + k)
 | 0, _, _ => by simp
 | k + 1, h1, h2 => by
  have ih := z92 (M := M) (n0 := n0) hb j k (by omega) (by omega)
  have hlen : (bkF M blk n0 j).length = 64 := by rw [X5]; exact hb
  rw [← Nat.add_assoc]
  simp only [bkF]
  rw [ih]
  have hm : (n0 + (j + k)) % 64 = (n0 + j) % 64 + k := by omega
  have hA : ((bkF M blk n0 j).take ((n0 + j) % 64)).length = (n0 + j) % 64 := by rw [List.length_take]; omega
  have hB : ((M.drop (n0 + j)).take k).length = k := by rw [List.length_take, List.length_drop]; omega
  rw [hm, List.set_append_right _ _ (by rw [List.length_append, hA, hB]; exact Nat.le_refl _), List.length_append, hA, hB, Nat.sub_self]
  have hd : (bkF M blk n0 j).drop ((n0 + j) % 64 + k) = (bkF M blk n0 j)[(n0 + j) % 64 + k]'(by omega) :: (bkF M blk n0 j).drop ((n0 + j) % 64 + k + 1) := List.drop_eq_getElem_cons (by omega)
  rw [hd, List.set_cons_zero]
  have ht : (M.drop (n0 + j)).take (k + 1) = (M.drop (n0 + j)).take k ++ [M.getD (n0 + (j + k)) 0] := by
   rw [List.take_add_one, List.getElem?_drop, List.getElem?_eq_getElem (show n0 + j + k < M.length by omega)]
   have : n0 + j + k < M.length := by omega
   simp [← Nat.add_assoc, this]
  rw [ht]
  simp [Nat.add_assoc]
theorem zsk (m t : List Int) {k : Nat} (h : 64 * k + 64 ≤ m.length) : z3u (m ++ t) k = z3u m k := by
 unfold z3u
 rw [List.drop_append_of_le_length (by omega), List.take_append_of_le_length (by rw [List.length_drop]; omega)]
theorem z66 (s : S8) (m t : List Int) : ∀ k, 64 * k ≤ m.length → blocksM s (m ++ t) k = blocksM s m k
 | 0, _ => rfl
 | k + 1, h => by
  simp only [blocksM]
  rw [z66 s m t k (by omega), zsk m t (by omega)]
theorem zd0 {m t blk : List Int} (h : z1x m m.length blk) : z1x (m ++ t) m.length blk :=
 ⟨h.1, fun i hi => by
   rw [h.2 i hi]
   have : 64 * (m.length / 64) + i < m.length := by omega
   simp [List.getElem?_append_left this]⟩
theorem zd1 {blk : List Int} (h : blk.length = 64) : z1x [] 0 blk := ⟨h, fun i hi => by simp at hi⟩
def yz (s : ByteArray) (p : Nat) : ByteArray := s.extract p s.size
theorem zue (s : ByteArray) : yz s 0 = s := by simp [yz]
theorem z7q (s : ByteArray) (p : Nat) : (yz s p).size = s.size - p := by simp [yz]
theorem zuf (s : ByteArray) (p : Nat) : vj (yz s p) = (vj s).drop p := by
 unfold vj yz
 rw [← List.map_drop]
 congr 1
 rw [ByteArray.data_extract, Array.toList_extract, List.extract_eq_take_drop, List.take_of_length_le (by simp)]
theorem zll (s : ByteArray) (p k : Nat) : (yz s p).extract k (yz s p).size = yz s (p + k) := by
 rw [z7q]
 unfold yz
 rw [ByteArray.extract_extract]
 congr 1
 omega
abbrev z1w (s : S8) (blk : List Int) (n : Nat) : Dat := .agg (wD s.a :: wD s.b :: wD s.c :: wD s.d :: wD s.e :: wD s.f :: wD s.g :: wD s.h :: (blk.map u8D ++ [.int .u64 n]))
abbrev stD (m blk : List Int) : Dat := z1w (blocksM iv8 m (m.length / 64)) blk m.length
section
variable {blk : List Int} (h : blk.length = 64)
include h
theorem zi3 (x : AV) : (List.map AV.dat (List.map u8D blk) ++ [x])[64]?.getD .junk = x := by
 rw [List.getElem?_append_right (by simp [h])]
 simp [h]
theorem zch (x : AV) : List.take 64 (List.map AV.dat (List.map u8D blk) ++ [x]) = List.map AV.dat (List.map u8D blk) := by
 rw [List.take_append_of_le_length (by simp [h])]
 exact List.take_of_length_le (by simp [h])
theorem zi2 (x : AV) : List.take 65 (List.map AV.dat (List.map u8D blk) ++ [x]) = List.map AV.dat (List.map u8D blk) ++ [x] := List.take_of_length_le (by simp [h])
theorem zcg (x : AV) : List.drop 65 (List.map AV.dat (List.map u8D blk) ++ [x]) = [] := List.drop_of_length_le (by simp [h])
end
theorem zrq {blk : List Int} (h : blk.length = 64) (x : Dat) : List.take 64 (List.map u8D blk ++ [x]) = List.map u8D blk := by
 rw [List.take_append_of_le_length (by simp [h])]
 exact List.take_of_length_le (by simp [h])
theorem zvn (blk : List Int) (n : Int) : zk (List.map AV.dat (List.map u8D blk) ++ [.dat (.int .u64 n)]) = some (List.map u8D blk ++ [.int .u64 n]) := by
 have e : List.map AV.dat (List.map u8D blk) ++ [AV.dat (.int .u64 n)] = (List.map u8D blk ++ [Dat.int .u64 n]).map AV.dat := by simp
 rw [e]
 exact zbi _ fun d hd => by
  simp only [List.mem_append, List.mem_map, List.mem_singleton] at hd
  rcases hd with ⟨y, _, rfl⟩ | rfl <;> rfl
theorem zuy (s : S8) {blk : List Int} (h : blk.length = 64) (n : Nat) (at_ k : Nat) (hk : at_ + k ≤ 64) (c : List Int) :
  Dat.agg (List.take (8 + at_) (wD s.a :: wD s.b :: wD s.c :: wD s.d :: wD s.e :: wD s.f :: wD s.g :: wD s.h :: (blk.map u8D ++ [.int .u64 n])) ++ c.map (Dat.int .u8) ++ List.drop (8 + at_ + k) (wD s.a :: wD s.b :: wD s.c :: wD s.d :: wD s.e :: wD s.f :: wD s.g :: wD s.h :: (blk.map u8D ++ [.int .u64 n])))
   = z1w s (blk.take at_ ++ c ++ blk.drop (at_ + k)) n := by
 have e1 : 8 + at_ = at_ + 1 + 1 + 1 + 1 + 1 + 1 + 1 + 1 := by omega
 have e2 : 8 + at_ + k = (at_ + k) + 1 + 1 + 1 + 1 + 1 + 1 + 1 + 1 := by omega
 rw [e2, e1]
 simp only [List.take_succ_cons, List.drop_succ_cons, List.cons_append]
 rw [List.take_append_of_le_length (by rw [List.length_map]; omega), List.drop_append_of_le_length (by rw [List.length_map]; omega)]
 simp only [z1w, List.map_append, List.map_take, List.map_drop, List.append_assoc]
theorem zuz (s : S8) (l : List AV) {k : Nat} (h : k < 8) : ((AV.dat (wD s.a) :: AV.dat (wD s.b) :: AV.dat (wD s.c) :: AV.dat (wD s.d) :: AV.dat (wD s.e) :: AV.dat (wD s.f) :: AV.dat (wD s.g) :: AV.dat (wD s.h) :: l)[k]?).getD .junk = .dat (wD ((sL s).getD k 0#32)) := by
 have hk : k = 0 ∨ k = 1 ∨ k = 2 ∨ k = 3 ∨ k = 4 ∨ k = 5 ∨ k = 6 ∨ k = 7 := by omega
 rcases hk with rfl | rfl | rfl | rfl | rfl | rfl | rfl | rfl <;> rfl
theorem zn7 {M blk : List Int} {n0 : Nat} {text : ByteArray} (hb : blk.length = 64) (hM : M.length = n0 + text.size) (ht : vj text = M.drop n0) {p a k : Nat} (ha : a = (n0 + p) % 64) (hk : k = min (text.size - p) (64 - a)) (hp : p ≤ text.size) :
  (bkF M blk n0 p).take a ++ (vj (yz text p)).take (64 - a) ++ (bkF M blk n0 p).drop (a + k) = bkF M blk n0 (p + k) := by
 have e : vj (yz text p) = M.drop (n0 + p) := by rw [zuf, ht, List.drop_drop]
 have e2 : (M.drop (n0 + p)).take (64 - a) = (M.drop (n0 + p)).take k := by
  rw [List.take_eq_take_iff, List.length_drop]
  omega
 rw [e, e2, z92 hb p k (by omega) (by omega), ← ha]
theorem zlm (s : ByteArray) : yz s s.size = ⟨#[]⟩ := by
 apply ByteArray.ext
 rw [yz, ByteArray.data_extract]
 apply Array.eq_empty_of_size_eq_zero
 simp
def z8 : S8 := ⟨0, 0, 0, 0, 0, 0, 0, 0⟩
theorem zva : mkAgg (List.replicate 8 (AV.dat (.int .u32 0)) ++ List.replicate 64 (AV.dat (.int .u8 0)) ++ List.replicate 1 (AV.dat (.int .u64 0))) = .dat (z1w z8 y64 0) := by rfl
theorem zb8 (m : List Int) (text : ByteArray) : (m ++ vj text).length = m.length + text.size := by rw [List.length_append, yf]
set_option maxRecDepth 100000 in
set_option maxHeartbeats 1000000 in
theorem zng (G) : zl Tryz.prog G 132 [] [stD [] y64] := by
 skip
 refine GI [] [] [] Tryz.func132 Tryz.ntmps132 fun F hP hG hN hR hA => ?_
 have hE := @Tryz.results132
 refine WS [0] [0] ?_
 refine WS [0] [0] ?_
 apply z9
 exact E0
set_option maxRecDepth 100000 in
set_option maxHeartbeats 1000000 in
theorem zn5 (G) (hgk : G.lookup 1 = some (wsD kH)) (M blk : List Int) (n0 : Nat) (hb0 : z1x M n0 blk) (text : ByteArray) (hib : isB M) (hM : M.length = n0 + text.size) (ht : vj text = M.drop n0) (hl : M.length ≤ 2199023255552) : zl Tryz.prog G 133 [z1w (blocksM iv8 M (n0 / 64)) blk n0, .str text] [z1w (blocksM iv8 M ((n0 + text.size) / 64)) (bkF M blk n0 text.size) (n0 + text.size)] := by
 have hbl : ∀ p, (bkF M blk n0 p).length = 64 := fun p => by rw [X5]; exact hb0.1
 skip
 skip
 refine GI [] [] [] Tryz.func133 Tryz.ntmps133 fun F hP hG hN hR hA => ?_
 have hE := And.intro @Tryz.results133 (And.intro @hbl (And.intro @hb0.1 (And.intro @Int.toNat_natCast (And.intro @Nat.add_zero (And.intro (bkF.eq_1 M blk n0) (And.intro @zue (And.intro (fun q => zi3 (hbl q)) (And.intro (fun q => zch (hbl q)) (And.intro (fun q => zi2 (hbl q)) (And.intro (fun q => zcg (hbl q)) (@zvn)))))))))))
 apply zm [1, 2, 4] [2, 4]
 ·simp (maxSteps := 2000000) (disch := omega) only [wm, avA, zk, zo, seval, ↓List.forall_mem_cons, Op.operands, hA, tiA, hE, ↓zva, -List.reduceReplicate]
  exact SC
 apply z3
 apply z7
 refine WL (ι := {p : Nat // p ≤ text.size}) [2, 4] [4] (fun ⟨p, hp⟩ => [(1, .dat (.str (yz text p)))]) (fun ⟨p, hp⟩ => [(2, ⟨73, [.dat (z1w (blocksM iv8 M ((n0 + p) / 64)) (bkF M blk n0 p) (n0 + p))]⟩)]) (fun ⟨p, hp⟩ => text.size - p) (⟨0, by omega⟩) ?_
 rintro ⟨p, hp⟩
 refine LA ?_
 have hrs := z7q text p
 apply z3
 refine WS [1, 2, 4, 8] [2, 4] ?_
 refine WI ?_ ?_ <;> intro hb
 ·have hlt : p < text.size := by
   rcases Nat.lt_or_ge p text.size with h | h
   ·exact h
   ·exfalso
    have : p = text.size := by omega
    subst this
    exact hb (by rw [zlm])
  obtain ⟨a, ha⟩ : ∃ a, a = (n0 + p) % 64 := ⟨_, rfl⟩
  obtain ⟨k, hk⟩ : ∃ k, k = min (text.size - p) (64 - a) := ⟨_, rfl⟩
  have q1 : IntKind.i64.wrap (((n0 + p : Nat) : Int).tmod 64) = ((a : Nat) : Int) := by rw [Int.tmod_eq_emod_of_nonneg (by omega), IntWalk.i64_in _ (by omega)]; omega
  have hmk : min (yz text p).size (64 - a) = k := by rw [hrs]; exact hk.symm
  have hcut : (yz text p).extract k (yz text p).size = yz text (p + k) := zll text p k
  have q4 : IntKind.u64.wrap ((k : Nat) : Int) = ((k : Nat) : Int) := IntWalk.u64_in _ (by omega)
  have q5 : IntKind.u64.wrap (((n0 + p : Nat) : Int) + ((k : Nat) : Int)) = ((n0 + (p + k) : Nat) : Int) := by rw [IntWalk.u64_in _ (by omega)]; omega
  have q6 : IntKind.i64.wrap (((a : Nat) : Int) + ((k : Nat) : Int)) = ((a + k : Nat) : Int) := by rw [IntWalk.i64_in _ (by omega)]; omega
  have hcp := zuy (blocksM iv8 M ((n0 + p) / 64)) (hbl p) (n0 + p) a k (by omega) ((vj (yz text p)).take (64 - a))
  rw [zn7 hb0.1 hM ht ha hk hp] at hcp
  have hE := And.intro hE (And.intro q1 (And.intro hcut (And.intro q4 (And.intro q5 q6))))
  apply z6
  apply z5
  apply z7
  refine WS [1, 2, 4, 5] [2, 4] ?_
  refine wp ?_
  apply wz
  ·(iterate 4 apply Seg.cons); exact Seg.nil _
  ·refine RK ?_
   exact SC
  refine yi rfl (znz rfl rfl (by rw [hN]; omega) (by rw [hP]; exact ti117) rfl (by rw [hP]; exact ti5) rfl rfl rfl rfl rfl rfl (by simp only [List.length_cons, List.length_append, List.length_map, List.length_nil, hbl]; omega)) ?_
  rw [z4f, yr, hmk]
  rw [hcp]
  apply wg [1, 2, 4, 5, 6] [2, 4]
  ·refine RN ?_
   exact SC
  refine WS [1, 2, 4, 5, 6] [2, 4] ?_
  refine WS [1, 2, 4, 5, 6] [2, 4] ?_
  refine WS [1, 2, 4, 30] [2, 4] ?_
  refine WI ?_ ?_ <;> intro hb
  ·have hdiv : (n0 + (p + k)) / 64 = (n0 + p) / 64 + 1 := by omega
   have hfull : bkF M blk n0 (p + k) = z3u M ((n0 + p) / 64) := by rw [znj hb0 (by omega) (by omega) (by omega), hdiv, Nat.add_sub_cancel]
   have hlb : (z3u M ((n0 + p) / 64)).length = 64 := zik (by omega)
   have hE := And.intro hE (And.intro hdiv (And.intro hfull (And.intro hlb (And.intro (zrq hlb) (And.intro (zi3 hlb) (And.intro (zch hlb) (And.intro (zi2 hlb) (And.intro (zcg hlb) (blocksM.eq_2 iv8 M ((n0 + p) / 64))))))))))
   apply z05 [1, 2, 4] [2, 4] [0, 1, 2, 3, 4, 5, 6] []
   ·rw [hP]; kernel_rfl
   ·exact hR
   ·kernel_rfl
   ·(repeat (apply PickL.cons; exact rfl)); exact PickL.nil _
   ·refine RN ?_
    (repeat' refine And.intro ?_ ?_) <;> try exact SD
    refine CallC.use (gvF hP hG (zd9 G hgk (blocksM iv8 M ((n0 + p) / 64)) (z3u M ((n0 + p) / 64)) (zti hib _) hlb)) (by simp only [qu, qh, q9, xn, qy, wy, xk, xq, xm, wx, xp, xr, w3, avA, zk, zo, seval, ↓List.forall_mem_cons, Op.operands, hE] <;> rfl) ?_
    try simp (maxSteps := 2000000) (disch := omega) only [wm, avA, zk, zo, seval, ↓List.forall_mem_cons, Op.operands, hA, tiA, hE]
    exact SC
   apply ze
   refine WN (⟨p + k, by omega⟩)
  ·have hdiv : (n0 + (p + k)) / 64 = (n0 + p) / 64 := by omega
   have hE := And.intro hE hdiv
   apply z6
   apply ze
   refine WN (⟨p + k, by omega⟩)
 ·apply zj
  apply zd
  have hend : p = text.size := by
   have h1 : yz text p = ⟨#[]⟩ := z3k hb
   have h2 := congrArg ByteArray.size h1
   rw [hrs] at h2
   have h3 : (⟨#[]⟩ : ByteArray).size = 0 := rfl
   omega
  subst hend
  apply zb
  apply zn
  apply z5
  apply zm [4] [4]
  ·simp (maxSteps := 2000000) (disch := omega) only [wm, avA, zk, zo, seval, ↓List.forall_mem_cons, Op.operands, hA, tiA, hE, zcn]
   exact SC
  apply z9
  exact E0
theorem zvu (G) (hgk : G.lookup 1 = some (wsD kH)) (m blk : List Int) (hb0 : z1x m m.length blk) (text : ByteArray) (hib : isB m) (hl : m.length + text.size ≤ 2199023255552) : zl Tryz.prog G 133 [stD m blk, .str text] [stD (m ++ vj text) (bkF (m ++ vj text) blk m.length text.size)] := by
 have h := zn5 G hgk (m ++ vj text) blk m.length (zd0 hb0) text (zj3 hib (ztk text)) (zb8 m text) (by simp) (by rw [zb8]; exact hl)
 rw [z66 iv8 m (vj text) _ (by omega)] at h
 have e := zb8 m text
 show zl Tryz.prog G 133 [z1w (blocksM iv8 m (m.length / 64)) blk m.length, .str text] [z1w (blocksM iv8 (m ++ vj text) ((m ++ vj text).length / 64)) (bkF (m ++ vj text) blk m.length text.size) ((m ++ vj text).length : Nat)]
 rw [e]
 exact h
def zpM (j : Nat) : List Int := 128 :: List.replicate j 0
def tpM (n i : Nat) : List Int := zpM (yh n) ++ (ze5 n).take i
theorem zco (j : Nat) : (zpM j).length = 1 + j := by simp [zpM]; omega
theorem zsa (j : Nat) : zpM (j + 1) = zpM j ++ [0] := by
 unfold zpM
 rw [List.replicate_succ']
 simp
theorem zcj (n i : Nat) (h : i ≤ 8) : (tpM n i).length = 1 + yh n + i := by simp [tpM, zco, z0j, Nat.min_eq_left h]
theorem zyn (n : Nat) : tpM n 0 = zpM (yh n) := by simp [tpM]
theorem zs0 (n i : Nat) (h : i < 8) : tpM n (i + 1) = tpM n i ++ [((8 * n / 2 ^ (56 - 8 * i) % 256 : Nat) : Int)] := by
 unfold tpM
 rw [List.append_assoc]
 congr 1
 have hi : i < (ze5 n).length := by rw [z0j]; exact h
 rw [List.take_succ, List.getElem?_eq_getElem hi]
 simp [ze5]
theorem zv3 (m : List Int) : m ++ tpM m.length 8 = z1o m := by
 unfold tpM zpM z1o
 rw [List.take_of_length_le (by rw [z0j]; exact Nat.le_refl _)]
 simp
theorem zwq (n : Nat) : isB (tpM n 8) := by
 intro x hx
 unfold tpM zpM at hx
 have hx' := List.mem_append.1 hx
 rcases hx' with hx | hx
 ·simp only [List.mem_cons, List.mem_replicate] at hx
  rcases hx with rfl | ⟨_, rfl⟩ <;> omega
 ·have hx := List.mem_of_mem_take hx
  simp only [ze5, List.mem_map] at hx
  obtain ⟨i, _, rfl⟩ := hx
  omega
theorem zi4 {b : List Int} (h : isB b) : vj (vv b) = b := by
 apply List.ext_getElem?
 intro i
 show (List.map (fun c : UInt8 => (c.toNat : Int)) (vv b).data.toList)[i]? = _
 have e : (vv b).data.toList = b.map fun n : Int => UInt8.ofNat n.toNat := rfl
 rw [e, List.map_map, List.getElem?_map]
 cases hq : b[i]? with
 | none => rfl
 | some x =>
  have := h x (List.mem_of_getElem? hq)
  simp only [Option.map_some, Function.comp, Option.some.injEq]
  rw [UInt8.toNat_ofNat']
  omega
theorem zfu (G) (hgk : G.lookup 1 = some (wsD kH)) (m blk t : List Int) (hb0 : z1x m m.length blk) (hib : isB m) (hit : isB t) (hl : m.length + t.length ≤ 2199023255552) : zl Tryz.prog G 133 [stD m blk, .str (vv t)] [stD (m ++ t) (bkF (m ++ t) blk m.length t.length)] := by
 have h := zvu G hgk m blk hb0 (vv t) hib (by rw [z2m]; exact hl)
 rwa [zi4 hit, z2m] at h
theorem zvd {m blk : List Int} (t : List Int) (hb0 : z1x m m.length blk) : z1x (m ++ t) (m ++ t).length (bkF (m ++ t) blk m.length t.length) := by
 have h := zw2 (zd0 (t := t) hb0) t.length
 rwa [← List.length_append] at h
theorem zsd (G) (hgk : G.lookup 1 = some (wsD kH)) (m blk : List Int) (hb0 : z1x m m.length blk) (hib : isB m) (hl : m.length ≤ 1099511627776) : zl Tryz.prog G 133 [stD m blk, .str (vv (tpM m.length 8))] [stD (z1o m) (bkF (z1o m) blk m.length (tpM m.length 8).length)] := by
 have h := zfu G hgk m blk (tpM m.length 8) hb0 hib (zwq _) (by rw [zcj _ _ (by omega)]; have := z8m m.length; omega)
 rwa [zv3] at h
set_option maxRecDepth 100000 in
set_option maxHeartbeats 1000000 in
theorem zux (G) (hgk : G.lookup 1 = some (wsD kH)) (m blk : List Int) (hb0 : z1x m m.length blk) (hib : isB m) (hl : m.length ≤ 1099511627776) : zl Tryz.prog G 134 [stD m blk] [bsD (zv0 m)] := by
 have hz := z8m m.length
 have h8n : IntKind.u64.wrap (8 * (m.length : Int)) = ((8 * m.length : Nat) : Int) := by rw [IntWalk.u64_in _ (by omega)]; omega
 have hpm := zqn m
 skip
 skip
 refine GI [11] [] [] Tryz.func134 Tryz.ntmps134 fun F hP hG hN hR hA => ?_
 have hE := And.intro @Tryz.results134 (And.intro @hb0.1 (And.intro (zi3 hb0.1) (And.intro (zch hb0.1) (And.intro (zcg hb0.1) (And.intro (zi2 hb0.1) (And.intro @zvn (And.intro @h8n (And.intro @zco (@Int.toNat_natCast)))))))))
 refine WS [1, 2] [1, 2] ?_
 refine WS [1, 2, 3] [1, 2] ?_
 refine WS [1, 2, 3, 4] [1, 2, 11, 22, 34] ?_
 apply z3
 apply z7
 refine yj 11 22 (by omega) (by omega) ?_
 refine WL (ι := {j : Nat // j ≤ yh m.length}) [1, 2, 3] [1, 2, 11, 21, 33, 34] (fun ⟨j, hj⟩ => [(4, .osl 22 1 0 (1 + j))]) (fun ⟨j, hj⟩ => [(22, ⟨1, ((zpM j).map u8D).map .dat⟩)]) (fun ⟨j, hj⟩ => yh m.length - j) (⟨0, by omega⟩) ?_
 rintro ⟨j, hj⟩
 refine LA ?_
 have hpl := zco j
 apply z3
 refine WS [1, 2, 3, 4, 19] [1, 2, 11, 21, 22, 34] ?_
 refine WI ?_ ?_ <;> intro hb
 ·have htm : ((m.length : Int) + ((1 + j : Nat) : Int)).tmod 64 = (((m.length + (1 + j)) % 64 : Nat) : Int) := by rw [Int.tmod_eq_emod_of_nonneg (by omega)]; omega
  rw [htm] at hb
  have hs := zsa j
  have hE := And.intro hE hs
  apply z6
  apply z5
  apply z7
  refine WQ [1, 2, 3, 4] [1, 2, 11, 21, 22, 34] ?_
  apply ze
  refine WN (⟨j + 1, by omega⟩)
 ·have htm : ((m.length : Int) + ((1 + j : Nat) : Int)).tmod 64 = (((m.length + (1 + j)) % 64 : Nat) : Int) := by rw [Int.tmod_eq_emod_of_nonneg (by omega)]; omega
  rw [htm] at hb
  have hend : j = yh m.length := by omega
  subst hend
  rw [← zyn]
  apply zj
  apply zd
  apply zb
  apply zn
  apply z5
  apply z3
  refine WS [1, 2, 3, 4, 23] [1, 2, 11, 21, 22, 34] ?_
  apply z7
  refine yj 22 34 (by omega) (by omega) ?_
  refine WL (ι := {i : Nat // i ≤ 8}) [1, 2, 3] [1, 2, 11, 21, 22, 33] (fun ⟨i, hi⟩ => [(4, .osl 34 1 0 (1 + yh m.length + i)), (23, .dat (iD i))]) (fun ⟨i, hi⟩ => [(34, ⟨1, ((tpM m.length i).map u8D).map .dat⟩)]) (fun ⟨i, hi⟩ => 8 - i) (⟨0, by omega⟩) ?_
  rintro ⟨i, hi⟩
  refine LA ?_
  have hql := zcj m.length i (by omega)
  refine WS [1, 2, 3, 4, 23, 24] [1, 2, 11, 21, 22, 33, 34] ?_
  apply z3
  refine WI ?_ ?_ <;> intro hb
  ·have hs := zs0 m.length i (by omega)
   have hb1 := zpi m.length i (by omega) (by omega)
   have hb2 : IntKind.i64.wrap (8 * (i : Int)) = ((8 * i : Nat) : Int) := by rw [IntWalk.i64_in _ (by omega)]; omega
   have hb3 : IntKind.i64.wrap (56 - ((8 * i : Nat) : Int)) = ((56 - 8 * i : Nat) : Int) := by rw [IntWalk.i64_in _ (by omega)]; omega
   have hE := And.intro hE (And.intro hs (And.intro hb1 (And.intro hb2 (And.intro hb3 hql))))
   apply z6
   apply z5
   apply z3
   apply z7
   refine WS [1, 2, 3, 4, 5, 23] [1, 2, 11, 21, 22, 33, 34] ?_
   refine WQ [1, 2, 3, 4, 23] [1, 2, 11, 21, 22, 33, 34] ?_
   apply ze
   apply z5
   refine WQ [1, 2, 3, 4, 23] [1, 2, 11, 21, 22, 33, 34] ?_
   refine WN (⟨i + 1, by omega⟩)
  ·apply zj
   apply zd
   have hend : i = 8 := by omega
   subst hend
   apply zb
   apply zn
   apply z5
   refine v8 34 hR.2.2.2 rfl (datE_map _) ?_
   have hq8 := zcj m.length 8 (by omega)
   have hft : List.take (1 + yh m.length + 8) (List.map u8D (tpM m.length 8)) = List.map u8D (tpM m.length 8) := List.take_of_length_le (by rw [List.length_map]; omega)
   have hbq : ∀ j, (bkF (z1o m) blk m.length j).length = 64 := fun j => by rw [X5]; exact hb0.1
   have hE := And.intro hE (And.intro hft (And.intro hq8 hbq))
   have hc := gvF hP hG (zsd G hgk m blk hb0 hib hl)
   refine WSc [1, 2] [1, 2] ?_
   obtain ⟨S, hS⟩ : ∃ S, S = blocksM iv8 (z1o m) ((z1o m).length / 64) := ⟨_, rfl⟩
   obtain ⟨pb, hpb⟩ : ∃ pb, pb = bkF (z1o m) blk m.length (1 + yh m.length + 8) := ⟨_, rfl⟩
   rw [show stD (z1o m) (bkF (z1o m) blk m.length (1 + yh m.length + 8)) = z1w S pb (z1o m).length from by rw [hS, hpb]]
   have hfin : bsD (outL S 32) = bsD (zv0 m) := by rw [zu8, hS]; rfl
   refine WS [1, 2, 6] [1, 2, 6] ?_
   apply z3
   rw [zyp]
   have hE := And.intro hE (And.intro (z37 S) (And.intro zbs zio))
   refine WS [1, 2, 6, 40] [1, 2, 6] ?_
   apply z7
   refine WL (ι := {i : Nat // i ≤ 32}) [1, 2, 6] [1, 2] (fun ⟨i, hi⟩ => [(40, .dat (iD i))]) (fun ⟨i, hi⟩ => [(6, ⟨32, [.dat (bsD (outL S i))]⟩)]) (fun ⟨i, hi⟩ => 32 - i) (⟨0, by omega⟩) ?_
   rintro ⟨i, hi⟩
   refine LA ?_
   refine WS [1, 2, 6, 40, 41] [1, 2, 6] ?_
   apply z3
   refine WI ?_ ?_ <;> intro hb
   ·have q1 : IntKind.i64.wrap ((i : Int).tdiv 4) = ((i / 4 : Nat) : Int) := by rw [Int.tdiv_eq_ediv_of_nonneg (by omega), IntWalk.i64_in _ (by omega)]; omega
    have q2 : (i : Int).tmod 4 = ((i % 4 : Nat) : Int) := by rw [Int.tmod_eq_emod_of_nonneg (by omega)]; omega
    have q3 : IntKind.i64.wrap (8 * ((i % 4 : Nat) : Int)) = ((8 * (i % 4) : Nat) : Int) := by rw [IntWalk.i64_in _ (by omega)]; omega
    have q4 : IntKind.i64.wrap (24 - ((8 * (i % 4) : Nat) : Int)) = ((24 - 8 * (i % 4) : Nat) : Int) := by rw [IntWalk.i64_in _ (by omega)]; omega
    have g1 := fun l => zuz S l (k := i / 4) (by omega)
    have t1 := zxa (outL S i) i (by rw [z37]; omega)
    have hE := And.intro hE (And.intro q1 (And.intro q2 (And.intro q3 (And.intro q4 (And.intro g1 (And.intro t1 (And.intro (outL.eq_2 S i) (And.intro (outB.eq_1 S i) (And.intro zg0 zw6)))))))))
    apply z6
    apply z5
    apply z3
    apply z7
    refine WS [1, 2, 6, 7, 40] [1, 2, 6] ?_
    refine WQ [1, 2, 6, 40] [1, 2, 6] ?_
    apply ze
    apply z5
    refine WQ [1, 2, 6, 40] [1, 2, 6] ?_
    refine WN (⟨i + 1, by omega⟩)
   ·apply zj
    apply zd
    have hend : i = 32 := by omega
    subst hend
    apply zb
    apply zn
    apply z5
    rw [hfin]
    refine WS [2] [2] ?_
    apply z9
    exact E0
end Go.Proofs.YtkeopokhnfpgpaaGreatDoor

namespace Go.Proofs.YtkeopokhnfpgpaaGreatDoor
open Go.Av
def opN (l : List Int) (a : Int) : Int := atM l a 65536
def opT (l : List Int) (a : Int) : List ByteArray := if (opN l a).tmod 3 = 0 then yx l (a + 1) (((opN l a).tdiv 3).tmod 3).toNat else []
def opP (l : List Int) (a : Int) : List (Int × Int) := if (opN l a).tmod 3 = 0 then [((opN l a).tmod 2, ((opN l a).tdiv 2).tmod 3)] else []
def opS (l : List Int) (a : Int) : SpotM := if (opN l a).tmod 4 = 0 then ⟨((opN l a).tdiv 4).tmod 2, ((opN l a).tdiv 8).tmod 3, ((opN l a).tdiv 16).tmod 4⟩ else ⟨0, 0, 0⟩
def opR (l : List Int) (a : Int) : List IdM := if (opN l a).tmod 4 = 0 then [idM ((opN l a).tdiv 5)] else []
def opM (l : List Int) (a : Int) : OpM := { Kind := (opN l a).tmod 10, At := idM ((opN l a).tdiv 10), To := ⟨0, 0, 0⟩, Spot := opS l a, N := ((opN l a).tdiv 100).tmod 5, Form := 0, Lang := 0, Text := wordM ((opN l a).tdiv 7), Texts := opT l a, Pairs := opP l a, Refs := opR l a }
def idZ : IdM := ⟨0, 0, 0⟩
def z0i (l : List Int) : Int := atM l 3 7
def zuu (n : Int) (i : Nat) : Int := IntKind.i64.wrap ↑(BitVec.ofInt IntKind.i64.bits (n.fdiv (2 ^ min i IntKind.i64.bits)) &&& BitVec.ofInt IntKind.i64.bits 1).toNat
def nmG (l : List Int) (i : Nat) : NameM := ⟨i, atM l (5 + (i : Int)) 64⟩
def refsG (l : List Int) : Nat → List NameM
 | 0 => []
 | i + 1 => refsG l i ++ if zuu (atM l 4 64) i = 1 ∧ ((i : Int) = atM l 0 6 → ¬ atM l (5 + (i : Int)) 64 = atM l 1 64) then [nmG l i] else []
def x6 (l : List Int) : Int := atM l 11 4096
def z03 : OpM := { Kind := 0, At := idZ, To := idZ, Spot := ⟨0, 0, 0⟩, N := 0, Form := 0, Lang := 0, Text := ⟨#[]⟩, Texts := [], Pairs := [], Refs := [] }
def Xv : TermM := { Name := ⟨#[]⟩, Kind := 0, Lang := 0, See := ⟨#[]⟩, Broader := [] }
def zb1 (l : List Int) : TermM := { Name := wordM (x6 l), Kind := (x6 l).tmod 3, Lang := ((x6 l).tdiv 3).tmod 4, See := if (x6 l).tmod 5 = 0 then wordM ((x6 l).tdiv 5) else ⟨#[]⟩, Broader := yx l 12 (((x6 l).tdiv 12).tmod 3).toNat }
def postG (l : List Int) (i : Nat) : PostM := { ID := idM (x6 l), Path := yx l (12 + 4 * (i : Int)) (1 + atM l (30 + (i : Int)) 4).toNat, Main := decide (zuu (x6 l) i = 1) }
def yd (l : List Int) (i : Nat) : List PostM := (List.range i).map (postG l)
def evI (l : List Int) (i : Nat) : EventM := { By := atM l 0 6, Seq := atM l 1 64, Tick := atM l 2 1048577, Kind := z0i l, Refs := refsG l i, Op := z03, Term := Xv, ID := idZ, Posts := [], N := 0 }
def evG (l : List Int) : EventM :=
 if z0i l = 0 then { evI l 6 with Op := opM l 12 }
 else if z0i l = 2 then { evI l 6 with Term := zb1 l }
 else if z0i l = 3 ∨ z0i l = 4 then { evI l 6 with ID := idM (x6 l), Posts := yd l ((x6 l).tmod 4).toNat }
 else if z0i l = 5 ∨ z0i l = 6 then { evI l 6 with ID := idM (x6 l), N := atM l 12 1048577 }
 else evI l 6
theorem z4n (l : List Int) : ∀ i, (refsG l i).length ≤ i
 | 0 => Nat.le_refl _
 | i + 1 => by
  have := z4n l i
  rw [refsG, List.length_append]
  split
  ·simp; omega
  ·simp; omega
def z38 (x : EventM) (out : List EventM) : Nat → Nat
 | 0 => 0
 | k + 1 => if xl x (out.getD k default) = true then z38 x out k else k + 1
theorem zc1 (x : EventM) (out : List EventM) : ∀ k, z38 x out k ≤ k
 | 0 => Nat.le_refl _
 | k + 1 => by
  rw [z38]
  split
  ·exact Nat.le_succ_of_le (zc1 x out k)
  ·exact Nat.le_refl _
def z8s (x : EventM) (out : List EventM) (p : Nat) : List EventM := out.take p ++ [x] ++ out.drop p
theorem zp1 (x : EventM) (out : List EventM) (p : Nat) (h : p ≤ out.length) : (z8s x out p).length = out.length + 1 := by
 simp [z8s]; omega
def rsN (l : List EventM) : Nat → List EventM
 | 0 => []
 | i + 1 => z8s (l.getD i default) (rsN l i) (z38 (l.getD i default) (rsN l i) (rsN l i).length)
theorem z5z (l : List EventM) : ∀ i, (rsN l i).length = i
 | 0 => rfl
 | i + 1 => by rw [rsN, zp1 _ _ _ (zc1 _ _ _), z5z l i]
theorem zrs (P : List EventM) (a x : EventM) (Q : List EventM) : swapM (P ++ a :: x :: Q) (P.length + 1) = P ++ x :: a :: Q := by
 simp [swapM, List.getD_eq_getElem?_getD]
theorem z9c (x : EventM) (A R : List EventM) : ∀ k, k ≤ A.length → Qz (A.take k ++ x :: (A.drop k ++ R)) k = A.take (z38 x A k) ++ x :: (A.drop (z38 x A k) ++ R)
 | 0, _ => rfl
 | k + 1, h => by
  have ht : A.take (k + 1) = A.take k ++ [A.getD k default] := by
   rw [List.getD_eq_getElem?_getD, List.getElem?_eq_getElem h, Option.getD_some, List.take_append_getElem]
  have hd : A.drop k = A.getD k default :: A.drop (k + 1) := by
   rw [List.getD_eq_getElem?_getD, List.getElem?_eq_getElem h, Option.getD_some, List.drop_eq_getElem_cons h]
  have hl : (A.take k).length = k := by simp; omega
  have e : A.take (k + 1) ++ x :: (A.drop (k + 1) ++ R) = A.take k ++ A.getD k default :: x :: (A.drop (k + 1) ++ R) := by rw [ht]; simp
  rw [e, Qz, z38]
  have g1 : (A.take k ++ A.getD k default :: x :: (A.drop (k + 1) ++ R)).getD (k + 1) default = x := by
   rw [List.getD_eq_getElem?_getD, List.getElem?_append_right (by omega), hl]
   simp
  have g0 : (A.take k ++ A.getD k default :: x :: (A.drop (k + 1) ++ R)).getD k default = A.getD k default := by
   rw [List.getD_eq_getElem?_getD, List.getElem?_append_right (by omega), hl]
   simp
  rw [g1, g0]
  split
  ·have hs := zrs (A.take k) (A.getD k default) x (A.drop (k + 1) ++ R)
   rw [hl] at hs
   rw [hs]
   have := z9c x A R k (by omega)
   rw [hd] at this
   simpa using this
  ·rw [e]
theorem zj0 (l : List EventM) : ∀ i, i ≤ l.length → z2t l i = rsN l i ++ l.drop i
 | 0, _ => rfl
 | i + 1, h => by
  have hd : l.drop i = l.getD i default :: l.drop (i + 1) := by
   rw [List.getD_eq_getElem?_getD, List.getElem?_eq_getElem h, Option.getD_some, List.drop_eq_getElem_cons h]
  rw [z2t, zj0 l i (by omega), rsN]
  have := z9c (l.getD i default) (rsN l i) (l.drop (i + 1)) i (by rw [z5z]; exact Nat.le_refl _)
  have hl := z5z l i
  rw [List.take_of_length_le (by omega), List.drop_of_length_le (by omega), List.nil_append, ← hd] at this
  rw [this, z8s, z5z]
  simp
theorem zca (l : List EventM) : rsN l l.length = qv l := by
 have := zj0 l l.length (Nat.le_refl _)
 rw [List.drop_of_length_le (Nat.le_refl _), List.append_nil] at this
 exact this.symm
def jk (n : NameM) (e : EventM) : Bool := qa (evName e) n
def wc (l : List EventM) (n : NameM) : Int := jy (jk n) l
def z3r {α : Type} (p : α → Bool) (l : List α) (i : Nat) : Bool := (l.take i).any p
theorem kc {α : Type} [Inhabited α] (l : List α) {i : Nat} (h : i < l.length) : l.take (i + 1) = l.take i ++ [l.getD i default] := by
 rw [List.getD_eq_getElem?_getD, List.getElem?_eq_getElem h, Option.getD_some, List.take_append_getElem]
theorem zk0 {α : Type} (p : α → Bool) (l : List α) : z3r p l 0 = false := rfl
theorem zjz {α : Type} [Inhabited α] (p : α → Bool) (l : List α) {i : Nat} (h : i < l.length) : z3r p l (i + 1) = (z3r p l i || p (l.getD i default)) := by
 rw [z3r, kc l h, List.any_append, ← z3r]
 simp
def zyz (e x : EventM) : Bool := x.By == e.By
end Go.Proofs.YtkeopokhnfpgpaaGreatDoor

namespace Go.Proofs.YtkeopokhnfpgpaaGreatDoor
open Go.Av
abbrev zxy : Dat → Prop := fun d => ∃ n, d = .int .i64 n
abbrev ztl : Dat → Prop := fun d => ∃ a b, d = .agg [.int .i64 a, .int .i64 b]
theorem zl1 (m n : NameM) : Xe (zx m) (zx n) = qa m n := rfl
theorem Z7 {m n : NameM} (h : qa m n = true) : m = n := by
 cases m; cases n
 simp only [qa, Bool.and_eq_true, beq_iff_eq] at h
 rw [h.1, h.2]
theorem ki (m : NameM) : qa m m = true := by simp [qa]
structure ClInv (l : List EventM) (k1 v1 k2 v2 k3 v3 : List Dat) : Prop where
 l1 : k1.length = v1.length
 l2 : k2.length = v2.length
 l3 : k3.length = v3.length
 q1 : ∀ k ∈ k1, ztl k
 q2 : ∀ k ∈ k2, zxy k
 q3 : ∀ k ∈ k3, zxy k
 tick : ∀ n, (wc l n = -1 ∧ lkp k1 v1 (zx n) = none) ∨ (0 ≤ wc l n ∧ lkp k1 v1 (zx n) = some (iD (l.getD (wc l n).toNat default).Tick))
 count : ∀ b, (lkp k2 v2 (iD b)).getD (iD 0) = iD (l.countP (fun x => x.By == b))
 last : ∀ b, ((l.countP (fun x => x.By == b)) = 0 ∧ lkp k3 v3 (iD b) = none) ∨ (0 < l.countP (fun x => x.By == b) ∧ ∃ t, lkp k3 v3 (iD b) = some (iD t) ∧ (∃ x ∈ l, x.By = b ∧ x.Tick = t) ∧ ∀ x ∈ l, x.By = b → x.Tick ≤ t)
theorem zp2 {x a : EventM} {out : List EventM} {p : Nat} (h : x ∈ z8s a out p) : x = a ∨ x ∈ out := by
 simp only [z8s, List.mem_append, List.mem_singleton] at h
 rcases h with (h | h) | h
 ·exact .inr (List.mem_of_mem_take h)
 ·exact .inl h
 ·exact .inr (List.mem_of_mem_drop h)
theorem zjp {x : EventM} (l : List EventM) : ∀ i, i ≤ l.length → x ∈ rsN l i → x ∈ l
 | 0, _, h => by simp [rsN] at h
 | i + 1, hi, h => by
  rw [rsN] at h
  rcases zp2 h with h | h
  ·rw [h, List.getD_eq_getElem?_getD, List.getElem?_eq_getElem hi]
   exact List.getElem_mem hi
  ·exact zjp l i (by omega) h
theorem zme {x : EventM} {l : List EventM} (h : x ∈ qv l) : x ∈ l := by
 rw [← zca] at h
 exact zjp l _ (Nat.le_refl _) h
theorem z27 : I64 0 := by unfold I64; omega
theorem okZ : OkOp z03 where
 head := by
  intro x hx
  have : x = 0 := by
   simp [vl, z03, idZ] at hx
   exact hx
  rw [this]; exact z27
 pairs := by simp [z03]
 refs := by simp [z03]
 text := by decide
 texts := by simp [z03]
 ntexts := by decide
 npairs := by decide
 nrefs := by decide
 all := by decide +kernel
inductive GoodL : List EventM → Prop
 | nil : GoodL []
 | snoc {s : List EventM} {e : EventM} : GoodL s → (∀ x ∈ s, x.Tick < e.Tick) → qn e = 0 → (∀ x ∈ s, evName x ≠ evName e) → ((s.countP (zyz e) : Nat) : Int) = e.Seq → (∀ n ∈ e.Refs, ∃ x ∈ s, evName x = n) → GoodL (s ++ [e])
theorem zgr {l : List EventM} {n : NameM} (h : ∃ x ∈ l, evName x = n) : 0 ≤ wc l n := by
 unfold wc
 rw [jb, List.any_eq_true]
 obtain ⟨x, hx, rfl⟩ := h
 exact ⟨x, hx, by simp [jk, qa]⟩
structure LsOk (out : List EventM) (t : Int) : Prop where
 good : GoodL out
 tick : ∀ x ∈ out, x.Tick < t
 by_ : ∀ x ∈ out, 0 ≤ x.By ∧ x.By ≤ 2 ∧ 0 ≤ x.Seq ∧ x.Seq ≤ out.length
end Go.Proofs.YtkeopokhnfpgpaaGreatDoor

namespace Go.Proofs.YtkeopokhnfpgpaaGreatDoor
open Go.Av
theorem xi {n : Int} (h1 : -1000000000 ≤ n) (h2 : n ≤ 1000000000) : I64 n := by unfold I64; omega
theorem z6s (n : Int) : zbp (idM n) := by
 have h1 := Int.tmod_lt_of_pos n (b := 4) (by omega)
 have h2 := Int.lt_tmod_of_pos n (b := 4) (by omega)
 have h3 := Int.tmod_lt_of_pos (n.tdiv 4) (b := 8) (by omega)
 have h4 := Int.lt_tmod_of_pos (n.tdiv 4) (b := 8) (by omega)
 have h5 := Int.tmod_lt_of_pos (n.tdiv 32) (b := 3) (by omega)
 have h6 := Int.lt_tmod_of_pos (n.tdiv 32) (b := 3) (by omega)
 unfold idM
 exact ⟨xi (by dsimp only; omega) (by dsimp only; omega), xi (by dsimp only; omega) (by dsimp only; omega), xi (by dsimp only; omega) (by dsimp only; omega)⟩
def Xw (l : List NameM) (b : Int) (i : Nat) : List NameM := l ++ (List.range (i - l.length)).map fun j => ⟨b, ((l.length + j : Nat) : Int)⟩
def z52 (l : List NameM) (b : Int) : List NameM := Xw l b (max 17 l.length)
theorem z9l {l : List NameM} {b : Int} {i : Nat} (h : l.length ≤ i) : (Xw l b i).length = i := by simp [Xw]; omega
theorem z6m (l : List NameM) (b : Int) : Xw l b l.length = l := by simp [Xw]
theorem zgp {l : List NameM} {b : Int} {i : Nat} (h : l.length ≤ i) : Xw l b (i + 1) = Xw l b i ++ [⟨b, (i : Int)⟩] := by
 have e : i + 1 - l.length = (i - l.length) + 1 := by omega
 rw [Xw, e, List.range_succ, List.map_append, Xw, List.append_assoc]
 congr 2
 simp only [List.map_cons, List.map_nil]
 rw [show l.length + (i - l.length) = i by omega]
def sufL : List ByteArray := [⟨#[]⟩, ⟨#[64]⟩, ⟨#[32]⟩, ⟨#[32, 32, 120]⟩, ⟨#[32, 111, 102, 32, 116, 104, 101, 32, 108, 121, 114, 101, 32, 111, 102, 32, 114, 111, 109, 101]⟩]
def seeL : List ByteArray := [⟨#[]⟩, ⟨#[97, 110, 110, 97]⟩, ⟨#[64]⟩, ⟨#[32]⟩]
def sp7 (l : List NameM) (b : Int) : List NameM := if 0 < l.length then l.set (zp b l.length).toNat (l.getD 0 default) else l
def zmf (l : List PostM) (b : Int) : List PostM := match l with
 | [] => []
 | p :: ps => { ID := ⟨IntKind.i64.wrap (p.ID.By + (b.tdiv 5).tmod 2), p.ID.Seq, p.ID.K⟩, Path := p.Path.take (zp b (p.Path.length + 1)).toNat, Main := p.Main } :: ps
def spM (c : Int) (e : EventM) (b : Int) : EventM :=
 if c = 0 then { e with By := b } else if c = 1 then { e with Seq := b } else if c = 2 then { e with Tick := b } else if c = 3 then { e with Kind := b } else if c = 4 then { e with N := b }
 else if c = 5 then { e with ID := { e.ID with K := b } }
 else if c = 6 then { e with Refs := e.Refs ++ [⟨b, b.tdiv 7⟩] }
 else if c = 7 then { e with Refs := sp7 e.Refs b }
 else if c = 8 then { e with Term := { e.Term with Name := wordM b ++ sufL.getD (zp (b.tdiv 8) 5).toNat default } }
 else if c = 9 then { e with Term := { e.Term with See := seeL.getD (zp b 4).toNat default } }
 else if c = 10 then { e with Term := { e.Term with Broader := e.Term.Broader ++ [wordM b, ⟨#[]⟩, wordM b] } }
 else if c = 11 then { e with Term := { e.Term with Lang := b } }
 else if c = 12 then { e with Posts := e.Posts ++ [{ ID := e.ID, Path := [wordM b], Main := false }] }
 else if c = 13 then { e with Posts := zmf e.Posts b }
 else if c = 14 then { e with Op := { e.Op with N := b } }
 else { e with Refs := z52 e.Refs b }
def qd (e : EventM) (how b : Int) : EventM := spM (zp how 16) e b
theorem yg (n : Int) : (wordM n).size ≤ 12 := by
 have h := zu (n := n) (m := 8) (by omega)
 have key : ∀ i : Fin 8, (wordsL.getD i.val default).size ≤ 12 := by decide
 have := key ⟨(zp n 8).toNat, by omega⟩
 exact this
theorem zax {i : Nat} (h : i < 5) : (sufL.getD i default).size ≤ 20 := by
 have key : ∀ i : Fin 5, (sufL.getD i.val default).size ≤ 20 := by decide
 exact key ⟨i, h⟩
theorem zma {i : Nat} (h : i < 4) : (seeL.getD i default).size ≤ 20 := by
 have key : ∀ i : Fin 4, (seeL.getD i.val default).size ≤ 20 := by decide
 exact key ⟨i, h⟩
structure SmOp (o : OpM) : Prop where
 head : ∀ x ∈ vl o, I64 x
 pairs : ∀ p ∈ o.Pairs, I64 p.1 ∧ I64 p.2
 refs : ∀ r ∈ o.Refs, zbp r
 text : o.Text.size ≤ 100
 texts : ∀ s ∈ o.Texts, s.size ≤ 100
 ntexts : o.Texts.length ≤ 10
 npairs : o.Pairs.length ≤ 10
 nrefs : o.Refs.length ≤ 10
theorem Zk {s : ByteArray} {c : Nat} (h : s.size ≤ c) (hc : c ≤ 1000000) : (x4 s).length ≤ 9 + c := by
 have h1 := yl (n := (s.size : Int)) (by unfold I64; omega)
 rw [x4, List.length_append, yf]
 omega
theorem Xc {α : Type} {f : α → List Int} {l : List α} {c : Nat} (hf : ∀ x ∈ l, (f x).length ≤ c ∧ ∀ y ∈ f x, I64 y) (hl : c * l.length ≤ 1000000) : (intsM (l.flatMap f)).length ≤ 9 + 9 * (c * l.length) := by
 have h1 := Q0 f c l fun x hx => (hf x hx).1
 have h2 := ve (l := l.flatMap f) (fun y hy => by
  obtain ⟨x, hx, hy⟩ := List.mem_flatMap.1 hy
  exact (hf x hx).2 y hy) (by omega)
 omega
theorem zyk {o : OpM} (h : SmOp o) : OkOp o where
 head := h.head
 pairs := h.pairs
 refs := h.refs
 text := by have := h.text; omega
 texts := fun s hs => by have := h.texts s hs; omega
 ntexts := by have := h.ntexts; omega
 npairs := by have := h.npairs; omega
 nrefs := by have := h.nrefs; omega
 all := by
  have h0 := ve h.head (by simp [vl])
  have e0 : (vl o).length = 13 := rfl
  have h1 := Zk h.text (by omega)
  have h2 : (strsM o.Texts).length ≤ 9 + 109 * o.Texts.length := by
   rw [strsM, Qq, z0n, List.length_append]
   have ha := Q0 x4 109 o.Texts fun s hs => Zk (h.texts s hs) (by omega)
   have hb := yl (n := (o.Texts.length : Int)) (by have := h.ntexts; unfold I64; omega)
   omega
  have n1 := h.ntexts
  have n2 := h.npairs
  have n3 := h.nrefs
  have h3 := Xc (f := pairI) (l := o.Pairs) (c := 2) (fun p hp => ⟨Nat.le_refl _, fun y hy => by
   have := h.pairs p hp
   simp only [pairI, List.mem_cons, List.not_mem_nil, or_false] at hy
   rcases hy with rfl | rfl
   ·exact this.1
   ·exact this.2⟩) (by omega)
  have h4 := Xc (f := idI) (l := o.Refs) (c := 3) (fun p hp => ⟨Nat.le_refl _, fun y hy => by
   have := h.refs p hp
   simp only [idI, List.mem_cons, List.not_mem_nil, or_false] at hy
   rcases hy with rfl | rfl | rfl
   ·exact this.1
   ·exact this.2.1
   ·exact this.2.2⟩) (by omega)
  rw [opB, List.length_append, List.length_append, List.length_append, List.length_append]
  omega
structure SmEv (k : Nat) (e : EventM) : Prop where
 by_ : I64 e.By
 seq : I64 e.Seq
 tick : I64 e.Tick
 kind : I64 e.Kind
 n : I64 e.N
 id : zbp e.ID
 tk : I64 e.Term.Kind
 tl : I64 e.Term.Lang
 refs : ∀ r ∈ e.Refs, I64 r.By ∧ I64 r.Seq
 nrefs : e.Refs.length ≤ 20 * (k + 1)
 op : SmOp e.Op
 name : e.Term.Name.size ≤ 100
 see : e.Term.See.size ≤ 100
 broader : ∀ s ∈ e.Term.Broader, s.size ≤ 100
 nbroader : e.Term.Broader.length ≤ 10 * (k + 1)
 posts : ∀ p ∈ e.Posts, zbp p.ID ∧ p.Path.length ≤ 10 ∧ ∀ s ∈ p.Path, s.size ≤ 100
 nposts : e.Posts.length ≤ 10 * (k + 1)
theorem zav {k : Nat} {e : EventM} (h : SmEv k e) (hk : k ≤ 20) : OkEv e where
 by_ := h.by_
 seq := h.seq
 tick := h.tick
 kind := h.kind
 n := h.n
 id := h.id
 tk := h.tk
 tl := h.tl
 refs := h.refs
 nrefs := by have := h.nrefs; omega
 op := zyk h.op
 name := by have := h.name; omega
 see := by have := h.see; omega
 broader := fun s hs => by have := h.broader s hs; omega
 nbroader := by have := h.nbroader; omega
 posts := fun p hp => by
  have := h.posts p hp
  exact ⟨this.1, by omega, fun s hs => by have := this.2.2 s hs; omega⟩
 nposts := by have := h.nposts; omega
theorem zrk {k : Nat} {e : EventM} (h : SmEv k e) : SmEv (k + 1) e := { h with
 nrefs := by have := h.nrefs; omega
 nbroader := by have := h.nbroader; omega
 nposts := by have := h.nposts; omega }
theorem zov (n : Int) : I64 (IntKind.i64.wrap n) := by
 rw [IntKind.wrap_i64]
 unfold I64
 omega
theorem zdx {n c : Int} (h : I64 n) (hc : 1 < c) : I64 (n.tdiv c) := by
 unfold I64 at *
 by_cases h0 : 0 ≤ n
 ·rw [Int.tdiv_eq_ediv_of_nonneg h0]
  have h1 := Int.ediv_nonneg h0 (by omega : 0 ≤ c)
  have h2 := Int.ediv_le_self c h0
  omega
 ·have e : n.tdiv c = -((-n).tdiv c) := by rw [Int.neg_tdiv]; omega
  rw [e, Int.tdiv_eq_ediv_of_nonneg (by omega)]
  have h1 := Int.ediv_nonneg (by omega : 0 ≤ -n) (by omega : 0 ≤ c)
  have h2 := Int.ediv_le_self c (by omega : 0 ≤ -n)
  have h3 : (-n) / c < 9223372036854775808 := by
   by_cases h4 : -n ≤ 9223372036854775807
   ·omega
   ·have : -n = 9223372036854775808 := by omega
    rw [this]
    exact Int.ediv_lt_self_of_pos_of_ne_one (by omega) (by omega)
  omega
theorem zkr {l : List NameM} {b : Int} (hb : I64 b) (hl : l.length ≤ 100000) (h : ∀ r ∈ l, I64 r.By ∧ I64 r.Seq) : ∀ r ∈ z52 l b, I64 r.By ∧ I64 r.Seq := by
 intro r hr
 unfold z52 Xw at hr
 rcases List.mem_append.1 hr with hr | hr
 ·exact h r hr
 ·obtain ⟨j, hj, rfl⟩ := List.mem_map.1 hr
  have := List.mem_range.1 hj
  exact ⟨hb, xi (by dsimp only; omega) (by dsimp only; omega)⟩
theorem zyl {k : Nat} {e : EventM} {b : Int} (h : SmEv k e) (hk : k ≤ 20) (hb : I64 b) (c : Int) : SmEv (k + 1) (spM c e b) := by
 have h' := zrk h
 unfold spM
 by_cases c0 : c = 0
 ·rw [if_pos c0]
  exact { h' with by_ := hb }
 rw [if_neg c0]
 by_cases c1 : c = 1
 ·rw [if_pos c1]
  exact { h' with seq := hb }
 rw [if_neg c1]
 by_cases c2 : c = 2
 ·rw [if_pos c2]
  exact { h' with tick := hb }
 rw [if_neg c2]
 by_cases c3 : c = 3
 ·rw [if_pos c3]
  exact { h' with kind := hb }
 rw [if_neg c3]
 by_cases c4 : c = 4
 ·rw [if_pos c4]
  exact { h' with n := hb }
 rw [if_neg c4]
 by_cases c5 : c = 5
 ·rw [if_pos c5]
  exact { h' with id := ⟨h'.id.1, h'.id.2.1, hb⟩ }
 rw [if_neg c5]
 by_cases c6 : c = 6
 ·rw [if_pos c6]
  refine { h' with refs := fun r hr => ?_, nrefs := ?_ }
  ·rcases List.mem_append.1 hr with hr | hr
   ·exact h'.refs r hr
   ·rw [List.mem_singleton.1 hr]; exact ⟨hb, zdx hb (by omega)⟩
  ·have := h.nrefs
   show (e.Refs ++ [_]).length ≤ _
   rw [List.length_append, List.length_singleton]
   omega
 rw [if_neg c6]
 by_cases c7 : c = 7
 ·rw [if_pos c7]
  refine { h' with refs := fun r hr => ?_, nrefs := ?_ }
  ·have hr : r ∈ sp7 e.Refs b := hr
   unfold sp7 at hr
   split at hr
   ·rename_i h0
    rcases List.mem_or_eq_of_mem_set hr with hr | hr
    ·exact h'.refs r hr
    ·rw [hr]; exact zt h'.refs h0
   ·exact h'.refs r hr
  ·have := h'.nrefs
   show (sp7 e.Refs b).length ≤ _
   unfold sp7
   split
   ·rw [List.length_set]; exact this
   ·exact this
 rw [if_neg c7]
 by_cases c8 : c = 8
 ·rw [if_pos c8]
  refine { h' with name := ?_ }
  have h1 := yg b
  have h2 := zax (i := (zp (b.tdiv 8) 5).toNat) (by have := zu (n := b.tdiv 8) (m := 5) (by omega); omega)
  show (wordM b ++ sufL.getD _ default).size ≤ 100
  rw [ByteArray.size_append]
  omega
 rw [if_neg c8]
 by_cases c9 : c = 9
 ·rw [if_pos c9]
  refine { h' with see := ?_ }
  have h2 := zma (i := (zp b 4).toNat) (by have := zu (n := b) (m := 4) (by omega); omega)
  show (seeL.getD _ default).size ≤ 100
  omega
 rw [if_neg c9]
 by_cases c10 : c = 10
 ·rw [if_pos c10]
  have h1 := yg b
  refine { h' with broader := fun s hs => ?_, nbroader := ?_ }
  ·rcases List.mem_append.1 hs with hs | hs
   ·exact h'.broader s hs
   ·simp only [List.mem_cons, List.not_mem_nil, or_false] at hs
    rcases hs with rfl | rfl | rfl
    ·omega
    ·decide
    ·omega
  ·have := h.nbroader
   show (e.Term.Broader ++ [_, _, _]).length ≤ _
   rw [List.length_append]
   simp only [List.length_cons, List.length_nil]
   omega
 rw [if_neg c10]
 by_cases c11 : c = 11
 ·rw [if_pos c11]
  exact { h' with tl := hb }
 rw [if_neg c11]
 by_cases c12 : c = 12
 ·rw [if_pos c12]
  have h1 := yg b
  refine { h' with posts := fun p hp => ?_, nposts := ?_ }
  ·rcases List.mem_append.1 hp with hp | hp
   ·exact h'.posts p hp
   ·rw [List.mem_singleton.1 hp]
    refine ⟨h'.id, by show ([wordM b]).length ≤ 10; simp, fun s hs => ?_⟩
    rw [List.mem_singleton.1 hs]
    omega
  ·have := h.nposts
   show (e.Posts ++ [_]).length ≤ _
   rw [List.length_append, List.length_singleton]
   omega
 rw [if_neg c12]
 by_cases c13 : c = 13
 ·rw [if_pos c13]
  have hps := h'.posts
  have hnp := h'.nposts
  refine { h' with posts := fun p hp => ?_, nposts := ?_ }
  ·have hp : p ∈ zmf e.Posts b := hp
   cases hq : e.Posts with
   | nil => rw [hq] at hp; simp [zmf] at hp
   | cons p0 ps =>
    rw [hq] at hp hps
    rcases List.mem_cons.1 hp with hp | hp
    ·have h0 := hps p0 (by simp)
     rw [hp]
     refine ⟨⟨zov _, h0.1.2.1, h0.1.2.2⟩, ?_, fun s hs => h0.2.2 s (List.mem_of_mem_take hs)⟩
     show (p0.Path.take _).length ≤ 10
     rw [List.length_take]
     omega
    ·exact hps p (List.mem_cons.2 (.inr hp))
  ·show (zmf e.Posts b).length ≤ _
   cases hq : e.Posts with
   | nil => simp [zmf]
   | cons p0 ps => rw [hq] at hnp; exact hnp
 rw [if_neg c13]
 by_cases c14 : c = 14
 ·rw [if_pos c14]
  refine { h' with op := { h'.op with head := fun x hx => ?_ } }
  have hh := h'.op.head
  simp only [vl, List.mem_cons, List.not_mem_nil, or_false] at hx hh
  rcases hx with rfl | rfl | rfl | rfl | rfl | rfl | rfl | rfl | rfl | rfl | rfl | rfl | rfl
  ·exact hh _ (by simp)
  ·exact hh _ (by simp)
  ·exact hh _ (by simp)
  ·exact hh _ (by simp)
  ·exact hh _ (by simp)
  ·exact hh _ (by simp)
  ·exact hh _ (by simp)
  ·exact hh _ (by simp)
  ·exact hh _ (by simp)
  ·exact hh _ (by simp)
  ·exact hb
  ·exact hh _ (by simp)
  ·exact hh _ (by simp)
 rw [if_neg c14]
 ·have hn := h.nrefs
  refine { h' with refs := zkr hb (by omega) h'.refs, nrefs := ?_ }
  show (z52 e.Refs b).length ≤ _
  rw [z52, z9l (by omega)]
  omega
theorem smZ : SmOp z03 where
 head := okZ.head
 pairs := by simp [z03]
 refs := by simp [z03]
 text := by decide
 texts := by simp [z03]
 ntexts := by decide
 npairs := by decide
 nrefs := by decide
theorem zs6 (n : Int) : wk (wordM n) = true := by
 have h := zu (n := n) (m := 8) (by omega)
 have key : ∀ i : Fin 8, wk (wordsL.getD i.val default) = true := by decide +kernel
 exact key ⟨(zp n 8).toNat, by omega⟩
theorem z2y (l : List Int) (a : Int) (i : Nat) : (yx l a i).length = i ∧ (∀ s ∈ yx l a i, s.size ≤ 12) ∧ vg (yx l a i) = true := by
 refine ⟨by simp [yx], fun s hs => ?_, ?_⟩
 ·obtain ⟨j, _, rfl⟩ := List.mem_map.1 hs
  exact yg _
 ·unfold vg
  rw [List.all_eq_true]
  intro s hs
  obtain ⟨j, _, rfl⟩ := List.mem_map.1 hs
  exact zs6 _
theorem jt {n c : Int} (hc : 0 < c) (h2 : c ≤ 1000) : I64 (n.tmod c) := by
 have h1 := Int.tmod_lt_of_pos n hc
 have h3 := Int.lt_tmod_of_pos n hc
 exact xi (by omega) (by omega)
theorem zwy (l : List Int) (a : Int) : SmOp (opM l a) where
 head := by
  have h0 := z6s ((opN l a).tdiv 10)
  have hs : I64 (opS l a).Volume ∧ I64 (opS l a).Article ∧ I64 (opS l a).Index := by
   unfold opS
   split
   ·exact ⟨jt (by omega) (by omega), jt (by omega) (by omega), jt (by omega) (by omega)⟩
   ·exact ⟨z27, z27, z27⟩
  intro x hx
  simp only [vl, opM, List.mem_cons, List.not_mem_nil, or_false] at hx
  rcases hx with rfl | rfl | rfl | rfl | rfl | rfl | rfl | rfl | rfl | rfl | rfl | rfl | rfl
  ·exact jt (by omega) (by omega)
  ·exact h0.1
  ·exact h0.2.1
  ·exact h0.2.2
  ·exact z27
  ·exact z27
  ·exact z27
  ·exact hs.1
  ·exact hs.2.1
  ·exact hs.2.2
  ·exact jt (by omega) (by omega)
  ·exact z27
  ·exact z27
 pairs := by
  intro p hp
  have hp : p ∈ opP l a := hp
  unfold opP at hp
  split at hp
  ·rw [List.mem_singleton.1 hp]
   exact ⟨jt (by omega) (by omega), jt (by omega) (by omega)⟩
  ·simp at hp
 refs := by
  intro p hp
  have hp : p ∈ opR l a := hp
  unfold opR at hp
  split at hp
  ·rw [List.mem_singleton.1 hp]
   exact z6s _
  ·simp at hp
 text := by
  have := yg ((opN l a).tdiv 7)
  show (wordM _).size ≤ 100
  omega
 texts := by
  intro s hs
  have hs : s ∈ opT l a := hs
  unfold opT at hs
  split at hs
  ·have := (z2y l (a + 1) (((opN l a).tdiv 3).tmod 3).toNat).2.1 s hs
   omega
  ·simp at hs
 ntexts := by
  show (opT l a).length ≤ 10
  unfold opT
  split
  ·rw [(z2y l (a + 1) (((opN l a).tdiv 3).tmod 3).toNat).1]
   have := Int.tmod_lt_of_pos ((opN l a).tdiv 3) (b := 3) (by omega)
   omega
  ·simp
 npairs := by
  show (opP l a).length ≤ 10
  unfold opP
  split <;> simp
 nrefs := by
  show (opR l a).length ≤ 10
  unfold opR
  split <;> simp
theorem zaf (l : List Int) {r : NameM} : ∀ {i : Nat}, r ∈ refsG l i → (0 ≤ r.By ∧ r.By < i ∧ 0 ≤ r.Seq ∧ r.Seq ≤ 63) ∧ r ≠ ⟨atM l 0 6, atM l 1 64⟩
 | 0, h => by simp [refsG] at h
 | i + 1, h => by
  rw [refsG] at h
  rcases List.mem_append.1 h with h | h
  ·have := zaf l h
   exact ⟨by omega, this.2⟩
  ·split at h
   ·rename_i hc
    rw [List.mem_singleton.1 h]
    have := xc (l := l) (i := 5 + (i : Int)) (m := 64) (by omega)
    unfold nmG
    refine ⟨by dsimp only; omega, fun hq => ?_⟩
    simp only [NameM.mk.injEq] at hq
    exact hc.2 hq.1 hq.2
   ·simp at h
theorem zlj (l : List Int) (i : Nat) : (yd l i).length = i ∧ ∀ p ∈ yd l i, p.ID = idM (x6 l) ∧ 1 ≤ p.Path.length ∧ p.Path.length ≤ 4 ∧ vg p.Path = true ∧ ∀ s ∈ p.Path, s.size ≤ 12 := by
 refine ⟨by simp [yd], fun p hp => ?_⟩
 obtain ⟨j, _, rfl⟩ := List.mem_map.1 hp
 have h := xc (l := l) (i := 30 + (j : Int)) (m := 4) (by omega)
 have hl := z2y l (12 + 4 * (j : Int)) (1 + atM l (30 + (j : Int)) 4).toNat
 unfold postG
 exact ⟨rfl, by dsimp only; rw [hl.1]; omega, by dsimp only; rw [hl.1]; omega, hl.2.2, hl.2.1⟩
theorem zwm (l : List Int) : SmEv 0 (evI l 6) := by
 have a0 := xc (l := l) (i := 0) (m := 6) (by omega)
 have a1 := xc (l := l) (i := 1) (m := 64) (by omega)
 have a2 := xc (l := l) (i := 2) (m := 1048577) (by omega)
 have a3 := xc (l := l) (i := 3) (m := 7) (by omega)
 have hrl := z4n l 6
 exact { by_ := xi (by show _ ≤ atM l 0 6; omega) (by show atM l 0 6 ≤ _; omega), seq := xi (by show _ ≤ atM l 1 64; omega) (by show atM l 1 64 ≤ _; omega)
         tick := xi (by show _ ≤ atM l 2 1048577; omega) (by show atM l 2 1048577 ≤ _; omega), kind := xi (by show _ ≤ atM l 3 7; omega) (by show atM l 3 7 ≤ _; omega)
         n := z27, id := ⟨z27, z27, z27⟩, tk := z27, tl := z27
         refs := fun r hr => by
          have := (zaf l hr).1
          exact ⟨xi (by omega) (by omega), xi (by omega) (by omega)⟩
         nrefs := by show (refsG l 6).length ≤ _; omega
         op := smZ
         name := by show (0 : Nat) ≤ 100; omega
         see := by show (0 : Nat) ≤ 100; omega
         broader := by simp [evI, Xv]
         nbroader := by show (0 : Nat) ≤ _; omega
         posts := by simp [evI]
         nposts := by show (0 : Nat) ≤ _; omega }
theorem ztz (l : List Int) : 0 ≤ x6 l ∧ x6 l < 4096 := xc (l := l) (i := 11) (m := 4096) (by omega)
theorem zwl (l : List Int) : SmEv 0 (evG l) := by
 have h := zwm l
 have hn := ztz l
 have t4 := Int.tmod_nonneg (b := 4) (a := x6 l) hn.1
 have t4b := Int.tmod_lt_of_pos (x6 l) (b := 4) (by omega)
 unfold evG
 split
 ·exact { h with op := zwy l 12 }
 split
 ·have hw := yg (x6 l)
  have hw2 := yg ((x6 l).tdiv 5)
  have hl := z2y l 12 (((x6 l).tdiv 12).tmod 3).toNat
  have t3 := Int.tmod_lt_of_pos ((x6 l).tdiv 12) (b := 3) (by omega)
  refine { h with tk := jt (by omega) (by omega), tl := jt (by omega) (by omega), name := ?_, see := ?_, broader := fun s hs => ?_, nbroader := ?_ }
  ·show (wordM (x6 l)).size ≤ 100; omega
  ·show (if (x6 l).tmod 5 = 0 then wordM ((x6 l).tdiv 5) else ⟨#[]⟩ : ByteArray).size ≤ 100
   split
   ·omega
   ·decide
  ·have := hl.2.1 s hs; omega
  ·show (yx l 12 (((x6 l).tdiv 12).tmod 3).toNat).length ≤ _
   rw [hl.1]; omega
 split
 ·have hp := zlj l ((x6 l).tmod 4).toNat
  refine { h with id := z6s _, posts := fun p hpm => ?_, nposts := ?_ }
  ·obtain ⟨h1, h2, h3, h4, h5⟩ := hp.2 p hpm
   refine ⟨by rw [h1]; exact z6s _, by omega, fun s hs => by have := h5 s hs; omega⟩
  ·show (yd l ((x6 l).tmod 4).toNat).length ≤ _
   rw [hp.1]; omega
 split
 ·have a12 := xc (l := l) (i := 12) (m := 1048577) (by omega)
  exact { h with id := z6s _, n := xi (by show _ ≤ atM l 12 1048577; omega) (by show atM l 12 1048577 ≤ _; omega) }
 ·exact h
end Go.Proofs.YtkeopokhnfpgpaaGreatDoor

namespace Go.Proofs.YtkeopokhnfpgpaaGreatDoor
open Go.Av
theorem ztd {n : Nat} (h : n ≤ 1000000000000) : I64 (n : Int) := by unfold I64; omega
theorem ziy {i : IdM} (h : zbp i) : ∀ x ∈ idI i, I64 x := fun x hx => by
 simp only [idI, List.mem_cons, List.not_mem_nil, or_false] at hx
 rcases hx with rfl | rfl | rfl
 ·exact h.1
 ·exact h.2.1
 ·exact h.2.2
theorem z9n (l : List NameM) : (l.flatMap nameI).length = 2 * l.length := by
 induction l with
 | nil => rfl
 | cons p l ih => simp only [List.flatMap_cons, List.length_append, ih, nameI, List.length_cons, List.length_nil]; omega
theorem zxe {o : OpM} (h : SmOp o) : (opB o).length ≤ 3000 := by
 have h0 := ve h.head (by simp [vl])
 have e0 : (vl o).length = 13 := rfl
 have h1 := Zk h.text (by omega)
 have h2 : (strsM o.Texts).length ≤ 9 + 109 * o.Texts.length := by
  rw [strsM, Qq, z0n, List.length_append]
  have ha := Q0 x4 109 o.Texts fun s hs => Zk (h.texts s hs) (by omega)
  have hb := yl (n := (o.Texts.length : Int)) (by have := h.ntexts; unfold I64; omega)
  omega
 have n1 := h.ntexts
 have n2 := h.npairs
 have n3 := h.nrefs
 have h3 := Xc (f := pairI) (l := o.Pairs) (c := 2) (fun p hp => ⟨Nat.le_refl _, fun y hy => by
  have := h.pairs p hp
  simp only [pairI, List.mem_cons, List.not_mem_nil, or_false] at hy
  rcases hy with rfl | rfl
  ·exact this.1
  ·exact this.2⟩) (by omega)
 have h4 := Xc (f := idI) (l := o.Refs) (c := 3) (fun p hp => ⟨Nat.le_refl _, fun y hy => by
  have := h.refs p hp
  simp only [idI, List.mem_cons, List.not_mem_nil, or_false] at hy
  rcases hy with rfl | rfl | rfl
  ·exact this.1
  ·exact this.2.1
  ·exact this.2.2⟩) (by omega)
 rw [opB, List.length_append, List.length_append, List.length_append, List.length_append]
 omega
theorem zjt {l : List ByteArray} (h : ∀ s ∈ l, s.size ≤ 100) (hl : l.length ≤ 100000) : (strsM l).length ≤ 9 + 109 * l.length := by
 rw [strsM, Qq, z0n, List.length_append]
 have ha := Q0 x4 109 l fun s hs => Zk (h s hs) (by omega)
 have hb := yl (n := (l.length : Int)) (by unfold I64; omega)
 omega
theorem zxd {k : Nat} {e : EventM} (h : SmEv k e) (hk : k ≤ 4) : (evB e).length ≤ 17000 + 13000 * k := by
 have ok := zav h (by omega)
 have n1 := h.nrefs
 have n2 := h.nbroader
 have n3 := h.nposts
 have m1 : 20 * (k + 1) ≤ 100 := by omega
 have m2 : 10 * (k + 1) ≤ 50 := by omega
 have hb1 := ve (l := [e.By, e.Seq, e.Tick, e.Kind]) (by
  simp only [List.forall_mem_cons]
  exact ⟨h.by_, h.seq, h.tick, h.kind, by simp⟩) (by simp)
 simp only [List.length_cons, List.length_nil] at hb1
 have hb2 := ve (z78 ok) (by rw [z9n]; omega)
 rw [z9n] at hb2
 have ht : (z5g e).length ≤ 16100 + 12600 * k := by
  unfold z5g
  split
  ·have := zxe h.op; omega
  split
  ·have q1 := ve (l := [e.Term.Kind, e.Term.Lang]) (by
    simp only [List.forall_mem_cons]
    exact ⟨h.tk, h.tl, by simp⟩) (by simp)
   have q2 := zjt (l := e.Term.Name :: e.Term.See :: e.Term.Broader) (by
    intro s hs
    rcases List.mem_cons.1 hs with rfl | hs
    ·exact h.name
    ·rcases List.mem_cons.1 hs with rfl | hs
     ·exact h.see
     ·exact h.broader s hs) (by simp only [List.length_cons]; omega)
   simp only [List.length_append, List.length_cons, List.length_nil] at q1 q2 ⊢
   omega
  split
  ·have q1 := ve (l := idI e.ID) (ziy h.id) (by simp [idI])
   have q2 := yl (n := (e.Posts.length : Int)) (by unfold I64; omega)
   have q3 := Q0 vi 1200 e.Posts fun p hp => by
    obtain ⟨_, p1, p2⟩ := h.posts p hp
    have r1 := zjt p2 (by omega)
    have r2 := yl (n := (if p.Main = true then 1 else 0)) (by split <;> (unfold I64; omega))
    rw [vi, List.length_append]
    omega
   have q4 : (idI e.ID).length = 3 := rfl
   simp only [List.length_append]
   omega
  split
  ·have q1 := ve (l := idI e.ID ++ [e.N]) (fun x hx => by
    rcases List.mem_append.1 hx with hx | hx
    ·exact ziy h.id x hx
    ·simp at hx; subst hx; exact h.n) (by simp [idI])
   have q2 : (idI e.ID ++ [e.N]).length = 4 := rfl
   omega
  ·simp
 simp only [evB, z6r, List.length_append]
 omega
theorem zp3 {n : Int} (hn : I64 n) : isB (yq n) := fun x hx => by
 have hk := Zo hn
 unfold yq z48 at hx
 rcases List.mem_cons.1 hx with rfl | hx
 ·exact zdr (by omega)
 ·obtain ⟨i, _, rfl⟩ := List.mem_map.1 hx
  unfold digM
  exact zdr (by omega)
theorem zth {a b : List Int} (ha : isB a) (hb : isB b) : isB (a ++ b) := fun x hx => by
 rcases List.mem_append.1 hx with h | h
 ·exact ha x h
 ·exact hb x h
theorem zrr (s : ByteArray) : isB (vj s) := fun x hx => by
 unfold vj at hx
 obtain ⟨c, _, rfl⟩ := List.mem_map.1 hx
 have := c.toNat_lt
 omega
theorem z68 {s : ByteArray} (h : s.size ≤ 1000000000000) : isB (x4 s) := zth (zp3 (ztd h)) (zrr s)
def z01 (t : Int) (l : List ByteArray) : Nat → List Int
 | 0 => [t]
 | i + 1 => z01 t l i ++ x4 (l.getD i default)
def zbx (t : Int) (l : List ByteArray) : Nat → List Int
 | 0 => bkF [t] y64 0 1
 | i + 1 => bkF (z01 t l (i + 1)) (zbx t l i) (z01 t l i).length (x4 (l.getD i default)).length
def dgM (t : Int) (l : List ByteArray) : List Int := (zv0 (z01 t l l.length)).take 16
theorem z5u (t : Int) (l : List ByteArray) : ∀ i, z1x (z01 t l i) (z01 t l i).length (zbx t l i)
 | 0 => zvd [t] (zd1 zcn)
 | i + 1 => zvd (x4 (l.getD i default)) (z5u t l i)
theorem z7g {t : Int} {l : List ByteArray} (h : ∀ s ∈ l, s.size ≤ 1000000) : ∀ i, i ≤ l.length → (z01 t l i).length ≤ 1 + 1000009 * i
 | 0, _ => Nat.le_refl _
 | i + 1, hi => by
  have h1 := z7g (t := t) h i (by omega)
  have h2 := Zj (h (l.getD i default) (by rw [List.getD_eq_getElem?_getD, List.getElem?_eq_getElem (by omega)]; exact List.getElem_mem _))
  simp only [z01, List.length_append]
  omega
theorem z2u {t : Int} (ht : 0 ≤ t ∧ t ≤ 255) {l : List ByteArray} (h : ∀ s ∈ l, s.size ≤ 1000000) : ∀ i, i ≤ l.length → isB (z01 t l i)
 | 0, _ => fun x hx => by simp only [z01, List.mem_singleton] at hx; subst hx; exact ht
 | i + 1, hi => zj3 (z2u ht h i (by omega)) (z68 (by have := h (l.getD i default) (by rw [List.getD_eq_getElem?_getD, List.getElem?_eq_getElem (by omega)]; exact List.getElem_mem _); omega))
set_option maxRecDepth 100000 in
set_option maxHeartbeats 2000000 in
theorem zot (G) (t : Int) (ht : 0 ≤ t ∧ t ≤ 255) (h7 : IntKind.u8.wrap t = t) (hgk : G.lookup 1 = some (wsD kH)) (l : List ByteArray) (hl : l.length ≤ 1000) (h : ∀ s ∈ l, s.size ≤ 1000000) : zl Tryz.prog G 96 [iD t, ssD l] [bsD (dgM t l)] := by
 have hbl : ∀ i, (zbx t l i).length = 64 := fun i => (z5u t l i).1
 have h8 : zck [Dat.int IntKind.u8 t] = some [t] := rfl
 have hz : isB (z01 t l 0) := z2u ht h 0 (by omega)
 have c0 : zl Tryz.prog G 133 [stD [] y64, .str (vv [t])] [stD (z01 t l 0) (zbx t l 0)] := zfu G hgk [] y64 [t] (zd1 zcn) (fun x hx => by cases hx) hz (by simp)
 have hsl := zfh (z01 t l l.length)
 skip
 skip
 refine GI [] [] [] Tryz.func96 Tryz.ntmps96 fun F hP hG hN hR hA => ?_
 have hE := And.intro @Tryz.results96 (And.intro @h7 (And.intro @h8 (And.intro @hbl (@hsl))))
 refine WS [0, 1, 4] [4] ?_
 apply w6 [1, 4, 5] [4, 5] [0, 1, 2, 3, 4, 5, 6, 7] [5]
 ·rw [hP]; kernel_rfl
 ·exact hR
 ·kernel_rfl
 ·(repeat (apply PickL.cons; exact rfl)); exact PickL.nil _
 ·refine RN ?_
  refine CU (zng G) ?_
  refine CU (c0) ?_
  exact SC
 apply z3
 refine WS [4, 5, 15, 16, 17] [4, 5] ?_
 apply z7
 refine WL (ι := {i : Nat // i ≤ l.length}) [4, 5, 15, 16] [4] (fun ⟨i, hi⟩ => [(17, .dat (iD i))]) (fun ⟨i, hi⟩ => [(5, ⟨73, [.dat (stD (z01 t l i) (zbx t l i))]⟩)]) (fun ⟨i, hi⟩ => l.length - i) (⟨0, by omega⟩) ?_
 rintro ⟨i, hi⟩
 refine LA ?_
 refine WS [4, 5, 15, 16, 17, 18] [4, 5] ?_
 apply z3
 refine WI ?_ ?_ <;> intro hb
 ·have hs := h (l.getD i default) (by rw [List.getD_eq_getElem?_getD, List.getElem?_eq_getElem (by omega)]; exact List.getElem_mem _)
  have c1 : zl Tryz.prog G 133 [stD (z01 t l i) (zbx t l i), .str (vv (x4 (l.getD i default)))] [stD (z01 t l (i + 1)) (zbx t l (i + 1))] := zfu G hgk (z01 t l i) (zbx t l i) (x4 (l.getD i default)) (z5u t l i) (z2u ht h i hi) (z68 (by omega)) (by have := z7g (t := t) h i hi; have := Zj hs; omega)
  apply z6
  apply z5
  apply z3
  apply z7
  refine WS [4, 5, 7, 15, 16, 17] [4, 5] ?_
  apply z05 [4, 5, 15, 16, 17] [4, 5] [0, 1, 2, 3, 4, 5] []
  ·rw [hP]; kernel_rfl
  ·exact hR
  ·kernel_rfl
  ·(repeat (apply PickL.cons; exact rfl)); exact PickL.nil _
  ·refine RN ?_
   refine CU (zb5 G (l.getD i default) hs) ?_
   refine CU (c1) ?_
   exact SC
  apply ze
  apply z5
  refine WQ [4, 5, 15, 16, 17] [4, 5] ?_
  refine WN (⟨i + 1, by omega⟩)
 ·have hie : i = l.length := by omega
  subst hie
  apply zj
  apply zd
  apply zb
  apply zn
  apply z5
  have hc := gvF hP hG (zux G hgk (z01 t l l.length) (zbx t l l.length) (z5u t l _) (z2u ht h _ (Nat.le_refl _)) (by have := z7g (t := t) h l.length (Nat.le_refl _); omega))
  refine WSc [4, 8] [4, 8] ?_
  refine WS [4] [4] ?_
  apply z9
  exact E0
theorem tr6 {α : Type} {f : α → Dat} (A B C D E F : List α) (n : Nat) (h : A.length + B.length + C.length + D.length + E.length + F.length ≤ n) : List.take n (List.map AV.dat (List.map f A) ++ List.map AV.dat (List.map f B) ++ List.map AV.dat (List.map f C) ++ List.map AV.dat (List.map f D) ++ List.map AV.dat (List.map f E) ++ List.map AV.dat (List.map f F)) = List.map AV.dat (List.map f A) ++ List.map AV.dat (List.map f B) ++ List.map AV.dat (List.map f C) ++ List.map AV.dat (List.map f D) ++ List.map AV.dat (List.map f E) ++ List.map AV.dat (List.map f F) := List.take_of_length_le (by simpa [Nat.add_assoc] using h)
theorem tr7 {α : Type} {f : α → Dat} (A B C D E F G : List α) (n : Nat) (h : A.length + B.length + C.length + D.length + E.length + F.length + G.length ≤ n) : List.take n (List.map AV.dat (List.map f A) ++ List.map AV.dat (List.map f B) ++ List.map AV.dat (List.map f C) ++ List.map AV.dat (List.map f D) ++ List.map AV.dat (List.map f E) ++ List.map AV.dat (List.map f F) ++ List.map AV.dat (List.map f G)) = List.map AV.dat (List.map f A) ++ List.map AV.dat (List.map f B) ++ List.map AV.dat (List.map f C) ++ List.map AV.dat (List.map f D) ++ List.map AV.dat (List.map f E) ++ List.map AV.dat (List.map f F) ++ List.map AV.dat (List.map f G) := List.take_of_length_le (by simpa [Nat.add_assoc] using h)
set_option maxRecDepth 100000 in
set_option maxHeartbeats 2000000 in
theorem zxj (G) (e : EventM) (h : OkEv e) : zl Tryz.prog G 131 [zc e] [z3m (evB e)] := by
 have hnr := h.nrefs
 have hnp := h.nposts
 have hnb := h.nbroader
 have hpl := jv (f := nameI) (k := 2) (fun _ => rfl) e.Refs
 have hrl := hpl e.Refs.length (Nat.le_refl _)
 rw [vy] at hrl
 have hhd : ∀ x ∈ [e.By, e.Seq, e.Tick, e.Kind], I64 x := by
  simp only [List.forall_mem_cons]
  exact ⟨h.by_, h.seq, h.tick, h.kind, by simp⟩
 have hid : ∀ x ∈ idI e.ID, I64 x := by
  simp only [idI, List.forall_mem_cons]
  exact ⟨h.id.1, h.id.2.1, h.id.2.2, by simp⟩
 have hb1 := ve hhd (by simp)
 have hb2 := ve (z78 h) (by omega)
 simp only [List.length_cons, List.length_nil] at hb1
 rw [hrl] at hb2
 have hoa := h.op.all
 have o1 := zqf e.Kind
 have o2 := zbz e.Kind
 have o4 := zem e.Kind
 have o5 := zyf e.Kind
 skip
 skip
 skip
 refine GI [] [21, 50, 130] [] Tryz.func131 Tryz.ntmps131 fun F hP hG hN hR hA => ?_
 have hE := And.intro @Tryz.results131 (And.intro @X9 (And.intro @Nat.min_self (And.intro @tr2 (And.intro @tr3 (@tr4)))))
 refine WS [1] [1, 21] ?_
 apply zm [1, 3] [1, 102, 120, 21]
 ·refine RN ?_
  refine CX (fun _ => 21) [18] (zb6 G [e.By, e.Seq, e.Tick, e.Kind] hhd (by simp)) ?_
  exact SC
 refine WS [1, 3, 4] [1, 35, 102, 120, 21] ?_
 apply z3
 refine WS [1, 3, 4, 23, 24, 25] [1, 35, 102, 120, 21] ?_
 apply z7
 refine xd 35 1 (by omega) ?_
 refine xy 4 35 1 rfl rfl ?_
 refine WL (ι := {i : Nat // i ≤ e.Refs.length}) [1, 3, 23, 24] [1, 34, 40, 61, 74, 89, 96, 102, 115, 120, 132, 21] (fun ⟨i, hi⟩ => [(4, .osl 35 1 0 (wr nameI e.Refs i).length), (25, .dat (iD i))]) (fun ⟨i, hi⟩ => [(35, ⟨1, ((wr nameI e.Refs i).map iD).map .dat⟩)]) (fun ⟨i, hi⟩ => e.Refs.length - i) (⟨0, by omega⟩) ?_
 rintro ⟨i, hi⟩
 refine LA ?_
 have hl := hpl i hi
 refine WS [1, 3, 4, 23, 24, 25, 26] [1, 34, 35, 102, 120, 21] ?_
 apply z3
 refine WI ?_ ?_ <;> intro hb
 ·have hl2 := hpl (i + 1) (by omega)
  have hsc := jx nameI e.Refs i (by omega)
  have hE := And.intro hE (And.intro hsc (nameI.eq_1 (e.Refs.getD i default)))
  apply z6
  apply z5
  apply z3
  apply z7
  refine WS [1, 3, 4, 6, 23, 24, 25] [1, 6, 34, 35, 102, 120, 21] ?_
  refine WQ [1, 3, 4, 23, 24, 25] [1, 34, 35, 102, 120, 21] ?_
  apply ze
  apply z5
  refine WQ [1, 3, 4, 23, 24, 25] [1, 34, 35, 102, 120, 21] ?_
  refine WN (⟨i + 1, by omega⟩)
 ·apply zj
  apply zd
  have hend : i = e.Refs.length := by omega
  subst hend
  have hf := vy nameI e.Refs
  have hE := And.intro hE hf
  apply zb
  apply zn
  apply z5
  refine v8 35 hR.2.2.2 rfl (datE_map _) ?_
  have hc := gvF hP hG (Qt G (e.Refs.flatMap nameI) (z78 h) (by omega))
  refine WSc [1, 3] [1, 40, 102, 120, 21] ?_
  refine WS [1, 3, 7] [1, 40, 50, 102, 120, 21] ?_
  apply z3
  have hc := gvF hP hG (zvm G e.Kind)
  refine WSc [1, 3, 7, 8] [1, 8, 40, 50, 102, 120, 21] ?_
  apply z7
  refine WS [1, 3, 7, 8, 54] [1, 8, 40, 50, 102, 120, 21] ?_
  refine WI ?_ ?_ <;> intro hb
  ·have hk : e.Kind = 0 := by grind
   have hv : evB e = intsM [e.By, e.Seq, e.Tick, e.Kind] ++ intsM (e.Refs.flatMap nameI) ++ opB e.Op := by
    unfold evB z6r z5g
    rw [if_pos hk]
   have hE := And.intro hE hv
   have hc := gvF hP hG (zs4 G e.Op h.op)
   refine WQc [3] [40, 61, 102, 120, 21] ?_
   apply ze
   apply z5
   refine WS [2] [40, 61, 74, 89, 96, 102, 115, 120, 132, 21] ?_
   apply z9
   refine EN ?_
   all_goals try trivial
   all_goals (simp only [← List.map_append, datE_map] <;> rfl)
  ·refine WS [1, 3, 7, 8, 62] [1, 8, 40, 50, 102, 120, 21] ?_
   refine WI ?_ ?_ <;> intro hb
   ·have hk : e.Kind = 2 := by grind
    have hk0 : e.Kind ≠ 0 := by omega
    have hv : evB e = intsM [e.By, e.Seq, e.Tick, e.Kind] ++ intsM (e.Refs.flatMap nameI) ++ intsM [e.Term.Kind, e.Term.Lang] ++ strsM (e.Term.Name :: e.Term.See :: e.Term.Broader) := by
     unfold evB z6r z5g
     rw [if_neg hk0, if_pos hk]
     simp only [List.append_assoc]
    have hE := And.intro hE hv
    have htk : ∀ x ∈ [e.Term.Kind, e.Term.Lang], I64 x := by
     simp only [List.forall_mem_cons]
     exact ⟨h.tk, h.tl, by simp⟩
    have hts : ∀ s ∈ e.Term.Name :: e.Term.See :: e.Term.Broader, s.size ≤ 1000000 := by
     simp only [List.forall_mem_cons]
     exact ⟨by have := h.name; omega, by have := h.see; omega, fun s hs => by have := h.broader s hs; omega⟩
    have hb3 := ve htk (by simp)
    have hb4 := z86 hts (by simp; omega)
    simp only [List.length_cons, List.length_nil] at hb3 hb4
    have hfl : ([[e.Term.Name, e.Term.See], e.Term.Broader] : List (List ByteArray)).flatten = e.Term.Name :: e.Term.See :: e.Term.Broader := by simp
    have hE := And.intro hE hfl
    have hc := gvF hP hG (Qt G [e.Term.Kind, e.Term.Lang] htk (by simp))
    refine WSc [1, 3] [1, 40, 74, 102, 120, 21] ?_
    apply yp [3] [40, 74, 89, 102, 120, 21]
    ·refine RN ?_
     refine CU (zgd G [[e.Term.Name, e.Term.See], e.Term.Broader] (by simp) (by simp; omega) (by simp; omega)) ?_
     refine CU (z3o G (e.Term.Name :: e.Term.See :: e.Term.Broader) hts (by simp; omega)) ?_
     exact SC
    apply ze
    apply z5
    refine WS [2] [40, 61, 74, 89, 96, 102, 115, 120, 132, 21] ?_
    apply z9
    refine EN ?_
    all_goals try trivial
    all_goals (simp only [← List.map_append, datE_map] <;> rfl)
   ·refine WS [1, 3, 7, 8, 90] [1, 8, 40, 50, 102, 120, 21] ?_
    refine WI ?_ ?_ <;> intro hb
    ·have hk : e.Kind = 3 ∨ e.Kind = 4 := by grind
     have hk0 : e.Kind ≠ 0 := by omega
     have hk2 : e.Kind ≠ 2 := by omega
     have hv : evB e = intsM [e.By, e.Seq, e.Tick, e.Kind] ++ intsM (e.Refs.flatMap nameI) ++ intsM (idI e.ID) ++ yq e.Posts.length ++ e.Posts.flatMap vi := by
      unfold evB z6r z5g
      rw [if_neg hk0, if_neg hk2, if_pos hk]
      simp only [List.append_assoc]
     have hE := And.intro hE hv
     have hb3 : (intsM (idI e.ID)).length ≤ 36 := ve hid (by simp [idI])
     have hb4 : (yq (e.Posts.length : Int)).length ≤ 9 := yl (by unfold I64; omega)
     refine zsg 7 rfl ?_
     have hc := gvF hP hG (Qt G (idI e.ID) hid (by simp [idI]))
     refine WSc [1, 3] [1, 40, 96, 102, 120, 21] ?_
     have hc := gvF hP hG (zcm G e.Posts.length (by unfold I64; omega))
     refine WSc [1, 3] [1, 40, 96, 102, 120, 21] ?_
     refine WS [3, 104, 105, 106] [40, 96, 102, 120, 21] ?_
     apply z7
     refine yj 102 120 (by omega) (by omega) ?_
     have hE := And.intro hE (And.intro (tr5 (α := Int) (f := u8D)) (And.intro (tr6 (α := Int) (f := u8D)) (tr7 (α := Int) (f := u8D))))
     refine WL (ι := {i : Nat // i ≤ e.Posts.length}) [104, 105] [40, 61, 74, 89, 96, 102, 115, 132, 21] (fun ⟨i, hi⟩ => [(3, .osl 120 1 0 ((intsM [e.By, e.Seq, e.Tick, e.Kind]).length + (intsM (e.Refs.flatMap nameI)).length + (intsM (idI e.ID)).length + (yq e.Posts.length).length + (wr vi e.Posts i).length)), (106, .dat (iD i))]) (fun ⟨i, hi⟩ => [(120, ⟨1, ((intsM [e.By, e.Seq, e.Tick, e.Kind] ++ intsM (e.Refs.flatMap nameI) ++ intsM (idI e.ID) ++ yq e.Posts.length ++ wr vi e.Posts i).map u8D).map .dat⟩)]) (fun ⟨i, hi⟩ => e.Posts.length - i) (⟨0, by omega⟩) ?_
     rintro ⟨i, hi⟩
     refine LA ?_
     have hpi := zli h i hi
     refine WS [3, 104, 105, 106, 107] [40, 96, 102, 115, 120, 21] ?_
     apply z3
     refine WI ?_ ?_ <;> intro hb
     ·have hsc := jx vi e.Posts i (by omega)
      have hpp := zt h.posts (i := i) (by omega)
      have hsl : (wr vi e.Posts (i + 1)).length = (wr vi e.Posts i).length + (vi (e.Posts.getD i default)).length := by rw [hsc, List.length_append]
      have hps := z86 (l := (e.Posts.getD i default).Path) (fun s hs => by have := hpp.2.2 s hs; omega) (by omega)
      apply z6
      apply z5
      apply z3
      apply z7
      refine WS [3, 10, 104, 105, 106] [10, 40, 96, 102, 115, 120, 21] ?_
      refine WS [3, 10, 11, 104, 105, 106] [10, 40, 96, 102, 115, 120, 21] ?_
      apply z3
      refine WS [3, 10, 11, 104, 105, 106, 111] [10, 40, 96, 102, 115, 120, 21] ?_
      refine WI ?_ ?_ <;> intro hb
      ·have hpb : vi (e.Posts.getD i default) = yq 1 ++ strsM (e.Posts.getD i default).Path := by unfold vi; rw [if_pos hb]
       have him : (yq 1).length ≤ 9 := yl (by unfold I64; omega)
       have hsx : ∀ X : List Int, X ++ wr vi e.Posts (i + 1) = X ++ wr vi e.Posts i ++ yq 1 ++ strsM (e.Posts.getD i default).Path := fun X => by rw [hsc, hpb]; simp only [List.append_assoc]
       rw [hpb, List.length_append, ← Nat.add_assoc] at hsl
       have hsy : ∀ Y : Nat, Y + (wr vi e.Posts (i + 1)).length = Y + (wr vi e.Posts i).length + (yq 1).length + (strsM (e.Posts.getD i default).Path).length := fun Y => by omega
       have hE := And.intro hE (And.intro hsx hsy)
       refine WQ [3, 10, 11, 104, 105, 106] [10, 40, 96, 102, 115, 120, 21] ?_
       apply z5
       have hc := gvF hP hG (zcm G 1 (by unfold I64; omega))
       refine WSc [3, 10, 104, 105, 106] [10, 40, 96, 102, 115, 120, 21] ?_
       have hc := gvF hP hG (z3o G (e.Posts.getD i default).Path (fun s hs => by have := hpp.2.2 s hs; omega) (by omega))
       refine WQc [3, 104, 105, 106] [40, 96, 102, 115, 120, 21] ?_
       apply ze
       apply z5
       refine WQ [3, 104, 105, 106] [40, 96, 102, 115, 120, 21] ?_
       refine WN (⟨i + 1, by omega⟩)
      ·have hpb : vi (e.Posts.getD i default) = yq 0 ++ strsM (e.Posts.getD i default).Path := by unfold vi; rw [if_neg (by rw [hb]; exact Bool.false_ne_true)]
       have him : (yq 0).length ≤ 9 := yl (by unfold I64; omega)
       have hsx : ∀ X : List Int, X ++ wr vi e.Posts (i + 1) = X ++ wr vi e.Posts i ++ yq 0 ++ strsM (e.Posts.getD i default).Path := fun X => by rw [hsc, hpb]; simp only [List.append_assoc]
       rw [hpb, List.length_append, ← Nat.add_assoc] at hsl
       have hsy : ∀ Y : Nat, Y + (wr vi e.Posts (i + 1)).length = Y + (wr vi e.Posts i).length + (yq 0).length + (strsM (e.Posts.getD i default).Path).length := fun Y => by omega
       have hE := And.intro hE (And.intro hsx hsy)
       apply z6
       apply z5
       have hc := gvF hP hG (zcm G 0 (by unfold I64; omega))
       refine WSc [3, 10, 104, 105, 106] [10, 40, 96, 102, 115, 120, 21] ?_
       have hc := gvF hP hG (z3o G (e.Posts.getD i default).Path (fun s hs => by have := hpp.2.2 s hs; omega) (by omega))
       refine WQc [3, 104, 105, 106] [40, 96, 102, 115, 120, 21] ?_
       apply ze
       apply z5
       refine WQ [3, 104, 105, 106] [40, 96, 102, 115, 120, 21] ?_
       refine WN (⟨i + 1, by omega⟩)
     ·apply zj
      apply zd
      have hend : i = e.Posts.length := by omega
      subst hend
      have hf2 := vy vi e.Posts
      have hE := And.intro hE hf2
      apply zb
      apply zn
      apply ze
      apply z5
      refine WS [2] [40, 61, 74, 89, 96, 102, 115, 120, 132, 21] ?_
      apply z9
      refine EN ?_
      all_goals try trivial
      all_goals (simp only [← List.map_append, datE_map] <;> rfl)
    ·refine WS [1, 3, 7, 122] [1, 40, 50, 102, 120, 21] ?_
     refine WI ?_ ?_ <;> intro hb
     ·have hk : e.Kind = 5 ∨ e.Kind = 6 := by grind
      have hk0 : e.Kind ≠ 0 := by omega
      have hk2 : e.Kind ≠ 2 := by omega
      have hk3 : ¬ (e.Kind = 3 ∨ e.Kind = 4) := by omega
      have hv : evB e = intsM [e.By, e.Seq, e.Tick, e.Kind] ++ intsM (e.Refs.flatMap nameI) ++ intsM (idI e.ID ++ [e.N]) := by
       unfold evB z6r z5g
       rw [if_neg hk0, if_neg hk2, if_neg hk3, if_pos hk]
      have hE := And.intro hE hv
      have hin : ∀ x ∈ idI e.ID ++ [e.N], I64 x := by
       simp only [idI, List.cons_append, List.nil_append, List.forall_mem_cons]
       exact ⟨h.id.1, h.id.2.1, h.id.2.2, h.n, by simp⟩
      have hb3 : (intsM (idI e.ID ++ [e.N])).length ≤ 45 := ve hin (by simp [idI])
      have hc := gvF hP hG (Qt G (idI e.ID ++ [e.N]) hin (by simp [idI]))
      refine WQc [3] [40, 102, 120, 132, 21] ?_
      apply ze
      apply z5
      refine WS [2] [40, 61, 74, 89, 96, 102, 115, 120, 132, 21] ?_
      apply z9
      refine EN ?_
      all_goals try trivial
      all_goals (simp only [← List.map_append, datE_map] <;> rfl)
     ·have hv : evB e = intsM [e.By, e.Seq, e.Tick, e.Kind] ++ intsM (e.Refs.flatMap nameI) := by
       unfold evB z6r z5g
       rw [if_neg (by grind), if_neg (by grind), if_neg (by grind), if_neg (by grind)]
       simp only [List.append_nil]
      have hE := And.intro hE hv
      apply z6
      apply ze
      apply z5
      refine WS [2] [40, 61, 74, 89, 96, 102, 115, 120, 132, 21] ?_
      apply z9
      refine EN ?_
      all_goals try trivial
      all_goals (simp only [← List.map_append, datE_map] <;> rfl)
end Go.Proofs.YtkeopokhnfpgpaaGreatDoor

namespace Go.Proofs.YtkeopokhnfpgpaaGreatDoor
open Go.Av
theorem zs9 : mkAgg (List.replicate 16 (AV.dat (.int .u8 0))) = .dat (bsD (List.replicate 16 0)) := by rfl
set_option maxRecDepth 100000 in
theorem zkj (G) (hgk : G.lookup 1 = some (wsD kH)) (e : EventM) (h : OkEv e) (hs : (evB e).length ≤ 1000000) : zl Tryz.prog G 95 [zc e] [bsD (dgM 7 [vv (evB e)])] := by
 skip
 refine GI [] [] [] Tryz.func95 Tryz.ntmps95 fun F hP hG hN hR hA => ?_
 have hE := @Tryz.results95
 refine WS [1, 2] [1, 2] ?_
 apply zm [2] [2]
 ·refine RN ?_
  refine CU (zxj G e h) ?_
  refine CU (zot G 7 (by decide) (by decide) hgk [vv (evB e)] (by simp) (by intro s hs'; rw [List.mem_singleton] at hs'; rw [hs', z2m]; exact hs)) ?_
  exact SC
 apply z9
 exact E0
def qb (L : List EventM) (n : NameM) : Option EventM := L.find? (jk n)
def xh (L : List EventM) (b : Int) : Nat := L.countP fun e => e.By == b
def qw (p : Nat) (L : List EventM) : List Int := (List.range p).map fun i : Nat => (xh L (i : Int) : Int)
abbrev X8 (L : List EventM) : List Dat := L.map fun e => zx (evName e)
abbrev arO (p : Nat) (L : List EventM) : List (Nat × AObj) := [(1000, ⟨2, [.agg [.osl 1001 1 0 p, .mp 1002]]⟩), (1001, ⟨1, ((qw p L).map iD).map .dat⟩), (1002, ⟨0, [.tup [], .dat (.sl (X8 L)), .dat (.sl (L.map zc))]⟩)]
theorem qz (p : Nat) (L : List EventM) : (qw p L).length = p := by simp [qw]
theorem y8 {p : Nat} {L : List EventM} {i : Nat} (h : i < p) : (qw p L).getD i default = (xh L i : Int) := by
 simp [qw, List.getD_eq_getElem?_getD, h]
theorem z2z (n : NameM) : ∀ L : List EventM, lkp (X8 L) (L.map zc) (zx n) = (qb L n).map zc
 | [] => rfl
 | e :: L => by
  have ih := z2z n L
  simp only [List.map_cons, lkp, zl1, qb, List.find?_cons, jk] at ih ⊢
  by_cases h : qa n (evName e) = true
  ·have h' : qa (evName e) n = true := by rw [Z7 h]; exact ki _
   simp [h, h']
  ·have h' : qa (evName e) n = false := by
    cases hq : qa (evName e) n
    ·rfl
    ·rw [Z7 hq] at h; exact absurd (ki _) h
   simp only [h, h', if_false]
   exact ih
theorem zcv {F : FC} {o : Oper} {st : ASt} {d : Nat} {t kt et : TypeId} {m k : Operand} {id : Nat} {L : List EventM} {n : NameM} (ho : o.op = .lookup t m k true) (hdst : o.dst = some d) (hd : d < F.N) (ht : ∃ i, ti F.P t = some i ∧ i.tk = .map kt et) (hr : z5j F.P kt)
  (hm : evA st.env m = .mp id) (hob : st.objs id = some ⟨0, [.tup [], .dat (.sl (X8 L)), .dat (.sl (L.map zc))]⟩) (hk : evA st.env k = .dat (zx n)) (hz : zic F.P et (zc default)) :
  StepOK F o st (st.put (some d) (.tup [.dat (zc ((qb L n).getD default)), .dat (.bool (qb L n).isSome)])) := by
 have := z73 (isK := ztl) ho hdst hd ⟨ht, z28 .i64 .i64 hr, hm, hob, by intro q hq; obtain ⟨e, _, rfl⟩ := List.mem_map.1 hq; exact ⟨_, _, rfl⟩⟩ hk ⟨_, _, rfl⟩ hz
 rw [z2z, zpk] at this
 cases hf : qb L n with
 | none => rw [hf] at this; exact this
 | some e => rw [hf] at this; exact this
theorem z63 {F : FC} {o : Oper} {st : ASt} {d : Nat} {t kt et : TypeId} {m k : Operand} {id : Nat} {L : List EventM} {n : NameM} (ho : o.op = .lookup t m k false) (hdst : o.dst = some d) (hd : d < F.N) (ht : ∃ i, ti F.P t = some i ∧ i.tk = .map kt et) (hr : z5j F.P kt)
  (hm : evA st.env m = .mp id) (hob : st.objs id = some ⟨0, [.tup [], .dat (.sl (X8 L)), .dat (.sl (L.map zc))]⟩) (hk : evA st.env k = .dat (zx n)) (hz : zic F.P et (zc default)) :
  StepOK F o st (st.put (some d) (.dat (zc ((qb L n).getD default)))) := by
 have := z73 (isK := ztl) ho hdst hd ⟨ht, z28 .i64 .i64 hr, hm, hob, by intro q hq; obtain ⟨e, _, rfl⟩ := List.mem_map.1 hq; exact ⟨_, _, rfl⟩⟩ hk ⟨_, _, rfl⟩ hz
 rw [z2z, zl5] at this
 cases hf : qb L n with
 | none => rw [hf] at this; exact this
 | some e => rw [hf] at this; exact this
theorem zxp {L : List EventM} {e : EventM} (h : qb L (evName e) = none) : z5m (X8 L) (zx (evName e)) = X8 (L ++ [e]) ∧ z5n (X8 L) (L.map zc) (zx (evName e)) (zc e) = (L ++ [e]).map zc := by
 have hl := z2z (evName e) L
 rw [h] at hl
 obtain ⟨h1, h2⟩ := zpl (by simp) hl
 rw [h1, h2]
 simp
theorem zxq {F : FC} {o : Oper} {st : ASt} {t kt et : TypeId} {m k y : Operand} {id : Nat} {L : List EventM} {e : EventM} (ho : o.op = .mapUpdate t m k y) (hdst : o.dst = none) (ht : ∃ i, ti F.P t = some i ∧ i.tk = .map kt et) (hr : z5j F.P kt)
  (hm : evA st.env m = .mp id) (hob : st.objs id = some ⟨0, [.tup [], .dat (.sl (X8 L)), .dat (.sl (L.map zc))]⟩) (hk : evA st.env k = .dat (zx (evName e))) (hy : evA st.env y = .dat (zc e)) (hno : qb L (evName e) = none) :
  StepOK F o st (st.obj id ⟨0, [.tup [], .dat (.sl (X8 (L ++ [e]))), .dat (.sl ((L ++ [e]).map zc))]⟩) := by
 have := zbv (isK := ztl) ho hdst ⟨ht, z28 .i64 .i64 hr, hm, hob, by intro q hq; obtain ⟨e, _, rfl⟩ := List.mem_map.1 hq; exact ⟨_, _, rfl⟩⟩ hk ⟨_, _, rfl⟩ hy
 obtain ⟨h1, h2⟩ := zxp hno
 rw [h1, h2] at this
 exact this
def ws (L : List EventM) (c : EventM) (n : NameM) : Bool := decide (c.Tick ≤ ((qb L n).getD default).Tick)
def ko (L : List EventM) (c : EventM) : Bool := c.Seq != (xh L c.By : Int) || c.Refs.any fun n => !(qb L n).isSome
def wu (L : List EventM) (c : EventM) : Bool := c.Refs.any (ws L c) || (decide (0 < c.Seq) && ws L c ⟨c.By, c.Seq - 1⟩)
def zr (p : Nat) (L : List EventM) (c : EventM) : List EventM × Bool × Int :=
 if qn c ≠ 0 then (L, false, qn c)
 else if (p : Int) ≤ c.By then (L, false, 1)
 else if (qb L (evName c)).isSome = true then (L, false, if x7 ((qb L (evName c)).getD default) c = true then 0 else 7)
 else if ko L c = true then (L, false, 10)
 else if wu L c = true then (L, false, 5)
 else (L ++ [c], true, 0)
theorem zst (L : List EventM) (c : EventM) (b : Int) : (xh (L ++ [c]) b : Int) = if c.By = b then (xh L b : Int) + 1 else xh L b := by
 unfold xh
 rw [List.countP_append]
 by_cases h : c.By = b <;> simp [h]
theorem zgh {p : Nat} {L : List EventM} {c : EventM} (h0 : 0 ≤ c.By) (hp : c.By < p) : (qw p L).set c.By.toNat ((xh L c.By : Int) + 1) = qw p (L ++ [c]) := by
 apply List.ext_getElem (by simp [qw])
 intro i h1 h2
 simp only [qw, List.length_map, List.length_range] at h2
 simp only [List.getElem_set, qw, List.getElem_map, List.getElem_range]
 rw [zst]
 by_cases hi : c.By = (i : Int)
 ·rw [if_pos (by omega), if_pos hi, hi]
 ·rw [if_neg (by omega), if_neg hi]
theorem z7l : Xd Tryz.prog 47 := by unfold Xd; kernel_rfl
theorem za1 : z5j Tryz.prog 81 := by unfold z5j; kernel_rfl
theorem z8k : zic Tryz.prog 42 (zc default) := by
 refine ⟨.agg #[.int .i64 0, .int .i64 0, .int .i64 0, .int .i64 0, .slice none 0 0, .int .i64 0, .int .i64 0, .int .i64 0, .int .i64 0, .int .i64 0, .int .i64 0, .int .i64 0, .int .i64 0, .int .i64 0, .int .i64 0, .int .i64 0, .int .i64 0, .int .i64 0, .string ⟨#[]⟩, .slice none 0 0, .slice none 0 0, .slice none 0 0, .string ⟨#[]⟩, .int .i64 0, .int .i64 0, .string ⟨#[]⟩, .slice none 0 0, .int .i64 0, .int .i64 0, .int .i64 0, .slice none 0 0, .int .i64 0], by kernel_rfl, fun S w => ?_⟩
 have h0 : ∀ es, RepS S w es [] none := fun es => by simp [RepS]
 simp only [RepX]
 refine ⟨_, rfl, ?_⟩
 simp only [RepL, Rep1]
 repeat' first | exact rfl | exact h0 _ | exact Nat.le_refl _ | refine ⟨_, _, rfl, ?_, ?_⟩ | refine ⟨1, none, 0, rfl, ?_, ?_⟩
theorem zan {x : AV} : ∀ {l L : List AV} {k : Nat} {y : AV}, jo l = some L → z1s x = some y → L[k]? = some y → jo (l.set k x) = some L
 | [], L, k, y, h, _, _ => by simpa using h
 | z :: l, L, k, y, h, hx, hk => by
  rw [jo] at h
  split at h
  ·rename_i z' m hz hm
   simp only [Option.some.injEq] at h
   subst h
   cases k with
   | zero =>
    simp only [List.getElem?_cons_zero, Option.some.injEq] at hk
    subst hk
    simp only [List.set_cons_zero, jo, hx, hm]
   | succ k =>
    have := zan hm hx (by simpa using hk)
    simp only [List.set_cons_succ, jo, hz, this]
  ·cases h
theorem z7v : ∀ l : List Dat, jo (l.map .dat) = some (l.map .dat)
 | [] => rfl
 | d :: l => by simp only [List.map_cons, jo, z1s, z7v l]
theorem zg8 (G) (l : List NameM) (hn : l.length ≤ 100000) : GivesX Tryz.prog G 101 [.dat (qc l)] [] [.osl 7 2 0 l.length] [(7, ⟨2, (l.map zx).map .dat⟩)] := by
 skip
 refine GX [] [] [] Tryz.func101 Tryz.ntmps101 fun F hP hG hN hR hA => ?_
 have hE := @Tryz.results101
 refine WS [0] [] ?_
 apply z3
 refine wp ?_
 apply wz
 ·(iterate 1 apply Seg.cons); exact Seg.nil _
 ·refine RK ?_
  exact SC
 refine Zg rfl rfl rfl (by rw [hN]; omega) (by rw [hP]; exact ti28) rfl rfl fun b hb0 => ?_
 rw [yr]
 apply wg [0, 4] []
 ·refine RN ?_
  exact SC
 refine WI ?_ ?_ <;> intro hb
 ·have hl0 : l = [] := by
   cases l with
   | nil => rfl
   | cons x l =>
    rw [hb0 (by simp)] at hb
    cases hb
  subst hl0
  refine WS [2] [7] ?_
  refine xd 7 2 (by omega) ?_
  refine xy 2 7 2 rfl rfl ?_
  apply z9
  apply za
  exact E0
 ·apply z6
  apply z5
  refine WS [2] [5, 7] ?_
  apply z9
  exact E0
theorem zka (G) (l : List NameM) (hn : l.length ≤ 100000) : zl Tryz.prog G 101 [qc l] [qc l] := (zg8 G l hn).row (by simp)
theorem zgb (G) (l : List ByteArray) (hn : l.length ≤ 100000) : GivesX Tryz.prog G 102 [.dat (ssD l)] [] [.osl 7 1 0 l.length] [(7, ⟨1, (l.map sD).map .dat⟩)] := by
 skip
 refine GX [] [] [] Tryz.func102 Tryz.ntmps102 fun F hP hG hN hR hA => ?_
 have hE := @Tryz.results102
 refine WS [0] [] ?_
 apply z3
 refine wp ?_
 apply wz
 ·(iterate 1 apply Seg.cons); exact Seg.nil _
 ·refine RK ?_
  exact SC
 refine Zg rfl rfl rfl (by rw [hN]; omega) (by rw [hP]; exact ti33) rfl rfl fun b hb0 => ?_
 rw [yr]
 apply wg [0, 4] []
 ·refine RN ?_
  exact SC
 refine WI ?_ ?_ <;> intro hb
 ·have hl0 : l = [] := by
   cases l with
   | nil => rfl
   | cons x l =>
    rw [hb0 (by simp)] at hb
    cases hb
  subst hl0
  refine WS [2] [7] ?_
  refine xd 7 1 (by omega) ?_
  refine xy 2 7 1 rfl rfl ?_
  apply z9
  apply za
  exact E0
 ·apply z6
  apply z5
  refine WS [2] [5, 7] ?_
  apply z9
  exact E0
theorem z3w (G) (l : List ByteArray) (hn : l.length ≤ 100000) : zl Tryz.prog G 102 [ssD l] [ssD l] := (zgb G l hn).row (by simp)
theorem zg9 (G) (l : List (Int × Int)) (hn : l.length ≤ 100000) : GivesX Tryz.prog G 103 [.dat (z4k l)] [] [.osl 7 2 0 l.length] [(7, ⟨2, (l.map zaa).map .dat⟩)] := by
 skip
 refine GX [] [] [] Tryz.func103 Tryz.ntmps103 fun F hP hG hN hR hA => ?_
 have hE := @Tryz.results103
 refine WS [0] [] ?_
 apply z3
 refine wp ?_
 apply wz
 ·(iterate 1 apply Seg.cons); exact Seg.nil _
 ·refine RK ?_
  exact SC
 refine Zg rfl rfl rfl (by rw [hN]; omega) (by rw [hP]; exact ti34) rfl rfl fun b hb0 => ?_
 rw [yr]
 apply wg [0, 4] []
 ·refine RN ?_
  exact SC
 refine WI ?_ ?_ <;> intro hb
 ·have hl0 : l = [] := by
   cases l with
   | nil => rfl
   | cons x l =>
    rw [hb0 (by simp)] at hb
    cases hb
  subst hl0
  refine WS [2] [7] ?_
  refine xd 7 2 (by omega) ?_
  refine xy 2 7 2 rfl rfl ?_
  apply z9
  apply za
  exact E0
 ·apply z6
  apply z5
  refine WS [2] [5, 7] ?_
  apply z9
  exact E0
theorem zkb (G) (l : List (Int × Int)) (hn : l.length ≤ 100000) : zl Tryz.prog G 103 [z4k l] [z4k l] := (zg9 G l hn).row (by simp)
theorem zg7 (G) (l : List IdM) (hn : l.length ≤ 100000) : GivesX Tryz.prog G 104 [.dat (zdy l)] [] [.osl 7 3 0 l.length] [(7, ⟨3, (l.map idD).map .dat⟩)] := by
 skip
 refine GX [] [] [] Tryz.func104 Tryz.ntmps104 fun F hP hG hN hR hA => ?_
 have hE := @Tryz.results104
 refine WS [0] [] ?_
 apply z3
 refine wp ?_
 apply wz
 ·(iterate 1 apply Seg.cons); exact Seg.nil _
 ·refine RK ?_
  exact SC
 refine Zg rfl rfl rfl (by rw [hN]; omega) (by rw [hP]; exact ti35) rfl rfl fun b hb0 => ?_
 rw [yr]
 apply wg [0, 4] []
 ·refine RN ?_
  exact SC
 refine WI ?_ ?_ <;> intro hb
 ·have hl0 : l = [] := by
   cases l with
   | nil => rfl
   | cons x l =>
    rw [hb0 (by simp)] at hb
    cases hb
  subst hl0
  refine WS [2] [7] ?_
  refine xd 7 3 (by omega) ?_
  refine xy 2 7 3 rfl rfl ?_
  apply z9
  apply za
  exact E0
 ·apply z6
  apply z5
  refine WS [2] [5, 7] ?_
  apply z9
  exact E0
theorem zk9 (G) (l : List IdM) (hn : l.length ≤ 100000) : zl Tryz.prog G 104 [zdy l] [zdy l] := (zg7 G l hn).row (by simp)
theorem zga (G) (l : List PostM) (hn : l.length ≤ 100000) : GivesX Tryz.prog G 105 [.dat (qs l)] [] [.osl 7 5 0 l.length] [(7, ⟨5, (l.map z39).map .dat⟩)] := by
 skip
 refine GX [] [] [] Tryz.func105 Tryz.ntmps105 fun F hP hG hN hR hA => ?_
 have hE := @Tryz.results105
 refine WS [0] [] ?_
 apply z3
 refine wp ?_
 apply wz
 ·(iterate 1 apply Seg.cons); exact Seg.nil _
 ·refine RK ?_
  exact SC
 refine Zg rfl rfl rfl (by rw [hN]; omega) (by rw [hP]; exact ti40) rfl rfl fun b hb0 => ?_
 rw [yr]
 apply wg [0, 4] []
 ·refine RN ?_
  exact SC
 refine WI ?_ ?_ <;> intro hb
 ·have hl0 : l = [] := by
   cases l with
   | nil => rfl
   | cons x l =>
    rw [hb0 (by simp)] at hb
    cases hb
  subst hl0
  refine WS [2] [5, 7] ?_
  refine xd 7 5 (by omega) ?_
  refine xy 2 7 5 rfl rfl ?_
  apply z9
  apply za
  exact E0
 ·apply z6
  apply z5
  refine WS [2] [5, 7] ?_
  apply z9
  exact E0
theorem z2j (G) (e : EventM) : zl Tryz.prog G 58 [zc e] [zx (evName e)] := by
 skip
 refine GI [] [] [] Tryz.func58 Tryz.ntmps58 fun F hP hG hN hR hA => ?_
 have hE := @Tryz.results58
 refine WS [1, 2] [1, 2] ?_
 refine WS [2] [2] ?_
 apply z9
 simp only [kj, y6, vk, qq, qi, x5, vb, qh, q9, xn, qy, wy, xk, xq, xm, wx, xp, xr, w3, xx, avA, zk, zo, seval, ↓List.forall_mem_cons, Op.operands, hP, hG, tiA, hE, evName]
 all_goals try trivial
set_option maxRecDepth 100000 in
set_option maxHeartbeats 4000000 in
theorem zc0 (G) (e : EventM) (h : OkEv e) : zl Tryz.prog G 56 [zc e] [zc e] := by
 have hnr := h.nrefs
 have hnp := h.nposts
 have hnb := h.nbroader
 have hnt := h.op.ntexts
 have hnq := h.op.npairs
 have hni := h.op.nrefs
 skip
 skip
 refine GI [] [35] [] Tryz.func56 Tryz.ntmps56 fun F hP hG hN hR hA => ?_
 have hE := @Tryz.results56
 refine WS [1, 2] [1, 2, 35] ?_
 have hc := gvF hP hG (zka G e.Refs (by omega))
 refine WSc [1, 2] [1, 2, 35] ?_
 apply w6 [1, 2] [1, 2, 35] [0, 1, 2, 3, 4, 5, 6, 7, 8, 9, 10, 11, 12, 13, 14, 15, 16, 17, 18, 19, 20] []
 ·rw [hP]; kernel_rfl
 ·exact hR
 ·kernel_rfl
 ·(repeat (apply PickL.cons; exact rfl)); exact PickL.nil _
 ·refine RN ?_
  refine CU (z3w G e.Op.Texts (by omega)) ?_
  refine CU (zkb G e.Op.Pairs (by omega)) ?_
  refine CU (zk9 G e.Op.Refs (by omega)) ?_
  exact SC
 have hc := gvF hP hG (z3w G e.Term.Broader (by omega))
 refine WSc [1, 2] [1, 2, 35] ?_
 apply zm [1, 2] [1, 2, 35]
 ·refine RN ?_
  refine CX (fun _ => 35) [7] (zga G e.Posts (by omega)) ?_
  exact SC
 apply z3
 refine WS [1, 2, 38, 39, 40] [1, 2, 35] ?_
 apply z7
 refine WL (ι := {i : Nat // i ≤ e.Posts.length}) [1, 2, 38, 39] [1, 2, 35] (fun ⟨i, hi⟩ => [(40, .dat (iD i))]) (fun ⟨i, hi⟩ => []) (fun ⟨i, hi⟩ => e.Posts.length - i) (⟨0, by omega⟩) ?_
 rintro ⟨i, hi⟩
 refine LA ?_
 refine WS [1, 2, 38, 39, 40, 41] [1, 2, 35] ?_
 apply z3
 refine WI ?_ ?_ <;> intro hb
 ·apply z6
  apply z5
  apply z3
  apply z7
  refine WS [1, 2, 3, 4, 38, 39, 40] [1, 2, 4, 35] ?_
  apply z05 [1, 2, 38, 39, 40] [1, 2, 35] [0, 1, 2, 3, 4, 5, 6, 7, 8] []
  ·rw [hP]; kernel_rfl
  ·exact hR
  ·kernel_rfl
  ·(repeat (apply PickL.cons; exact rfl)); exact PickL.nil _
  ·refine RN ?_
   refine CU (z3w G (e.Posts.getD i default).Path (by have := zt h.posts (i := i) (by omega); have := this.2.1; omega)) ?_
   exact SC
  apply ze
  apply z5
  refine zii 35 (l' := (e.Posts.map z39).map .dat) rfl (zan (z7v _) rfl (by simp [List.getD_eq_getElem?_getD, show i < e.Posts.length by omega])) ?_
  refine WQ [1, 2, 38, 39, 40] [1, 2, 35] ?_
  refine WN (⟨i + 1, by omega⟩)
 ·apply zj
  apply zd
  have hend : i = e.Posts.length := by omega
  subst hend
  apply zb
  apply zn
  apply z5
  refine WS [2] [2, 35] ?_
  apply z9
  exact E0
abbrev zn1 : AV := .agg [.dat (iD 0), .dat (iD 0), .dat (iD 0), .dat (iD 0), .nils, .dat (iD 0), .dat (iD 0), .dat (iD 0), .dat (iD 0), .dat (iD 0), .dat (iD 0), .dat (iD 0), .dat (iD 0), .dat (iD 0), .dat (iD 0), .dat (iD 0), .dat (iD 0), .dat (iD 0), .dat (sD ⟨#[]⟩), .nils, .nils, .nils, .dat (sD ⟨#[]⟩), .dat (iD 0), .dat (iD 0), .dat (sD ⟨#[]⟩), .nils, .dat (iD 0), .dat (iD 0), .dat (iD 0), .nils, .dat (iD 0)]
abbrev bxA : Nat × AObj := (999, ⟨1, [.ptr 1000 2 0 0]⟩)
set_option maxRecDepth 100000 in
set_option maxHeartbeats 4000000 in
theorem zv7 (G) (p : Nat) (L : List EventM) (n : NameM) : GivesX Tryz.prog G 98 [.dat (zx n), .ptr 999 1 0 0] (bxA :: arO p L) [.dat (bD (!(qb L n).isSome))] (bxA :: arO p L) := by
 skip
 skip
 refine GX [] [] [] Tryz.func98 Tryz.ntmps98 fun F hP hG hN hR hA => ?_
 have hE := @Tryz.results98
 refine WS [1, 2] [2, 999, 1000, 1001, 1002] ?_
 refine WDF [5] [999, 1000, 1001, 1002] [(0, 7, _), (1, 8, _), (2, 9, _), (3, 10, _), (4, 11, _), (5, 12, .tup [.dat (zc ((qb L n).getD default)), .dat (bD (qb L n).isSome)]), (6, 6, .tup [.dat (zc ((qb L n).getD default)), .dat (bD (qb L n).isSome)]), (7, 13, .dat (zc ((qb L n).getD default))), (8, 14, .dat (bD (qb L n).isSome)), (9, 4, .ptr 4 32 0 0), (11, 5, .dat (bD (qb L n).isSome))] [(10, 4, some ⟨32, [.dat (zc ((qb L n).getD default))]⟩), (9, 4, some ⟨32, [zn1]⟩)] ⟨FV 0 [] [1, 2, 3, 5, 6, 7, 8, 10, 11], FV 1 [0] [2, 3, 5, 6, 7, 8, 10, 11], FV 2 [0, 1] [3, 5, 6, 7, 8, 10, 11], FV 3 [0, 1, 2] [5, 6, 7, 8, 10, 11], FV 4 [] [5, 6, 7, 8, 10, 11], (FVs 5 [0, 1, 2, 3, 4] [6, 7, 8, 10, 11] (fun D hA1 hA2 => by simp only [x8, NoD] at hA1 hA2; exact zcv (kt := 81) (et := 42) (id := 1002) (L := L) (n := n) rfl rfl (by rw [hN]; omega) ⟨_, by rw [hP]; exact ti101, rfl⟩ (by rw [hP]; exact za1) EV' EV' EV' (by rw [hP]; exact z8k))), FV 6 [0, 1, 2, 3, 4, 5] [7, 8, 10, 11], FV 7 [0, 1, 2, 3, 4, 5, 6] [10, 11], FV 8 [0, 1, 2, 3, 4, 5, 6] [11], FNd 9 1 [] [10, 11], FS 0 [0, 1, 2, 3, 4, 5, 6, 7, 9] [11], FV 10 [0, 1, 2, 3, 4, 5, 6, 7, 8, 9, 10] [], trivial⟩ ?_
 refine WS [3] [999, 1000, 1001, 1002] ?_
 apply z9
 exact E0
abbrev bxC (c : EventM) : Nat × AObj := (998, ⟨32, [.dat (zc c)]⟩)
set_option maxRecDepth 100000 in
set_option maxHeartbeats 4000000 in
theorem ze4 (G) (p : Nat) (L : List EventM) (c : EventM) (n : NameM) : GivesX Tryz.prog G 100 [.dat (zx n), .ptr 999 1 0 0, .ptr 998 32 0 0] (bxA :: bxC c :: arO p L) [.dat (bD (ws L c n))] (bxA :: bxC c :: arO p L) := by
 skip
 skip
 refine GX [] [] [] Tryz.func100 Tryz.ntmps100 fun F hP hG hN hR hA => ?_
 have hE := @Tryz.results100
 refine WS [1, 2, 3] [3, 998, 999, 1000, 1001, 1002] ?_
 refine WDF [4] [998, 999, 1000, 1001, 1002] [(0, 5, _), (1, 6, _), (2, 7, _), (3, 8, _), (4, 9, _), (5, 10, .dat (zc ((qb L n).getD default))), (6, 11, _), (7, 12, _), (8, 13, _), (9, 14, _), (10, 4, _)] [] ⟨FV 0 [] [1, 2, 3, 5, 6, 9, 10], FV 1 [0] [2, 3, 5, 6, 9, 10], FV 2 [0, 1] [3, 5, 6, 9, 10], FV 3 [0, 1, 2] [5, 6, 9, 10], FV 4 [] [5, 6, 9, 10], (FVs 5 [0, 1, 2, 3, 4] [6, 9, 10] (fun D hA1 hA2 => by simp only [x8, NoD] at hA1 hA2; exact z63 (kt := 81) (et := 42) (id := 1002) (L := L) (n := n) rfl rfl (by rw [hN]; omega) ⟨_, by rw [hP]; exact ti101, rfl⟩ (by rw [hP]; exact za1) EV' EV' EV' (by rw [hP]; exact z8k))), FV 6 [0, 1, 2, 3, 4, 5] [9, 10], FV 7 [] [8, 9, 10], FV 8 [7] [9, 10], FV 9 [0, 1, 2, 3, 4, 5, 6, 7, 8] [10], FV 10 [0, 1, 2, 3, 4, 5, 6, 7, 8, 9] [], trivial⟩ ?_
 apply z9
 simp only [kj, y6, vk, qq, qi, x5, vb, qh, q9, xn, qy, wy, xk, xq, xm, wx, xp, xr, w3, xx, avA, zk, zo, seval, ↓List.forall_mem_cons, Op.operands, hP, hG, tiA, hE, ws]
 all_goals try trivial
theorem zoy (G) (p : Nat) (L : List EventM) (l : List NameM) (hl : l.length ≤ 281474976710656) : GivesX Tryz.prog G 138 [.dat (qc l), .fn 98 [.ptr 999 1 0 0]] (bxA :: arO p L) [.dat (iD (jy (fun n => !(qb L n).isSome) l))] (bxA :: arO p L) := by
 skip
 skip
 refine GX [] [16] [] Tryz.func138 Tryz.ntmps138 fun F hP hG hN hR hA => ?_
 have hE := @Tryz.results138
 refine WS [0, 1] [999, 1000, 1001, 1002] ?_
 apply z3
 refine WS [0, 1, 7, 8] [999, 1000, 1001, 1002] ?_
 apply z7
 refine WL (ι := {i : Nat // i ≤ l.length ∧ ∀ j, j < i → (fun n => !(qb L n).isSome) (l.getD j default) = false}) [0, 1, 7] [999, 1000, 1001, 1002] (fun ⟨i, hif⟩ => [(8, .dat (iD i))]) (fun ⟨i, hif⟩ => []) (fun ⟨i, hif⟩ => l.length - i) (⟨0, by omega, Qk⟩) ?_
 rintro ⟨i, hif⟩
 refine LA ?_
 obtain ⟨hi, hf⟩ := id hif
 refine WS [0, 1, 7, 8, 9] [999, 1000, 1001, 1002] ?_
 apply z3
 refine WI ?_ ?_ <;> intro hb
 ·apply z6
  apply z5
  apply z3
  apply z7
  refine WS [0, 1, 5, 7, 8] [999, 1000, 1001, 1002] ?_
  apply zm [0, 1, 5, 7, 8, 16] [999, 1000, 1001, 1002]
  ·refine RN ?_
   refine CX (fun i => i) [] (zv7 G p L (l.getD i default)) ?_
   exact SC
  refine WI ?_ ?_ <;> intro hb
  ·have hv := k7 (p := (fun n => !(qb L n).isSome)) (show i < l.length by omega) (by simpa using hb) hf
   have hE := And.intro hE hv
   refine WS [4] [999, 1000, 1001, 1002] ?_
   apply z9
   apply zf
   apply za
   apply zw
   apply zf
   apply za
   exact E0
  ·apply z6
   apply ze
   apply z5
   refine WQ [0, 1, 7, 8] [999, 1000, 1001, 1002] ?_
   refine WN (⟨i + 1, by omega, xa hif.2 (by simpa using hb)⟩)
 ·apply zj
  apply zd
  obtain rfl : i = l.length := by omega
  have hv := jz (p := (fun n => !(qb L n).isSome)) hf
  have hE := And.intro hE hv
  apply zb
  apply zn
  apply z5
  refine WS [4] [999, 1000, 1001, 1002] ?_
  apply z9
  exact E0
theorem zkd (G) (p : Nat) (L : List EventM) (l : List NameM) (hl : l.length ≤ 281474976710656) : GivesX Tryz.prog G 99 [.dat (qc l), .fn 98 [.ptr 999 1 0 0]] (bxA :: arO p L) [.dat (bD (l.any (fun n => !(qb L n).isSome)))] (bxA :: arO p L) := by
 have hia : decide (0 ≤ jy (fun n => !(qb L n).isSome) l) = l.any (fun n => !(qb L n).isSome) := by rw [Bool.eq_iff_iff, decide_eq_true_eq]; exact jb
 skip
 skip
 skip
 refine GX [] [7] [] Tryz.func99 Tryz.ntmps99 fun F hP hG hN hR hA => ?_
 have hE := And.intro @Tryz.results99 (@hia)
 refine WS [0, 1] [999, 1000, 1001, 1002] ?_
 apply zm [4] [999, 1000, 1001, 1002]
 ·refine RN ?_
  refine CX (fun i => i) [] (zoy G p L l hl) ?_
  exact SC
 apply z9
 exact E0
theorem zox (G) (p : Nat) (L : List EventM) (c : EventM) (l : List NameM) (hl : l.length ≤ 281474976710656) : GivesX Tryz.prog G 138 [.dat (qc l), .fn 100 [.ptr 999 1 0 0, .ptr 998 32 0 0]] (bxA :: bxC c :: arO p L) [.dat (iD (jy (ws L c) l))] (bxA :: bxC c :: arO p L) := by
 skip
 skip
 refine GX [] [16] [] Tryz.func138 Tryz.ntmps138 fun F hP hG hN hR hA => ?_
 have hE := @Tryz.results138
 refine WS [0, 1] [998, 999, 1000, 1001, 1002] ?_
 apply z3
 refine WS [0, 1, 7, 8] [998, 999, 1000, 1001, 1002] ?_
 apply z7
 refine WL (ι := {i : Nat // i ≤ l.length ∧ ∀ j, j < i → (ws L c) (l.getD j default) = false}) [0, 1, 7] [998, 999, 1000, 1001, 1002] (fun ⟨i, hif⟩ => [(8, .dat (iD i))]) (fun ⟨i, hif⟩ => []) (fun ⟨i, hif⟩ => l.length - i) (⟨0, by omega, Qk⟩) ?_
 rintro ⟨i, hif⟩
 refine LA ?_
 obtain ⟨hi, hf⟩ := id hif
 refine WS [0, 1, 7, 8, 9] [998, 999, 1000, 1001, 1002] ?_
 apply z3
 refine WI ?_ ?_ <;> intro hb
 ·apply z6
  apply z5
  apply z3
  apply z7
  refine WS [0, 1, 5, 7, 8] [998, 999, 1000, 1001, 1002] ?_
  apply zm [0, 1, 5, 7, 8, 16] [998, 999, 1000, 1001, 1002]
  ·refine RN ?_
   refine CX (fun i => i) [] (ze4 G p L c (l.getD i default)) ?_
   exact SC
  refine WI ?_ ?_ <;> intro hb
  ·have hv := k7 (p := (ws L c)) (show i < l.length by omega) (by simpa using hb) hf
   have hE := And.intro hE hv
   refine WS [4] [998, 999, 1000, 1001, 1002] ?_
   apply z9
   apply zf
   apply za
   apply zw
   apply zf
   apply za
   exact E0
  ·apply z6
   apply ze
   apply z5
   refine WQ [0, 1, 7, 8] [998, 999, 1000, 1001, 1002] ?_
   refine WN (⟨i + 1, by omega, xa hif.2 (by simpa using hb)⟩)
 ·apply zj
  apply zd
  obtain rfl : i = l.length := by omega
  have hv := jz (p := ws L c) hf
  have hE := And.intro hE hv
  apply zb
  apply zn
  apply z5
  refine WS [4] [998, 999, 1000, 1001, 1002] ?_
  apply z9
  exact E0
theorem z3x (G) (p : Nat) (L : List EventM) (c : EventM) (l : List NameM) (hl : l.length ≤ 281474976710656) : GivesX Tryz.prog G 99 [.dat (qc l), .fn 100 [.ptr 999 1 0 0, .ptr 998 32 0 0]] (bxA :: bxC c :: arO p L) [.dat (bD (l.any (ws L c)))] (bxA :: bxC c :: arO p L) := by
 have hia : decide (0 ≤ jy (ws L c) l) = l.any (ws L c) := by rw [Bool.eq_iff_iff, decide_eq_true_eq]; exact jb
 skip
 skip
 skip
 refine GX [] [7] [] Tryz.func99 Tryz.ntmps99 fun F hP hG hN hR hA => ?_
 have hE := And.intro @Tryz.results99 (@hia)
 refine WS [0, 1] [998, 999, 1000, 1001, 1002] ?_
 apply zm [4] [998, 999, 1000, 1001, 1002]
 ·refine RN ?_
  refine CX (fun i => i) [] (zox G p L c l hl) ?_
  exact SC
 apply z9
 exact E0
set_option maxRecDepth 100000 in
set_option maxHeartbeats 2000000 in
theorem Zz (G) (e : EventM) (h : OkEv e) : zl Tryz.prog G 32 [zc e] [iD (qn e)] := by
 have hnr := h.nrefs
 have hnp := h.nposts
 have hnb := h.nbroader
 have hoz := z60 h.op
 have hol := h.op.all
 skip
 skip
 refine GI [] [] [] Tryz.func32 Tryz.ntmps32 fun F hP hG hN hR hA => ?_
 have hE := And.intro @Tryz.results32 (And.intro @X7 (And.intro @zbj (@Xt)))
 refine WS [1] [1] ?_
 have hc := gvF hP hG (zvm G e.Kind)
 refine WSc [1, 3] [1, 3] ?_
 apply z3
 apply zm [1, 3, 39] [1, 3]
 ·refine RN ?_
  refine CG (zs4 G e.Op h.op) ?_
  exact SC
 refine WI ?_ ?_ <;> intro hb
 ·have hv := zb3 (e := e) (by unfold z2x; grind)
  have hE := And.intro hE hv
  refine WS [2] [] ?_
  apply z9
  apply za
  exact E0
 ·have h0 : z2x e = false := by unfold z2x; grind
  apply z6
  apply z5
  apply z3
  apply z7
  apply zm [1, 3, 40] [1, 3]
  ·refine RN ?_
   refine CU (Xh G e) ?_
   refine CU (z5a G (evName e)) ?_
   refine CG (X0 G e.Tick 1048576) ?_
   refine CG (X0 G e.Kind 6) ?_
   exact SC
  refine WI ?_ ?_ <;> intro hb
  ·have hv := z1l h0 (.inl (by unfold z1z; grind))
   have hE := And.intro hE hv
   refine WS [2] [] ?_
   apply z9
   apply zf
   apply za
   exact E0
  ·have h1 : z1z e = false := by unfold z1z; grind
   apply zm [1, 3, 57] [1, 3]
   ·refine RN ?_
    refine CG (zrl G e.Op zOp hoz) ?_
    refine CG (zfg G e.Term zs8 (by omega)) ?_
    exact SC
   refine WI ?_ ?_ <;> intro hb
   ·have hv := z1l h0 (.inr (.inl (by unfold Xz; grind)))
    have hE := And.intro hE hv
    refine WS [2] [] ?_
    apply z9
    apply zf
    apply za
    exact E0
   ·have h2 : Xz e = false := by unfold Xz; grind
    apply zm [1, 3, 80] [1, 3]
    ·refine RN ?_
     refine CG (X0 G e.N 1048576) ?_
     exact SC
    refine WI ?_ ?_ <;> intro hb
    ·have hv := z1l h0 (.inr (.inr (by unfold z06 qp; grind)))
     have hE := And.intro hE hv
     refine WS [2] [] ?_
     apply z9
     apply zf
     apply za
     exact E0
    ·have h3 : z06 e = false ∧ wa e.N 1048576 = true := by unfold z06 qp; grind
     have h123 := And.intro h1 (And.intro h2 h3)
     apply z6
     apply ze
     apply z5
     apply z3
     refine WS [1, 3, 118, 119, 120] [1, 3] ?_
     apply z7
     refine WL (ι := {i : Nat // i ≤ e.Refs.length ∧ ∀ j, j < i → j4 e j = false}) [1, 3, 118, 119] [1, 3] (fun ⟨i, hic⟩ => [(120, .dat (iD i))]) (fun ⟨i, hic⟩ => []) (fun ⟨i, hic⟩ => e.Refs.length - i) (⟨0, by omega, Qk⟩) ?_
     rintro ⟨i, hic⟩
     refine LA ?_
     obtain ⟨hi, hall⟩ := id hic
     have hi1 : ((i : Int) - 1).toNat = i - 1 := by omega
     have hE := And.intro hE hi1
     refine WS [1, 3, 118, 119, 120, 121] [1, 3] ?_
     apply z3
     refine WI ?_ ?_ <;> intro hb
     ·apply z6
      apply z5
      apply z3
      apply z7
      refine WS [1, 3, 4, 5, 118, 119, 120] [1, 3, 5] ?_
      apply w6 [1, 3, 118, 119, 120, 148] [1, 3] [0, 1, 2, 3, 4, 5, 6, 7, 8, 9, 10, 11, 12, 13, 14, 15, 16, 17, 18, 19, 20, 21, 22, 23] []
      ·rw [hP]; kernel_rfl
      ·exact hR
      ·kernel_rfl
      ·(repeat (apply PickL.cons; exact rfl)); exact PickL.nil _
      ·refine RN ?_
       refine CU (z5a G (e.Refs.getD i default)) ?_
       refine CG (Xh G e) ?_
       refine CG (zj8 G (e.Refs.getD (i - 1) default) (e.Refs.getD i default)) ?_
       exact SC
      refine WI ?_ ?_ <;> intro hb
      ·have hv := zb4 h0 h123 (i := i) (by omega) (by unfold j4 qa; grind)
       have hE := And.intro hE hv
       refine WS [2] [] ?_
       apply z9
       apply zf
       apply za
       apply zw
       apply zf
       apply za
       exact E0
      ·have hnb1 : j4 e i = false := by unfold j4 qa; grind
       apply z6
       apply ze
       apply z5
       refine WQ [1, 3, 118, 119, 120] [1, 3] ?_
       refine WN (⟨i + 1, by omega, xa hic.2 hnb1⟩)
     ·apply zj
      apply zd
      obtain rfl : i = e.Refs.length := by omega
      apply zb
      apply zn
      apply z5
      apply z3
      refine WS [1, 3, 6] [1, 3, 6] ?_
      apply zm [1, 188] [1]
      ·refine RN ?_
       refine CG (z8j G e.Term.Name (by have := h.name; omega)) ?_
       refine CG (z8j G e.Term.See (by have := h.see; omega)) ?_
       refine CG (X0 G e.Term.Kind 2) ?_
       refine CG (X0 G e.Term.Lang 3) ?_
       refine CG (zfo G e.Term.Broader (by omega) (fun s hs => by have := h.broader s hs; omega)) ?_
       exact SC
      refine WI ?_ ?_ <;> intro hb
      ·have hv := zjy h0 h123 hall (by unfold z8o; grind)
       have hE := And.intro hE hv
       refine WS [2] [] ?_
       apply z9
       apply za
       exact E0
      ·have h5 : z8o e = false := by unfold z8o; grind
       apply z6
       apply z5
       apply z3
       refine WS [1, 190, 191, 192] [1] ?_
       apply z7
       refine WL (ι := {i : Nat // i ≤ e.Posts.length ∧ ∀ j, j < i → jg e j = false}) [1, 190, 191] [1] (fun ⟨i, hic⟩ => [(192, .dat (iD i))]) (fun ⟨i, hic⟩ => []) (fun ⟨i, hic⟩ => e.Posts.length - i) (⟨0, by omega, Qk⟩) ?_
       rintro ⟨i, hic⟩
       refine LA ?_
       obtain ⟨hi, hallp⟩ := id hic
       refine WS [1, 190, 191, 192, 193] [1] ?_
       apply z3
       refine WI ?_ ?_ <;> intro hb
       ·have hp := zt h.posts (i := i) (by omega)
        apply z6
        apply z5
        apply z3
        apply z7
        refine WS [1, 8, 190, 191, 192] [1, 8] ?_
        apply zm [1, 190, 191, 192, 218] [1]
        ·refine RN ?_
         refine CG (zfo G (e.Posts.getD i default).Path (by omega) (fun s hs => by have := hp.2.2 s hs; omega)) ?_
         exact SC
        refine WI ?_ ?_ <;> intro hb
        ·have hv := z8g h0 h123 hall h5 (i := i) (by omega) (by unfold jg qp; grind)
         have hE := And.intro hE hv
         refine WS [2] [] ?_
         apply z9
         apply zf
         apply za
         apply zw
         apply zf
         apply za
         exact E0
        ·have hnb1 : jg e i = false := by unfold jg qp; grind
         apply z6
         apply ze
         apply z5
         refine WQ [1, 190, 191, 192] [1] ?_
         refine WN (⟨i + 1, by omega, xa hic.2 hnb1⟩)
       ·apply zj
        apply zd
        obtain rfl : i = e.Posts.length := by omega
        have hv := zb2 h0 h123 hall h5 hallp
        have hE := And.intro hE hv
        apply zb
        apply zn
        apply z5
        refine WS [2] [] ?_
        apply z9
        exact E0
theorem X6 (L : List EventM) (b : Int) : xh L b ≤ L.length := List.countP_le_length
theorem zdq {L : List EventM} {n : NameM} {e : EventM} (h : qb L n = some e) : e ∈ L := List.mem_of_find?_eq_some h
theorem Qm {l : List Int} {i : Nat} (h : i < l.length) : (List.map AV.dat (List.map iD l))[i]?.getD AV.junk = .dat (iD (l.getD i default)) := by simp [List.getD_eq_getElem?_getD, h]
theorem zhz {l : List Int} {i : Nat} {z : Int} : ((l.map iD).map AV.dat).set i (.dat (iD z)) = ((l.set i z).map iD).map AV.dat := by rw [List.map_set, List.map_set]
theorem zmy {c : EventM} (h : qn c = 0) : 0 ≤ c.By ∧ c.By < 6 := by
 unfold qn at h
 by_cases h1 : z2x c = true
 ·rw [if_pos h1] at h; cases h
 ·rw [if_neg h1] at h
  by_cases h2 : z1z c = true ∨ Xz c = true ∨ z06 c = true ∨ wa c.N 1048576 = false
  ·rw [if_pos h2] at h; cases h
  ·simp only [not_or, Bool.not_eq_true] at h2
   have := h2.1
   simp only [z1z, ym, Bool.or_eq_false_iff, Bool.not_eq_false', Bool.and_eq_true, decide_eq_true_eq] at this
   exact this.1.1.1.1
set_option maxRecDepth 100000 in
set_option maxHeartbeats 8000000 in
theorem zfj (G) (p : Nat) (L : List EventM) (c : EventM) (hp : p ≤ 1000) (hce : OkEv c) (hL : ∀ e ∈ L, OkEv e) (hn : L.length ≤ 100000) : GivesX Tryz.prog G 55 [.ptr 1000 2 0 0, .dat (zc c)] (arO p L) [.dat (bD (zr p L c).2.1), .dat (iD (zr p L c).2.2)] (arO p (zr p L c).1) := by
 have hs64 := hce.seq
 unfold I64 at hs64
 skip
 skip
 skip
 refine GX [] [] [] Tryz.func55 Tryz.ntmps55 fun F hP hG hN hR hA => ?_
 have hE := And.intro @Tryz.results55 (@qz)
 refine WS [2, 3] [2, 3, 1000, 1001, 1002] ?_
 apply z3
 have hc := gvF hP hG (Zz G c hce)
 refine WSc [2, 3, 6] [2, 3, 1000, 1001, 1002] ?_
 refine WS [2, 3, 6, 14] [2, 3, 1000, 1001, 1002] ?_
 refine WI ?_ ?_ <;> intro hb
 ·have hv : zr p L c = (L, false, qn c) := by unfold zr; rw [if_pos (by simpa using hb)]
  have hE := And.intro hE hv
  refine WS [4, 5] [1000, 1001, 1002] ?_
  apply z9
  apply za
  exact E0
 ·have hvd : qn c = 0 := by simpa using hb
  have hby := (zmy hvd).1
  apply z6
  apply z5
  apply z3
  refine WD [2, 3, 23] [2, 3, 1000, 1001, 1002] [0, 1, 2, 3, 4, 5, 6, 7] [] ?_
  refine WI ?_ ?_ <;> intro hb
  ·have hv : zr p L c = (L, false, 1) := by unfold zr; rw [if_neg (by omega), if_pos (by omega)]
   have hE := And.intro hE hv
   refine WS [4, 5] [1000, 1001, 1002] ?_
   apply z9
   apply za
   exact E0
  ·have hbp : c.By < p := by omega
   apply z6
   apply z5
   apply z3
   refine WDF [2, 3, 7, 8] [2, 3, 7, 1000, 1001, 1002] [(0, 25, _), (1, 26, _), (2, 27, _), (3, 28, _), (4, 29, _), (5, 30, _), (6, 31, .tup [.dat (zc ((qb L (evName c)).getD default)), .dat (bD (qb L (evName c)).isSome)]), (7, 24, .tup [.dat (zc ((qb L (evName c)).getD default)), .dat (bD (qb L (evName c)).isSome)]), (8, 32, .dat (zc ((qb L (evName c)).getD default))), (9, 33, .dat (bD (qb L (evName c)).isSome)), (10, 7, .ptr 7 32 0 0), (12, 8, .dat (bD (qb L (evName c)).isSome))] [(11, 7, some ⟨32, [.dat (zc ((qb L (evName c)).getD default))]⟩), (10, 7, some ⟨32, [zn1]⟩)] ⟨FV 0 [] [1, 2, 3, 6, 7, 8, 9, 11, 12], FV 1 [0] [2, 3, 6, 7, 8, 9, 11, 12], FV 2 [0, 1] [3, 6, 7, 8, 9, 11, 12], FV 3 [0, 1, 2] [6, 7, 8, 9, 11, 12], FV 4 [] [5, 6, 7, 8, 9, 11, 12], (by have hc := gvF hP hG (z2j G c); exact FVc 5 [4] [6, 7, 8, 9, 11, 12]), (FVs 6 [0, 1, 2, 3, 4, 5] [7, 8, 9, 11, 12] (fun D hA1 hA2 => by simp only [x8, NoD] at hA1 hA2; exact zcv (kt := 81) (et := 42) (id := 1002) (L := L) (n := evName c) rfl rfl (by rw [hN]; omega) ⟨_, by rw [hP]; exact ti101, rfl⟩ (by rw [hP]; exact za1) EV' EV' EV' (by rw [hP]; exact z8k))), FV 7 [0, 1, 2, 3, 4, 5, 6] [8, 9, 11, 12], FV 8 [0, 1, 2, 3, 4, 5, 6, 7] [11, 12], FV 9 [0, 1, 2, 3, 4, 5, 6, 7] [12], FNd 10 1 [] [11, 12], FS 0 [0, 1, 2, 3, 4, 5, 6, 7, 8, 10] [12], FV 11 [0, 1, 2, 3, 4, 5, 6, 7, 8, 9, 10, 11] [], trivial⟩ ?_
   refine WS [2, 3, 7, 34] [2, 3, 7, 1000, 1001, 1002] ?_
   refine WI ?_ ?_ <;> intro hb
   ·obtain ⟨old, hold⟩ := Option.isSome_iff_exists.1 hb
    have hok := hL old (zdq hold)
    have hE := And.intro hE (And.intro hold (Option.getD_some (a := old) (b := (default : EventM))))
    apply z3
    have hc := gvF hP hG (zog G old c hok)
    refine WSc [37] [1000, 1001, 1002] ?_
    refine WI ?_ ?_ <;> intro hb
    ·have hv : zr p L c = (L, false, 0) := by unfold zr; rw [if_neg (by omega), if_neg (by omega), if_pos (by rw [hold]; rfl), hold, Option.getD_some, if_pos hb]
     have hE := And.intro hE hv
     refine WS [4, 5] [1000, 1001, 1002] ?_
     apply z9
     apply za
     apply za
     exact E0
    ·have hv : zr p L c = (L, false, 7) := by unfold zr; rw [if_neg (by omega), if_neg (by omega), if_pos (by rw [hold]; rfl), hold, Option.getD_some, if_neg (by simpa using hb)]
     have hE := And.intro hE hv
     apply z6
     apply z5
     refine WS [4, 5] [1000, 1001, 1002] ?_
     apply z9
     apply za
     exact E0
   ·have hno : qb L (evName c) = none := by simpa using hb
    have hcg := y8 (L := L) (i := c.By.toNat) (p := p) (by omega)
    rw [show ((c.By.toNat : Nat) : Int) = c.By by omega] at hcg
    have hcl := X6 L c.By
    have hrw := Qm (l := qw p L) (i := c.By.toNat) (by rw [qz]; omega)
    rw [hcg] at hrw
    have hE := And.intro hE hrw
    apply z6
    apply z5
    refine WS [2, 3, 9] [2, 3, 1000, 1001, 1002] ?_
    apply z3
    refine wv (.of [(2, .ptr 2 1 0 0), (3, .ptr 3 32 0 0), (55, .dat (bD (ko L c)))] [(2, ⟨1, [.ptr 1000 2 0 0]⟩), (3, ⟨32, [.dat (zc c)]⟩), (1000, ⟨2, [.agg [.osl 1001 1 0 p, .mp 1002]]⟩), (1001, ⟨1, ((qw p L).map iD).map .dat⟩), (1002, ⟨0, [.tup [], .dat (.sl (X8 L)), .dat (.sl (L.map zc))]⟩)]) ?_ ?_
    ·by_cases hsq : c.Seq = (xh L c.By : Int)
     ·have hn1 : (c.Seq != (xh L c.By : Int)) = false := by simp [hsq]
      have hn2 : ko L c = c.Refs.any fun n => !(qb L n).isSome := by unfold ko; rw [hn1, Bool.false_or]
      have hE := And.intro hE (And.intro hn1 hn2)
      refine X2 [2, 3, 55] [2, 3, 1000, 1001, 1002] [(0, 39, _), (1, 40, _), (2, 41, _), (3, 42, _), (4, 43, _), (5, 44, _), (6, 45, _), (7, 46, _), (8, 47, _), (9, 48, _), (10, 49, .dat (bD false)), (11, 50, .dat (bD false)), (12, 51, _), (13, 52, _), (14, 53, _), (15, 54, .dat (bD (c.Refs.any fun n => !(qb L n).isSome))), (16, 55, _)] [] ⟨FV 0 [] [1, 10, 11, 12, 13, 14, 15, 16], FV 1 [0] [10, 11, 12, 13, 14, 15, 16], FV 2 [] [3, 4, 5, 8, 9, 10, 11, 12, 13, 14, 15, 16], FV 3 [2] [4, 5, 8, 9, 10, 11, 12, 13, 14, 15, 16], FV 4 [2, 3] [5, 8, 9, 10, 11, 12, 13, 14, 15, 16], FV 5 [2, 3, 4] [8, 9, 10, 11, 12, 13, 14, 15, 16], FV 6 [] [7, 8, 9, 10, 11, 12, 13, 14, 15, 16], FV 7 [6] [8, 9, 10, 11, 12, 13, 14, 15, 16], FV 8 [2, 3, 4, 5, 6, 7] [9, 10, 11, 12, 13, 14, 15, 16], FV 9 [2, 3, 4, 5, 6, 7, 8] [10, 11, 12, 13, 14, 15, 16], FV 10 [0, 1, 2, 3, 4, 5, 6, 7, 8, 9] [11, 12, 13, 14, 15, 16], FV 11 [0, 1, 2, 3, 4, 5, 6, 7, 8, 9, 10] [12, 13, 14, 15, 16], FG 12 [0, 1, 2, 3, 4, 5, 6, 7, 8, 9, 10, 11] [13, 15, 16], FG 13 [0, 1, 2, 3, 4, 5, 6, 7, 8, 9, 10, 11, 12] [15, 16], FG 14 [0, 1, 2, 3, 4, 5, 6, 7, 8, 9, 10, 11] [15, 16], (FGs 15 [0, 1, 2, 3, 4, 5, 6, 7, 8, 9, 10, 11, 12, 13, 14] [16] (fun D hA1 hA2 => by simp only [x8, NoD] at hA1 hA2; exact v9 (m := fun i => if i = 999 then 2 else i) rfl rfl (by rw [hN]; omega) EV' (z5k hP hG (zkd G p L c.Refs (by have := hce.nrefs; omega))) EX' (vw hN EL' (by rfl)))), FV 16 [0, 1, 2, 3, 4, 5, 6, 7, 8, 9, 10, 11, 12, 13, 14, 15] [], trivial⟩ ?_
      exact ML
     ·have hn1 : (c.Seq != (xh L c.By : Int)) = true := by simp [hsq]
      have hn2 : ko L c = true := by unfold ko; rw [hn1, Bool.true_or]
      have hE := And.intro hE (And.intro hn1 hn2)
      refine X2 [2, 3, 55] [2, 3, 1000, 1001, 1002] [(0, 39, _), (1, 40, _), (2, 41, _), (3, 42, _), (4, 43, _), (5, 44, _), (6, 45, _), (7, 46, _), (8, 47, _), (9, 48, _), (10, 49, .dat (bD true)), (11, 50, .dat (bD true)), (12, 51, .cond false .junk), (13, 52, .cond false .junk), (14, 53, .cond false .junk), (15, 54, .cond false (.dat (bD false))), (16, 55, _)] [] ⟨FV 0 [] [1, 10, 11, 12, 13, 14, 15, 16], FV 1 [0] [10, 11, 12, 13, 14, 15, 16], FV 2 [] [3, 4, 5, 8, 9, 10, 11, 12, 13, 14, 15, 16], FV 3 [2] [4, 5, 8, 9, 10, 11, 12, 13, 14, 15, 16], FV 4 [2, 3] [5, 8, 9, 10, 11, 12, 13, 14, 15, 16], FV 5 [2, 3, 4] [8, 9, 10, 11, 12, 13, 14, 15, 16], FV 6 [] [7, 8, 9, 10, 11, 12, 13, 14, 15, 16], FV 7 [6] [8, 9, 10, 11, 12, 13, 14, 15, 16], FV 8 [2, 3, 4, 5, 6, 7] [9, 10, 11, 12, 13, 14, 15, 16], FV 9 [2, 3, 4, 5, 6, 7, 8] [10, 11, 12, 13, 14, 15, 16], FV 10 [0, 1, 2, 3, 4, 5, 6, 7, 8, 9] [11, 12, 13, 14, 15, 16], FV 11 [0, 1, 2, 3, 4, 5, 6, 7, 8, 9, 10] [12, 13, 14, 15, 16], FO 12 [0, 1, 2, 3, 4, 5, 6, 7, 8, 9, 10, 11] [13, 15, 16], FO 13 [0, 1, 2, 3, 4, 5, 6, 7, 8, 9, 10, 11, 12] [15, 16], FO 14 [0, 1, 2, 3, 4, 5, 6, 7, 8, 9, 10, 11] [15, 16], FO 15 [0, 1, 2, 3, 4, 5, 6, 7, 8, 9, 10, 11, 12, 13, 14] [16], FV 16 [0, 1, 2, 3, 4, 5, 6, 7, 8, 9, 10, 11, 12, 13, 14, 15] [], trivial⟩ ?_
      exact ML
    refine WI ?_ ?_ <;> intro hb
    ·have hv : zr p L c = (L, false, 10) := by unfold zr; rw [if_neg (by omega), if_neg (by omega), if_neg (by rw [hno]; simp), if_pos hb]
     have hE := And.intro hE hv
     refine WS [4, 5] [1000, 1001, 1002] ?_
     apply z9
     apply za
     exact E0
    ·apply z6
     apply z5
     refine WS [2, 3, 10] [2, 3, 1000, 1001, 1002] ?_
     apply z3
     refine wv (.of [(2, .ptr 2 1 0 0), (3, .ptr 3 32 0 0), (75, .dat (bD (wu L c)))] [(2, ⟨1, [.ptr 1000 2 0 0]⟩), (3, ⟨32, [.dat (zc c)]⟩), (1000, ⟨2, [.agg [.osl 1001 1 0 p, .mp 1002]]⟩), (1001, ⟨1, ((qw p L).map iD).map .dat⟩), (1002, ⟨0, [.tup [], .dat (.sl (X8 L)), .dat (.sl (L.map zc))]⟩)]) ?_ ?_
     ·rcases hla : c.Refs.any (ws L c) with _ | _
      ·by_cases hs0 : 0 < c.Seq
       ·have hd0 : decide (0 < c.Seq) = true := by simpa using hs0
        have ht : wu L c = ws L c ⟨c.By, c.Seq - 1⟩ := by unfold wu; rw [hla, hd0, Bool.false_or, Bool.true_and]
        have hE := And.intro hE (And.intro hla (And.intro hd0 ht))
        refine Za [2, 3, 75] [2, 3, 1000, 1001, 1002] [(0, 57, _), (1, 58, _), (2, 59, _), (3, 60, .dat (bD (c.Refs.any (ws L c)))), (4, 61, .dat (bD false)), (5, 62, _), (6, 63, _), (7, 64, .dat (bD true)), (8, 65, .dat (bD true)), (9, 66, _), (10, 67, _), (11, 68, _), (12, 69, _), (13, 70, _), (14, 71, .dat (iD (c.Seq - 1))), (15, 72, .dat (zx ⟨c.By, c.Seq - 1⟩)), (16, 73, .dat (bD (ws L c ⟨c.By, c.Seq - 1⟩))), (17, 74, _), (18, 75, _)] [] ⟨FV 0 [] [1, 3, 4, 5, 6, 7, 8, 9, 10, 11, 12, 13, 14, 15, 16, 17, 18], FV 1 [0] [3, 4, 5, 6, 7, 8, 9, 10, 11, 12, 13, 14, 15, 16, 17, 18], FV 2 [] [3, 4, 5, 6, 7, 8, 9, 10, 11, 12, 13, 14, 15, 16, 17, 18], (FVs 3 [0, 1, 2] [4, 5, 6, 7, 8, 9, 10, 11, 12, 13, 14, 15, 16, 17, 18] (fun D hA1 hA2 => by simp only [x8, NoD] at hA1 hA2; exact v9 (m := fun i => if i = 999 then 2 else if i = 998 then 3 else i) rfl rfl (by rw [hN]; omega) EV' (z5k hP hG (z3x G p L c c.Refs (by have := hce.nrefs; omega))) EX' (vw hN EL' (by rfl)))), FV 4 [0, 1, 2, 3] [5, 6, 7, 8, 9, 10, 11, 12, 13, 14, 15, 16, 17, 18], FG 5 [0, 1, 2, 3, 4] [6, 7, 8, 9, 10, 11, 12, 13, 14, 15, 16, 17, 18], FG 6 [0, 1, 2, 3, 4, 5] [7, 8, 9, 10, 11, 12, 13, 14, 15, 16, 17, 18], FG 7 [0, 1, 2, 3, 4, 5, 6] [8, 9, 10, 11, 12, 13, 14, 15, 16, 17, 18], FG 8 [0, 1, 2, 3, 4, 5, 6, 7] [9, 10, 11, 12, 13, 14, 15, 16, 17, 18], FG 9 [0, 1, 2, 3, 4, 5, 6, 7, 8] [16, 17, 18], FG 10 [0, 1, 2, 3, 4, 5, 6, 7, 8] [11, 15, 16, 17, 18], FG 11 [0, 1, 2, 3, 4, 5, 6, 7, 8, 10] [15, 16, 17, 18], FG 12 [0, 1, 2, 3, 4, 5, 6, 7, 8] [13, 14, 15, 16, 17, 18], FG 13 [0, 1, 2, 3, 4, 5, 6, 7, 8, 12] [14, 15, 16, 17, 18], FG 14 [0, 1, 2, 3, 4, 5, 6, 7, 8, 12, 13] [15, 16, 17, 18], FG 15 [0, 1, 2, 3, 4, 5, 6, 7, 8, 10, 11, 12, 13, 14] [16, 17, 18], (FGs 16 [0, 1, 2, 3, 4, 5, 6, 7, 8, 9, 10, 11, 12, 13, 14, 15] [17, 18] (fun D hA1 hA2 => by simp only [x8, NoD] at hA1 hA2; exact v9 (m := fun i => if i = 999 then 2 else if i = 998 then 3 else i) rfl rfl (by rw [hN]; omega) EV' (z5k hP hG (ze4 G p L c ⟨c.By, c.Seq - 1⟩)) EX' (vw hN EL' (by rfl)))), FG 17 [0, 1, 2, 3, 4, 5, 6, 7, 8, 9, 10, 11, 12, 13, 14, 15, 16] [18], FV 18 [0, 1, 2, 3, 4, 5, 6, 7, 8, 9, 10, 11, 12, 13, 14, 15, 16, 17] [], trivial⟩ ?_
        exact ML
       ·have hd0 : decide (0 < c.Seq) = false := by simpa using hs0
        have ht : wu L c = false := by unfold wu; rw [hla, hd0]; rfl
        have hE := And.intro hE (And.intro hla (And.intro hd0 ht))
        refine Za [2, 3, 75] [2, 3, 1000, 1001, 1002] [(0, 57, _), (1, 58, _), (2, 59, _), (3, 60, .dat (bD (c.Refs.any (ws L c)))), (4, 61, .dat (bD false)), (5, 62, _), (6, 63, _), (7, 64, .dat (bD false)), (8, 65, .dat (bD false)), (9, 66, .cond false .junk), (10, 67, .cond false .junk), (11, 68, .cond false .junk), (12, 69, .cond false .junk), (13, 70, .cond false .junk), (14, 71, .cond false .junk), (15, 72, .cond false .junk), (16, 73, .cond false (.dat (bD false))), (17, 74, _), (18, 75, _)] [] ⟨FV 0 [] [1, 3, 4, 5, 6, 7, 8, 9, 10, 11, 12, 13, 14, 15, 16, 17, 18], FV 1 [0] [3, 4, 5, 6, 7, 8, 9, 10, 11, 12, 13, 14, 15, 16, 17, 18], FV 2 [] [3, 4, 5, 6, 7, 8, 9, 10, 11, 12, 13, 14, 15, 16, 17, 18], (FVs 3 [0, 1, 2] [4, 5, 6, 7, 8, 9, 10, 11, 12, 13, 14, 15, 16, 17, 18] (fun D hA1 hA2 => by simp only [x8, NoD] at hA1 hA2; exact v9 (m := fun i => if i = 999 then 2 else if i = 998 then 3 else i) rfl rfl (by rw [hN]; omega) EV' (z5k hP hG (z3x G p L c c.Refs (by have := hce.nrefs; omega))) EX' (vw hN EL' (by rfl)))), FV 4 [0, 1, 2, 3] [5, 6, 7, 8, 9, 10, 11, 12, 13, 14, 15, 16, 17, 18], FG 5 [0, 1, 2, 3, 4] [6, 7, 8, 9, 10, 11, 12, 13, 14, 15, 16, 17, 18], FG 6 [0, 1, 2, 3, 4, 5] [7, 8, 9, 10, 11, 12, 13, 14, 15, 16, 17, 18], FG 7 [0, 1, 2, 3, 4, 5, 6] [8, 9, 10, 11, 12, 13, 14, 15, 16, 17, 18], FG 8 [0, 1, 2, 3, 4, 5, 6, 7] [9, 10, 11, 12, 13, 14, 15, 16, 17, 18], FO 9 [0, 1, 2, 3, 4, 5, 6, 7, 8] [16, 17, 18], FO 10 [0, 1, 2, 3, 4, 5, 6, 7, 8] [11, 15, 16, 17, 18], FO 11 [0, 1, 2, 3, 4, 5, 6, 7, 8, 10] [15, 16, 17, 18], FO 12 [0, 1, 2, 3, 4, 5, 6, 7, 8] [13, 14, 15, 16, 17, 18], FO 13 [0, 1, 2, 3, 4, 5, 6, 7, 8, 12] [14, 15, 16, 17, 18], FO 14 [0, 1, 2, 3, 4, 5, 6, 7, 8, 12, 13] [15, 16, 17, 18], FO 15 [0, 1, 2, 3, 4, 5, 6, 7, 8, 10, 11, 12, 13, 14] [16, 17, 18], FO 16 [0, 1, 2, 3, 4, 5, 6, 7, 8, 9, 10, 11, 12, 13, 14, 15] [17, 18], FG 17 [0, 1, 2, 3, 4, 5, 6, 7, 8, 9, 10, 11, 12, 13, 14, 15, 16] [18], FV 18 [0, 1, 2, 3, 4, 5, 6, 7, 8, 9, 10, 11, 12, 13, 14, 15, 16, 17] [], trivial⟩ ?_
        exact ML
      ·have ht : wu L c = true := by unfold wu; rw [hla]; rfl
       have hE := And.intro hE (And.intro hla ht)
       refine Za [2, 3, 75] [2, 3, 1000, 1001, 1002] [(0, 57, _), (1, 58, _), (2, 59, _), (3, 60, .dat (bD (c.Refs.any (ws L c)))), (4, 61, .dat (bD true)), (5, 62, .cond false .junk), (6, 63, .cond false .junk), (7, 64, .cond false .junk), (8, 65, .cond false (.dat (bD false))), (9, 66, .cond false .junk), (10, 67, .cond false .junk), (11, 68, .cond false .junk), (12, 69, .cond false .junk), (13, 70, .cond false .junk), (14, 71, .cond false .junk), (15, 72, .cond false .junk), (16, 73, .cond false .junk), (17, 74, .cond false (.dat (bD false))), (18, 75, _)] [] ⟨FV 0 [] [1, 3, 4, 5, 6, 7, 8, 9, 10, 11, 12, 13, 14, 15, 16, 17, 18], FV 1 [0] [3, 4, 5, 6, 7, 8, 9, 10, 11, 12, 13, 14, 15, 16, 17, 18], FV 2 [] [3, 4, 5, 6, 7, 8, 9, 10, 11, 12, 13, 14, 15, 16, 17, 18], (FVs 3 [0, 1, 2] [4, 5, 6, 7, 8, 9, 10, 11, 12, 13, 14, 15, 16, 17, 18] (fun D hA1 hA2 => by simp only [x8, NoD] at hA1 hA2; exact v9 (m := fun i => if i = 999 then 2 else if i = 998 then 3 else i) rfl rfl (by rw [hN]; omega) EV' (z5k hP hG (z3x G p L c c.Refs (by have := hce.nrefs; omega))) EX' (vw hN EL' (by rfl)))), FV 4 [0, 1, 2, 3] [5, 6, 7, 8, 9, 10, 11, 12, 13, 14, 15, 16, 17, 18], FO 5 [0, 1, 2, 3, 4] [6, 7, 8, 9, 10, 11, 12, 13, 14, 15, 16, 17, 18], FO 6 [0, 1, 2, 3, 4, 5] [7, 8, 9, 10, 11, 12, 13, 14, 15, 16, 17, 18], FO 7 [0, 1, 2, 3, 4, 5, 6] [8, 9, 10, 11, 12, 13, 14, 15, 16, 17, 18], FO 8 [0, 1, 2, 3, 4, 5, 6, 7] [9, 10, 11, 12, 13, 14, 15, 16, 17, 18], FO 9 [0, 1, 2, 3, 4, 5, 6, 7, 8] [16, 17, 18], FO 10 [0, 1, 2, 3, 4, 5, 6, 7, 8] [11, 15, 16, 17, 18], FO 11 [0, 1, 2, 3, 4, 5, 6, 7, 8, 10] [15, 16, 17, 18], FO 12 [0, 1, 2, 3, 4, 5, 6, 7, 8] [13, 14, 15, 16, 17, 18], FO 13 [0, 1, 2, 3, 4, 5, 6, 7, 8, 12] [14, 15, 16, 17, 18], FO 14 [0, 1, 2, 3, 4, 5, 6, 7, 8, 12, 13] [15, 16, 17, 18], FO 15 [0, 1, 2, 3, 4, 5, 6, 7, 8, 10, 11, 12, 13, 14] [16, 17, 18], FO 16 [0, 1, 2, 3, 4, 5, 6, 7, 8, 9, 10, 11, 12, 13, 14, 15] [17, 18], FO 17 [0, 1, 2, 3, 4, 5, 6, 7, 8, 9, 10, 11, 12, 13, 14, 15, 16] [18], FV 18 [0, 1, 2, 3, 4, 5, 6, 7, 8, 9, 10, 11, 12, 13, 14, 15, 16, 17] [], trivial⟩ ?_
       exact ML
     refine WI ?_ ?_ <;> intro hb
     ·have hv : zr p L c = (L, false, 5) := by unfold zr; rw [if_neg (by omega), if_neg (by omega), if_neg (by rw [hno]; simp), if_neg (by simp_all), if_pos hb]
      have hE := And.intro hE hv
      refine WS [4, 5] [1000, 1001, 1002] ?_
      apply z9
      apply za
      exact E0
     ·have hv : zr p L c = (L ++ [c], true, 0) := by unfold zr; rw [if_neg (by omega), if_neg (by omega), if_neg (by rw [hno]; simp), if_neg (by simp_all), if_neg (by simp_all)]
      apply z6
      apply z5
      refine WDF [2, 3] [2, 3, 1000, 1001, 1002] [(0, 76, _), (1, 77, _), (2, 78, _), (3, 79, _), (4, 80, _), (5, 81, _), (6, 82, _), (7, 83, _)] [(8, 1002, some ⟨0, [.tup [], .dat (.sl (X8 (L ++ [c]))), .dat (.sl ((L ++ [c]).map zc))]⟩)] ⟨FV 0 [] [1, 2, 3, 8], FV 1 [0] [2, 3, 8], FV 2 [0, 1] [3, 8], FV 3 [0, 1, 2] [8], FV 4 [] [5, 7, 8], (by have hc := gvF hP hG (z2j G c); exact FVc 5 [4] [7, 8]), FV 6 [] [7, 8], (by have hc := gvF hP hG (zc0 G c hce); exact FVc 7 [4, 5, 6] [8]), (FSs 0 [0, 1, 2, 3, 4, 5, 6, 7] [] (fun D hA1 hA2 => by simp only [x8, NoD] at hA1 hA2; exact zxq (id := 1002) (L := L) (e := c) rfl rfl ⟨_, by rw [hP]; exact ti101, rfl⟩ (by rw [hP]; exact za1) EV' EV' EV' EV' hno)), trivial⟩ ?_
      have hE := And.intro hE (And.intro @zhz (And.intro (zgh (L := L) hby hbp) hv))
      refine WD [] [1000, 1001, 1002] [0, 1, 2, 3, 4, 5, 6, 7, 8, 9, 10] [] ?_
      refine WS [4, 5] [1000, 1001, 1002] ?_
      apply z9
      exact E0
theorem znr (i : Nat) : (AV.mp i).cells = [AV.mp i] := rfl
def xz (L : List EventM) (b : Int) (n : Nat) : List EventM := (List.range n).map fun k : Nat => (qb L ⟨b, (k : Int)⟩).getD default
theorem w7 (L : List EventM) (b : Int) (n : Nat) : (xz L b n).length = n := by simp [xz]
theorem zd5 (L : List EventM) (b : Int) (n : Nat) : xz L b (n + 1) = xz L b n ++ [(qb L ⟨b, (n : Int)⟩).getD default] := by simp [xz, List.range_succ]
theorem z09 (L : List EventM) (b : Int) (n : Nat) : List.take n (xz L b n) = xz L b n := List.take_of_length_le (by simp [w7])
def sumN (l : List EventM) : Nat → List Int
 | 0 => List.replicate 16 0
 | i + 1 => dgM 1 [vv (sumN l i), vv (dgM 7 [vv (evB (l.getD i default))])]
def z0x (l : List EventM) : List Int := sumN l l.length
theorem zin (t : Int) (l : List ByteArray) : (dgM t l).length = 16 := by simp [dgM, zfh]
theorem Qr (l : List EventM) : ∀ i, (sumN l i).length = 16
 | 0 => by simp [sumN]
 | i + 1 => zin _ _
def clkN (L : List EventM) : Nat → Int
 | 0 => 0
 | i + 1 => if 0 < xh L (i : Int) then (if clkN L i < ((qb L ⟨(i : Int), (xh L (i : Int) : Int) - 1⟩).getD default).Tick then ((qb L ⟨(i : Int), (xh L (i : Int) : Int) - 1⟩).getD default).Tick else clkN L i) else clkN L i
theorem zho (n : Nat) : List.replicate n (AV.dat (iD 0)) = ((qw n []).map iD).map AV.dat := by
 apply List.ext_getElem (by simp [qw])
 intro i h1 h2
 simp [qw, xh]
theorem zbw (G) (n : Nat) (h1 : 1 ≤ n) (h6 : n ≤ 6) : GivesX Tryz.prog G 34 [.dat (iD n)] [] [.ptr 14 2 0 0, .dat (iD 0)] [(14, ⟨2, [.agg [.osl 11 1 0 n, .mp 12]]⟩), (11, ⟨1, ((qw n []).map iD).map .dat⟩), (12, ⟨0, [.tup [], .dat (.sl []), .dat (.sl [])]⟩)] := by
 have hrp := zho n
 skip
 skip
 skip
 refine GX [] [] [] Tryz.func34 Tryz.ntmps34 fun F hP hG hN hR hA => ?_
 have hE := And.intro @Tryz.results34 (And.intro @hrp (And.intro @znr (@jn)))
 refine WS [0] [11, 12, 14] ?_
 apply z3
 refine WS [0, 9] [11, 12, 14] ?_
 refine WI ?_ ?_ <;> intro hb
 ·exact absurd hb (by simp; omega)
 ·apply z6
  apply z5
  refine wp ?_
  apply wz
  ·(iterate 2 apply Seg.cons); exact Seg.nil _
  ·refine RK ?_
   exact SC
  refine yi rfl (zhb rfl rfl (by rw [hN]; omega)) ?_
  simp only [avA, seval]
  apply wg [2, 3] [11, 14, 12]
  ·refine RN ?_
   exact SC
  apply z9
  exact E0
set_option maxRecDepth 100000 in
set_option maxHeartbeats 2000000 in
theorem z15 (G) (p : Nat) (L : List EventM) (b : Int) (n : Nat) (hn : n ≤ 100000) : GivesX Tryz.prog G 52 [.ptr 1000 2 0 0, .dat (iD b), .dat (iD n)] (arO p L) [.dat (zz (xz L b n))] (arO p L) := by
 skip
 skip
 skip
 refine GX [] [] [] Tryz.func52 Tryz.ntmps52 fun F hP hG hN hR hA => ?_
 have hE := And.intro @Tryz.results52 (And.intro @w7 (And.intro @jn (And.intro @Zc (And.intro @Nat.min_self (@z09)))))
 refine WS [0, 1, 2] [23, 1000, 1001, 1002] ?_
 refine WS [0, 1, 2, 7] [23, 1000, 1001, 1002] ?_
 apply z3
 refine WS [0, 1, 7, 9, 10] [23, 1000, 1001, 1002] ?_
 apply z7
 refine xd 23 32 (by omega) ?_
 refine xy 7 23 32 rfl rfl ?_
 refine WL (ι := {k : Nat // k ≤ n}) [0, 1, 9] [22, 1000, 1001, 1002] (fun ⟨k, hk⟩ => [(7, .osl 23 32 0 k), (10, .dat (iD k))]) (fun ⟨k, hk⟩ => [(23, ⟨32, ((xz L b k).map zc).map .dat⟩)]) (fun ⟨k, hk⟩ => n - k) (⟨0, by omega⟩) ?_
 rintro ⟨k, hk⟩
 refine LA ?_
 refine WS [0, 1, 7, 9, 10, 11] [22, 23, 1000, 1001, 1002] ?_
 apply z3
 refine WI ?_ ?_ <;> intro hb
 ·apply z6
  apply z5
  apply z3
  apply z7
  refine WS [0, 1, 7, 8, 9, 10] [22, 23, 1000, 1001, 1002] ?_
  refine z11 ?_
  apply wz
  ·(iterate 8 apply Seg.cons); exact Seg.nil _
  ·refine RK ?_
   exact SC
  refine yi rfl (z63 (kt := 81) (et := 42) (id := 1002) (L := L) (n := ⟨b, (k : Int)⟩) rfl rfl (by rw [hN]; omega) ⟨_, by rw [hP]; exact ti101, rfl⟩ (by rw [hP]; exact za1) rfl rfl rfl (by rw [hP]; exact z8k)) ?_
  rw [yr]
  apply wg [0, 1, 7, 9, 10] [22, 23, 1000, 1001, 1002]
  ·refine RN ?_
   exact SC
  apply ze
  apply z5
  have hE := And.intro hE (zd5 L b k)
  refine WQ [0, 1, 7, 9, 10] [22, 23, 1000, 1001, 1002] ?_
  refine WN (⟨k + 1, by omega⟩)
 ·apply zj
  apply zd
  have hend : k = n := by omega
  subst hend
  apply zb
  apply zn
  apply z5
  refine X3 23 hR.2.2.2 rfl (datE_map _) rfl ?_
  have htk : List.take k ((xz L b k).map zc) = (xz L b k).map zc := List.take_of_length_le (by simp [w7])
  simp (disch := omega) only [avA, zk, zo, seval, hE, htk]
  refine WS [6] [22, 23, 1000, 1001, 1002] ?_
  apply z9
  exact E0
set_option maxRecDepth 100000 in
set_option maxHeartbeats 2000000 in
theorem z96 (G) (p : Nat) (hp : p ≤ 1000) (L : List EventM) (hL : L.length ≤ 100000) : GivesX Tryz.prog G 43 [.ptr 1000 2 0 0] (arO p L) [.dat (iD (clkN L p))] (arO p L) := by
 skip
 skip
 skip
 refine GX [] [] [] Tryz.func43 Tryz.ntmps43 fun F hP hG hN hR hA => ?_
 have hE := And.intro @Tryz.results43 (And.intro @z7l (@qz))
 refine WS [0] [1000, 1001, 1002] ?_
 apply z3
 refine WS [0, 7] [1000, 1001, 1002] ?_
 refine WI ?_ ?_ <;> intro hb
 ·exact absurd hb (by simp)
 ·apply z6
  apply z5
  refine WS [0, 3] [1000, 1001, 1002] ?_
  apply z3
  refine WS [0, 3, 11, 12, 13] [1000, 1001, 1002] ?_
  apply z7
  refine WL (ι := {i : Nat // i ≤ p}) [0, 11, 12] [1000, 1001, 1002] (fun ⟨i, hi⟩ => [(13, .dat (iD i)), (3, .dat (iD (clkN L i)))]) (fun ⟨i, hi⟩ => []) (fun ⟨i, hi⟩ => p - i) (⟨0, by omega⟩) ?_
  rintro ⟨i, hi⟩
  refine LA ?_
  refine WS [0, 3, 11, 12, 13, 14] [1000, 1001, 1002] ?_
  apply z3
  refine WI ?_ ?_ <;> intro hb
  ·have hcg := y8 (L := L) (i := i) (p := p) (by omega)
   have hrw := Qm (l := qw p L) (i := i) (by rw [qz]; omega)
   rw [hcg] at hrw
   have hcl := X6 L (i : Int)
   have hE := And.intro hE hrw
   have hc1 := clkN.eq_2 L i
   apply z6
   apply z5
   apply z3
   apply z7
   refine WS [0, 3, 4, 5, 11, 12, 13] [1000, 1001, 1002] ?_
   refine WS [0, 3, 4, 5, 11, 12, 13, 19] [1000, 1001, 1002] ?_
   refine WI ?_ ?_ <;> intro hb
   ·rw [if_pos (by omega)] at hc1
    have hE := And.intro hE hc1
    refine z11 ?_
    apply wz
    ·(iterate 9 apply Seg.cons); exact Seg.nil _
    ·refine RK ?_
     exact SC
    refine yi rfl (z63 (kt := 81) (et := 42) (id := 1002) (L := L) (n := ⟨(i : Int), (xh L (i : Int) : Int) - 1⟩) rfl rfl (by rw [hN]; omega) ⟨_, by rw [hP]; exact ti101, rfl⟩ (by rw [hP]; exact za1) rfl rfl rfl (by rw [hP]; exact z8k)) ?_
    rw [yr]
    apply wg [0, 3, 11, 12, 13] [1000, 1001, 1002]
    ·refine RN ?_
     exact SC
    apply ze
    apply z5
    refine WQ [0, 3, 11, 12, 13] [1000, 1001, 1002] ?_
    refine WN (⟨i + 1, by omega⟩)
   ·rw [if_neg (by omega)] at hc1
    have hE := And.intro hE hc1
    apply z6
    apply ze
    apply z5
    refine WQ [0, 3, 11, 12, 13] [1000, 1001, 1002] ?_
    refine WN (⟨i + 1, by omega⟩)
  ·apply zj
   apply zd
   have hend : i = p := by omega
   subst hend
   apply zb
   apply zn
   apply z5
   refine WS [2] [1000, 1001, 1002] ?_
   apply z9
   exact E0
theorem zyv (a b : List Int) (ha : a.length = 16) (hb : b.length = 16) : ∀ s ∈ [vv a, vv b], s.size ≤ 1000000 := by
 intro s hs
 simp only [List.mem_cons, List.not_mem_nil, or_false] at hs
 rcases hs with rfl | rfl <;> rw [z2m] <;> omega
set_option maxRecDepth 100000 in
set_option maxHeartbeats 2000000 in
theorem zsc (G) (hgk : G.lookup 1 = some (wsD kH)) (c : EventM) (hce : OkEv c) (hs : (evB c).length ≤ 1000000) (d : List Int) (hd : d.length = 16) : GivesX Tryz.prog G 94 [.dat (zc c), .ptr 999 16 0 0] [(999, ⟨16, [.dat (bsD d)]⟩)] [] [(999, ⟨16, [.dat (bsD (dgM 1 [vv d, vv (dgM 7 [vv (evB c)])]))]⟩)] := by
 have hdl := zin 7 [vv (evB c)]
 have tk1 : List.take 16 (d.map u8D) = d.map u8D := List.take_of_length_le (by rw [List.length_map, hd]; exact Nat.le_refl _)
 have tk2 : List.take 16 ((dgM 7 [vv (evB c)]).map u8D) = (dgM 7 [vv (evB c)]).map u8D := List.take_of_length_le (by rw [List.length_map, hdl]; exact Nat.le_refl _)
 skip
 skip
 skip
 refine GX [] [] [] Tryz.func94 Tryz.ntmps94 fun F hP hG hN hR hA => ?_
 have hE := And.intro @Tryz.results94 (And.intro @hd (And.intro @hdl (And.intro @tk1 (@tk2))))
 refine WS [1, 2] [2, 3, 999] ?_
 have hc := gvF hP hG (zkj G hgk c hce hs)
 refine WSc [1, 3] [3, 999] ?_
 refine X2 [] [3, 999] [(0, 6, _), (1, 7, .dat (.str (vv d))), (2, 8, _), (3, 9, .dat (.str (vv (dgM 7 [vv (evB c)])))), (4, 10, _), (5, 11, _)] [(6, 999, some ⟨16, [.dat (bsD (dgM 1 [vv d, vv (dgM 7 [vv (evB c)])]))]⟩)] ⟨FV 0 [] [1, 4, 5, 6], (FVs 1 [0] [4, 5, 6] (fun D hA1 hA2 => by simp only [x8, NoD] at hA1 hA2; exact zdc (ns := d) rfl rfl (by rw [hN]; omega) (by rw [hP]; exact ti117) rfl (by rw [hP]; exact ti9) rfl (by rw [hP]; exact ti5) ⟨rfl, rfl⟩ EW')), FV 2 [] [3, 4, 5, 6], (FVs 3 [2] [4, 5, 6] (fun D hA1 hA2 => by simp only [x8, NoD] at hA1 hA2; exact zdc (ns := dgM 7 [vv (evB c)]) rfl rfl (by rw [hN]; omega) (by rw [hP]; exact ti117) rfl (by rw [hP]; exact ti9) rfl (by rw [hP]; exact ti5) ⟨rfl, rfl⟩ EW')), FV 4 [0, 1, 2, 3] [5, 6], (by have hc := gvF hP hG (zot G 1 (by decide) (by decide) hgk [vv d, vv (dgM 7 [vv (evB c)])] (by simp) (zyv _ _ hd hdl)); exact FVc 5 [0, 1, 2, 3, 4] [6]), FS 0 [0, 1, 2, 3, 4, 5] [], trivial⟩ ?_
 exact E0
def ju (e : EventM) : Prop := OkEv e ∧ (evB e).length ≤ 1000000
theorem okDef : OkEv default := by
 have z : I64 0 := by unfold I64; omega
 have zi : zbp default := ⟨z, z, z⟩
 exact { by_ := z, seq := z, tick := z, kind := z, n := z, id := zi, tk := z, tl := z, refs := fun r hr => (by cases hr), nrefs := Nat.zero_le _, op := { head := fun x hx => (by rw [(show ∀ y ∈ vl (default : EventM).Op, y = 0 by decide +kernel) x hx]; exact z), pairs := fun r hr => (by cases hr), refs := fun r hr => (by cases hr), text := Nat.zero_le _, texts := fun r hr => (by cases hr), ntexts := Nat.zero_le _, npairs := Nat.zero_le _, nrefs := Nat.zero_le _, all := (by decide +kernel) }, name := Nat.zero_le _, see := Nat.zero_le _, broader := fun r hr => (by cases hr), nbroader := Nat.zero_le _, posts := fun r hr => (by cases hr), nposts := Nat.zero_le _ }
theorem zw1 : ju default := ⟨okDef, by decide +kernel⟩
theorem z6g : ∀ l : List Int, zk ((l.map u8D).map AV.dat) = some (l.map u8D)
 | [] => rfl
 | x :: l => by
  have ih := z6g l
  simp only [List.map_cons, zk, ih, Option.map_some]
  rfl
theorem Xm (m : Nat → Nat) (i : Nat) : AV.ren m (.mp i) = .mp (m i) := by simp [AV.ren]
abbrev Z1 (h : Int × List Int) : Dat := .agg (iD h.1 :: h.2.map u8D)
abbrev y3 (l : List (Int × List Int)) : Dat := .sl (l.map Z1)
def j5 (L : List EventM) (n : Nat) : List (Int × List Int) := (List.range n).map fun b : Nat => ((xh L (b : Int) : Int), z0x (xz L (b : Int) (xh L (b : Int))))
theorem Xb (L : List EventM) (n : Nat) : (j5 L n).length = n := by simp [j5]
theorem zdv (L : List EventM) (n : Nat) : j5 L (n + 1) = j5 L n ++ [((xh L (n : Int) : Int), z0x (xz L (n : Int) (xh L (n : Int))))] := by simp [j5, List.range_succ]
theorem zdw (L : List EventM) (n : Nat) : List.take n (j5 L n) = j5 L n := List.take_of_length_le (by simp [Xb])
theorem zsj {L : List EventM} (h : ∀ e ∈ L, ju e) (n : NameM) : ju ((qb L n).getD default) := by
 cases hf : qb L n with
 | none => exact zw1
 | some e => exact h e (zdq hf)
theorem z12 {L : List EventM} (h : ∀ e ∈ L, ju e) (b : Int) (n : Nat) : ∀ e ∈ xz L b n, ju e := by
 intro e he
 obtain ⟨k, _, rfl⟩ := List.mem_map.1 he
 exact zsj h _
set_option maxRecDepth 100000 in
set_option maxHeartbeats 2000000 in
theorem zi5 (G) (hgk : G.lookup 1 = some (wsD kH)) (l : List EventM) (hl : ∀ e ∈ l, ju e) (hn : l.length ≤ 100000) : zl Tryz.prog G 51 [zz l] [bsD (z0x l)] := by
 skip
 skip
 refine GI [] [16] [] Tryz.func51 Tryz.ntmps51 fun F hP hG hN hR hA => ?_
 have hE := And.intro @Tryz.results51 (And.intro @zs9 (And.intro @zbs (And.intro @zio (@Qr))))
 refine WS [0, 2] [2] ?_
 refine WS [0, 2, 3] [2, 3] ?_
 refine WS [0, 2, 3, 4] [2, 3] ?_
 apply z3
 refine WS [2, 3, 4, 8, 9, 10] [2, 3] ?_
 apply z7
 refine WL (ι := {i : Nat // i ≤ l.length}) [2, 3, 4, 8, 9] [2] (fun ⟨i, hi⟩ => [(10, .dat (iD i))]) (fun ⟨i, hi⟩ => [(3, ⟨16, [.dat (bsD (sumN l i))]⟩)]) (fun ⟨i, hi⟩ => l.length - i) (⟨0, by omega⟩) ?_
 rintro ⟨i, hi⟩
 refine LA ?_
 refine WS [2, 3, 4, 8, 9, 10, 11] [2, 3] ?_
 apply z3
 refine WI ?_ ?_ <;> intro hb
 ·have hx := zt hl (i := i) (by omega)
  have hE := And.intro hE (sumN.eq_2 l i)
  apply z6
  apply z5
  apply z3
  apply z7
  refine WS [2, 3, 4, 6, 8, 9, 10] [2, 3, 6] ?_
  apply yp [2, 3, 4, 8, 9, 10] [2, 3]
  ·refine RN ?_
   refine CX (fun _ => 3) [] (zsc G hgk (l.getD i default) hx.1 hx.2 (sumN l i) (Qr l i)) ?_
   exact SC
  apply ze
  apply z5
  refine WQ [2, 3, 4, 8, 9, 10] [2, 3] ?_
  refine WN (⟨i + 1, by omega⟩)
 ·apply zj
  apply zd
  have hend : i = l.length := by omega
  subst hend
  have hE := And.intro hE (show z0x l = sumN l l.length from rfl)
  apply zb
  apply zn
  apply z5
  refine WS [2] [2] ?_
  apply z9
  exact E0
set_option maxRecDepth 100000 in
set_option maxHeartbeats 2000000 in
theorem z9u (G) (hgk : G.lookup 1 = some (wsD kH)) (p : Nat) (hp : p ≤ 1000) (L : List EventM) (hL : ∀ e ∈ L, ju e) (hn : L.length ≤ 100000) : GivesX Tryz.prog G 14 [.ptr 1000 2 0 0] (arO p L) [.dat (y3 (j5 L p))] (arO p L) := by
 skip
 skip
 skip
 refine GX [] [23] [] Tryz.func14 Tryz.ntmps14 fun F hP hG hN hR hA => ?_
 have hE := And.intro @Tryz.results14 (And.intro @z7l (And.intro @qz (And.intro @Xb (And.intro @z6g (And.intro @Xm (And.intro @jn (And.intro @Zc (And.intro @zdw (@Nat.min_self)))))))))
 refine WS [0] [27, 1000, 1001, 1002] ?_
 apply z3
 refine WS [0, 7] [27, 1000, 1001, 1002] ?_
 refine WI ?_ ?_ <;> intro hb
 ·exact absurd hb (by simp)
 ·apply z6
  apply z5
  refine WS [0, 3] [27, 1000, 1001, 1002] ?_
  apply z3
  refine WS [0, 3, 11, 12, 13] [27, 1000, 1001, 1002] ?_
  apply z7
  refine xd 27 17 (by omega) ?_
  refine xy 3 27 17 rfl rfl ?_
  refine WL (ι := {i : Nat // i ≤ p}) [0, 11, 12] [26, 1000, 1001, 1002] (fun ⟨i, hi⟩ => [(3, .osl 27 17 0 i), (13, .dat (iD i))]) (fun ⟨i, hi⟩ => [(27, ⟨17, ((j5 L i).map Z1).map .dat⟩)]) (fun ⟨i, hi⟩ => p - i) (⟨0, by omega⟩) ?_
  rintro ⟨i, hi⟩
  refine LA ?_
  refine WS [0, 3, 11, 12, 13, 14] [26, 27, 1000, 1001, 1002] ?_
  apply z3
  refine WI ?_ ?_ <;> intro hb
  ·have hcg := y8 (L := L) (i := i) (p := p) (by omega)
   have hrw := Qm (l := qw p L) (i := i) (by rw [qz]; omega)
   rw [hcg] at hrw
   have hcl := X6 L (i : Int)
   have hln : (z0x (xz L (i : Int) (xh L (i : Int)))).length = 16 := Qr _ _
   have hE := And.intro hE (And.intro hrw (And.intro (zdv L i) hln))
   apply z6
   apply z5
   apply z3
   apply z7
   refine WS [0, 3, 4, 5, 11, 12, 13] [26, 27, 1000, 1001, 1002] ?_
   apply yp [0, 3, 11, 12, 13] [26, 27, 1000, 1001, 1002]
   ·refine RN ?_
    refine CX (fun i => i) [] (z15 G p L (i : Int) (xh L (i : Int)) (by omega)) ?_
    refine CU (zi5 G hgk (xz L (i : Int) (xh L (i : Int))) (z12 hL _ _) (by rw [w7]; omega)) ?_
    exact SC
   apply ze
   apply z5
   refine WQ [0, 3, 11, 12, 13] [26, 27, 1000, 1001, 1002] ?_
   refine WN (⟨i + 1, by omega⟩)
  ·apply zj
   apply zd
   have hend : i = p := by omega
   subst hend
   apply zb
   apply zn
   apply z5
   refine X3 27 hR.2.2.2 rfl (datE_map _) rfl ?_
   have htk : List.take i ((j5 L i).map Z1) = (j5 L i).map Z1 := List.take_of_length_le (by simp [Xb])
   simp (disch := omega) only [avA, zk, zo, seval, hE, htk]
   refine WS [2] [26, 27, 1000, 1001, 1002] ?_
   apply z9
   exact E0
def qk (p : Nat) : List EventM → List EventM → Nat → List EventM × Nat × Int
 | L, [], n => (L, n, 0)
 | L, c :: l, n => if (zr p L c).2.2 ≠ 0 then ((zr p L c).1, n, (zr p L c).2.2) else qk p (zr p L c).1 l (if (zr p L c).2.1 = true then n + 1 else n)
theorem zmq {p : Nat} {L : List EventM} {c : EventM} : ∀ e ∈ (zr p L c).1, e ∈ L ∨ e = c := by
 intro e he
 unfold zr at he
 (repeat' split at he) <;> first | exact .inl he | (rcases List.mem_append.1 he with h | h; exact .inl h; exact .inr (List.mem_singleton.1 h))
theorem zmp {p : Nat} {L : List EventM} {c : EventM} : (zr p L c).1.length ≤ L.length + 1 := by
 unfold zr
 (repeat' split) <;> simp
theorem z16 {α : Type} [Inhabited α] {l : List α} {i : Nat} (h : i < l.length) : l.drop i = l.getD i default :: l.drop (i + 1) := by
 rw [List.getD_eq_getElem?_getD, List.getElem?_eq_getElem h, Option.getD_some]
 exact List.drop_eq_getElem_cons h
def zcr (p : Nat) (L l : List EventM) (i : Nat) (M : List EventM) (n : Nat) : Prop := i ≤ l.length ∧ qk p L l 0 = qk p M (l.drop i) n ∧ (∀ e ∈ M, OkEv e) ∧ M.length ≤ L.length + i ∧ n ≤ i
set_option maxRecDepth 100000 in
set_option maxHeartbeats 2000000 in
theorem z1k (G) (p : Nat) (hp : p ≤ 1000) (L l : List EventM) (hL : ∀ e ∈ L, OkEv e) (hl : ∀ e ∈ l, OkEv e) (hn : L.length + l.length ≤ 100000) : GivesX Tryz.prog G 15 [.ptr 1000 2 0 0, .dat (zz l)] (arO p L) [.dat (iD (qk p L l 0).2.1), .dat (iD (qk p L l 0).2.2)] (arO p (qk p L l 0).1) := by
 skip
 skip
 skip
 refine GX [] [22] [] Tryz.func15 Tryz.ntmps15 fun F hP hG hN hR hA => ?_
 have hE := And.intro @Tryz.results15 (And.intro @z7l (And.intro @qz (And.intro @jn (And.intro @Zc (@Xm)))))
 refine WS [0, 1] [1000, 1001, 1002] ?_
 apply z3
 refine WS [0, 1, 12] [1000, 1001, 1002] ?_
 refine WI ?_ ?_ <;> intro hb
 ·exact absurd hb (by simp)
 ·apply z6
  apply z5
  refine WS [0, 1, 6] [1000, 1001, 1002] ?_
  apply z3
  refine WS [0, 6, 13, 14, 15] [1000, 1001, 1002] ?_
  apply z7
  refine WL (ι := {x : Nat × List EventM × Nat // zcr p L l x.1 x.2.1 x.2.2}) [0, 13, 14] [1000] (fun ⟨⟨i, M, n⟩, hx⟩ => [(15, .dat (iD i)), (6, .dat (iD n))]) (fun ⟨⟨i, M, n⟩, hx⟩ => [(1001, ⟨1, ((qw p M).map iD).map .dat⟩), (1002, ⟨0, [.tup [], .dat (.sl (X8 M)), .dat (.sl (M.map zc))]⟩)]) (fun ⟨⟨i, M, n⟩, hx⟩ => l.length - i) (⟨⟨0, L, 0⟩, ⟨Nat.zero_le _, by simp, hL, by simp, Nat.zero_le _⟩⟩) ?_
  rintro ⟨⟨i, M, n⟩, hx⟩
  refine LA ?_
  have hx2 : zcr p L l i M n := hx
  obtain ⟨hi, htk, hM, hMn, hni⟩ := hx2
  refine WS [0, 6, 13, 14, 15, 16] [1000, 1001, 1002] ?_
  apply z3
  refine WI ?_ ?_ <;> intro hb
  ·have hce := zt hl (i := i) (by omega)
   rw [z16 (by omega), qk] at htk
   apply z6
   apply z5
   apply z3
   apply z7
   refine WS [0, 6, 8, 13, 14, 15] [8, 1000, 1001, 1002] ?_
   apply zm [0, 6, 9, 10, 13, 14, 15] [1000, 1001, 1002]
   ·refine RN ?_
    refine CX (fun i => i) [] (zfj G p M (l.getD i default) hp hce hM (by omega)) ?_
    exact SC
   apply z3
   refine WS [0, 6, 9, 10, 13, 14, 15, 26] [1000, 1001, 1002] ?_
   refine WI ?_ ?_ <;> intro hb
   ·rw [if_pos (by simpa using hb)] at htk
    have hE := And.intro hE htk
    refine WS [4, 5] [1000, 1001, 1002] ?_
    apply z9
    apply za
    apply zf
    apply za
    apply zw
    apply zf
    apply za
    exact E0
   ·rw [if_neg (by simpa using hb)] at htk
    have hM2 : ∀ e ∈ (zr p M (l.getD i default)).1, OkEv e := fun e he => by
     rcases zmq e he with h | rfl
     ·exact hM e h
     ·exact hce
    have hln := zmp (p := p) (L := M) (c := l.getD i default)
    apply z6
    apply z5
    refine WS [0, 6, 13, 14, 15, 29] [1000, 1001, 1002] ?_
    refine WI ?_ ?_ <;> intro hb
    ·rw [if_pos (by simpa using hb)] at htk
     have hnx : zcr p L l (i + 1) (zr p M (l.getD i default)).1 (n + 1) := ⟨by omega, htk, hM2, by omega, by omega⟩
     refine WQ [0, 6, 13, 14, 15] [1000, 1001, 1002] ?_
     apply ze
     apply z5
     refine WQ [0, 6, 13, 14, 15] [1000, 1001, 1002] ?_
     refine WN (⟨⟨i + 1, (zr p M (l.getD i default)).1, n + 1⟩, hnx⟩)
    ·rw [if_neg (by simpa using hb)] at htk
     have hnx : zcr p L l (i + 1) (zr p M (l.getD i default)).1 n := ⟨by omega, htk, hM2, by omega, by omega⟩
     apply z6
     apply ze
     apply z5
     refine WQ [0, 6, 13, 14, 15] [1000, 1001, 1002] ?_
     refine WN (⟨⟨i + 1, (zr p M (l.getD i default)).1, n⟩, hnx⟩)
  ·apply zj
   apply zd
   have hie : i = l.length := by omega
   rw [List.drop_eq_nil_of_le (by omega), qk] at htk
   have hE := And.intro hE htk
   apply zb
   apply zn
   apply z5
   refine WS [4, 5] [1000, 1001, 1002] ?_
   apply z9
   exact E0
def we (L : List EventM) (p : Nat) (c : EventM) : EventM := { c with Seq := (xh L c.By : Int), Tick := clkN L p + 1 }
def kv (p : Nat) (c : EventM) : Bool := decide (c.By < 0) || decide ((p : Int) ≤ c.By)
def ww (p : Nat) (L : List EventM) (c : EventM) : List EventM × EventM × Int :=
 if kv p c = true then (L, default, 1)
 else if (zr p L (we L p c)).2.2 ≠ 0 then ((zr p L (we L p c)).1, default, (zr p L (we L p c)).2.2)
 else ((zr p L (we L p c)).1, we L p c, 0)
theorem zjb {L : List EventM} {p : Nat} {c : EventM} (h : OkEv c) (hL : L.length ≤ 100000) (hk : 0 ≤ clkN L p ∧ clkN L p ≤ 2000000) : OkEv (we L p c) := by
 have hc := X6 L c.By
 exact { h with seq := (by show I64 (xh L c.By : Int); unfold I64; omega), tick := (by show I64 (clkN L p + 1); unfold I64; omega) }
set_option maxRecDepth 100000 in
set_option maxHeartbeats 4000000 in
theorem z76 (G) (p : Nat) (hp : p ≤ 1000) (L : List EventM) (hL : ∀ e ∈ L, OkEv e) (hn : L.length ≤ 90000) (c : EventM) (hce : OkEv c) (hk : 0 ≤ clkN L p ∧ clkN L p ≤ 2000000) : GivesX Tryz.prog G 35 [.ptr 1000 2 0 0, .dat (zc c)] (arO p L) [.dat (zc (ww p L c).2.1), .dat (iD (ww p L c).2.2)] (arO p (ww p L c).1) := by
 have hnx := zjb (p := p) hce (by omega) hk
 skip
 skip
 skip
 refine GX [] [44] [] Tryz.func35 Tryz.ntmps35 fun F hP hG hN hR hA => ?_
 have hE := And.intro @Tryz.results35 (And.intro @z7l (And.intro @qz (And.intro @jn (And.intro @Zc (@Xm)))))
 refine WS [0, 3, 4] [3, 4, 1000, 1001, 1002] ?_
 apply z3
 refine wv (.of [(0, .ptr 1000 2 0 0), (3, .ptr 3 32 0 0), (4, .ptr 4 32 0 0), (24, .dat (bD (kv p c)))] [(3, ⟨32, [.dat (zc c)]⟩), (4, ⟨32, [zn1]⟩), (1000, ⟨2, [.agg [.osl 1001 1 0 p, .mp 1002]]⟩), (1001, ⟨1, ((qw p L).map iD).map .dat⟩), (1002, ⟨0, [.tup [], .dat (.sl (X8 L)), .dat (.sl (L.map zc))]⟩)]) ?_ ?_
 ·by_cases h0 : c.By < 0
  ·have hd0 : decide (c.By < 0) = true := by simpa using h0
   have hbb : kv p c = true := by unfold kv; rw [hd0]; rfl
   have hE := And.intro hE (And.intro hd0 hbb)
   refine X2 [0, 3, 4, 24] [3, 4, 1000, 1001, 1002] [(0, 8, _), (1, 9, .dat (bD false)), (2, 10, .dat (bD false)), (3, 11, _), (4, 12, _), (5, 13, .dat (bD true)), (6, 14, _), (7, 15, .dat (bD true)), (8, 16, .cond false .junk), (9, 17, .cond false .junk), (10, 18, .cond false .junk), (11, 19, .cond false .junk), (12, 20, .cond false .junk), (13, 21, .cond false .junk), (14, 22, .cond false .junk), (15, 23, .cond false (.dat (bD false))), (16, 24, _)] [] ⟨FV 0 [] [1, 2, 3, 4, 5, 6, 7, 8, 9, 10, 11, 12, 13, 14, 15, 16], FV 1 [0] [2, 3, 4, 5, 6, 7, 8, 9, 10, 11, 12, 13, 14, 15, 16], FV 2 [0, 1] [3, 4, 5, 6, 7, 8, 9, 10, 11, 12, 13, 14, 15, 16], FG 3 [0, 1, 2] [4, 5, 6, 7, 8, 9, 10, 11, 12, 13, 14, 15, 16], FG 4 [0, 1, 2, 3] [5, 6, 7, 8, 9, 10, 11, 12, 13, 14, 15, 16], FG 5 [0, 1, 2, 3, 4] [6, 7, 8, 9, 10, 11, 12, 13, 14, 15, 16], FV 6 [0, 1, 2, 3, 4, 5] [7, 8, 9, 10, 11, 12, 13, 14, 15, 16], FV 7 [0, 1, 2, 3, 4, 5, 6] [8, 9, 10, 11, 12, 13, 14, 15, 16], FO 8 [0, 1, 2, 3, 4, 5, 6, 7] [9, 15, 16], FO 9 [0, 1, 2, 3, 4, 5, 6, 7, 8] [15, 16], FO 10 [0, 1, 2, 3, 4, 5, 6, 7] [11, 12, 13, 14, 15, 16], FO 11 [0, 1, 2, 3, 4, 5, 6, 7, 10] [12, 13, 14, 15, 16], FO 12 [0, 1, 2, 3, 4, 5, 6, 7, 10, 11] [13, 14, 15, 16], FO 13 [0, 1, 2, 3, 4, 5, 6, 7, 10, 11, 12] [14, 15, 16], FO 14 [0, 1, 2, 3, 4, 5, 6, 7, 10, 11, 12, 13] [15, 16], FO 15 [0, 1, 2, 3, 4, 5, 6, 7, 8, 9, 10, 11, 12, 13, 14] [16], FV 16 [0, 1, 2, 3, 4, 5, 6, 7, 8, 9, 10, 11, 12, 13, 14, 15] [], trivial⟩ ?_
   exact ML
  ·have hd0 : decide (c.By < 0) = false := by simpa using h0
   have hbb : kv p c = decide ((p : Int) ≤ c.By) := by unfold kv; rw [hd0]; rfl
   have hE := And.intro hE (And.intro hd0 hbb)
   refine X2 [0, 3, 4, 24] [3, 4, 1000, 1001, 1002] [(0, 8, _), (1, 9, .dat (bD false)), (2, 10, .dat (bD false)), (3, 11, _), (4, 12, _), (5, 13, .dat (bD false)), (6, 14, _), (7, 15, .dat (bD false)), (8, 16, _), (9, 17, _), (10, 18, _), (11, 19, _), (12, 20, _), (13, 21, _), (14, 22, _), (15, 23, _), (16, 24, _)] [] ⟨FV 0 [] [1, 2, 3, 4, 5, 6, 7, 8, 9, 10, 11, 12, 13, 14, 15, 16], FV 1 [0] [2, 3, 4, 5, 6, 7, 8, 9, 10, 11, 12, 13, 14, 15, 16], FV 2 [0, 1] [3, 4, 5, 6, 7, 8, 9, 10, 11, 12, 13, 14, 15, 16], FG 3 [0, 1, 2] [4, 5, 6, 7, 8, 9, 10, 11, 12, 13, 14, 15, 16], FG 4 [0, 1, 2, 3] [5, 6, 7, 8, 9, 10, 11, 12, 13, 14, 15, 16], FG 5 [0, 1, 2, 3, 4] [6, 7, 8, 9, 10, 11, 12, 13, 14, 15, 16], FV 6 [0, 1, 2, 3, 4, 5] [7, 8, 9, 10, 11, 12, 13, 14, 15, 16], FV 7 [0, 1, 2, 3, 4, 5, 6] [8, 9, 10, 11, 12, 13, 14, 15, 16], FG 8 [0, 1, 2, 3, 4, 5, 6, 7] [9, 15, 16], FG 9 [0, 1, 2, 3, 4, 5, 6, 7, 8] [15, 16], FG 10 [0, 1, 2, 3, 4, 5, 6, 7] [11, 12, 13, 14, 15, 16], FG 11 [0, 1, 2, 3, 4, 5, 6, 7, 10] [12, 13, 14, 15, 16], FG 12 [0, 1, 2, 3, 4, 5, 6, 7, 10, 11] [13, 14, 15, 16], FG 13 [0, 1, 2, 3, 4, 5, 6, 7, 10, 11, 12] [14, 15, 16], FG 14 [0, 1, 2, 3, 4, 5, 6, 7, 10, 11, 12, 13] [15, 16], FG 15 [0, 1, 2, 3, 4, 5, 6, 7, 8, 9, 10, 11, 12, 13, 14] [16], FV 16 [0, 1, 2, 3, 4, 5, 6, 7, 8, 9, 10, 11, 12, 13, 14, 15] [], trivial⟩ ?_
   exact ML
 refine WI ?_ ?_ <;> intro hb
 ·have hv : ww p L c = (L, default, 1) := by unfold ww; rw [if_pos hb]
  have hE := And.intro hE hv
  refine WS [4, 5] [4, 1000, 1001, 1002] ?_
  apply z9
  apply za
  refine EN ?_
  all_goals try trivial
  all_goals first | exact ⟨_, rfl, rfl⟩ | exact .inl rfl | exact .inr ⟨_, rfl, rfl⟩
 ·have hnb : ¬ kv p c = true := by simpa using hb
  have hb2 : ¬ c.By < 0 ∧ ¬ (p : Int) ≤ c.By := by simpa [kv] using hb
  have hcg := y8 (L := L) (i := c.By.toNat) (p := p) (by omega)
  rw [show ((c.By.toNat : Nat) : Int) = c.By by omega] at hcg
  have hrw := Qm (l := qw p L) (i := c.By.toNat) (by rw [qz]; omega)
  rw [hcg] at hrw
  have hE := And.intro hE hrw
  apply z6
  apply z5
  have hc := gvF hP hG (zc0 G c hce)
  refine WSc [0, 3, 4] [3, 4, 1000, 1001, 1002] ?_
  refine WDF [0, 3, 4] [3, 4, 1000, 1001, 1002] [(0, 28, _), (1, 29, _), (2, 30, _), (3, 31, _), (4, 32, _), (5, 33, _), (6, 34, _), (7, 35, _), (8, 36, _), (9, 37, .dat (iD (clkN L p))), (10, 38, .dat (iD (clkN L p + 1))), (11, 39, _), (13, 40, _)] [(14, 3, some ⟨32, [.dat (zc (we L p c))]⟩), (12, 3, some ⟨32, [.dat (zc { c with Seq := (xh L c.By : Int) })]⟩)] ⟨FV 0 [] [1, 2, 3, 6, 7, 11, 12, 13, 14], FV 1 [0] [2, 3, 6, 7, 11, 12, 13, 14], FV 2 [0, 1] [3, 6, 7, 11, 12, 13, 14], FV 3 [0, 1, 2] [6, 7, 11, 12, 13, 14], FV 4 [] [5, 6, 7, 11, 12, 13, 14], FV 5 [4] [6, 7, 11, 12, 13, 14], FV 6 [0, 1, 2, 3, 4, 5] [7, 11, 12, 13, 14], FV 7 [0, 1, 2, 3, 4, 5, 6] [11, 12, 13, 14], FV 8 [] [9, 10, 12, 13, 14], (FVs 9 [8] [10, 12, 13, 14] (fun D hA1 hA2 => by simp only [x8, NoD] at hA1 hA2; exact v9 (m := fun i => i) rfl rfl (by rw [hN]; omega) EV' (z5k hP hG (z96 G p hp L (by omega))) EX' (vw hN EL' (by rfl)))), FV 10 [8, 9] [13, 14], FV 11 [0, 1, 2, 3, 4, 5, 6, 7] [12, 13, 14], FS 1 [0, 1, 2, 3, 4, 5, 6, 7, 8, 9, 11] [13, 14], FV 12 [0, 1, 2, 3, 4, 5, 6, 7, 8, 9, 10, 11, 12] [14], FS 0 [0, 1, 2, 3, 4, 5, 6, 7, 8, 9, 10, 11, 12, 13] [], trivial⟩ ?_
  apply z3
  apply zm [3, 4, 7] [3, 4, 1000, 1001, 1002]
  ·refine RN ?_
   refine CX (fun i => i) [] (zfj G p L (we L p c) hp hnx hL (by omega)) ?_
   exact SC
  refine WS [3, 4, 7, 48] [3, 4, 1000, 1001, 1002] ?_
  refine WI ?_ ?_ <;> intro hb
  ·have hv : ww p L c = ((zr p L (we L p c)).1, default, (zr p L (we L p c)).2.2) := by unfold ww; rw [if_neg hnb, if_pos (by simpa using hb)]
   have hE := And.intro hE hv
   refine WS [4, 5] [4, 1000, 1001, 1002] ?_
   apply z9
   apply za
   refine EN ?_
   all_goals try trivial
   all_goals first | exact ⟨_, rfl, rfl⟩ | exact .inl rfl | exact .inr ⟨_, rfl, rfl⟩
  ·have hv : ww p L c = ((zr p L (we L p c)).1, we L p c, 0) := by unfold ww; rw [if_neg hnb, if_neg (by simpa using hb)]
   have hE := And.intro hE hv
   apply z6
   apply z5
   refine WS [4, 5] [4, 1000, 1001, 1002] ?_
   apply z9
   refine EN ?_
   all_goals try trivial
   all_goals first | exact ⟨_, rfl, rfl⟩ | exact .inl rfl | exact .inr ⟨_, rfl, rfl⟩
def qg (L : List EventM) (n : Nat) : List EventM := (List.range n).flatMap fun b : Nat => xz L (b : Int) (xh L (b : Int))
theorem Qd (L : List EventM) (n : Nat) : qg L (n + 1) = qg L n ++ xz L (n : Int) (xh L (n : Int)) := by simp [qg, List.range_succ]
theorem z6j (L : List EventM) {i n : Nat} (h : i ≤ n) : (qg L i).length ≤ (qg L n).length := by
 induction n with
 | zero =>
  have : i = 0 := by omega
  rw [this]; exact Nat.le_refl _
 | succ n ih =>
  by_cases hi : i = n + 1
  ·rw [hi]; exact Nat.le_refl _
  ·have := ih (by omega)
   rw [Qd, List.length_append]
   omega
def z2f (A C : List EventM) (k : Nat) : List EventM := A ++ C.take k
theorem zaq (A C : List EventM) : z2f A C 0 = A := by simp [z2f]
theorem z7w {A C : List EventM} {k : Nat} (h : k ≤ C.length) : (z2f A C k).length = A.length + k := by simp [z2f]; omega
theorem zap {A C : List EventM} {k : Nat} (h : k ≤ C.length) : List.take (A.length + k) (z2f A C k) = z2f A C k := List.take_of_length_le (by rw [z7w h]; exact Nat.le_refl _)
theorem zao {A C : List EventM} {k : Nat} (h : k < C.length) : z2f A C (k + 1) = z2f A C k ++ [C.getD k default] := by rw [z2f, kc C h, ← List.append_assoc]; rfl
theorem zrn (G) (l : List EventM) (hn : l.length < 20) : GivesX Tryz.prog G 30 [.dat (zz l)] [] [.osl 5 32 0 l.length] [(5, ⟨32, ((qv l).map zc).map .dat⟩)] := by
 have hsl : (qv l).length = l.length := Qe l _
 skip
 skip
 skip
 refine GX [] [5, 7] [] Tryz.func30 Tryz.ntmps30 fun F hP hG hN hR hA => ?_
 have hE := And.intro @Tryz.results30 (@hsl)
 refine WS [0] [5] ?_
 apply zm [3] [5]
 ·refine RN ?_
  refine CX (fun _ => 5) [7] (z97 G l (by omega)) ?_
  exact SC
 apply zm [3] [5]
 ·refine RN ?_
  refine CX (fun _ => 5) [] (z1v G l hn) ?_
  exact SC
 refine WS [2] [5] ?_
 apply z9
 exact E0
set_option maxRecDepth 100000 in
set_option maxHeartbeats 2000000 in
theorem zgn (G) (p : Nat) (hp : p ≤ 1000) (L : List EventM) (hL : ∀ e ∈ L, ju e) (hn : L.length ≤ 100000) (h20 : (qg L p).length < 20) : GivesX Tryz.prog G 17 [.ptr 1000 2 0 0] (arO p L) [.osl 37 32 0 (qg L p).length] ((37, ⟨32, ((qv (qg L p)).map zc).map .dat⟩) :: arO p L) := by
 have hsl : (qv (qg L p)).length = (qg L p).length := Qe _ _
 skip
 skip
 skip
 refine GX [] [23, 37] [] Tryz.func17 Tryz.ntmps17 fun F hP hG hN hR hA => ?_
 have hE := And.intro @Tryz.results17 (And.intro @z7l (And.intro @qz (And.intro @hsl (And.intro @Xm (And.intro @jn (And.intro @Zc (@w7)))))))
 refine WS [0] [33, 37, 1000, 1001, 1002] ?_
 apply z3
 refine WS [0, 9] [33, 37, 1000, 1001, 1002] ?_
 refine WI ?_ ?_ <;> intro hb
 ·exact absurd hb (by simp)
 ·apply z6
  apply z5
  refine WS [0, 3] [32, 33, 37, 1000, 1001, 1002] ?_
  apply z3
  refine WS [0, 3, 13, 14, 15] [32, 33, 37, 1000, 1001, 1002] ?_
  apply z7
  refine xd 33 32 (by omega) ?_
  refine xy 3 33 32 rfl rfl ?_
  refine WL (ι := {i : Nat // i ≤ p}) [0, 13, 14] [32, 37, 1000, 1001, 1002] (fun ⟨i, hi⟩ => [(3, .osl 33 32 0 (qg L i).length), (15, .dat (iD i))]) (fun ⟨i, hi⟩ => [(33, ⟨32, ((qg L i).map zc).map .dat⟩)]) (fun ⟨i, hi⟩ => p - i) (⟨0, by omega⟩) ?_
  rintro ⟨i, hi⟩
  refine LA ?_
  refine WS [0, 3, 13, 14, 15, 16] [32, 33, 37, 1000, 1001, 1002] ?_
  apply z3
  refine WI ?_ ?_ <;> intro hb
  ·have hcg := y8 (L := L) (i := i) (p := p) (by omega)
   have hrw := Qm (l := qw p L) (i := i) (by rw [qz]; omega)
   rw [hcg] at hrw
   have hcl := X6 L (i : Int)
   have hm1 := z6j L (show i + 1 ≤ p by omega)
   rw [Qd, List.length_append, w7] at hm1
   have hE := And.intro hE hrw
   apply z6
   apply z5
   apply z3
   apply z7
   refine WS [0, 3, 4, 5, 13, 14, 15] [32, 33, 37, 1000, 1001, 1002] ?_
   apply zm [0, 3, 13, 14, 15, 23, 24, 25] [32, 33, 37, 1000, 1001, 1002]
   ·refine RN ?_
    refine CX (fun i => i) [] (z15 G p L (i : Int) (xh L (i : Int)) (by omega)) ?_
    exact SC
   have hlc := w7 L (i : Int) (xh L (i : Int))
   have hbc := z12 hL (i : Int) (xh L (i : Int))
   have hevs := Qd L i
   have htkc := z09 L (i : Int) (xh L (i : Int))
   generalize xz L (i : Int) (xh L (i : Int)) = C at hlc hbc hevs htkc ⊢
   apply z7
   have hE := And.intro hE (zaq (qg L i) C)
   refine WL (ι := {k : Nat // k ≤ xh L (i : Int)}) [0, 13, 14, 15, 23, 24] [32, 37, 1000, 1001, 1002] (fun ⟨k, hk⟩ => [(3, .osl 33 32 0 ((qg L i).length + k)), (25, .dat (iD k))]) (fun ⟨k, hk⟩ => [(33, ⟨32, ((z2f (qg L i) C k).map zc).map .dat⟩)]) (fun ⟨k, hk⟩ => xh L (i : Int) - k) (⟨0, by omega⟩) ?_
   rintro ⟨k, hk⟩
   refine LA ?_
   refine WS [0, 3, 13, 14, 15, 23, 24, 25, 26] [32, 33, 37, 1000, 1001, 1002] ?_
   apply z3
   refine WI ?_ ?_ <;> intro hb
   ·have hok := zt hbc (i := k) (by omega)
    have hrl := z7w (A := qg L i) (C := C) (k := k) (by omega)
    have hrt := zap (A := qg L i) (C := C) (k := k) (by omega)
    have hrs := zao (A := qg L i) (C := C) (k := k) (by omega)
    have hE := And.intro hE (And.intro hrl hrt)
    apply z6
    apply z5
    apply z3
    apply z7
    refine WS [0, 3, 7, 13, 14, 15, 23, 24, 25] [7, 32, 33, 37, 1000, 1001, 1002] ?_
    have hc := gvF hP hG (zc0 G (C.getD k default) hok.1)
    refine WQc [0, 3, 13, 14, 15, 23, 24, 25] [32, 33, 37, 1000, 1001, 1002] ?_
    apply ze
    apply z5
    have hE := And.intro hE hrs
    refine WQ [0, 3, 13, 14, 15, 23, 24, 25] [32, 33, 37, 1000, 1001, 1002] ?_
    refine WN (⟨k + 1, by omega⟩)
   ·apply zj
    apply zd
    have hend : k = xh L (i : Int) := by omega
    subst hend
    have hfull : z2f (qg L i) C (xh L (i : Int)) = qg L (i + 1) := by rw [hevs, z2f, htkc]
    have hll : (qg L (i + 1)).length = (qg L i).length + xh L (i : Int) := by rw [hevs, List.length_append, hlc]
    have hE := And.intro hE (And.intro hfull hll)
    apply zb
    apply zn
    apply ze
    apply z5
    refine WQ [0, 3, 13, 14, 15] [32, 33, 37, 1000, 1001, 1002] ?_
    refine WN (⟨i + 1, by omega⟩)
  ·apply zj
   apply zd
   have hend : i = p := by omega
   subst hend
   apply zb
   apply zn
   apply z5
   refine X3 33 hR.2.2.2 rfl (datE_map _) rfl ?_
   have htk : List.take (qg L i).length ((qg L i).map zc) = (qg L i).map zc := List.take_of_length_le (by simp)
   simp (disch := omega) only [avA, zk, zo, seval, hE, htk]
   apply zm [2] [33, 37, 1000, 1001, 1002]
   ·refine RN ?_
    refine CX (fun _ => 37) [5] (zrn G (qg L i) (by omega)) ?_
    exact SC
   apply z9
   exact E0
theorem zf0 (G) (l : List EventM) (n : NameM) (hl : l.length ≤ 1000) : zl Tryz.prog G 114 [zz l, zx n] [iD (wc l n)] := by
 skip
 skip
 refine GI [] [] [] Tryz.func114 Tryz.ntmps114 fun F hP hG hN hR hA => ?_
 have hE := And.intro @Tryz.results114 (@X7)
 refine WS [0, 3] [3] ?_
 apply z3
 refine WS [0, 3, 5] [3] ?_
 apply z7
 refine WL (ι := {i : Nat // i ≤ l.length ∧ ∀ j, j < i → jk n (l.getD j default) = false}) [0, 3] [3] (fun ⟨i, hif⟩ => [(5, .dat (iD i))]) (fun ⟨i, hif⟩ => []) (fun ⟨i, hif⟩ => l.length - i) (⟨0, by omega, Qk⟩) ?_
 rintro ⟨i, hif⟩
 refine LA ?_
 obtain ⟨hi, hf⟩ := id hif
 apply z3
 refine WS [0, 3, 5, 9] [3] ?_
 refine WI ?_ ?_ <;> intro hb
 ·apply z6
  apply z5
  apply z3
  apply z7
  apply w6 [0, 3, 5, 18] [3] [0, 1, 2, 3, 4, 5, 6] []
  ·rw [hP]; kernel_rfl
  ·exact hR
  ·kernel_rfl
  ·(repeat (apply PickL.cons; exact rfl)); exact PickL.nil _
  ·refine RN ?_
   refine CU (z3g G (l.getD i default)) ?_
   exact SC
  refine WI ?_ ?_ <;> intro hb
  ·have hv : wc l n = i := k7 (show i < l.length by omega) (by unfold jk qa; rw [hb.1, hb.2]; simp) hf
   have hE := And.intro hE hv
   refine WS [4] [] ?_
   apply z9
   apply zf
   apply za
   apply zw
   apply zf
   apply za
   exact E0
  ·have hnb : jk n (l.getD i default) = false := by unfold jk qa; grind
   apply z6
   apply ze
   apply z5
   refine WQ [0, 3, 5] [3] ?_
   refine WN (⟨i + 1, by omega, xa hif.2 hnb⟩)
 ·apply zj
  apply zd
  obtain rfl : i = l.length := by omega
  have hv : wc l n = -1 := jz hf
  have hE := And.intro hE hv
  apply zb
  apply zn
  apply z5
  refine WS [4] [] ?_
  apply z9
  exact E0
theorem zl0 (G) (e : EventM) (n : NameM) : zl Tryz.prog G 81 [zc e, .ref (zx n)] [bD (jk n e)] := by
 skip
 skip
 refine GI [] [] [] Tryz.func81 Tryz.ntmps81 fun F hP hG hN hR hA => ?_
 have hE := And.intro @Tryz.results81 (@X7)
 refine WS [1, 2] [2] ?_
 apply w6 [3] [] [0, 1, 2, 3, 4] []
 ·rw [hP]; kernel_rfl
 ·exact hR
 ·kernel_rfl
 ·(repeat (apply PickL.cons; exact rfl)); exact PickL.nil _
 ·refine RN ?_
  refine CU (Xh G e) ?_
  exact SC
 apply z9
 exact E0
theorem zkw (G) (l : List EventM) (g : FuncId) (c : Dat) (p : EventM → Bool) (hl : l.length ≤ 1000) (hg : ∀ e, zl Tryz.prog G g [zc e, c] [bD (p e)]) : zl Tryz.prog G 80 [zz l, .fn g [c]] [iD (jy p l)] := by
 skip
 refine vq [] [] [] Tryz.func80 rfl (by rfl) (by simp [Tryz.ntmps80]) fun F hP hG hN hR => ?_
 rw [Tryz.ntmps80] at hN
 have hA := And.intro hN (And.intro hP (And.intro hG (And.intro hR.1 (And.intro hR.2.1 hR.2.2.1))))
 have hE := @Tryz.results80
 refine WS [0, 1] [] ?_
 apply z3
 refine WS [0, 1, 7, 8] [] ?_
 apply z7
 refine WL (ι := {i : Nat // i ≤ l.length ∧ ∀ j, j < i → p (l.getD j default) = false}) [0, 1, 7] [] (fun ⟨i, hif⟩ => [(8, .dat (iD i))]) (fun ⟨i, hif⟩ => []) (fun ⟨i, hif⟩ => l.length - i) (⟨0, by omega, Qk⟩) ?_
 rintro ⟨i, hif⟩
 refine LA ?_
 obtain ⟨hi, hf⟩ := id hif
 refine WS [0, 1, 7, 8, 9] [] ?_
 apply z3
 refine WI ?_ ?_ <;> intro hb
 ·apply z6
  apply z5
  apply z3
  apply z7
  refine WS [0, 1, 5, 7, 8] [] ?_
  have hc := gvF hP hG (hg (l.getD i default))
  refine WSc [0, 1, 5, 7, 8, 16] [] ?_
  refine WI ?_ ?_ <;> intro hb
  ·have hv := k7 (show i < l.length by omega) hb hf
   have hE := And.intro hE hv
   refine WS [4] [] ?_
   apply z9
   apply zf
   apply za
   apply zw
   apply zf
   apply za
   exact E0
  ·apply z6
   apply ze
   apply z5
   refine WQ [0, 1, 7, 8] [] ?_
   refine WN (⟨i + 1, by omega, xa hif.2 hb⟩)
 ·apply zj
  apply zd
  obtain rfl : i = l.length := by omega
  have hv := jz hf
  have hE := And.intro hE hv
  apply zb
  apply zn
  apply z5
  refine WS [4] [] ?_
  apply z9
  exact E0
theorem ziu (G) (l : List EventM) (n : NameM) (hl : l.length ≤ 1000) : zl Tryz.prog G 33 [zz l, zx n] [iD (wc l n)] := by
 skip
 refine GI [] [] [] Tryz.func33 Tryz.ntmps33 fun F hP hG hN hR hA => ?_
 have hE := @Tryz.results33
 refine WS [0, 3] [3] ?_
 apply zm [4] []
 ·refine RN ?_
  (repeat' refine And.intro ?_ ?_) <;> try exact SD
  refine CallC.use (gvF hP hG (zkw G l 81 (.ref (zx n)) (jk n) hl (fun e => zl0 G e n))) (by simp only [qu, qh, q9, xn, qy, wy, xk, xq, xm, wx, xp, xr, w3, avA, zk, zo, seval, ↓List.forall_mem_cons, Op.operands, hE] <;> rfl) ?_
  try simp (maxSteps := 2000000) (disch := omega) only [wm, avA, zk, zo, seval, ↓List.forall_mem_cons, Op.operands, hA, tiA, hE]
  exact SC
 apply z9
 exact E0
def vf (h : List (Int × List Int)) (c : EventM) : Bool := decide (c.Seq < (h.getD c.By.toNat default).1)
def y5 (h : List (Int × List Int)) (l : List EventM) : List EventM := l.filter fun c => !vf h c
theorem z9v {α : Type} [Inhabited α] (p : α → Bool) (l : List α) : (jy p l = -1 ∧ ∀ x ∈ l, p x = false) ∨ ∃ k, k < l.length ∧ jy p l = k ∧ p (l.getD k default) = true ∧ ∀ j, j < k → p (l.getD j default) = false := by
 have e : ∀ j (h : j < l.length), l.getD j default = l[j] := fun j h => by rw [List.getD_eq_getElem?_getD, List.getElem?_eq_getElem h]; rfl
 by_cases h : l.findIdx p < l.length
 ·refine .inr ⟨l.findIdx p, h, by unfold jy; rw [if_pos h], ?_, fun (j : Nat) (hj : j < l.findIdx p) => ?_⟩
  ·rw [e _ h]; exact List.findIdx_getElem
  ·have hjl : j < l.length := Nat.lt_trans hj h
   rw [e j hjl]; simpa using List.not_of_lt_findIdx (p := p) hj
 ·refine .inl ⟨by unfold jy; rw [if_neg h], fun x hx => ?_⟩
  have := (List.findIdx_eq_length (p := p) (xs := l)).1 (Nat.le_antisymm List.findIdx_le_length (by omega)) x hx
  simpa using this
theorem zxb {l : List EventM} {i : Nat} {c : EventM} : ((l.map zc).map AV.dat).set i (.dat (zc c)) = ((l.set i c).map zc).map AV.dat := by rw [List.map_set, List.map_set]
def X1 (h : List (Int × List Int)) (l : List EventM) (j i : Nat) (R : List EventM) : Prop := j ≤ l.length ∧ R.length = l.length ∧ R.take i = y5 h (l.take j) ∧ R.drop j = l.drop j ∧ i ≤ j
theorem zsx {h : List (Int × List Int)} {l R : List EventM} {j i : Nat} (hd : X1 h l j i R) (hj : j < l.length) : R.getD j default = l.getD j default := by
 have h1 := congrArg (fun x : List EventM => x.getD 0 default) hd.2.2.2.1
 simpa [List.getD_eq_getElem?_getD, List.getElem?_drop] using h1
theorem z4a (h : List (Int × List Int)) {l : List EventM} {j : Nat} (hj : j < l.length) : y5 h (l.take (j + 1)) = y5 h (l.take j) ++ if vf h (l.getD j default) = true then [] else [l.getD j default] := by
 unfold y5
 rw [kc l hj, List.filter_append]
 cases hk : vf h (l.getD j default) <;> simp only [List.filter_cons, List.filter_nil, hk, Bool.not_true, Bool.not_false, if_true, Bool.false_eq_true, if_false]
theorem zdf {h : List (Int × List Int)} {l R : List EventM} {j i : Nat} (hd : X1 h l j i R) (hj : j < l.length) (hk : vf h (l.getD j default) = true) : X1 h l (j + 1) i R := by
 obtain ⟨h1, h2, h3, h4, h5⟩ := hd
 refine ⟨hj, h2, by rw [h3, z4a h hj, if_pos hk, List.append_nil], ?_, by omega⟩
 have := congrArg (List.drop 1) h4
 simpa [List.drop_drop, Nat.add_comm] using this
theorem zde {h : List (Int × List Int)} {l R : List EventM} {j i : Nat} (hd : X1 h l j i R) (hj : j < l.length) (hk : ¬ vf h (l.getD j default) = true) : X1 h l (j + 1) (i + 1) (R.set i (l.getD j default)) := by
 obtain ⟨h1, h2, h3, h4, h5⟩ := hd
 refine ⟨hj, by simp [h2], ?_, ?_, by omega⟩
 ·rw [z4a h hj, if_neg hk, ← h3]
  rw [List.take_succ_eq_append_getElem (by simp; omega)]
  rw [List.take_set_of_le (Nat.le_refl i)]
  simp
 ·rw [List.drop_set_of_lt (by omega)]
  have := congrArg (List.drop 1) h4
  simpa [List.drop_drop, Nat.add_comm] using this
theorem ze3 (G) (h : List (Int × List Int)) (hh : ∀ x ∈ h, x.2.length = 16) (c : EventM) (h0 : 0 ≤ c.By) (hn : c.By < h.length) : zl Tryz.prog G 53 [zc c, .ref (y3 h)] [bD (vf h c)] := by
 have h16 := zt hh (i := c.By.toNat) (by omega)
 skip
 refine GI [] [] [] Tryz.func53 Tryz.ntmps53 fun F hP hG hN hR hA => ?_
 have hE := @Tryz.results53
 refine WS [1, 2] [2] ?_
 refine WD [3] [] [0, 1, 2, 3, 4, 5, 6, 7, 8, 9] [] ?_
 apply z9
 simp only [kj, y6, vk, qq, qi, x5, vb, qh, q9, xn, qy, wy, xk, xq, xm, wx, xp, xr, w3, xx, avA, zk, zo, seval, ↓List.forall_mem_cons, Op.operands, hP, hG, tiA, hE, vf]
 all_goals try trivial
theorem ztf (G) (h : List (Int × List Int)) (hh : ∀ x ∈ h, x.2.length = 16) (l : List EventM) (hl : l.length ≤ 1000) (hbb : ∀ e ∈ l, 0 ≤ e.By ∧ e.By < h.length) : zl Tryz.prog G 80 [zz l, .fn 53 [.ref (y3 h)]] [iD (jy (vf h) l)] := by
 skip
 refine vq [] [] [] Tryz.func80 rfl (by rfl) (by simp [Tryz.ntmps80]) fun F hP hG hN hR => ?_
 rw [Tryz.ntmps80] at hN
 have hA := And.intro hN (And.intro hP (And.intro hG (And.intro hR.1 (And.intro hR.2.1 hR.2.2.1))))
 have hE := @Tryz.results80
 refine WS [0, 1] [] ?_
 apply z3
 refine WS [0, 1, 7, 8] [] ?_
 apply z7
 refine WL (ι := {i : Nat // i ≤ l.length ∧ ∀ j, j < i → vf h (l.getD j default) = false}) [0, 1, 7] [] (fun ⟨i, hif⟩ => [(8, .dat (iD i))]) (fun ⟨i, hif⟩ => []) (fun ⟨i, hif⟩ => l.length - i) (⟨0, by omega, Qk⟩) ?_
 rintro ⟨i, hif⟩
 refine LA ?_
 obtain ⟨hi, hf⟩ := id hif
 refine WS [0, 1, 7, 8, 9] [] ?_
 apply z3
 refine WI ?_ ?_ <;> intro hb
 ·have hbk := zt hbb (i := i) (by omega)
  apply z6
  apply z5
  apply z3
  apply z7
  refine WS [0, 1, 5, 7, 8] [] ?_
  apply zm [0, 1, 5, 7, 8, 16] []
  ·refine RN ?_
   (repeat' refine And.intro ?_ ?_) <;> try exact SD
   refine CallC.use (gvF hP hG (ze3 G h hh (l.getD i default) hbk.1 hbk.2)) (by simp only [qu, qh, q9, xn, qy, wy, xk, xq, xm, wx, xp, xr, w3, avA, zk, zo, seval, ↓List.forall_mem_cons, Op.operands, hE] <;> rfl) ?_
   try simp (maxSteps := 2000000) (disch := omega) only [wm, avA, zk, zo, seval, ↓List.forall_mem_cons, Op.operands, hA, tiA, hE]
   exact SC
  refine WI ?_ ?_ <;> intro hb
  ·have hv := k7 (show i < l.length by omega) hb hf
   have hE := And.intro hE hv
   refine WS [4] [] ?_
   apply z9
   apply zf
   apply za
   apply zw
   apply zf
   apply za
   exact E0
  ·apply z6
   apply ze
   apply z5
   refine WQ [0, 1, 7, 8] [] ?_
   refine WN (⟨i + 1, by omega, xa hif.2 hb⟩)
 ·apply zj
  apply zd
  obtain rfl : i = l.length := by omega
  have hv := jz hf
  have hE := And.intro hE hv
  apply zb
  apply zn
  apply z5
  refine WS [4] [] ?_
  apply z9
  exact E0
theorem zak : ∀ (l : List Dat) {m m' : List AV}, jo m = some m' → jo (l.map .dat ++ m) = some (l.map .dat ++ m')
 | [], _, _, h => h
 | d :: l, m, m', h => by simp only [List.map_cons, List.cons_append, jo, z1s, zak l h]
theorem zrb : z1s zn1 = some (.dat (zc default)) := by kernel_rfl
theorem zj6 (h : List (Int × List Int)) (l : List EventM) : (y5 h l).length ≤ l.length := List.length_filter_le _ _
theorem ze1 {h : List (Int × List Int)} {l : List EventM} (hno : ∀ x ∈ l, vf h x = false) : y5 h l = l := List.filter_eq_self.2 fun x hx => by simp [hno x hx]
theorem zkg {h : List (Int × List Int)} {l : List EventM} {k : Nat} (hk : k < l.length) (hk1 : vf h (l.getD k default) = true) (hk2 : ∀ j, j < k → vf h (l.getD j default) = false) : X1 h l (k + 1) k l := by
 refine ⟨hk, rfl, ?_, rfl, by omega⟩
 rw [z4a h hk, if_pos hk1, List.append_nil]
 have : ∀ x ∈ l.take k, vf h x = false := fun x hx => by
  obtain ⟨j, hj, rfl⟩ := List.getElem_of_mem hx
  have hj' : j < k := by simp at hj; omega
  have := hk2 j hj'
  rw [List.getD_eq_getElem?_getD, List.getElem?_eq_getElem (by omega)] at this
  simpa using this
 exact (ze1 this).symm
theorem zsw {h : List (Int × List Int)} {l R : List EventM} {i : Nat} (hd : X1 h l l.length i R) : R.take i = y5 h l ∧ i = (y5 h l).length := by
 obtain ⟨h1, h2, h3, h4, h5⟩ := hd
 rw [List.take_length] at h3
 exact ⟨h3, by rw [← h3, List.length_take]; omega⟩
theorem zwo {h : List (Int × List Int)} {l : List EventM} (hi : jy (vf h) l = -1) : y5 h l = l := by
 rcases z9v (vf h) l with ⟨_, hno⟩ | ⟨k, _, h1, _⟩
 ·exact ze1 hno
 ·omega
theorem ztg {h : List (Int × List Int)} {l : List EventM} (hi : ¬ jy (vf h) l = -1) : ∃ k, k < l.length ∧ jy (vf h) l = k ∧ X1 h l (k + 1) k l := by
 rcases z9v (vf h) l with ⟨h1, _⟩ | ⟨k, hk, h1, h2, h3⟩
 ·exact absurd h1 hi
 ·exact ⟨k, hk, h1, zkg hk h2 h3⟩
theorem zmr (R : List EventM) : List.take R.length (R.map zc) = R.map zc := List.take_of_length_le (by simp)
set_option maxRecDepth 100000 in
set_option maxHeartbeats 2000000 in
theorem zsz (G) (h : List (Int × List Int)) (hh : ∀ x ∈ h, x.2.length = 16) (l : List EventM) (hl : l.length ≤ 1000) (hbb : ∀ e ∈ l, 0 ≤ e.By ∧ e.By < h.length) : GivesX Tryz.prog G 54 [.osl 1000 32 0 l.length, .fn 53 [.rp (y3 h) 0]] [(1000, ⟨32, (l.map zc).map .dat⟩)] [.osl 1000 32 0 (y5 h l).length] [(1000, ⟨32, ((y5 h l ++ List.replicate (l.length - (y5 h l).length) default).map zc).map .dat⟩)] := by
 have htk : List.take l.length (l.map zc) = l.map zc := List.take_of_length_le (by simp)
 have hkl := zj6 h l
 skip
 skip
 skip
 refine GX [] [] [] Tryz.func54 Tryz.ntmps54 fun F hP hG hN hR hA => ?_
 have hE := And.intro @Tryz.results54 (And.intro @htk (And.intro @zxb (And.intro @Nat.sub_zero (And.intro (@List.map_append EventM Dat zc) ((@List.map_append Dat AV .dat))))))
 refine WS [0, 1] [1000] ?_
 apply zm [0, 1, 5] [1000]
 ·refine RN ?_
  (repeat' refine And.intro ?_ ?_) <;> try exact SD
  refine CallC.use (gvF hP hG (ztf G h hh l hl hbb)) (by simp only [qu, qh, q9, xn, qy, wy, xk, xq, xm, wx, xp, xr, w3, avA, zk, zo, seval, ↓List.forall_mem_cons, Op.operands, hE] <;> rfl) ?_
  try simp (maxSteps := 2000000) (disch := omega) only [wm, avA, zk, zo, seval, ↓List.forall_mem_cons, Op.operands, hA, tiA, hE]
  exact SC
 apply z3
 refine WS [0, 1, 5, 12] [1000] ?_
 refine WI ?_ ?_ <;> intro hb
 ·have hkp := zwo hb
  have hE := And.intro hE (And.intro hb (And.intro hkp (And.intro (Nat.sub_self l.length) (@List.append_nil EventM l))))
  refine WS [4] [1000] ?_
  apply z9
  apply za
  exact E0
 ·apply z6
  apply z5
  apply z3
  obtain ⟨k, hk, hi1, hd0⟩ := ztg hb
  have hE := And.intro hE hi1
  refine WS [0, 1, 5, 6] [1000] ?_
  apply z7
  refine WL (ι := {s : List EventM × Nat × Nat // X1 h l s.2.1 s.2.2 s.1}) [0, 1] [] (fun ⟨⟨R, j, i⟩, hd⟩ => [(5, .dat (iD i)), (6, .dat (iD j))]) (fun ⟨⟨R, j, i⟩, hd⟩ => [(1000, ⟨32, (R.map zc).map .dat⟩)]) (fun ⟨⟨R, j, i⟩, hd⟩ => l.length - j) (⟨(l, k + 1, k), hd0⟩) ?_
  rintro ⟨⟨R, j, i⟩, hd⟩
  refine LA ?_
  dsimp only at hd ⊢
  obtain ⟨hj, hRl, hR3, hR4, hij⟩ := id hd
  have hRg := zmr R
  have hE := And.intro hE (And.intro hRl hRg)
  apply z3
  refine WS [0, 1, 5, 6, 19] [1000] ?_
  refine WI ?_ ?_ <;> intro hb
  ·have hjl : j < l.length := by omega
   have hgt := zsx hd hjl
   have hbk := zt hbb (i := j) hjl
   have hE := And.intro hE hgt
   apply z6
   apply z5
   apply z3
   apply z7
   refine WS [0, 1, 5, 6, 7] [7, 1000] ?_
   have hc := gvF hP hG (ze3 G h hh (l.getD j default) hbk.1 hbk.2)
   refine WSc [0, 1, 5, 6, 7, 29] [7, 1000] ?_
   refine WI ?_ ?_ <;> intro hb
   ·have hkk : ¬ vf h (l.getD j default) = true := by simpa using hb
    refine WS [0, 1, 5, 6] [1000] ?_
    refine WQ [0, 1, 5, 6] [1000] ?_
    apply ze
    apply z5
    refine WQ [0, 1, 5, 6] [1000] ?_
    refine WN (⟨(_, _, _), (by first | exact zde hd hjl hkk | exact zdf hd hjl hkk)⟩)
   ·have hkk : vf h (l.getD j default) = true := by simpa using hb
    apply z6
    apply ze
    apply z5
    refine WQ [0, 1, 5, 6] [1000] ?_
    refine WN (⟨(_, _, _), (by first | exact zde hd hjl hkk | exact zdf hd hjl hkk)⟩)
  ·apply zj
   apply zd
   obtain rfl : j = l.length := by omega
   obtain ⟨hRt, hi⟩ := zsw hd
   subst hi
   have hE := And.intro hE hRt
   apply zb
   apply zn
   apply z5
   refine wp ?_
   apply wz
   ·(iterate 3 apply Seg.cons); exact Seg.nil _
   ·refine RK ?_
    exact SC
   refine yi rfl (znt rfl rfl (by rw [hP]; exact ti23) rfl (by rw [hP]; exact ti42) rfl rfl rfl rfl rfl rfl rfl (by simp; omega)) ?_
   simp only [avA, seval]
   apply wg [0, 5] [1000]
   ·refine RN ?_
    exact SC
   refine zii 1000 (l' := ((y5 h l ++ List.replicate (l.length - (y5 h l).length) default).map zc).map .dat) rfl (by have := zak ((y5 h l).map zc) (zam zrb (l.length - (y5 h l).length)); simpa [List.map_append, List.map_replicate] using this) ?_
   refine WS [4] [1000] ?_
   apply z9
   exact E0
def z1n (h : Int × List Int) : Bool := decide (h.1 < 0) || decide (64 < h.1)
def z55 (L : List EventM) (h : List (Int × List Int)) (i : Nat) : Bool := decide ((h.getD i default).1 ≤ xh L (i : Int)) && !(z0x (xz L (i : Int) (h.getD i default).1.toNat) == (h.getD i default).2)
def z0z (p : Nat) (L : List EventM) (h : List (Int × List Int)) : List EventM × Int :=
 if h.length ≠ p then ([], 1) else if h.any z1n = true then ([], 1) else if (List.range p).any (z55 L h) = true then ([], 9) else (y5 h (qv (qg L p)), 0)
theorem zsi (G) (h : Int × List Int) (hh : h.2.length = 16) : zl Tryz.prog G 50 [Z1 h] [bD (z1n h)] := by
 skip
 refine GI [] [] [] Tryz.func50 Tryz.ntmps50 fun F hP hG hN hR hA => ?_
 have hE := @Tryz.results50
 refine WS [1] [1] ?_
 refine wv (.of [(2, .dat (bD (z1n h)))] []) ?_ ?_
 ·by_cases h0 : h.1 < 0
  ·have hd0 : decide (h.1 < 0) = true := by simpa using h0
   have hbb : z1n h = true := by unfold z1n; rw [hd0]; rfl
   have hE := And.intro hE (And.intro hd0 hbb)
   refine Za [2] [] [(0, 3, _), (1, 4, _), (2, 5, .dat (bD true)), (3, 6, .dat (bD true)), (4, 7, .cond false .junk), (5, 8, .cond false .junk), (6, 9, .cond false (.dat (bD false))), (7, 10, .dat (bD true)), (8, 2, _)] [] ⟨FV 0 [] [1, 2, 3, 4, 5, 6, 7, 8], FV 1 [0] [2, 3, 4, 5, 6, 7, 8], FV 2 [0, 1] [3, 4, 5, 6, 7, 8], FV 3 [0, 1, 2] [4, 5, 6, 7, 8], FO 4 [0, 1, 2, 3] [5, 6, 7, 8], FO 5 [0, 1, 2, 3, 4] [6, 7, 8], FO 6 [0, 1, 2, 3, 4, 5] [7, 8], FV 7 [0, 1, 2, 3, 4, 5, 6] [8], FV 8 [0, 1, 2, 3, 4, 5, 6, 7] [], trivial⟩ ?_
   exact ML
  ·have hd0 : decide (h.1 < 0) = false := by simpa using h0
   have hbb : z1n h = decide (64 < h.1) := by unfold z1n; rw [hd0]; rfl
   have hE := And.intro hE (And.intro hd0 hbb)
   refine Za [2] [] [(0, 3, _), (1, 4, _), (2, 5, .dat (bD false)), (3, 6, .dat (bD false)), (4, 7, _), (5, 8, _), (6, 9, _), (7, 10, _), (8, 2, _)] [] ⟨FV 0 [] [1, 2, 3, 4, 5, 6, 7, 8], FV 1 [0] [2, 3, 4, 5, 6, 7, 8], FV 2 [0, 1] [3, 4, 5, 6, 7, 8], FV 3 [0, 1, 2] [4, 5, 6, 7, 8], FG 4 [0, 1, 2, 3] [5, 6, 7, 8], FG 5 [0, 1, 2, 3, 4] [6, 7, 8], FG 6 [0, 1, 2, 3, 4, 5] [7, 8], FV 7 [0, 1, 2, 3, 4, 5, 6] [8], FV 8 [0, 1, 2, 3, 4, 5, 6, 7] [], trivial⟩ ?_
   exact ML
 apply z9
 exact E0
theorem zte (G) (h : List (Int × List Int)) (hh : ∀ x ∈ h, x.2.length = 16) (hl : h.length ≤ 1000) : zl Tryz.prog G 93 [y3 h, .fn 50 []] [iD (jy z1n h)] := by
 skip
 refine vq [] [] [] Tryz.func93 rfl (by rfl) (by simp [Tryz.ntmps93]) fun F hP hG hN hR => ?_
 rw [Tryz.ntmps93] at hN
 have hA := And.intro hN (And.intro hP (And.intro hG (And.intro hR.1 (And.intro hR.2.1 hR.2.2.1))))
 have hE := @Tryz.results93
 refine WS [0, 1] [] ?_
 apply z3
 refine WS [0, 1, 7, 8] [] ?_
 apply z7
 refine WL (ι := {i : Nat // i ≤ h.length ∧ ∀ j, j < i → z1n (h.getD j default) = false}) [0, 1, 7] [] (fun ⟨i, hif⟩ => [(8, .dat (iD i))]) (fun ⟨i, hif⟩ => []) (fun ⟨i, hif⟩ => h.length - i) (⟨0, by omega, Qk⟩) ?_
 rintro ⟨i, hif⟩
 refine LA ?_
 obtain ⟨hi, hf⟩ := id hif
 refine WS [0, 1, 7, 8, 9] [] ?_
 apply z3
 refine WI ?_ ?_ <;> intro hb
 ·have hbk := zt hh (i := i) (by omega)
  have hE := And.intro hE hbk
  apply z6
  apply z5
  apply z3
  apply z7
  refine WS [0, 1, 5, 7, 8] [] ?_
  have hc := gvF hP hG (zsi G (h.getD i default) hbk)
  refine WSc [0, 1, 5, 7, 8, 16] [] ?_
  refine WI ?_ ?_ <;> intro hb
  ·have hv := k7 (show i < h.length by omega) hb hf
   have hE := And.intro hE hv
   refine WS [4] [] ?_
   apply z9
   apply zf
   apply za
   apply zw
   apply zf
   apply za
   exact E0
  ·apply z6
   apply ze
   apply z5
   refine WQ [0, 1, 7, 8] [] ?_
   refine WN (⟨i + 1, by omega, xa hif.2 hb⟩)
 ·apply zj
  apply zd
  obtain rfl : i = h.length := by omega
  have hv := jz hf
  have hE := And.intro hE hv
  apply zb
  apply zn
  apply z5
  refine WS [4] [] ?_
  apply z9
  exact E0
theorem zta (G) (h : List (Int × List Int)) (hh : ∀ x ∈ h, x.2.length = 16) (hl : h.length ≤ 1000) : zl Tryz.prog G 49 [y3 h, .fn 50 []] [bD (h.any z1n)] := by
 have hia : decide (0 ≤ jy z1n h) = h.any z1n := by rw [Bool.eq_iff_iff, decide_eq_true_eq]; exact jb
 skip
 skip
 refine vq [] [] [] Tryz.func49 rfl (by rfl) (by simp [Tryz.ntmps49]) fun F hP hG hN hR => ?_
 rw [Tryz.ntmps49] at hN
 have hA := And.intro hN (And.intro hP (And.intro hG (And.intro hR.1 (And.intro hR.2.1 hR.2.2.1))))
 have hE := And.intro @Tryz.results49 (@hia)
 refine WS [0, 1] [] ?_
 have hc := gvF hP hG (zte G h hh hl)
 refine WSc [4] [] ?_
 apply z9
 exact E0
theorem zsy (G) (h : List (Int × List Int)) (hh : ∀ x ∈ h, x.2.length = 16) (l : List EventM) (n : Nat) (hn : l.length = n) (hl : l.length ≤ 1000) (hbb : ∀ e ∈ l, 0 ≤ e.By ∧ e.By < h.length) : GivesX Tryz.prog G 54 [.osl 1000 32 0 n, .fn 53 [.rp (y3 h) 0]] [(1000, ⟨32, (l.map zc).map .dat⟩)] [.osl 1000 32 0 (y5 h l).length] [(1000, ⟨32, ((y5 h l ++ List.replicate (l.length - (y5 h l).length) default).map zc).map .dat⟩)] := hn ▸ zsz G h hh l hl hbb
theorem zo4 (A B : List Dat) : vz (A.map .dat ++ B.map .dat) = some (A ++ B) := by rw [← List.map_append, datE_map]
theorem zvi (l : List Int) : zk ((l.map u8D).map AV.dat) = some (l.map u8D) := z6g l
theorem zct {p : Nat → Bool} {i : Nat} (h : ∀ j, j < i → p j = false) (hb : ¬ p i = true) : ∀ j, j < i + 1 → p j = false := fun j hj => by
 rcases Nat.lt_succ_iff_lt_or_eq.1 hj with h1 | rfl
 ·exact h j h1
 ·simpa using hb
theorem zww {h : List (Int × List Int)} (hn : ¬ h.any z1n = true) {i : Nat} (hi : i < h.length) : 0 ≤ (h.getD i default).1 ∧ (h.getD i default).1 ≤ 64 := by
 have h1 : z1n (h.getD i default) = false := by
  rw [List.getD_eq_getElem?_getD, List.getElem?_eq_getElem hi, Option.getD_some]
  have := List.any_eq_false.1 (by simpa using hn) _ (List.getElem_mem hi)
  simpa using this
 unfold z1n at h1
 simp only [Bool.or_eq_false_iff, decide_eq_false_iff_not] at h1
 omega
set_option maxRecDepth 100000 in
set_option maxHeartbeats 4000000 in
theorem zs3 (G) (hgk : G.lookup 1 = some (wsD kH)) (p : Nat) (hp : p ≤ 1000) (L : List EventM) (hL : ∀ e ∈ L, ju e) (hn : L.length ≤ 100000) (h20 : (qg L p).length < 20) (hby : ∀ e ∈ qg L p, 0 ≤ e.By ∧ e.By < p) (h : List (Int × List Int)) (hh : ∀ x ∈ h, x.2.length = 16) (hhl : h.length ≤ 1000) : GivesX Tryz.prog G 13 [.ptr 1000 2 0 0, .dat (y3 h)] (arO p L) [.dat (zz (z0z p L h).1), .dat (iD (z0z p L h).2)] (arO p L) := by
 skip
 skip
 skip
 refine GX [] [45, 54, 56] [] Tryz.func13 Tryz.ntmps13 fun F hP hG hN hR hA => ?_
 have hE := And.intro @Tryz.results13 (And.intro @z7l (And.intro @qz (And.intro @jn (And.intro @Zc (And.intro @Xm (And.intro @zio (And.intro @zbs (@zvi))))))))
 refine WS [0, 3] [3, 37, 1000, 1001, 1002] ?_
 apply z3
 refine X3 3 hR.2.2.2 rfl rfl rfl ?_
 simp (disch := omega) only [avA, zk, zo, seval, hE]
 refine WDF [0, 3, 20] [3, 37, 1000, 1001, 1002] [(0, 9, _), (1, 10, .dat (bD false)), (2, 11, .dat (bD false)), (3, 12, _), (4, 13, _), (5, 14, _), (6, 15, _), (7, 16, _), (8, 17, _), (9, 18, _), (10, 19, _), (11, 20, _)] [] ⟨FV 0 [] [1, 2, 3, 4, 5, 6, 7, 8, 9, 10, 11], FV 1 [0] [2, 3, 4, 5, 6, 7, 8, 9, 10, 11], FV 2 [0, 1] [3, 4, 5, 6, 7, 8, 9, 10, 11], FG 3 [0, 1, 2] [4, 10, 11], FG 4 [0, 1, 2, 3] [10, 11], FG 5 [0, 1, 2] [6, 7, 8, 9, 10, 11], FG 6 [0, 1, 2, 5] [7, 8, 9, 10, 11], FG 7 [0, 1, 2, 5, 6] [8, 9, 10, 11], FG 8 [0, 1, 2, 5, 6, 7] [9, 10, 11], FG 9 [0, 1, 2, 5, 6, 7, 8] [10, 11], FG 10 [0, 1, 2, 3, 4, 5, 6, 7, 8, 9] [11], FV 11 [0, 1, 2, 3, 4, 5, 6, 7, 8, 9, 10] [], trivial⟩ ?_
 refine WI ?_ ?_ <;> intro hb
 ·have hv : z0z p L h = ([], 1) := by unfold z0z; rw [if_pos (by omega)]
  have hE := And.intro hE hv
  refine WS [4, 5] [37, 1000, 1001, 1002] ?_
  apply z9
  apply za
  refine EN ?_
  all_goals try trivial
  all_goals first | exact ⟨_, rfl, rfl⟩ | exact .inl rfl | exact .inr ⟨_, rfl, rfl⟩
 ·have hlp : h.length = p := by omega
  apply z6
  apply z5
  apply z3
  have hc := gvF hP hG (zta G h hh hhl)
  refine WSc [0, 3, 22] [3, 37, 1000, 1001, 1002] ?_
  refine WI ?_ ?_ <;> intro hb
  ·have hv : z0z p L h = ([], 1) := by unfold z0z; rw [if_neg (by omega), if_pos hb]
   have hE := And.intro hE hv
   refine WS [4, 5] [37, 1000, 1001, 1002] ?_
   apply z9
   apply za
   refine EN ?_
   all_goals try trivial
   all_goals first | exact ⟨_, rfl, rfl⟩ | exact .inl rfl | exact .inr ⟨_, rfl, rfl⟩
  ·have hnb : ¬ h.any z1n = true := by simpa using hb
   apply z6
   apply z5
   apply z3
   refine WS [0, 3, 23, 24, 25] [3, 37, 1000, 1001, 1002] ?_
   apply z7
   refine WL (ι := {i : Nat // i ≤ p ∧ ∀ j, j < i → z55 L h j = false}) [0, 3, 23, 24] [3, 37, 1000, 1001, 1002] (fun ⟨i, hif⟩ => [(25, .dat (iD i))]) (fun ⟨i, hif⟩ => []) (fun ⟨i, hif⟩ => p - i) (⟨0, by omega, fun j hj => absurd hj (Nat.not_lt_zero j)⟩) ?_
   rintro ⟨i, hif⟩
   refine LA ?_
   obtain ⟨hi, hf⟩ := id hif
   refine WS [0, 3, 23, 24, 25, 26] [3, 37, 1000, 1001, 1002] ?_
   apply z3
   refine WI ?_ ?_ <;> intro hb
   ·have h16 := zt hh (i := i) (by omega)
    have hb64 := zww hnb (i := i) (by omega)
    obtain ⟨n0, hn0⟩ : ∃ n : Nat, (h.getD i default).1 = (n : Int) := ⟨(h.getD i default).1.toNat, by omega⟩
    have hcg := y8 (L := L) (i := i) (p := p) (by omega)
    have hrw := Qm (l := qw p L) (i := i) (by rw [qz]; omega)
    rw [hcg] at hrw
    have ht16 : List.take 16 ((h.getD i default).2.map u8D) = (h.getD i default).2.map u8D := List.take_of_length_le (by simp only [List.length_map]; omega)
    have ht17 : List.take 16 (((h.getD i default).2.map u8D).map AV.dat) = ((h.getD i default).2.map u8D).map AV.dat := List.take_of_length_le (by simp only [List.length_map]; omega)
    have hE := And.intro hE (And.intro hrw (And.intro h16 (And.intro hn0 (And.intro ht16 ht17))))
    apply z6
    apply z5
    apply z3
    apply z7
    refine WS [0, 3, 6, 7, 23, 24, 25] [3, 7, 37, 1000, 1001, 1002] ?_
    refine wv (.of [(0, .ptr 1000 2 0 0), (3, .rp (y3 h) 0), (23, .dat (y3 h)), (24, .dat (iD h.length)), (25, .dat (iD i)), (50, .dat (bD (z55 L h i)))] [(1000, ⟨2, [.agg [.osl 1001 1 0 p, .mp 1002]]⟩), (1001, ⟨1, ((qw p L).map iD).map .dat⟩), (1002, ⟨0, [.tup [], .dat (.sl (X8 L)), .dat (.sl (L.map zc))]⟩)]) ?_ ?_
    ·by_cases h0 : (n0 : Int) ≤ xh L (i : Int)
     ·have hd0 : decide ((n0 : Int) ≤ xh L (i : Int)) = true := by simpa using h0
      have hbb : z55 L h i = !(z0x (xz L (i : Int) n0) == (h.getD i default).2) := by unfold z55; rw [hn0, hd0, Int.toNat_natCast]; rfl
      have hln := w7 L (i : Int) n0
      have hE := And.intro hE (And.intro hd0 hbb)
      refine X2 [0, 3, 23, 24, 25, 50] [3, 37, 1000, 1001, 1002] [(0, 30, _), (1, 31, .dat (iD (n0 : Int))), (2, 32, _), (3, 33, _), (4, 34, _), (5, 35, _), (6, 36, _), (7, 37, _), (8, 38, _), (9, 39, .dat (bD true)), (10, 40, .dat (bD true)), (11, 41, _), (12, 42, _), (13, 43, _), (14, 44, _), (15, 45, .dat (zz (xz L (i : Int) n0))), (16, 46, .dat (bsD (z0x (xz L (i : Int) n0)))), (17, 47, _), (18, 48, .dat (bsD (h.getD i default).2)), (19, 49, .dat (bD (!(z0x (xz L (i : Int) n0) == (h.getD i default).2)))), (20, 50, .dat (bD (!(z0x (xz L (i : Int) n0) == (h.getD i default).2))))] [] ⟨FV 0 [] [1, 9, 10, 11, 12, 13, 14, 15, 16, 17, 18, 19, 20], FV 1 [0] [9, 10, 11, 12, 13, 14, 15, 16, 17, 18, 19, 20], FV 2 [] [3, 4, 5, 7, 8, 9, 10, 11, 12, 13, 14, 15, 16, 17, 18, 19, 20], FV 3 [2] [4, 5, 7, 8, 9, 10, 11, 12, 13, 14, 15, 16, 17, 18, 19, 20], FV 4 [2, 3] [5, 7, 8, 9, 10, 11, 12, 13, 14, 15, 16, 17, 18, 19, 20], FV 5 [2, 3, 4] [7, 8, 9, 10, 11, 12, 13, 14, 15, 16, 17, 18, 19, 20], FV 6 [] [7, 8, 9, 10, 11, 12, 13, 14, 15, 16, 17, 18, 19, 20], FV 7 [2, 3, 4, 5, 6] [8, 9, 10, 11, 12, 13, 14, 15, 16, 17, 18, 19, 20], FV 8 [2, 3, 4, 5, 6, 7] [9, 10, 11, 12, 13, 14, 15, 16, 17, 18, 19, 20], FV 9 [0, 1, 2, 3, 4, 5, 6, 7, 8] [10, 11, 12, 13, 14, 15, 16, 17, 18, 19, 20], FV 10 [0, 1, 2, 3, 4, 5, 6, 7, 8, 9] [11, 12, 13, 14, 15, 16, 17, 18, 19, 20], FG 11 [0, 1, 2, 3, 4, 5, 6, 7, 8, 9, 10] [15, 16, 19, 20], FG 12 [0, 1, 2, 3, 4, 5, 6, 7, 8, 9, 10] [15, 16, 19, 20], FG 13 [0, 1, 2, 3, 4, 5, 6, 7, 8, 9, 10] [14, 15, 16, 19, 20], FG 14 [0, 1, 2, 3, 4, 5, 6, 7, 8, 9, 10, 13] [15, 16, 19, 20], (FGs 15 [0, 1, 2, 3, 4, 5, 6, 7, 8, 9, 10, 11, 12, 13, 14] [16, 19, 20] (fun D hA1 hA2 => by simp only [x8, NoD] at hA1 hA2; exact v9 (m := fun i => i) rfl rfl (by rw [hN]; omega) EV' (z5k hP hG (z15 G p L (i : Int) n0 (by omega))) EX' (vw hN EL' (by rfl)))), (by have hc := gvF hP hG (zi5 G hgk (xz L (i : Int) n0) (z12 hL _ _) (by rw [w7]; omega)); exact FGc 16 [0, 1, 2, 3, 4, 5, 6, 7, 8, 9, 10, 11, 12, 13, 14, 15] [19, 20]), FG 17 [0, 1, 2, 3, 4, 5, 6, 7, 8, 9, 10] [18, 19, 20], FG 18 [0, 1, 2, 3, 4, 5, 6, 7, 8, 9, 10, 17] [19, 20], (FGs 19 [0, 1, 2, 3, 4, 5, 6, 7, 8, 9, 10, 11, 12, 13, 14, 15, 16, 17, 18] [20] (fun D hA1 hA2 => by simp only [x8, NoD] at hA1 hA2; exact zcw (n := 16) rfl rfl (by rw [hN]; omega) (by rw [hP]; unfold zkn; kernel_rfl) EV' EV' (Qr _ _) h16)), FV 20 [0, 1, 2, 3, 4, 5, 6, 7, 8, 9, 10, 11, 12, 13, 14, 15, 16, 17, 18, 19] [], trivial⟩ ?_
      exact ML
     ·have hd0 : decide ((n0 : Int) ≤ xh L (i : Int)) = false := by simpa using h0
      have hbb : z55 L h i = false := by unfold z55; rw [hn0, hd0]; rfl
      have hE := And.intro hE (And.intro hd0 hbb)
      refine X2 [0, 3, 23, 24, 25, 50] [3, 37, 1000, 1001, 1002] [(0, 30, _), (1, 31, .dat (iD (n0 : Int))), (2, 32, _), (3, 33, _), (4, 34, _), (5, 35, _), (6, 36, _), (7, 37, _), (8, 38, _), (9, 39, .dat (bD false)), (10, 40, .dat (bD false)), (11, 41, .cond false .junk), (12, 42, .cond false .junk), (13, 43, .cond false .junk), (14, 44, .cond false .junk), (15, 45, .cond false .junk), (16, 46, .cond false .junk), (17, 47, .cond false .junk), (18, 48, .cond false .junk), (19, 49, .cond false (.dat (bD false))), (20, 50, _)] [] ⟨FV 0 [] [1, 9, 10, 11, 12, 13, 14, 15, 16, 17, 18, 19, 20], FV 1 [0] [9, 10, 11, 12, 13, 14, 15, 16, 17, 18, 19, 20], FV 2 [] [3, 4, 5, 7, 8, 9, 10, 11, 12, 13, 14, 15, 16, 17, 18, 19, 20], FV 3 [2] [4, 5, 7, 8, 9, 10, 11, 12, 13, 14, 15, 16, 17, 18, 19, 20], FV 4 [2, 3] [5, 7, 8, 9, 10, 11, 12, 13, 14, 15, 16, 17, 18, 19, 20], FV 5 [2, 3, 4] [7, 8, 9, 10, 11, 12, 13, 14, 15, 16, 17, 18, 19, 20], FV 6 [] [7, 8, 9, 10, 11, 12, 13, 14, 15, 16, 17, 18, 19, 20], FV 7 [2, 3, 4, 5, 6] [8, 9, 10, 11, 12, 13, 14, 15, 16, 17, 18, 19, 20], FV 8 [2, 3, 4, 5, 6, 7] [9, 10, 11, 12, 13, 14, 15, 16, 17, 18, 19, 20], FV 9 [0, 1, 2, 3, 4, 5, 6, 7, 8] [10, 11, 12, 13, 14, 15, 16, 17, 18, 19, 20], FV 10 [0, 1, 2, 3, 4, 5, 6, 7, 8, 9] [11, 12, 13, 14, 15, 16, 17, 18, 19, 20], FO 11 [0, 1, 2, 3, 4, 5, 6, 7, 8, 9, 10] [15, 16, 19, 20], FO 12 [0, 1, 2, 3, 4, 5, 6, 7, 8, 9, 10] [15, 16, 19, 20], FO 13 [0, 1, 2, 3, 4, 5, 6, 7, 8, 9, 10] [14, 15, 16, 19, 20], FO 14 [0, 1, 2, 3, 4, 5, 6, 7, 8, 9, 10, 13] [15, 16, 19, 20], FO 15 [0, 1, 2, 3, 4, 5, 6, 7, 8, 9, 10, 11, 12, 13, 14] [16, 19, 20], FO 16 [0, 1, 2, 3, 4, 5, 6, 7, 8, 9, 10, 11, 12, 13, 14, 15] [19, 20], FO 17 [0, 1, 2, 3, 4, 5, 6, 7, 8, 9, 10] [18, 19, 20], FO 18 [0, 1, 2, 3, 4, 5, 6, 7, 8, 9, 10, 17] [19, 20], FO 19 [0, 1, 2, 3, 4, 5, 6, 7, 8, 9, 10, 11, 12, 13, 14, 15, 16, 17, 18] [20], FV 20 [0, 1, 2, 3, 4, 5, 6, 7, 8, 9, 10, 11, 12, 13, 14, 15, 16, 17, 18, 19] [], trivial⟩ ?_
      exact ML
    refine WI ?_ ?_ <;> intro hb
    ·have hv : z0z p L h = ([], 9) := by unfold z0z; rw [if_neg (by omega), if_neg hnb, if_pos (List.any_eq_true.2 ⟨i, List.mem_range.2 (by omega), hb⟩)]
     have hE := And.intro hE hv
     refine WS [4, 5] [37, 1000, 1001, 1002] ?_
     apply z9
     apply zf
     apply za
     apply zw
     apply zf
     apply za
     refine EN ?_
     all_goals try trivial
     all_goals first | exact ⟨_, rfl, rfl⟩ | exact .inl rfl | exact .inr ⟨_, rfl, rfl⟩
    ·apply z6
     apply ze
     apply z5
     refine WQ [0, 3, 23, 24, 25] [3, 37, 1000, 1001, 1002] ?_
     refine WN (⟨i + 1, by omega, zct hif.2 (by simp [hb])⟩)
   ·apply zj
    apply zd
    have hip : i = p := by omega
    have hna : ¬ (List.range p).any (z55 L h) = true := by
     rw [List.any_eq_true]
     rintro ⟨j, hj, hj2⟩
     have := hf j (by have := List.mem_range.1 hj; omega)
     rw [this] at hj2
     exact absurd hj2 (by simp)
    have hv : z0z p L h = (y5 h (qv (qg L p)), 0) := by unfold z0z; rw [if_neg (by omega), if_neg hnb, if_neg hna]
    have hsl : (qv (qg L p)).length = (qg L p).length := Qe _ _
    have hbs : ∀ e ∈ qv (qg L p), 0 ≤ e.By ∧ e.By < h.length := fun e he => by
     have := hby e (zme he)
     omega
    have hkl := zj6 h (qv (qg L p))
    have hE := And.intro hE (And.intro hv hsl)
    apply zb
    apply zn
    apply z5
    refine WS [0, 8] [3, 37, 1000, 1001, 1002] ?_
    apply zm [4, 5] [37, 1000, 1001, 1002]
    ·refine RN ?_
     refine CX (fun i => i) [37] (zgn G p hp L hL hn h20) ?_
     refine CX (fun _ => 37) [] (zsy G h hh (qv (qg L p)) (qg L p).length hsl (by omega) hbs) ?_
     exact SC
    refine X3 37 hR.2.2.2 rfl (zo4 _ _) rfl ?_
    have htk : ∀ R : List Dat, List.take (y5 h (qv (qg L p))).length ((y5 h (qv (qg L p))).map zc ++ R) = (y5 h (qv (qg L p))).map zc := fun R => List.take_left' (by simp)
    simp (disch := omega) only [avA, zk, zo, seval, hE, htk, Nat.le_add_right, if_true]
    apply z9
    refine EN ?_
    all_goals try trivial
    all_goals first | exact ⟨_, rfl, rfl⟩ | exact .inl rfl | exact .inr ⟨_, rfl, rfl⟩
def zjh (l : List EventM) : Nat → Int
 | 0 => -1
 | i + 1 => (l.getD i default).Tick
def zfx (b : Int) : Bool := decide (b < 0) || decide (6 ≤ b)
def z6a (b : Int) (l : List EventM) (i : Nat) : Bool := !(qn (l.getD i default) == 0) || (!(decide ((evName (l.getD i default)).By = b) && decide ((evName (l.getD i default)).Seq = (i : Int))) || decide ((l.getD i default).Tick ≤ zjh l i))
def zd7 (l : List EventM) (h : Int × List Int) : Bool := !(h.1 == (l.length : Int)) || !(h.2 == z0x l)
def Qc (l : List EventM) (h : Int × List Int) (b : Int) : Int :=
 if zfx b = true then 1 else if (List.range l.length).any (z6a b l) = true then 1 else if zd7 l h = true then 9 else 0
theorem zyx : zdn Tryz.prog 81 := .inr (by unfold z5j; kernel_rfl)
set_option maxRecDepth 100000 in
set_option maxHeartbeats 4000000 in
theorem zns (G) (hgk : G.lookup 1 = some (wsD kH)) (l : List EventM) (hl : ∀ e ∈ l, ju e) (hn : l.length ≤ 100000) (h : Int × List Int) (hh : h.2.length = 16) (b : Int) : zl Tryz.prog G 23 [zz l, Z1 h, iD b] [iD (Qc l h b)] := by
 have ht16 : List.take 16 (h.2.map u8D) = h.2.map u8D := List.take_of_length_le (by simp only [List.length_map]; omega)
 have ht17 : List.take 16 ((h.2.map u8D).map AV.dat) = (h.2.map u8D).map AV.dat := List.take_of_length_le (by simp only [List.length_map]; omega)
 skip
 skip
 refine GI [] [] [] Tryz.func23 Tryz.ntmps23 fun F hP hG hN hR hA => ?_
 have hE := And.intro @Tryz.results23 (And.intro @zyx (And.intro @zio (And.intro @zbs (And.intro @zvi (And.intro @hh (And.intro @ht16 (@ht17)))))))
 refine WS [0, 2, 4] [4] ?_
 apply z3
 refine wv (.of [(0, .dat (zz l)), (2, .dat (iD b)), (4, .ptr 4 17 0 0), (15, .dat (bD (zfx b)))] [(4, ⟨17, [.dat (Z1 h)]⟩)]) ?_ ?_
 ·by_cases h0 : b < 0
  ·have hd0 : decide (b < 0) = true := by simpa using h0
   have hbb : zfx b = true := by unfold zfx; rw [hd0]; rfl
   have hE := And.intro hE (And.intro hd0 hbb)
   refine Za [0, 2, 4, 15] [4] [(0, 10, _), (1, 11, .dat (bD true)), (2, 12, .dat (bD true)), (3, 13, .cond false .junk), (4, 14, .cond false (.dat (bD false))), (5, 15, .dat (bD true))] [] ⟨FV 0 [] [1, 2, 3, 4, 5], FV 1 [0] [2, 3, 4, 5], FV 2 [0, 1] [3, 4, 5], FO 3 [0, 1, 2] [4, 5], FO 4 [0, 1, 2, 3] [5], FV 5 [0, 1, 2, 3, 4] [], trivial⟩ ?_
   exact ML
  ·have hd0 : decide (b < 0) = false := by simpa using h0
   have hbb : zfx b = decide (6 ≤ b) := by unfold zfx; rw [hd0]; rfl
   have hE := And.intro hE (And.intro hd0 hbb)
   refine Za [0, 2, 4, 15] [4] [(0, 10, _), (1, 11, .dat (bD false)), (2, 12, .dat (bD false)), (3, 13, _), (4, 14, _), (5, 15, _)] [] ⟨FV 0 [] [1, 2, 3, 4, 5], FV 1 [0] [2, 3, 4, 5], FV 2 [0, 1] [3, 4, 5], FG 3 [0, 1, 2] [4, 5], FG 4 [0, 1, 2, 3] [5], FV 5 [0, 1, 2, 3, 4] [], trivial⟩ ?_
   exact ML
 refine WI ?_ ?_ <;> intro hb
 ·have hv : Qc l h b = 1 := by unfold Qc; rw [if_pos hb]
  have hE := And.intro hE hv
  refine WS [6] [] ?_
  apply z9
  apply za
  exact E0
 ·have hnb : ¬ zfx b = true := by simpa using hb
  apply z6
  apply z5
  refine WS [0, 2, 4, 7] [4] ?_
  apply z3
  refine WS [0, 2, 4, 7, 16, 17, 18] [4] ?_
  apply z7
  refine WL (ι := {i : Nat // i ≤ l.length ∧ ∀ j, j < i → z6a b l j = false}) [0, 2, 4, 16, 17] [4] (fun ⟨i, hif⟩ => [(18, .dat (iD i)), (7, .dat (iD (zjh l i)))]) (fun ⟨i, hif⟩ => []) (fun ⟨i, hif⟩ => l.length - i) (⟨0, by omega, fun j hj => absurd hj (Nat.not_lt_zero j)⟩) ?_
  rintro ⟨i, hif⟩
  refine LA ?_
  obtain ⟨hi, hf⟩ := id hif
  refine WS [0, 2, 4, 7, 16, 17, 18, 19] [4] ?_
  apply z3
  refine WI ?_ ?_ <;> intro hb
  ·have hce := zt hl (i := i) (by omega)
   have hE := And.intro hE (show zjh l (i + 1) = (l.getD i default).Tick from rfl)
   apply z6
   apply z5
   apply z3
   apply z7
   refine WS [0, 2, 4, 7, 8, 9, 16, 17, 18] [4, 9] ?_
   apply z3
   refine wv (.of [(0, .dat (zz l)), (2, .dat (iD b)), (4, .ptr 4 17 0 0), (9, .ptr 9 32 0 0), (16, .dat (zz l)), (17, .dat (iD l.length)), (18, .dat (iD i)), (39, .dat (bD (z6a b l i)))] [(4, ⟨17, [.dat (Z1 h)]⟩), (9, ⟨32, [.dat (zc (l.getD i default))]⟩)]) ?_ ?_
   ·by_cases h0 : (!(qn (l.getD i default) == 0)) = true
    ·have hbb : z6a b l i = true := by unfold z6a; rw [h0]; rfl
     have hE := And.intro hE (And.intro h0 hbb)
     refine Za [0, 2, 4, 9, 16, 17, 18, 39] [4, 9] [(0, 23, _), (1, 24, .dat (iD (qn (l.getD i default)))), (2, 25, .dat (bD true)), (3, 26, .dat (bD true)), (4, 27, .cond false .junk), (5, 28, .cond false .junk), (6, 29, .cond false .junk), (7, 30, .cond false .junk), (8, 31, .cond false .junk), (9, 32, .cond false (.dat (bD false))), (10, 33, .dat (bD true)), (11, 34, .dat (bD true)), (12, 35, .cond false .junk), (13, 36, .cond false .junk), (14, 37, .cond false .junk), (15, 38, .cond false (.dat (bD false))), (16, 39, .dat (bD true))] [] ⟨FV 0 [] [1, 2, 3, 4, 5, 6, 7, 8, 9, 10, 11, 12, 13, 14, 15, 16], (by have hc := gvF hP hG (Zz G (l.getD i default) hce.1); exact FVc 1 [0] [2, 3, 4, 5, 6, 7, 8, 9, 10, 11, 12, 13, 14, 15, 16]), FV 2 [0, 1] [3, 4, 5, 6, 7, 8, 9, 10, 11, 12, 13, 14, 15, 16], FV 3 [0, 1, 2] [4, 5, 6, 7, 8, 9, 10, 11, 12, 13, 14, 15, 16], FO 4 [0, 1, 2, 3] [5, 9, 10, 11, 12, 13, 14, 15, 16], FO 5 [0, 1, 2, 3, 4] [9, 10, 11, 12, 13, 14, 15, 16], FO 6 [0, 1, 2, 3] [8, 9, 10, 11, 12, 13, 14, 15, 16], FO 7 [0, 1, 2, 3] [8, 9, 10, 11, 12, 13, 14, 15, 16], FO 8 [0, 1, 2, 3, 6, 7] [9, 10, 11, 12, 13, 14, 15, 16], FO 9 [0, 1, 2, 3, 4, 5, 6, 7, 8] [10, 11, 12, 13, 14, 15, 16], FV 10 [0, 1, 2, 3, 4, 5, 6, 7, 8, 9] [11, 12, 13, 14, 15, 16], FV 11 [0, 1, 2, 3, 4, 5, 6, 7, 8, 9, 10] [12, 13, 14, 15, 16], FO 12 [0, 1, 2, 3, 4, 5, 6, 7, 8, 9, 10, 11] [13, 15, 16], FO 13 [0, 1, 2, 3, 4, 5, 6, 7, 8, 9, 10, 11, 12] [15, 16], FO 14 [0, 1, 2, 3, 4, 5, 6, 7, 8, 9, 10, 11] [15, 16], FO 15 [0, 1, 2, 3, 4, 5, 6, 7, 8, 9, 10, 11, 12, 13, 14] [16], FV 16 [0, 1, 2, 3, 4, 5, 6, 7, 8, 9, 10, 11, 12, 13, 14, 15] [], trivial⟩ ?_
     exact ML
    ·have h0 : (!(qn (l.getD i default) == 0)) = false := by simpa using h0
     by_cases h1 : (!(decide ((evName (l.getD i default)).By = b) && decide ((evName (l.getD i default)).Seq = (i : Int)))) = true
     ·have hbb : z6a b l i = true := by unfold z6a; rw [h0, h1]; rfl
      have hE := And.intro hE (And.intro h0 (And.intro h1 hbb))
      refine Za [0, 2, 4, 9, 16, 17, 18, 39] [4, 9] [(0, 23, _), (1, 24, .dat (iD (qn (l.getD i default)))), (2, 25, .dat (bD false)), (3, 26, .dat (bD false)), (4, 27, _), (5, 28, .dat (zx (evName (l.getD i default)))), (6, 29, _), (7, 30, _), (8, 31, _), (9, 32, .dat (bD true)), (10, 33, .dat (bD true)), (11, 34, .dat (bD true)), (12, 35, .cond false .junk), (13, 36, .cond false .junk), (14, 37, .cond false .junk), (15, 38, .cond false (.dat (bD false))), (16, 39, .dat (bD true))] [] ⟨FV 0 [] [1, 2, 3, 4, 5, 6, 7, 8, 9, 10, 11, 12, 13, 14, 15, 16], (by have hc := gvF hP hG (Zz G (l.getD i default) hce.1); exact FVc 1 [0] [2, 3, 4, 5, 6, 7, 8, 9, 10, 11, 12, 13, 14, 15, 16]), FV 2 [0, 1] [3, 4, 5, 6, 7, 8, 9, 10, 11, 12, 13, 14, 15, 16], FV 3 [0, 1, 2] [4, 5, 6, 7, 8, 9, 10, 11, 12, 13, 14, 15, 16], FG 4 [0, 1, 2, 3] [5, 9, 10, 11, 12, 13, 14, 15, 16], (by have hc := gvF hP hG (z2j G (l.getD i default)); exact FGc 5 [0, 1, 2, 3, 4] [9, 10, 11, 12, 13, 14, 15, 16]), FG 6 [0, 1, 2, 3] [8, 9, 10, 11, 12, 13, 14, 15, 16], FG 7 [0, 1, 2, 3] [8, 9, 10, 11, 12, 13, 14, 15, 16], FG 8 [0, 1, 2, 3, 6, 7] [9, 10, 11, 12, 13, 14, 15, 16], FG 9 [0, 1, 2, 3, 4, 5, 6, 7, 8] [10, 11, 12, 13, 14, 15, 16], FV 10 [0, 1, 2, 3, 4, 5, 6, 7, 8, 9] [11, 12, 13, 14, 15, 16], FV 11 [0, 1, 2, 3, 4, 5, 6, 7, 8, 9, 10] [12, 13, 14, 15, 16], FO 12 [0, 1, 2, 3, 4, 5, 6, 7, 8, 9, 10, 11] [13, 15, 16], FO 13 [0, 1, 2, 3, 4, 5, 6, 7, 8, 9, 10, 11, 12] [15, 16], FO 14 [0, 1, 2, 3, 4, 5, 6, 7, 8, 9, 10, 11] [15, 16], FO 15 [0, 1, 2, 3, 4, 5, 6, 7, 8, 9, 10, 11, 12, 13, 14] [16], FV 16 [0, 1, 2, 3, 4, 5, 6, 7, 8, 9, 10, 11, 12, 13, 14, 15] [], trivial⟩ ?_
      exact ML
     ·have h1 : (!(decide ((evName (l.getD i default)).By = b) && decide ((evName (l.getD i default)).Seq = (i : Int)))) = false := by simpa using h1
      have hbb : z6a b l i = decide ((l.getD i default).Tick ≤ zjh l i) := by unfold z6a; rw [h0, h1]; rfl
      have hE := And.intro hE (And.intro h0 (And.intro h1 hbb))
      refine Za [0, 2, 4, 9, 16, 17, 18, 39] [4, 9] [(0, 23, _), (1, 24, .dat (iD (qn (l.getD i default)))), (2, 25, .dat (bD false)), (3, 26, .dat (bD false)), (4, 27, _), (5, 28, .dat (zx (evName (l.getD i default)))), (6, 29, _), (7, 30, _), (8, 31, _), (9, 32, .dat (bD false)), (10, 33, .dat (bD false)), (11, 34, .dat (bD false)), (12, 35, _), (13, 36, _), (14, 37, _), (15, 38, _), (16, 39, _)] [] ⟨FV 0 [] [1, 2, 3, 4, 5, 6, 7, 8, 9, 10, 11, 12, 13, 14, 15, 16], (by have hc := gvF hP hG (Zz G (l.getD i default) hce.1); exact FVc 1 [0] [2, 3, 4, 5, 6, 7, 8, 9, 10, 11, 12, 13, 14, 15, 16]), FV 2 [0, 1] [3, 4, 5, 6, 7, 8, 9, 10, 11, 12, 13, 14, 15, 16], FV 3 [0, 1, 2] [4, 5, 6, 7, 8, 9, 10, 11, 12, 13, 14, 15, 16], FG 4 [0, 1, 2, 3] [5, 9, 10, 11, 12, 13, 14, 15, 16], (by have hc := gvF hP hG (z2j G (l.getD i default)); exact FGc 5 [0, 1, 2, 3, 4] [9, 10, 11, 12, 13, 14, 15, 16]), FG 6 [0, 1, 2, 3] [8, 9, 10, 11, 12, 13, 14, 15, 16], FG 7 [0, 1, 2, 3] [8, 9, 10, 11, 12, 13, 14, 15, 16], FG 8 [0, 1, 2, 3, 6, 7] [9, 10, 11, 12, 13, 14, 15, 16], FG 9 [0, 1, 2, 3, 4, 5, 6, 7, 8] [10, 11, 12, 13, 14, 15, 16], FV 10 [0, 1, 2, 3, 4, 5, 6, 7, 8, 9] [11, 12, 13, 14, 15, 16], FV 11 [0, 1, 2, 3, 4, 5, 6, 7, 8, 9, 10] [12, 13, 14, 15, 16], FG 12 [0, 1, 2, 3, 4, 5, 6, 7, 8, 9, 10, 11] [13, 15, 16], FG 13 [0, 1, 2, 3, 4, 5, 6, 7, 8, 9, 10, 11, 12] [15, 16], FG 14 [0, 1, 2, 3, 4, 5, 6, 7, 8, 9, 10, 11] [15, 16], FG 15 [0, 1, 2, 3, 4, 5, 6, 7, 8, 9, 10, 11, 12, 13, 14] [16], FV 16 [0, 1, 2, 3, 4, 5, 6, 7, 8, 9, 10, 11, 12, 13, 14, 15] [], trivial⟩ ?_
      exact ML
   refine WI ?_ ?_ <;> intro hb
   ·have hv : Qc l h b = 1 := by unfold Qc; rw [if_neg hnb, if_pos (List.any_eq_true.2 ⟨i, List.mem_range.2 (by omega), hb⟩)]
    have hE := And.intro hE hv
    refine WS [6] [] ?_
    apply z9
    apply za
    apply zf
    apply za
    apply zw
    apply zf
    apply za
    exact E0
   ·apply z6
    apply z5
    refine WQ [0, 2, 4, 7, 16, 17, 18] [4] ?_
    apply ze
    apply z5
    refine WQ [0, 2, 4, 7, 16, 17, 18] [4] ?_
    refine WN (⟨i + 1, by omega, zct hif.2 (by simp [hb])⟩)
  ·apply zj
   apply zd
   have hip : i = l.length := by omega
   have hna : ¬ (List.range l.length).any (z6a b l) = true := by
    rw [List.any_eq_true]
    rintro ⟨j, hj, hj2⟩
    have := hf j (by have := List.mem_range.1 hj; omega)
    rw [this] at hj2
    exact absurd hj2 (by simp)
   apply zb
   apply zn
   apply z5
   apply z3
   refine wv (.of [(54, .dat (bD (zd7 l h)))] []) ?_ ?_
   ·by_cases h0 : (!(h.1 == (l.length : Int))) = true
    ·have hbb : zd7 l h = true := by unfold zd7; rw [h0]; rfl
     have hE := And.intro hE (And.intro h0 hbb)
     refine X2 [54] [] [(0, 43, _), (1, 44, .dat (iD h.1)), (2, 45, _), (3, 46, _), (4, 47, .dat (bD true)), (5, 48, .dat (bD true)), (6, 49, .cond false .junk), (7, 50, .cond false .junk), (8, 51, .cond false .junk), (9, 52, .cond false .junk), (10, 53, .cond false (.dat (bD false))), (11, 54, .dat (bD true))] [] ⟨FV 0 [] [1, 4, 5, 6, 7, 8, 9, 10, 11], FV 1 [0] [4, 5, 6, 7, 8, 9, 10, 11], FV 2 [] [3, 4, 5, 6, 7, 8, 9, 10, 11], FV 3 [2] [4, 5, 6, 7, 8, 9, 10, 11], FV 4 [0, 1, 2, 3] [5, 6, 7, 8, 9, 10, 11], FV 5 [0, 1, 2, 3, 4] [6, 7, 8, 9, 10, 11], FO 6 [0, 1, 2, 3, 4, 5] [7, 10, 11], FO 7 [0, 1, 2, 3, 4, 5, 6] [10, 11], FO 8 [0, 1, 2, 3, 4, 5] [9, 10, 11], FO 9 [0, 1, 2, 3, 4, 5, 8] [10, 11], FO 10 [0, 1, 2, 3, 4, 5, 6, 7, 8, 9] [11], FV 11 [0, 1, 2, 3, 4, 5, 6, 7, 8, 9, 10] [], trivial⟩ ?_
     exact ML
    ·have h0 : (!(h.1 == (l.length : Int))) = false := by simpa using h0
     have hbb : zd7 l h = !(h.2 == z0x l) := by unfold zd7; rw [h0]; rfl
     have hE := And.intro hE (And.intro h0 hbb)
     refine X2 [54] [] [(0, 43, _), (1, 44, .dat (iD h.1)), (2, 45, _), (3, 46, _), (4, 47, .dat (bD false)), (5, 48, .dat (bD false)), (6, 49, _), (7, 50, .dat (bsD h.2)), (8, 51, _), (9, 52, .dat (bsD (z0x l))), (10, 53, .dat (bD (!(h.2 == z0x l)))), (11, 54, .dat (bD (!(h.2 == z0x l))))] [] ⟨FV 0 [] [1, 4, 5, 6, 7, 8, 9, 10, 11], FV 1 [0] [4, 5, 6, 7, 8, 9, 10, 11], FV 2 [] [3, 4, 5, 6, 7, 8, 9, 10, 11], FV 3 [2] [4, 5, 6, 7, 8, 9, 10, 11], FV 4 [0, 1, 2, 3] [5, 6, 7, 8, 9, 10, 11], FV 5 [0, 1, 2, 3, 4] [6, 7, 8, 9, 10, 11], FG 6 [0, 1, 2, 3, 4, 5] [7, 10, 11], FG 7 [0, 1, 2, 3, 4, 5, 6] [10, 11], FG 8 [0, 1, 2, 3, 4, 5] [9, 10, 11], (by have hc := gvF hP hG (zi5 G hgk l hl hn); exact FGc 9 [0, 1, 2, 3, 4, 5, 8] [10, 11]), (FGs 10 [0, 1, 2, 3, 4, 5, 6, 7, 8, 9] [11] (fun D hA1 hA2 => by simp only [x8, NoD] at hA1 hA2; exact zcw (n := 16) rfl rfl (by rw [hN]; omega) (by rw [hP]; unfold zkn; kernel_rfl) EV' EV' hh (Qr _ _))), FV 11 [0, 1, 2, 3, 4, 5, 6, 7, 8, 9, 10] [], trivial⟩ ?_
     exact ML
   refine WI ?_ ?_ <;> intro hb
   ·have hv : Qc l h b = 9 := by unfold Qc; rw [if_neg hnb, if_neg hna, if_pos hb]
    have hE := And.intro hE hv
    refine WS [6] [] ?_
    apply z9
    apply za
    exact E0
   ·have hv : Qc l h b = 0 := by unfold Qc; rw [if_neg hnb, if_neg hna, if_neg (by simpa using hb)]
    have hE := And.intro hE hv
    apply z6
    apply z5
    refine WS [6] [] ?_
    apply z9
    exact E0
abbrev j7 (p : Nat) (L : List EventM) : Dat := .agg [iD p, zz L]
def qt (L : List EventM) (b : Int) : List EventM := L.filter fun e => decide (e.By = b)
def z3a (L : List EventM) (b : Int) (i : Nat) : List EventM := qt (L.take i) b
theorem zqr {L : List EventM} {b : Int} {i : Nat} (hi : i < L.length) (h : (L.getD i default).By = b) : z3a L b (i + 1) = z3a L b i ++ [L.getD i default] := by
 unfold z3a qt
 rw [kc L hi, List.filter_append]
 simp only [List.filter_cons, List.filter_nil, h, decide_true, if_true]
theorem zub {L : List EventM} {b : Int} {i : Nat} (hi : i < L.length) (h : ¬ (L.getD i default).By = b) : z3a L b (i + 1) = z3a L b i := by
 unfold z3a qt
 rw [kc L hi, List.filter_append]
 simp only [List.filter_cons, List.filter_nil, h, decide_false, Bool.false_eq_true, if_false, List.append_nil]
theorem zqq (L : List EventM) (b : Int) (i : Nat) : (z3a L b i).length ≤ i := Nat.le_trans (List.length_filter_le _ _) (by rw [List.length_take]; omega)
set_option maxRecDepth 100000 in
set_option maxHeartbeats 2000000 in
theorem z1i (G) (p : Nat) (L : List EventM) (hn : L.length ≤ 100000) (b : Int) : zl Tryz.prog G 22 [j7 p L, iD b] [zz (qt L b)] := by
 skip
 refine GI [] [] [] Tryz.func22 Tryz.ntmps22 fun F hP hG hN hR hA => ?_
 have hE := @Tryz.results22
 refine WS [1, 2] [2] ?_
 refine WS [1, 2, 5] [2, 29] ?_
 apply z3
 refine WS [1, 2, 5, 6] [2, 29] ?_
 apply z7
 refine xd 29 32 (by omega) ?_
 refine xy 5 29 32 rfl rfl ?_
 refine WL (ι := {i : Nat // i ≤ L.length}) [1, 2] [2, 28] (fun ⟨i, hi⟩ => [(5, .osl 29 32 0 (z3a L b i).length), (6, .dat (iD i))]) (fun ⟨i, hi⟩ => [(29, ⟨32, ((z3a L b i).map zc).map .dat⟩)]) (fun ⟨i, hi⟩ => L.length - i) (⟨0, by omega⟩) ?_
 rintro ⟨i, hi⟩
 refine LA ?_
 apply z3
 refine WS [1, 2, 5, 6, 11] [2, 28, 29] ?_
 refine WI ?_ ?_ <;> intro hb
 ·have hlr := zqq L b i
  have htk : List.take (z3a L b i).length ((z3a L b i).map zc) = (z3a L b i).map zc := List.take_of_length_le (by simp)
  have hE := And.intro hE htk
  apply z6
  apply z5
  apply z3
  apply z7
  refine WS [1, 2, 5, 6, 21] [2, 28, 29] ?_
  refine WI ?_ ?_ <;> intro hb
  ·have hs := zqr (L := L) (b := b) (i := i) (by omega) (by simpa using hb)
   have hE := And.intro hE hs
   refine WQ [1, 2, 5, 6] [2, 28, 29] ?_
   apply ze
   apply z5
   refine WQ [1, 2, 5, 6] [2, 28, 29] ?_
   refine WN (⟨i + 1, by omega⟩)
  ·have hs := zub (L := L) (b := b) (i := i) (by omega) (by simpa using hb)
   have hE := And.intro hE hs
   apply z6
   apply ze
   apply z5
   refine WQ [1, 2, 5, 6] [2, 28, 29] ?_
   refine WN (⟨i + 1, by omega⟩)
 ·apply zj
  apply zd
  have hend : i = L.length := by omega
  subst hend
  apply zb
  apply zn
  apply z5
  have hfl : z3a L b L.length = qt L b := by unfold z3a; rw [List.take_length]
  have htk : List.take (qt L b).length ((qt L b).map zc) = (qt L b).map zc := List.take_of_length_le (by simp)
  have hE := And.intro hE (And.intro hfl htk)
  refine WS [4] [28, 29] ?_
  apply z9
  exact E0
def rclN (L : List EventM) : Nat → Int
 | 0 => 0
 | i + 1 => if rclN L i < (L.getD i default).Tick then (L.getD i default).Tick else rclN L i
set_option maxRecDepth 100000 in
set_option maxHeartbeats 2000000 in
theorem z4m (G) (p : Nat) (L : List EventM) (hn : L.length ≤ 100000) : zl Tryz.prog G 46 [j7 p L] [iD (rclN L L.length)] := by
 skip
 refine GI [] [] [] Tryz.func46 Tryz.ntmps46 fun F hP hG hN hR hA => ?_
 have hE := @Tryz.results46
 refine WS [1] [1] ?_
 refine WS [1, 3] [1] ?_
 apply z3
 refine WS [1, 3, 4] [1] ?_
 apply z7
 refine WL (ι := {i : Nat // i ≤ L.length}) [1] [1] (fun ⟨i, hi⟩ => [(3, .dat (iD (rclN L i))), (4, .dat (iD i))]) (fun ⟨i, hi⟩ => []) (fun ⟨i, hi⟩ => L.length - i) (⟨0, by omega⟩) ?_
 rintro ⟨i, hi⟩
 refine LA ?_
 apply z3
 refine WS [1, 3, 4, 9] [1] ?_
 refine WI ?_ ?_ <;> intro hb
 ·have hE := And.intro hE (rclN.eq_2 L i)
  apply z6
  apply z5
  apply z3
  apply z7
  refine WQ [1, 3, 4] [1] ?_
  apply ze
  apply z5
  refine WQ [1, 3, 4] [1] ?_
  refine WN (⟨i + 1, by omega⟩)
 ·apply zj
  apply zd
  have hend : i = L.length := by omega
  subst hend
  apply zb
  apply zn
  apply z5
  refine WS [2] [] ?_
  apply z9
  exact E0
end Go.Proofs.YtkeopokhnfpgpaaGreatDoor

namespace Go.Proofs.YtkeopokhnfpgpaaGreatDoor
open Go.Av
theorem z0p (L : List EventM) (b : Int) : (qt L b).length ≤ L.length := List.length_filter_le _ _
def hdT (l : List (Int × List Int)) (i : Nat) : List (Int × List Int) := l.take i
theorem zos (l : List (Int × List Int)) : hdT l 0 = [] := List.take_zero
theorem zix {l : List (Int × List Int)} {i : Nat} (h : i ≤ l.length) : (hdT l i).length = i := by unfold hdT; rw [List.length_take]; omega
theorem zor {l : List (Int × List Int)} {i : Nat} (h : i ≤ l.length) : List.take i ((hdT l i).map Z1) = (hdT l i).map Z1 := List.take_of_length_le (by rw [List.length_map, zix h]; exact Nat.le_refl i)
theorem zoq {l : List (Int × List Int)} {i : Nat} (h : i < l.length) : hdT l (i + 1) = hdT l i ++ [((l.getD i default).1, (l.getD i default).2)] := kc l h
theorem ztc (l : List (Int × List Int)) : hdT l l.length = l := List.take_length
theorem zkv (L : List EventM) (n : Nat) : ∀ x ∈ j5 L n, x.2.length = 16 := fun x hx => by
 obtain ⟨b, _, rfl⟩ := List.mem_map.1 hx
 exact Qr _ _
set_option maxRecDepth 100000 in
set_option maxHeartbeats 2000000 in
theorem zh3 (G) (hgk : G.lookup 1 = some (wsD kH)) (p : Nat) (hp : p ≤ 1000) (L : List EventM) (hL : ∀ e ∈ L, ju e) (hn : L.length ≤ 100000) : GivesX Tryz.prog G 20 [.ptr 1000 2 0 0] (arO p L) [.dat (y3 (j5 L p))] (arO p L) := by
 have hh := zkv L p
 have hlp := Xb L p
 skip
 skip
 skip
 refine GX [] [7] [] Tryz.func20 Tryz.ntmps20 fun F hP hG hN hR hA => ?_
 have hE := And.intro @Tryz.results20 (And.intro @z7l (And.intro @qz (And.intro @z6g (And.intro @Xm (And.intro @jn (And.intro @Zc (@hlp)))))))
 refine WS [0] [27, 1000, 1001, 1002] ?_
 refine WS [0, 3] [27, 1000, 1001, 1002] ?_
 apply zm [3, 4] [27, 1000, 1001, 1002]
 ·refine RN ?_
  refine CX (fun i => i) [] (z9u G hgk p hp L hL hn) ?_
  exact SC
 apply z3
 refine WS [3, 4, 5] [27, 1000, 1001, 1002] ?_
 apply z7
 refine xd 27 17 (by omega) ?_
 refine xy 3 27 17 rfl rfl ?_
 generalize j5 L p = l at hh hlp ⊢
 have hE := And.intro hE (zos l)
 refine WL (ι := {i : Nat // i ≤ p}) [4] [26, 1000, 1001, 1002] (fun ⟨i, hi⟩ => [(3, .osl 27 17 0 i), (5, .dat (iD i))]) (fun ⟨i, hi⟩ => [(27, ⟨17, ((hdT l i).map Z1).map .dat⟩)]) (fun ⟨i, hi⟩ => p - i) (⟨0, by omega⟩) ?_
 rintro ⟨i, hi⟩
 refine LA ?_
 apply z3
 refine WS [3, 4, 5, 11] [26, 27, 1000, 1001, 1002] ?_
 refine WI ?_ ?_ <;> intro hb
 ·have hs := zoq (l := l) (i := i) (by omega)
  have htl := zix (l := l) (i := i) (by omega)
  have htk3 := zor (l := l) (i := i) (by omega)
  have h16 := zt hh (i := i) (by omega)
  have ht16 : List.take 16 ((l.getD i default).2.map u8D) = (l.getD i default).2.map u8D := List.take_of_length_le (by simp only [List.length_map]; omega)
  have ht17 : List.take 16 (((l.getD i default).2.map u8D).map AV.dat) = ((l.getD i default).2.map u8D).map AV.dat := List.take_of_length_le (by simp only [List.length_map]; omega)
  have hE := And.intro hE (And.intro htl (And.intro htk3 (And.intro h16 (And.intro ht16 ht17))))
  apply z6
  apply z5
  apply z3
  apply z7
  refine WDQ [3, 4, 5] [26, 27, 1000, 1001, 1002] [0, 1, 2, 3, 4, 5, 6, 7, 8, 9, 10, 11, 12, 13, 14] [] ?_
  apply ze
  apply z5
  have hE := And.intro hE hs
  refine WQ [3, 4, 5] [26, 27, 1000, 1001, 1002] ?_
  refine WN (⟨i + 1, by omega⟩)
 ·apply zj
  apply zd
  have hend : i = p := by omega
  subst hend
  apply zb
  apply zn
  apply z5
  refine X3 27 hR.2.2.2 rfl (datE_map _) rfl ?_
  have htk : hdT l i = l := by rw [← hlp]; exact ztc l
  have htk2 : List.take i (l.map Z1) = l.map Z1 := List.take_of_length_le (by rw [List.length_map]; omega)
  have hle : i ≤ l.length := by omega
  have hE := And.intro hE (And.intro htk (And.intro htk2 hle))
  simp (disch := omega) only [avA, zk, zo, seval, hE, if_true]
  refine WS [2] [26, 27, 1000, 1001, 1002] ?_
  apply z9
  exact E0
end Go.Proofs.YtkeopokhnfpgpaaGreatDoor

namespace Go.Proofs.YtkeopokhnfpgpaaGreatDoor
open Go.Av
set_option maxRecDepth 100000 in
set_option maxHeartbeats 2000000 in
theorem zgq (G) (n : Nat) (h1 : 1 ≤ n) (h6 : n ≤ 6) (l : List EventM) (hl : ∀ e ∈ l, OkEv e) (hn : l.length ≤ 100000) (h0 : (qk n [] l 0).2.2 = 0) : GivesX Tryz.prog G 12 [.dat (iD n), .dat (zz l)] [] [.ptr 14 2 0 0] [(14, ⟨2, [.agg [.osl 11 1 0 n, .mp 12]]⟩), (11, ⟨1, ((qw n (qk n [] l 0).1).map iD).map .dat⟩), (12, ⟨0, [.tup [], .dat (.sl (X8 (qk n [] l 0).1)), .dat (.sl ((qk n [] l 0).1.map zc))]⟩)] := by
 skip
 skip
 skip
 refine GX [] [11, 23] [] Tryz.func12 Tryz.ntmps12 fun F hP hG hN hR hA => ?_
 have hE := And.intro @Tryz.results12 (And.intro @h0 (@z7l))
 refine WS [0, 1] [11, 12, 14] ?_
 apply zm [1, 5, 6] [11, 12, 14]
 ·refine RN ?_
  refine CX (fun i => i) [14, 11, 12] (zbw G n h1 h6) ?_
  exact SC
 apply z3
 refine WS [1, 5, 19] [11, 12, 14] ?_
 refine WI ?_ ?_ <;> intro hb
 ·exact absurd hb (by simp)
 ·apply z6
  apply z5
  apply zm [5, 8] [11, 12, 14]
  ·refine RN ?_
   refine CX (fun i => if i = 1000 then 14 else if i = 1001 then 11 else 12) [] (z1k G n (by omega) [] l (by simp) hl (by simpa using hn)) ?_
   exact SC
  apply z3
  refine WS [5, 27] [11, 12, 14] ?_
  refine WI ?_ ?_ <;> intro hb
  ·exact absurd hb (by simp)
  ·apply z6
   apply z5
   refine WS [4] [11, 12, 14] ?_
   apply z9
   exact E0
def leE (a b : EventM) : Prop := xl b a = false
theorem X4 (a b : EventM) : xl a b = true ↔ a.Tick < b.Tick ∨ (a.Tick = b.Tick ∧ (a.By < b.By ∨ (a.By = b.By ∧ a.Seq < b.Seq))) := by
 unfold xl z0k evName
 dsimp only
 split
 ·rw [decide_eq_true_eq]; omega
 ·split
  ·rw [decide_eq_true_eq]; omega
  ·rw [decide_eq_true_eq]; omega
theorem zj7 (a b : EventM) : leE a b ↔ a.Tick < b.Tick ∨ (a.Tick = b.Tick ∧ (a.By < b.By ∨ (a.By = b.By ∧ a.Seq ≤ b.Seq))) := by
 unfold leE
 rw [Bool.eq_false_iff, ne_eq, X4]
 omega
theorem zl4 {a b c : EventM} (h1 : leE a b) (h2 : leE b c) : leE a c := by
 rw [zj7] at *
 omega
theorem zbf {a b : EventM} (h : xl a b = true) : xl b a = false := by
 rw [Bool.eq_false_iff, ne_eq, X4]
 rw [X4] at h
 omega
theorem z2l {a b : EventM} (h1 : xl a b = false) (h2 : xl b a = false) : evName a = evName b := by
 rw [Bool.eq_false_iff, ne_eq, X4] at h1 h2
 unfold evName
 rw [NameM.mk.injEq]
 omega
theorem zad {x : EventM} {out : List EventM} : ∀ {k}, k ≤ out.length → ∀ j, z38 x out k ≤ j → j < k → xl x (out.getD j default) = true
 | 0, _, j, _, h => absurd h (Nat.not_lt_zero j)
 | k + 1, hk, j, h1, h2 => by
  rw [z38] at h1
  split at h1
  ·rename_i hb
   by_cases hj : j = k
   ·rw [hj]; exact hb
   ·exact zad (by omega) j h1 (by omega)
  ·omega
theorem zer {x : EventM} {out : List EventM} : ∀ {k}, 0 < z38 x out k → xl x (out.getD (z38 x out k - 1) default) = false
 | 0, h => absurd h (Nat.lt_irrefl 0)
 | k + 1, h => by
  rw [z38] at h ⊢
  split
  ·rename_i hb
   rw [if_pos hb] at h
   exact zer h
  ·rename_i hb
   simpa using hb
theorem zkx (x : EventM) (out : List EventM) (p : Nat) : (z8s x out p).Perm (x :: out) := by
 unfold z8s
 rw [List.append_assoc]
 refine List.perm_middle.trans ?_
 show (x :: (List.take p out ++ List.drop p out)).Perm (x :: out)
 rw [List.take_append_drop]
theorem zdz {x : EventM} {out : List EventM} (h : out.Pairwise leE) : (z8s x out (z38 x out out.length)).Pairwise leE := by
 have hp := zc1 x out out.length
 generalize hq : z38 x out out.length = p at *
 have hg : ∀ j, p ≤ j → j < out.length → leE x (out.getD j default) := fun j h1 h2 => zbf (zad (Nat.le_refl _) j (by omega) h2)
 have hl : ∀ j, j < p → leE (out.getD j default) x := fun j h1 => by
  have h0 : leE (out.getD (p - 1) default) x := by
   have := zer (x := x) (out := out) (k := out.length) (by omega)
   rw [hq] at this
   exact this
  by_cases hj : j = p - 1
  ·rw [hj]; exact h0
  ·refine zl4 ?_ h0
   rw [List.getD_eq_getElem?_getD, List.getElem?_eq_getElem (by omega), List.getD_eq_getElem?_getD, List.getElem?_eq_getElem (by omega)]
   exact List.pairwise_iff_getElem.1 h j (p - 1) (by omega) (by omega) (by omega)
 have hm1 : ∀ y ∈ out.take p, leE y x := fun y hy => by
  obtain ⟨j, hj, rfl⟩ := List.getElem_of_mem hy
  have hj' : j < p := by simp at hj; omega
  have := hl j hj'
  rw [List.getD_eq_getElem?_getD, List.getElem?_eq_getElem (by omega)] at this
  simpa using this
 have hm2 : ∀ y ∈ out.drop p, leE x y := fun y hy => by
  obtain ⟨j, hj, rfl⟩ := List.getElem_of_mem hy
  have hj' : p + j < out.length := by simp at hj; omega
  have := hg (p + j) (by omega) hj'
  rw [List.getD_eq_getElem?_getD, List.getElem?_eq_getElem (by omega)] at this
  simpa using this
 unfold z8s
 have h2 := h
 rw [← List.take_append_drop p out, List.pairwise_append] at h2
 rw [List.pairwise_append, List.pairwise_append]
 refine ⟨⟨h2.1, by simp, by simpa using hm1⟩, h2.2.1, ?_⟩
 intro a ha b hb
 rcases List.mem_append.1 ha with ha | ha
 ·exact h2.2.2 a ha b hb
 ·rw [List.mem_singleton.1 ha]; exact hm2 b hb
theorem zf6 (l : List EventM) : ∀ i, i ≤ l.length → (rsN l i).Perm (l.take i)
 | 0, _ => by rw [rsN, List.take_zero]
 | i + 1, h => by
  rw [rsN, kc l h]
  refine (zkx _ _ _).trans (((zf6 l i (by omega)).cons _).trans ?_)
  exact List.perm_append_comm (l₁ := [_])
theorem z7x (l : List EventM) : ∀ i, (rsN l i).Pairwise leE
 | 0 => .nil
 | i + 1 => zdz (z7x l i)
theorem va (l : List EventM) : (qv l).Perm l := by
 have := zf6 l l.length (Nat.le_refl _)
 rwa [zca, List.take_length] at this
theorem Q5 (l : List EventM) : (qv l).Pairwise leE := by
 rw [← zca]; exact z7x l _
theorem ji {l : List EventM} {i : Nat} (h : i < l.length) : l.getD i default = l[i] := by
 rw [List.getD_eq_getElem?_getD, List.getElem?_eq_getElem h, Option.getD_some]
end Go.Proofs.YtkeopokhnfpgpaaGreatDoor

