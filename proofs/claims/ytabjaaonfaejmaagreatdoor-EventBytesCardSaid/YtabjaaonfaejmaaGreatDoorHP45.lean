/- A part of the proof. -/
import Derived.Test.YtabjaaonfaejmaaGreatDoorHP44
import Derived.Test.YtabjaaonfaejmaaGreatDoorHP43
import Derived.Test.YtabjaaonfaejmaaGreatDoorHAv48
import Derived.Test.YtabjaaonfaejmaaGreatDoorHAv54
import Derived.Test.YtabjaaonfaejmaaGreatDoorHAv50
import Derived.Test.YtabjaaonfaejmaaGreatDoorHAv43
import Derived.Test.YtabjaaonfaejmaaGreatDoorHAv46
import Derived.Test.YtabjaaonfaejmaaGreatDoorHAv49
set_option linter.all false
namespace Go.Proofs.YtabjaaonfaejmaaGreatDoor
open Go.Av
def zpM (j : Nat) : List Int := 128 :: List.replicate j 0
def tpM (n i : Nat) : List Int := zpM (y8 n) ++ (za3 n).take i
theorem zfn (j : Nat) : (zpM j).length = 1 + j := by simp [zpM]; omega
theorem ztl (j : Nat) : zpM (j + 1) = zpM j ++ [0] := by
 unfold zpM
 rw [List.replicate_succ']
 simp
theorem zff (n i : Nat) (h : i ≤ 8) : (tpM n i).length = 1 + y8 n + i := by simp [tpM, zfn, z0i, Nat.min_eq_left h]
theorem zzt (n : Nat) : tpM n 0 = zpM (y8 n) := by simp [tpM]
theorem zte (n i : Nat) (h : i < 8) : tpM n (i + 1) = tpM n i ++ [((8 * n / 2 ^ (56 - 8 * i) % 256 : Nat) : Int)] := by
 unfold tpM
 rw [List.append_assoc]
 congr 1
 have hi : i < (za3 n).length := by rw [z0i]; exact h
 rw [List.take_succ, List.getElem?_eq_getElem hi]
 simp [za3]
theorem zwa (m : List Int) : m ++ tpM m.length 8 = wz m := by
 unfold tpM zpM wz
 rw [List.take_of_length_le (by rw [z0i]; exact Nat.le_refl _)]
 simp
theorem zxz (n : Nat) : isB (tpM n 8) := by
 intro x hx
 unfold tpM zpM at hx
 have hx' := List.mem_append.1 hx
 rcases hx' with hx | hx
 ·simp only [List.mem_cons, List.mem_replicate] at hx
  rcases hx with rfl | ⟨_, rfl⟩ <;> omega
 ·have hx := List.mem_of_mem_take hx
  simp only [za3, List.mem_map] at hx
  obtain ⟨i, _, rfl⟩ := hx
  omega
theorem zki {b : List Int} (h : isB b) : yu (X1 b) = b := by
 apply List.ext_getElem?
 intro i
 show (List.map (fun c : UInt8 => (c.toNat : Int)) (X1 b).data.toList)[i]? = _
 have e : (X1 b).data.toList = b.map fun n : Int => UInt8.ofNat n.toNat := rfl
 rw [e, List.map_map, List.getElem?_map]
 cases hq : b[i]? with
 | none => rfl
 | some x =>
  have := h x (List.mem_of_getElem? hq)
  simp only [Option.map_some, Function.comp, Option.some.injEq]
  rw [UInt8.toNat_ofNat']
  omega
theorem zih (G) (hgk : G.lookup 1 = some (wsD kH)) (m blk t : List Int) (hb0 : z40 m m.length blk) (hib : isB m) (hit : isB t) (hl : m.length + t.length ≤ 2199023255552) : zo Tryz.prog G 37 [stD m blk, .str (X1 t)] [stD (m ++ t) (bkF (m ++ t) blk m.length t.length)] := by
 have h := zx1 G hgk m blk hb0 (X1 t) hib (by rw [z1w]; exact hl)
 rwa [zki hit, z1w] at h
theorem zwj {m blk : List Int} (t : List Int) (hb0 : z40 m m.length blk) : z40 (m ++ t) (m ++ t).length (bkF (m ++ t) blk m.length t.length) := by
 have h := zx5 (zfx (t := t) hb0) t.length
 rwa [← List.length_append] at h
theorem ztm (G) (hgk : G.lookup 1 = some (wsD kH)) (m blk : List Int) (hb0 : z40 m m.length blk) (hib : isB m) (hl : m.length ≤ 1099511627776) : zo Tryz.prog G 37 [stD m blk, .str (X1 (tpM m.length 8))] [stD (wz m) (bkF (wz m) blk m.length (tpM m.length 8).length)] := by
 have h := zih G hgk m blk (tpM m.length 8) hb0 hib (zxz _) (by rw [zff _ _ (by omega)]; have := Xo m.length; omega)
 rwa [zwa] at h
set_option maxRecDepth 100000 in
set_option maxHeartbeats 1000000 in
theorem zw7 (G) (hgk : G.lookup 1 = some (wsD kH)) (m blk : List Int) (hb0 : z40 m m.length blk) (hib : isB m) (hl : m.length ≤ 1099511627776) : zo Tryz.prog G 38 [stD m blk] [bsD (z5t m)] := by
 have hz := Xo m.length
 have h8n : IntKind.u64.wrap (8 * (m.length : Int)) = ((8 * m.length : Nat) : Int) := by rw [IntWalk.u64_in _ (by omega)]; omega
 have hpm := z2b m
 skip
 skip
 refine GI [11] [] [] Tryz.func38 Tryz.ntmps38 fun F hP hG hN hR hA => ?_
 have hE := And.intro @Tryz.results38 (And.intro @hb0.1 (And.intro (zkh hb0.1) (And.intro (zfc hb0.1) (And.intro (zfb hb0.1) (And.intro (zkg hb0.1) (And.intro @zwt (And.intro @h8n (And.intro @zfn (@Int.toNat_natCast)))))))))
 refine WS [1, 2] [1, 2] ?_
 refine WS [1, 2, 3] [1, 2] ?_
 refine WS [1, 2, 3, 4] [1, 2, 11, 22, 34] ?_
 apply z6
 apply zc
 refine wv 11 22 (by omega) (by omega) ?_
 refine WL (ι := {j : Nat // j ≤ y8 m.length}) [1, 2, 3] [1, 2, 11, 21, 33, 34] (fun ⟨j, hj⟩ => [(4, .osl 22 1 0 (1 + j))]) (fun ⟨j, hj⟩ => [(22, ⟨1, ((zpM j).map u8D).map .dat⟩)]) (fun ⟨j, hj⟩ => y8 m.length - j) (⟨0, by omega⟩) ?_
 rintro ⟨j, hj⟩
 refine LA ?_
 have hpl := zfn j
 apply z6
 refine WS [1, 2, 3, 4, 19] [1, 2, 11, 21, 22, 34] ?_
 refine WI ?_ ?_ <;> intro hb
 ·have htm : ((m.length : Int) + ((1 + j : Nat) : Int)).tmod 64 = (((m.length + (1 + j)) % 64 : Nat) : Int) := by rw [Int.tmod_eq_emod_of_nonneg (by omega)]; omega
  rw [htm] at hb
  have hs := ztl j
  have hE := And.intro hE hs
  apply z9
  apply z7
  apply zc
  refine WQ [1, 2, 3, 4] [1, 2, 11, 21, 22, 34] ?_
  apply zg
  refine WN (⟨j + 1, by omega⟩)
 ·have htm : ((m.length : Int) + ((1 + j : Nat) : Int)).tmod 64 = (((m.length + (1 + j)) % 64 : Nat) : Int) := by rw [Int.tmod_eq_emod_of_nonneg (by omega)]; omega
  rw [htm] at hb
  have hend : j = y8 m.length := by omega
  subst hend
  rw [← zzt]
  apply zn
  apply zh
  apply ze
  apply zw
  apply z7
  apply z6
  refine WS [1, 2, 3, 4, 23] [1, 2, 11, 21, 22, 34] ?_
  apply zc
  refine wv 22 34 (by omega) (by omega) ?_
  refine WL (ι := {i : Nat // i ≤ 8}) [1, 2, 3] [1, 2, 11, 21, 22, 33] (fun ⟨i, hi⟩ => [(4, .osl 34 1 0 (1 + y8 m.length + i)), (23, .dat (iD i))]) (fun ⟨i, hi⟩ => [(34, ⟨1, ((tpM m.length i).map u8D).map .dat⟩)]) (fun ⟨i, hi⟩ => 8 - i) (⟨0, by omega⟩) ?_
  rintro ⟨i, hi⟩
  refine LA ?_
  have hql := zff m.length i (by omega)
  refine WS [1, 2, 3, 4, 23, 24] [1, 2, 11, 21, 22, 33, 34] ?_
  apply z6
  refine WI ?_ ?_ <;> intro hb
  ·have hs := zte m.length i (by omega)
   have hb1 := zgz m.length i (by omega) (by omega)
   have hb2 : IntKind.i64.wrap (8 * (i : Int)) = ((8 * i : Nat) : Int) := by rw [IntWalk.i64_in _ (by omega)]; omega
   have hb3 : IntKind.i64.wrap (56 - ((8 * i : Nat) : Int)) = ((56 - 8 * i : Nat) : Int) := by rw [IntWalk.i64_in _ (by omega)]; omega
   have hE := And.intro hE (And.intro hs (And.intro hb1 (And.intro hb2 (And.intro hb3 hql))))
   apply z9
   apply z7
   apply z6
   apply zc
   refine WS [1, 2, 3, 4, 5, 23] [1, 2, 11, 21, 22, 33, 34] ?_
   refine WQ [1, 2, 3, 4, 23] [1, 2, 11, 21, 22, 33, 34] ?_
   apply zg
   apply z7
   refine WQ [1, 2, 3, 4, 23] [1, 2, 11, 21, 22, 33, 34] ?_
   refine WN (⟨i + 1, by omega⟩)
  ·apply zn
   apply zh
   have hend : i = 8 := by omega
   subst hend
   apply ze
   apply zw
   apply z7
   refine jh 34 hR.2.2.2 rfl (datE_map _) ?_
   have hq8 := zff m.length 8 (by omega)
   have hft : List.take (1 + y8 m.length + 8) (List.map u8D (tpM m.length 8)) = List.map u8D (tpM m.length 8) := List.take_of_length_le (by rw [List.length_map]; omega)
   have hbq : ∀ j, (bkF (wz m) blk m.length j).length = 64 := fun j => by rw [z0z]; exact hb0.1
   have hE := And.intro hE (And.intro hft (And.intro hq8 hbq))
   have hc := gvF hP hG (ztm G hgk m blk hb0 hib hl)
   refine WSc [1, 2] [1, 2] ?_
   obtain ⟨S, hS⟩ : ∃ S, S = blocksM iv8 (wz m) ((wz m).length / 64) := ⟨_, rfl⟩
   obtain ⟨pb, hpb⟩ : ∃ pb, pb = bkF (wz m) blk m.length (1 + y8 m.length + 8) := ⟨_, rfl⟩
   rw [show stD (wz m) (bkF (wz m) blk m.length (1 + y8 m.length + 8)) = z3z S pb (wz m).length from by rw [hS, hpb]]
   have hfin : bsD (outL S 32) = bsD (z5t m) := by rw [zlt, hS]; rfl
   refine WS [1, 2, 6] [1, 2, 6] ?_
   apply z6
   rw [zww]
   have hE := And.intro hE (And.intro (z0n S) (And.intro zjl zqn))
   refine WS [1, 2, 6, 40] [1, 2, 6] ?_
   apply zc
   refine WL (ι := {i : Nat // i ≤ 32}) [1, 2, 6] [1, 2] (fun ⟨i, hi⟩ => [(40, .dat (iD i))]) (fun ⟨i, hi⟩ => [(6, ⟨32, [.dat (bsD (outL S i))]⟩)]) (fun ⟨i, hi⟩ => 32 - i) (⟨0, by omega⟩) ?_
   rintro ⟨i, hi⟩
   refine LA ?_
   refine WS [1, 2, 6, 40, 41] [1, 2, 6] ?_
   apply z6
   refine WI ?_ ?_ <;> intro hb
   ·have q1 : IntKind.i64.wrap ((i : Int).tdiv 4) = ((i / 4 : Nat) : Int) := by rw [Int.tdiv_eq_ediv_of_nonneg (by omega), IntWalk.i64_in _ (by omega)]; omega
    have q2 : (i : Int).tmod 4 = ((i % 4 : Nat) : Int) := by rw [Int.tmod_eq_emod_of_nonneg (by omega)]; omega
    have q3 : IntKind.i64.wrap (8 * ((i % 4 : Nat) : Int)) = ((8 * (i % 4) : Nat) : Int) := by rw [IntWalk.i64_in _ (by omega)]; omega
    have q4 : IntKind.i64.wrap (24 - ((8 * (i % 4) : Nat) : Int)) = ((24 - 8 * (i % 4) : Nat) : Int) := by rw [IntWalk.i64_in _ (by omega)]; omega
    have g1 := fun l => zw9 S l (k := i / 4) (by omega)
    have t1 := zkd (outL S i) i (by rw [z0n]; omega)
    have hE := And.intro hE (And.intro q1 (And.intro q2 (And.intro q3 (And.intro q4 (And.intro g1 (And.intro t1 (And.intro (outL.eq_2 S i) (And.intro (outB.eq_1 S i) (And.intro z63 zq5)))))))))
    apply z9
    apply z7
    apply z6
    apply zc
    refine WS [1, 2, 6, 7, 40] [1, 2, 6] ?_
    refine WQ [1, 2, 6, 40] [1, 2, 6] ?_
    apply zg
    apply z7
    refine WQ [1, 2, 6, 40] [1, 2, 6] ?_
    refine WN (⟨i + 1, by omega⟩)
   ·apply zn
    apply zh
    have hend : i = 32 := by omega
    subst hend
    apply ze
    apply zw
    apply z7
    rw [hfin]
    refine WS [2] [2] ?_
    apply za
    exact E0
end Go.Proofs.YtabjaaonfaejmaaGreatDoor

namespace Go.Proofs.YtabjaaonfaejmaaGreatDoor
open Go.Av
def opN (l : List Int) (a : Int) : Int := atM l a 65536
def opT (l : List Int) (a : Int) : List ByteArray := if (opN l a).tmod 3 = 0 then k8 l (a + 1) (((opN l a).tdiv 3).tmod 3).toNat else []
def opP (l : List Int) (a : Int) : List (Int × Int) := if (opN l a).tmod 3 = 0 then [((opN l a).tmod 2, ((opN l a).tdiv 2).tmod 3)] else []
def opS (l : List Int) (a : Int) : SpotM := if (opN l a).tmod 4 = 0 then ⟨((opN l a).tdiv 4).tmod 2, ((opN l a).tdiv 8).tmod 3, ((opN l a).tdiv 16).tmod 4⟩ else ⟨0, 0, 0⟩
def opR (l : List Int) (a : Int) : List IdM := if (opN l a).tmod 4 = 0 then [idM ((opN l a).tdiv 5)] else []
def opM (l : List Int) (a : Int) : OpM := { Kind := (opN l a).tmod 10, At := idM ((opN l a).tdiv 10), To := ⟨0, 0, 0⟩, Spot := opS l a, N := ((opN l a).tdiv 100).tmod 5, Form := 0, Lang := 0, Text := wordM ((opN l a).tdiv 7), Texts := opT l a, Pairs := opP l a, Refs := opR l a }
def idZ : IdM := ⟨0, 0, 0⟩
def z28 (l : List Int) : Int := atM l 3 7
def zw4 (n : Int) (i : Nat) : Int := IntKind.i64.wrap ↑(BitVec.ofInt IntKind.i64.bits (n.fdiv (2 ^ min i IntKind.i64.bits)) &&& BitVec.ofInt IntKind.i64.bits 1).toNat
def nmG (l : List Int) (i : Nat) : NameM := ⟨i, atM l (5 + (i : Int)) 64⟩
def refsG (l : List Int) : Nat → List NameM
 | 0 => []
 | i + 1 => refsG l i ++ if zw4 (atM l 4 64) i = 1 ∧ ((i : Int) = atM l 0 6 → ¬ atM l (5 + (i : Int)) 64 = atM l 1 64) then [nmG l i] else []
def xr (l : List Int) : Int := atM l 11 4096
def zbm : OpM := { Kind := 0, At := idZ, To := idZ, Spot := ⟨0, 0, 0⟩, N := 0, Form := 0, Lang := 0, Text := ⟨#[]⟩, Texts := [], Pairs := [], Refs := [] }
def zfm : TermM := { Name := ⟨#[]⟩, Kind := 0, Lang := 0, See := ⟨#[]⟩, Broader := [] }
def zds (l : List Int) : TermM := { Name := wordM (xr l), Kind := (xr l).tmod 3, Lang := ((xr l).tdiv 3).tmod 4, See := if (xr l).tmod 5 = 0 then wordM ((xr l).tdiv 5) else ⟨#[]⟩, Broader := k8 l 12 (((xr l).tdiv 12).tmod 3).toNat }
def postG (l : List Int) (i : Nat) : PostM := { ID := idM (xr l), Path := k8 l (12 + 4 * (i : Int)) (1 + atM l (30 + (i : Int)) 4).toNat, Main := decide (zw4 (xr l) i = 1) }
def jp (l : List Int) (i : Nat) : List PostM := (List.range i).map (postG l)
def evI (l : List Int) (i : Nat) : EventM := { By := atM l 0 6, Seq := atM l 1 64, Tick := atM l 2 1048577, Kind := z28 l, Refs := refsG l i, Op := zbm, Term := zfm, ID := idZ, Posts := [], N := 0 }
def evG (l : List Int) : EventM :=
 if z28 l = 0 then { evI l 6 with Op := opM l 12 }
 else if z28 l = 2 then { evI l 6 with Term := zds l }
 else if z28 l = 3 ∨ z28 l = 4 then { evI l 6 with ID := idM (xr l), Posts := jp l ((xr l).tmod 4).toNat }
 else if z28 l = 5 ∨ z28 l = 6 then { evI l 6 with ID := idM (xr l), N := atM l 12 1048577 }
 else evI l 6
theorem z6r (l : List Int) : ∀ i, (refsG l i).length ≤ i
 | 0 => Nat.le_refl _
 | i + 1 => by
  have := z6r l i
  rw [refsG, List.length_append]
  split
  ·simp; omega
  ·simp; omega
def ze8 (a b : EventM) : Int := if yx a b = true then -1 else if yx b a = true then 1 else 0
theorem zqc (a b : EventM) : ze8 a b < 0 ↔ yx a b = true := by
 unfold ze8
 split
 ·simp [*]
 ·split <;> simp [*]
def swapM (l : List EventM) (j : Nat) : List EventM := (l.set j (l.getD (j - 1) default)).set (j - 1) (l.getD j default)
theorem zdq (l : List EventM) (j : Nat) : (swapM l j).length = l.length := by simp [swapM]
def Xt (l : List EventM) : Nat → List EventM
 | 0 => l
 | j + 1 => if yx (l.getD (j + 1) default) (l.getD j default) = true then Xt (swapM l (j + 1)) j else l
theorem zcc (l : List EventM) : ∀ j (l : List EventM), (Xt l j).length = l.length
 | 0, _ => rfl
 | j + 1, l => by
  rw [Xt]
  split
  ·rw [zcc l j, zdq]
  ·rfl
def z51 (l : List EventM) : Nat → List EventM
 | 0 => l
 | i + 1 => Xt (z51 l i) i
theorem z52 (l : List EventM) : ∀ i, (z51 l i).length = l.length
 | 0 => rfl
 | i + 1 => by rw [z51, zcc (z51 l i) i, z52 l i]
def zm (l : List EventM) : List EventM := z51 l l.length
def zjz (x : EventM) (out : List EventM) : Nat → Nat
 | 0 => 0
 | k + 1 => if yx x (out.getD k default) = true then zjz x out k else k + 1
theorem zlv (x : EventM) (out : List EventM) : ∀ k, zjz x out k ≤ k
 | 0 => Nat.le_refl _
 | k + 1 => by
  rw [zjz]
  split
  ·exact Nat.le_succ_of_le (zlv x out k)
  ·exact Nat.le_refl _
def znk (x : EventM) (out : List EventM) (p : Nat) : List EventM := out.take p ++ [x] ++ out.drop p
theorem zr7 (x : EventM) (out : List EventM) (p : Nat) (h : p ≤ out.length) : (znk x out p).length = out.length + 1 := by
 simp [znk]; omega
def rsN (l : List EventM) : Nat → List EventM
 | 0 => []
 | i + 1 => znk (l.getD i default) (rsN l i) (zjz (l.getD i default) (rsN l i) (rsN l i).length)
theorem z8l (l : List EventM) : ∀ i, (rsN l i).length = i
 | 0 => rfl
 | i + 1 => by rw [rsN, zr7 _ _ _ (zlv _ _ _), z8l l i]
theorem zt8 (P : List EventM) (a x : EventM) (Q : List EventM) : swapM (P ++ a :: x :: Q) (P.length + 1) = P ++ x :: a :: Q := by
 simp [swapM, List.getD_eq_getElem?_getD]
theorem zcd (x : EventM) (A R : List EventM) : ∀ k, k ≤ A.length → Xt (A.take k ++ x :: (A.drop k ++ R)) k = A.take (zjz x A k) ++ x :: (A.drop (zjz x A k) ++ R)
 | 0, _ => rfl
 | k + 1, h => by
  have ht : A.take (k + 1) = A.take k ++ [A.getD k default] := by
   rw [List.getD_eq_getElem?_getD, List.getElem?_eq_getElem h, Option.getD_some, List.take_append_getElem]
  have hd : A.drop k = A.getD k default :: A.drop (k + 1) := by
   rw [List.getD_eq_getElem?_getD, List.getElem?_eq_getElem h, Option.getD_some, List.drop_eq_getElem_cons h]
  have hl : (A.take k).length = k := by simp; omega
  have e : A.take (k + 1) ++ x :: (A.drop (k + 1) ++ R) = A.take k ++ A.getD k default :: x :: (A.drop (k + 1) ++ R) := by rw [ht]; simp
  rw [e, Xt, zjz]
  have g1 : (A.take k ++ A.getD k default :: x :: (A.drop (k + 1) ++ R)).getD (k + 1) default = x := by
   rw [List.getD_eq_getElem?_getD, List.getElem?_append_right (by omega), hl]
   simp
  have g0 : (A.take k ++ A.getD k default :: x :: (A.drop (k + 1) ++ R)).getD k default = A.getD k default := by
   rw [List.getD_eq_getElem?_getD, List.getElem?_append_right (by omega), hl]
   simp
  rw [g1, g0]
  split
  ·have hs := zt8 (A.take k) (A.getD k default) x (A.drop (k + 1) ++ R)
   rw [hl] at hs
   rw [hs]
   have := zcd x A R k (by omega)
   rw [hd] at this
   simpa using this
  ·rw [e]
theorem zle (l : List EventM) : ∀ i, i ≤ l.length → z51 l i = rsN l i ++ l.drop i
 | 0, _ => rfl
 | i + 1, h => by
  have hd : l.drop i = l.getD i default :: l.drop (i + 1) := by
   rw [List.getD_eq_getElem?_getD, List.getElem?_eq_getElem h, Option.getD_some, List.drop_eq_getElem_cons h]
  rw [z51, zle l i (by omega), rsN]
  have := zcd (l.getD i default) (rsN l i) (l.drop (i + 1)) i (by rw [z8l]; exact Nat.le_refl _)
  have hl := z8l l i
  rw [List.take_of_length_le (by omega), List.drop_of_length_le (by omega), List.nil_append, ← hd] at this
  rw [this, znk, z8l]
  simp
theorem zvw (l : List EventM) : rsN l l.length = zm l := by
 have := zle l l.length (Nat.le_refl _)
 rw [List.drop_of_length_le (Nat.le_refl _), List.append_nil] at this
 exact this.symm
def z4d (n : NameM) (e : EventM) : Bool := wh (evName e) n
def ya (l : List EventM) (n : NameM) : Int := z87 (z4d n) l
def z8q {α : Type} (p : α → Bool) (l : List α) (i : Nat) : Bool := (l.take i).any p
theorem zdr {α : Type} [Inhabited α] (l : List α) {i : Nat} (h : i < l.length) : l.take (i + 1) = l.take i ++ [l.getD i default] := by
 rw [List.getD_eq_getElem?_getD, List.getElem?_eq_getElem h, Option.getD_some, List.take_append_getElem]
theorem zme {α : Type} (p : α → Bool) (l : List α) : z8q p l 0 = false := rfl
theorem zmd {α : Type} [Inhabited α] (p : α → Bool) (l : List α) {i : Nat} (h : i < l.length) : z8q p l (i + 1) = (z8q p l i || p (l.getD i default)) := by
 rw [z8q, zdr l h, List.any_append, ← z8q]
 simp
def znl (e x : EventM) : Bool := x.By == e.By
def kl (e x : EventM) : Bool := x.By == e.By && decide (e.Tick ≤ x.Tick)
def z1e (l : List EventM) (e : EventM) (n : NameM) : Bool := decide (e.Tick ≤ (l.getD (ya l n).toNat default).Tick)
def jx (l : List EventM) (e : EventM) : Int :=
 if vu e ≠ 0 then vu e else if 0 ≤ ya l (evName e) then 7 else if (l.countP (znl e) : Int) ≠ e.Seq then 10
 else if e.Refs.any (fun n => decide (ya l n < 0)) = true then 10 else if (l.any (kl e) || e.Refs.any (z1e l e)) = true then 5 else 0
theorem zj7 {l : List EventM} {e : EventM} (h1 : vu e = 0) (h2 : ¬ 0 ≤ ya l (evName e)) (h3 : (l.countP (znl e) : Int) = e.Seq) {i : Nat} (hi : i < e.Refs.length) (h : ya l (e.Refs.getD i default) < 0) : jx l e = 10 := by
 unfold jx
 have : e.Refs.any (fun n => decide (ya l n < 0)) = true := by
  rw [List.any_eq_true]
  refine ⟨e.Refs[i], List.getElem_mem hi, ?_⟩
  rw [List.getD_eq_getElem?_getD, List.getElem?_eq_getElem hi] at h
  simpa using h
 rw [if_neg (by omega), if_neg h2, if_neg (by omega), if_pos this]
theorem zj6 {l : List EventM} {e : EventM} (h1 : vu e = 0) (h2 : ¬ 0 ≤ ya l (evName e)) (h3 : (l.countP (znl e) : Int) = e.Seq) (h : ∀ i, i < e.Refs.length → 0 ≤ ya l (e.Refs.getD i default)) : jx l e = if (l.any (kl e) || e.Refs.any (z1e l e)) = true then 5 else 0 := by
 unfold jx
 have : ¬ e.Refs.any (fun n => decide (ya l n < 0)) = true := by
  rw [List.any_eq_true]
  rintro ⟨x, hx, hf⟩
  obtain ⟨j, hj, rfl⟩ := List.getElem_of_mem hx
  have := h j hj
  rw [List.getD_eq_getElem?_getD, List.getElem?_eq_getElem hj] at this
  simp at hf this
  omega
 rw [if_neg (by omega), if_neg h2, if_neg (by omega), if_neg this]
theorem zgl (l : List EventM) (n : NameM) : ya l n = -1 ∨ (0 ≤ ya l n ∧ (ya l n).toNat < l.length ∧ ya l n < l.length) := by
 unfold ya z87
 split
 ·right; omega
 ·left; rfl
theorem zpo {α : Type} (p : α → Bool) (l : List α) : z8q p l l.length = l.any p := by rw [z8q, List.take_length]
def Qv (n : Nat) (s : List EventM) : Nat → Int × Int
 | 0 => (n, 0)
 | k + 1 => let i := s.length - (k + 1); if jx (s.take i) (s.getD i default) ≠ 0 then (i, jx (s.take i) (s.getD i default)) else Qv n s k
def vo (l : List EventM) : Int × Int := if 384 < l.length then (0, 4) else Qv l.length (zm l) (zm l).length
theorem zir {n : Nat} {s : List EventM} {i : Nat} (hi : i < s.length) (h : jx (s.take i) (s.getD i default) = 0) : Qv n s (s.length - i) = Qv n s (s.length - (i + 1)) := by
 rw [show s.length - i = s.length - (i + 1) + 1 by omega, Qv]
 have : s.length - (s.length - (i + 1) + 1) = i := by omega
 simp only [this]
 rw [if_neg (by omega)]
theorem X2 {n : Nat} {s : List EventM} {i : Nat} (hi : i < s.length) (h : jx (s.take i) (s.getD i default) ≠ 0) : Qv n s (s.length - i) = ((i : Int), jx (s.take i) (s.getD i default)) := by
 rw [show s.length - i = s.length - (i + 1) + 1 by omega, Qv]
 have : s.length - (s.length - (i + 1) + 1) = i := by omega
 simp only [this]
 rw [if_pos h]
end Go.Proofs.YtabjaaonfaejmaaGreatDoor

namespace Go.Proofs.YtabjaaonfaejmaaGreatDoor
open Go.Av
abbrev z9w : Dat → Prop := fun d => ∃ n, d = .int .i64 n
abbrev znm : Dat → Prop := fun d => ∃ a b, d = .agg [.int .i64 a, .int .i64 b]
theorem zgx (a b : Int) : j7 (iD a) (iD b) = (a == b) := rfl
theorem znp (m n : NameM) : j7 (vb m) (vb n) = wh m n := rfl
theorem z83 {m n : NameM} (h : wh m n = true) : m = n := by
 cases m; cases n
 simp only [wh, Bool.and_eq_true, beq_iff_eq] at h
 rw [h.1, h.2]
theorem z3y (m : NameM) : wh m m = true := by simp [wh]
theorem znc (l : List EventM) (e : EventM) (n : NameM) : ya (l ++ [e]) n = if 0 ≤ ya l n then ya l n else if z4d n e = true then (l.length : Int) else -1 := by
 unfold ya z87
 rw [List.findIdx_append]
 have hle : l.findIdx (z4d n) ≤ l.length := List.findIdx_le_length
 by_cases h : l.findIdx (z4d n) < l.length
 ·simp [h]
  omega
 ·simp only [h, if_false]
  by_cases he : z4d n e = true
  ·simp [List.findIdx_cons, he]
  ·simp [List.findIdx_cons, he]
   omega
structure ClInv (l : List EventM) (k1 v1 k2 v2 k3 v3 : List Dat) : Prop where
 l1 : k1.length = v1.length
 l2 : k2.length = v2.length
 l3 : k3.length = v3.length
 q1 : ∀ k ∈ k1, znm k
 q2 : ∀ k ∈ k2, z9w k
 q3 : ∀ k ∈ k3, z9w k
 tick : ∀ n, (ya l n = -1 ∧ lkp k1 v1 (vb n) = none) ∨ (0 ≤ ya l n ∧ lkp k1 v1 (vb n) = some (iD (l.getD (ya l n).toNat default).Tick))
 count : ∀ b, (lkp k2 v2 (iD b)).getD (iD 0) = iD (l.countP (fun x => x.By == b))
 last : ∀ b, ((l.countP (fun x => x.By == b)) = 0 ∧ lkp k3 v3 (iD b) = none) ∨ (0 < l.countP (fun x => x.By == b) ∧ ∃ t, lkp k3 v3 (iD b) = some (iD t) ∧ (∃ x ∈ l, x.By = b ∧ x.Tick = t) ∧ ∀ x ∈ l, x.By = b → x.Tick ≤ t)
theorem zmq : ClInv [] [] [] [] [] [] [] where
 l1 := rfl
 l2 := rfl
 l3 := rfl
 q1 := by simp
 q2 := by simp
 q3 := by simp
 tick n := .inl ⟨rfl, rfl⟩
 count b := rfl
 last b := .inl ⟨rfl, rfl⟩
theorem z8c {d k : Dat} (hd : z9w d) (hk : z9w k) (h : j7 d k = true) : d = k := by
 obtain ⟨a, rfl⟩ := hd
 obtain ⟨b, rfl⟩ := hk
 simp [j7] at h
 rw [h]
theorem zh6 {d k : Dat} (hd : znm d) (hk : znm k) (h : j7 d k = true) : d = k := by
 obtain ⟨a, b, rfl⟩ := hd
 obtain ⟨c, d, rfl⟩ := hk
 simp [j7] at h
 rw [h.1, h.2]
theorem zmp {l : List EventM} {k1 v1 k2 v2 k3 v3 : List Dat} (h : ClInv l k1 v1 k2 v2 k3 v3) (e : EventM) (hn : ya l (evName e) = -1) (ht : ∀ x ∈ l, x.By = e.By → x.Tick < e.Tick) :
  ClInv (l ++ [e]) (Qa k1 (vb (evName e))) (Z6 k1 v1 (vb (evName e)) (iD e.Tick)) (Qa k2 (iD e.By)) (Z6 k2 v2 (iD e.By) (iD ((l.countP (fun x => x.By == e.By) : Int) + 1))) (Qa k3 (iD e.By)) (Z6 k3 v3 (iD e.By) (iD e.Tick)) where
 l1 := z8i h.l1
 l2 := z8i h.l2
 l3 := z8i h.l3
 q1 := z5g ⟨_, _, rfl⟩ h.q1
 q2 := z5g ⟨_, rfl⟩ h.q2
 q3 := z5g ⟨_, rfl⟩ h.q3
 tick n := by
  rw [zer h.l1 (fun k hk => zh6 ⟨_, _, rfl⟩ (h.q1 k hk)) (zh6 ⟨_, _, rfl⟩ ⟨_, _, rfl⟩), znc, znp]
  by_cases hne : wh n (evName e) = true
  ·have := z83 hne
   subst this
   have hi : z4d (evName e) e = true := z3y _
   right
   rw [hn, if_neg (by omega), if_pos hi, if_pos hne]
   refine ⟨by omega, ?_⟩
   simp [List.getD_eq_getElem?_getD]
  ·have hi : ¬ z4d n e = true := fun h => hne (by have := z83 h; rw [this]; exact z3y _)
   rw [if_neg hne, if_neg hi]
   rcases h.tick n with ⟨h1, h2⟩ | ⟨h1, h2⟩
   ·left
    rw [if_neg (by omega)]
    exact ⟨rfl, h2⟩
   ·right
    rw [if_pos h1]
    refine ⟨h1, ?_⟩
    have hr := zgl l n
    rw [h2, List.getD_eq_getElem?_getD, List.getD_eq_getElem?_getD, List.getElem?_append_left (by omega)]
 count b := by
  rw [zer h.l2 (fun k hk => z8c ⟨_, rfl⟩ (h.q2 k hk)) (z8c ⟨_, rfl⟩ ⟨_, rfl⟩), zgx, List.countP_append]
  by_cases hb : b = e.By
  ·subst hb
   simp [List.countP_cons]
  ·have hb' : ¬ (e.By == b) = true := by simpa using Ne.symm hb
   have hb2 : ¬ (b == e.By) = true := by simpa using hb
   rw [if_neg hb2, h.count b]
   simp [List.countP_cons, hb']
 last b := by
  rw [zer h.l3 (fun k hk => z8c ⟨_, rfl⟩ (h.q3 k hk)) (z8c ⟨_, rfl⟩ ⟨_, rfl⟩), zgx, List.countP_append]
  by_cases hb : b = e.By
  ·subst hb
   right
   refine ⟨by simp [List.countP_cons], e.Tick, by simp, ⟨e, by simp, rfl, rfl⟩, fun x hx hby => ?_⟩
   rcases List.mem_append.1 hx with hx | hx
   ·exact Int.le_of_lt (ht x hx hby)
   ·simp at hx; rw [hx]; exact Int.le_refl _
  ·have hb' : ¬ (e.By == b) = true := by simpa using Ne.symm hb
   have hb2 : ¬ (b == e.By) = true := by simpa using hb
   have hc : ([e].countP fun x => x.By == b) = 0 := by simp [List.countP_cons, hb']
   rw [if_neg hb2, hc, Nat.add_zero]
   rcases h.last b with h1 | ⟨h1, t, h2, ⟨x, hx, hxb, hxt⟩, h3⟩
   ·exact .inl h1
   ·refine .inr ⟨h1, t, h2, ⟨x, List.mem_append_left _ hx, hxb, hxt⟩, fun y hy hyb => ?_⟩
    rcases List.mem_append.1 hy with hy | hy
    ·exact h3 y hy hyb
    ·simp at hy
     subst hy
     exact absurd hyb.symm hb
theorem zin {l : List EventM} {k1 v1 k2 v2 k3 v3 : List Dat} (h : ClInv l k1 v1 k2 v2 k3 v3) (e : EventM) :
  (l.countP (fun x => x.By == e.By) = 0 ∧ l.any (kl e) = false ∧ lkp k3 v3 (iD e.By) = none) ∨ (0 < l.countP (fun x => x.By == e.By) ∧ ∃ t, lkp k3 v3 (iD e.By) = some (iD t) ∧ l.any (kl e) = decide (e.Tick ≤ t)) := by
 rcases h.last e.By with ⟨h1, h2⟩ | ⟨h1, t, h2, ⟨x, hx, hxb, hxt⟩, h3⟩
 ·refine .inl ⟨h1, ?_, h2⟩
  rw [List.any_eq_false]
  intro x hx hl
  simp only [kl, Bool.and_eq_true] at hl
  have := List.countP_eq_zero.1 h1 x hx
  exact this hl.1
 ·refine .inr ⟨h1, t, h2, ?_⟩
  by_cases ht : e.Tick ≤ t
  ·rw [decide_eq_true ht, List.any_eq_true]
   exact ⟨x, hx, by simp [kl, hxb, hxt, ht]⟩
  ·rw [decide_eq_false ht, List.any_eq_false]
   intro y hy hl
   simp only [kl, Bool.and_eq_true, beq_iff_eq, decide_eq_true_eq] at hl
   have := h3 y hy hl.1
   omega
def exE (b t k : Int) (r : List NameM) (n : Int) : EventM := { By := b, Seq := 0, Tick := t, Kind := k, Refs := r, Op := zbm, Term := zfm, ID := idZ, Posts := [], N := n }
theorem ex1 : vo [exE 1 4 1 [⟨0, 0⟩] 0, exE 0 3 1 [] 0] = (2, 0) := by decide +kernel
theorem ex2 : vo [exE 0 3 1 [] 0, exE 1 3 1 [⟨0, 0⟩] 0] = (1, 5) := by decide +kernel
theorem ex3 : vo [exE 1 4 1 [⟨0, 0⟩] 0] = (0, 10) := by decide +kernel
theorem ex4 : vo [exE 0 3 1 [] 0, exE 0 3 1 [] 0] = (1, 7) := by decide +kernel
theorem ex5 : vo [exE 2 1 5 [] (-1)] = (0, 1) := by decide +kernel
theorem zr8 {x a : EventM} {out : List EventM} {p : Nat} (h : x ∈ znk a out p) : x = a ∨ x ∈ out := by
 simp only [znk, List.mem_append, List.mem_singleton] at h
 rcases h with (h | h) | h
 ·exact .inr (List.mem_of_mem_take h)
 ·exact .inl h
 ·exact .inr (List.mem_of_mem_drop h)
theorem zm4 {x : EventM} (l : List EventM) : ∀ i, i ≤ l.length → x ∈ rsN l i → x ∈ l
 | 0, _, h => by simp [rsN] at h
 | i + 1, hi, h => by
  rw [rsN] at h
  rcases zr8 h with h | h
  ·rw [h, List.getD_eq_getElem?_getD, List.getElem?_eq_getElem hi]
   exact List.getElem_mem hi
  ·exact zm4 l i (by omega) h
theorem zp1 {x : EventM} {l : List EventM} (h : x ∈ zm l) : x ∈ l := by
 rw [← zvw] at h
 exact zm4 l _ (Nat.le_refl _) h
theorem Zf : I64 0 := by unfold I64; omega
theorem okZ : OkOp zbm where
 head := by
  intro x hx
  have : x = 0 := by
   simp [y7, zbm, idZ] at hx
   exact hx
  rw [this]; exact Zf
 pairs := by simp [zbm]
 refs := by simp [zbm]
 text := by decide
 texts := by simp [zbm]
 ntexts := by decide
 npairs := by decide
 nrefs := by decide
 all := by decide +kernel
theorem zv9 {b t k n : Int} {r : List NameM} (hb : I64 b) (ht : I64 t) (hk : I64 k) (hn : I64 n) (hr : r.length ≤ 1000) (hrr : ∀ x ∈ r, I64 x.By ∧ I64 x.Seq) : OkEv (exE b t k r n) where
 by_ := hb
 seq := Zf
 tick := ht
 kind := hk
 n := hn
 id := ⟨Zf, Zf, Zf⟩
 tk := Zf
 tl := Zf
 refs := hrr
 nrefs := by show r.length ≤ 100000; omega
 op := okZ
 name := by show (0 : Nat) ≤ 900000; omega
 see := by show (0 : Nat) ≤ 900000; omega
 broader := by simp [exE, zfm]
 nbroader := by show (0 : Nat) ≤ 100000; omega
 posts := by simp [exE]
 nposts := by show (0 : Nat) ≤ 1000; omega
inductive GoodL : List EventM → Prop
 | nil : GoodL []
 | snoc {s : List EventM} {e : EventM} : GoodL s → (∀ x ∈ s, x.Tick < e.Tick) → vu e = 0 → (∀ x ∈ s, evName x ≠ evName e) → ((s.countP (znl e) : Nat) : Int) = e.Seq → (∀ n ∈ e.Refs, ∃ x ∈ s, evName x = n) → GoodL (s ++ [e])
structure LsOk (out : List EventM) (t : Int) : Prop where
 good : GoodL out
 tick : ∀ x ∈ out, x.Tick < t
 by_ : ∀ x ∈ out, 0 ≤ x.By ∧ x.By ≤ 2 ∧ 0 ≤ x.Seq ∧ x.Seq ≤ out.length
end Go.Proofs.YtabjaaonfaejmaaGreatDoor

namespace Go.Proofs.YtabjaaonfaejmaaGreatDoor
open Go.Av
theorem ye {n : Int} (h1 : -1000000000 ≤ n) (h2 : n ≤ 1000000000) : I64 n := by unfold I64; omega
theorem z9o (n : Int) : z6e (idM n) := by
 have h1 := Int.tmod_lt_of_pos n (b := 4) (by omega)
 have h2 := Int.lt_tmod_of_pos n (b := 4) (by omega)
 have h3 := Int.tmod_lt_of_pos (n.tdiv 4) (b := 8) (by omega)
 have h4 := Int.lt_tmod_of_pos (n.tdiv 4) (b := 8) (by omega)
 have h5 := Int.tmod_lt_of_pos (n.tdiv 32) (b := 3) (by omega)
 have h6 := Int.lt_tmod_of_pos (n.tdiv 32) (b := 3) (by omega)
 unfold idM
 exact ⟨ye (by dsimp only; omega) (by dsimp only; omega), ye (by dsimp only; omega) (by dsimp only; omega), ye (by dsimp only; omega) (by dsimp only; omega)⟩
def z1p (l : List NameM) (b : Int) (i : Nat) : List NameM := l ++ (List.range (i - l.length)).map fun j => ⟨b, ((l.length + j : Nat) : Int)⟩
def z79 (l : List NameM) (b : Int) : List NameM := z1p l b (max 17 l.length)
theorem zco {l : List NameM} {b : Int} {i : Nat} (h : l.length ≤ i) : (z1p l b i).length = i := by simp [z1p]; omega
theorem z9e (l : List NameM) (b : Int) : z1p l b l.length = l := by simp [z1p]
theorem zj9 {l : List NameM} {b : Int} {i : Nat} (h : l.length ≤ i) : z1p l b (i + 1) = z1p l b i ++ [⟨b, (i : Int)⟩] := by
 have e : i + 1 - l.length = (i - l.length) + 1 := by omega
 rw [z1p, e, List.range_succ, List.map_append, z1p, List.append_assoc]
 congr 2
 simp only [List.map_cons, List.map_nil]
 rw [show l.length + (i - l.length) = i by omega]
def sufL : List ByteArray := [⟨#[]⟩, ⟨#[64]⟩, ⟨#[32]⟩, ⟨#[32, 32, 120]⟩, ⟨#[32, 111, 102, 32, 116, 104, 101, 32, 108, 121, 114, 101, 32, 111, 102, 32, 114, 111, 109, 101]⟩]
def seeL : List ByteArray := [⟨#[]⟩, ⟨#[97, 110, 110, 97]⟩, ⟨#[64]⟩, ⟨#[32]⟩]
def sp7 (l : List NameM) (b : Int) : List NameM := if 0 < l.length then l.set (wc b l.length).toNat (l.getD 0 default) else l
def zp2 (l : List PostM) (b : Int) : List PostM := match l with
 | [] => []
 | p :: ps => { ID := ⟨IntKind.i64.wrap (p.ID.By + (b.tdiv 5).tmod 2), p.ID.Seq, p.ID.K⟩, Path := p.Path.take (wc b (p.Path.length + 1)).toNat, Main := p.Main } :: ps
def spM (c : Int) (e : EventM) (b : Int) : EventM :=
 if c = 0 then { e with By := b } else if c = 1 then { e with Seq := b } else if c = 2 then { e with Tick := b } else if c = 3 then { e with Kind := b } else if c = 4 then { e with N := b }
 else if c = 5 then { e with ID := { e.ID with K := b } }
 else if c = 6 then { e with Refs := e.Refs ++ [⟨b, b.tdiv 7⟩] }
 else if c = 7 then { e with Refs := sp7 e.Refs b }
 else if c = 8 then { e with Term := { e.Term with Name := wordM b ++ sufL.getD (wc (b.tdiv 8) 5).toNat default } }
 else if c = 9 then { e with Term := { e.Term with See := seeL.getD (wc b 4).toNat default } }
 else if c = 10 then { e with Term := { e.Term with Broader := e.Term.Broader ++ [wordM b, ⟨#[]⟩, wordM b] } }
 else if c = 11 then { e with Term := { e.Term with Lang := b } }
 else if c = 12 then { e with Posts := e.Posts ++ [{ ID := e.ID, Path := [wordM b], Main := false }] }
 else if c = 13 then { e with Posts := zp2 e.Posts b }
 else if c = 14 then { e with Op := { e.Op with N := b } }
 else { e with Refs := z79 e.Refs b }
def qe (e : EventM) (how b : Int) : EventM := spM (wc how 16) e b
theorem jr (n : Int) : (wordM n).size ≤ 12 := by
 have h := xj (n := n) (m := 8) (by omega)
 have key : ∀ i : Fin 8, (wordsL.getD i.val default).size ≤ 12 := by decide
 have := key ⟨(wc n 8).toNat, by omega⟩
 exact this
theorem zdo {i : Nat} (h : i < 5) : (sufL.getD i default).size ≤ 20 := by
 have key : ∀ i : Fin 5, (sufL.getD i.val default).size ≤ 20 := by decide
 exact key ⟨i, h⟩
theorem zoy {i : Nat} (h : i < 4) : (seeL.getD i default).size ≤ 20 := by
 have key : ∀ i : Fin 4, (seeL.getD i.val default).size ≤ 20 := by decide
 exact key ⟨i, h⟩
structure SmOp (o : OpM) : Prop where
 head : ∀ x ∈ y7 o, I64 x
 pairs : ∀ p ∈ o.Pairs, I64 p.1 ∧ I64 p.2
 refs : ∀ r ∈ o.Refs, z6e r
 text : o.Text.size ≤ 100
 texts : ∀ s ∈ o.Texts, s.size ≤ 100
 ntexts : o.Texts.length ≤ 10
 npairs : o.Pairs.length ≤ 10
 nrefs : o.Refs.length ≤ 10
theorem Zu {s : ByteArray} {c : Nat} (h : s.size ≤ c) (hc : c ≤ 1000000) : (x7 s).length ≤ 9 + c := by
 have h1 := vj (n := (s.size : Int)) (by unfold I64; omega)
 rw [x7, List.length_append, j8]
 omega
theorem z14 {α : Type} {f : α → List Int} {l : List α} {c : Nat} (hf : ∀ x ∈ l, (f x).length ≤ c ∧ ∀ y ∈ f x, I64 y) (hl : c * l.length ≤ 1000000) : (intsM (l.flatMap f)).length ≤ 9 + 9 * (c * l.length) := by
 have h1 := Zm f c l fun x hx => (hf x hx).1
 have h2 := w8 (l := l.flatMap f) (fun y hy => by
  obtain ⟨x, hx, hy⟩ := List.mem_flatMap.1 hy
  exact (hf x hx).2 y hy) (by omega)
 omega
theorem zzs {o : OpM} (h : SmOp o) : OkOp o where
 head := h.head
 pairs := h.pairs
 refs := h.refs
 text := by have := h.text; omega
 texts := fun s hs => by have := h.texts s hs; omega
 ntexts := by have := h.ntexts; omega
 npairs := by have := h.npairs; omega
 nrefs := by have := h.nrefs; omega
 all := by
  have h0 := w8 h.head (by simp [y7])
  have e0 : (y7 o).length = 13 := rfl
  have h1 := Zu h.text (by omega)
  have h2 : (strsM o.Texts).length ≤ 9 + 109 * o.Texts.length := by
   rw [strsM, Zi, Xg, List.length_append]
   have ha := Zm x7 109 o.Texts fun s hs => Zu (h.texts s hs) (by omega)
   have hb := vj (n := (o.Texts.length : Int)) (by have := h.ntexts; unfold I64; omega)
   omega
  have n1 := h.ntexts
  have n2 := h.npairs
  have n3 := h.nrefs
  have h3 := z14 (f := pairI) (l := o.Pairs) (c := 2) (fun p hp => ⟨Nat.le_refl _, fun y hy => by
   have := h.pairs p hp
   simp only [pairI, List.mem_cons, List.not_mem_nil, or_false] at hy
   rcases hy with rfl | rfl
   ·exact this.1
   ·exact this.2⟩) (by omega)
  have h4 := z14 (f := idI) (l := o.Refs) (c := 3) (fun p hp => ⟨Nat.le_refl _, fun y hy => by
   have := h.refs p hp
   simp only [idI, List.mem_cons, List.not_mem_nil, or_false] at hy
   rcases hy with rfl | rfl | rfl
   ·exact this.1
   ·exact this.2.1
   ·exact this.2.2⟩) (by omega)
  rw [opB, List.length_append, List.length_append, List.length_append, List.length_append]
  omega
structure SmEv (k : Nat) (e : EventM) : Prop where
 by_ : I64 e.By
 seq : I64 e.Seq
 tick : I64 e.Tick
 kind : I64 e.Kind
 n : I64 e.N
 id : z6e e.ID
 tk : I64 e.Term.Kind
 tl : I64 e.Term.Lang
 refs : ∀ r ∈ e.Refs, I64 r.By ∧ I64 r.Seq
 nrefs : e.Refs.length ≤ 20 * (k + 1)
 op : SmOp e.Op
 name : e.Term.Name.size ≤ 100
 see : e.Term.See.size ≤ 100
 broader : ∀ s ∈ e.Term.Broader, s.size ≤ 100
 nbroader : e.Term.Broader.length ≤ 10 * (k + 1)
 posts : ∀ p ∈ e.Posts, z6e p.ID ∧ p.Path.length ≤ 10 ∧ ∀ s ∈ p.Path, s.size ≤ 100
 nposts : e.Posts.length ≤ 10 * (k + 1)
theorem zb1 {k : Nat} {e : EventM} (h : SmEv k e) (hk : k ≤ 20) : OkEv e where
 by_ := h.by_
 seq := h.seq
 tick := h.tick
 kind := h.kind
 n := h.n
 id := h.id
 tk := h.tk
 tl := h.tl
 refs := h.refs
 nrefs := by have := h.nrefs; omega
 op := zzs h.op
 name := by have := h.name; omega
 see := by have := h.see; omega
 broader := fun s hs => by have := h.broader s hs; omega
 nbroader := by have := h.nbroader; omega
 posts := fun p hp => by
  have := h.posts p hp
  exact ⟨this.1, by omega, fun s hs => by have := this.2.2 s hs; omega⟩
 nposts := by have := h.nposts; omega
theorem zb2 {k : Nat} {e : EventM} (h : SmEv k e) : SmEv (k + 1) e := { h with
 nrefs := by have := h.nrefs; omega
 nbroader := by have := h.nbroader; omega
 nposts := by have := h.nposts; omega }
theorem zr2 (n : Int) : I64 (IntKind.i64.wrap n) := by
 rw [IntKind.wrap_i64]
 unfold I64
 omega
theorem zgq {n c : Int} (h : I64 n) (hc : 1 < c) : I64 (n.tdiv c) := by
 unfold I64 at *
 by_cases h0 : 0 ≤ n
 ·rw [Int.tdiv_eq_ediv_of_nonneg h0]
  have h1 := Int.ediv_nonneg h0 (by omega : 0 ≤ c)
  have h2 := Int.ediv_le_self c h0
  omega
 ·have e : n.tdiv c = -((-n).tdiv c) := by rw [Int.neg_tdiv]; omega
  rw [e, Int.tdiv_eq_ediv_of_nonneg (by omega)]
  have h1 := Int.ediv_nonneg (by omega : 0 ≤ -n) (by omega : 0 ≤ c)
  have h2 := Int.ediv_le_self c (by omega : 0 ≤ -n)
  have h3 : (-n) / c < 9223372036854775808 := by
   by_cases h4 : -n ≤ 9223372036854775807
   ·omega
   ·have : -n = 9223372036854775808 := by omega
    rw [this]
    exact Int.ediv_lt_self_of_pos_of_ne_one (by omega) (by omega)
  omega
theorem znb {l : List NameM} {b : Int} (hb : I64 b) (hl : l.length ≤ 100000) (h : ∀ r ∈ l, I64 r.By ∧ I64 r.Seq) : ∀ r ∈ z79 l b, I64 r.By ∧ I64 r.Seq := by
 intro r hr
 unfold z79 z1p at hr
 rcases List.mem_append.1 hr with hr | hr
 ·exact h r hr
 ·obtain ⟨j, hj, rfl⟩ := List.mem_map.1 hr
  have := List.mem_range.1 hj
  exact ⟨hb, ye (by dsimp only; omega) (by dsimp only; omega)⟩
theorem zws {k : Nat} {e : EventM} {b : Int} (h : SmEv k e) (hk : k ≤ 20) (hb : I64 b) (c : Int) : SmEv (k + 1) (spM c e b) := by
 have h' := zb2 h
 unfold spM
 by_cases c0 : c = 0
 ·rw [if_pos c0]
  exact { h' with by_ := hb }
 rw [if_neg c0]
 by_cases c1 : c = 1
 ·rw [if_pos c1]
  exact { h' with seq := hb }
 rw [if_neg c1]
 by_cases c2 : c = 2
 ·rw [if_pos c2]
  exact { h' with tick := hb }
 rw [if_neg c2]
 by_cases c3 : c = 3
 ·rw [if_pos c3]
  exact { h' with kind := hb }
 rw [if_neg c3]
 by_cases c4 : c = 4
 ·rw [if_pos c4]
  exact { h' with n := hb }
 rw [if_neg c4]
 by_cases c5 : c = 5
 ·rw [if_pos c5]
  exact { h' with id := ⟨h'.id.1, h'.id.2.1, hb⟩ }
 rw [if_neg c5]
 by_cases c6 : c = 6
 ·rw [if_pos c6]
  refine { h' with refs := fun r hr => ?_, nrefs := ?_ }
  ·rcases List.mem_append.1 hr with hr | hr
   ·exact h'.refs r hr
   ·rw [List.mem_singleton.1 hr]; exact ⟨hb, zgq hb (by omega)⟩
  ·have := h.nrefs
   show (e.Refs ++ [_]).length ≤ _
   rw [List.length_append, List.length_singleton]
   omega
 rw [if_neg c6]
 by_cases c7 : c = 7
 ·rw [if_pos c7]
  refine { h' with refs := fun r hr => ?_, nrefs := ?_ }
  ·have hr : r ∈ sp7 e.Refs b := hr
   unfold sp7 at hr
   split at hr
   ·rename_i h0
    rcases List.mem_or_eq_of_mem_set hr with hr | hr
    ·exact h'.refs r hr
    ·rw [hr]; exact x4 h'.refs h0
   ·exact h'.refs r hr
  ·have := h'.nrefs
   show (sp7 e.Refs b).length ≤ _
   unfold sp7
   split
   ·rw [List.length_set]; exact this
   ·exact this
 rw [if_neg c7]
 by_cases c8 : c = 8
 ·rw [if_pos c8]
  refine { h' with name := ?_ }
  have h1 := jr b
  have h2 := zdo (i := (wc (b.tdiv 8) 5).toNat) (by have := xj (n := b.tdiv 8) (m := 5) (by omega); omega)
  show (wordM b ++ sufL.getD _ default).size ≤ 100
  rw [ByteArray.size_append]
  omega
 rw [if_neg c8]
 by_cases c9 : c = 9
 ·rw [if_pos c9]
  refine { h' with see := ?_ }
  have h2 := zoy (i := (wc b 4).toNat) (by have := xj (n := b) (m := 4) (by omega); omega)
  show (seeL.getD _ default).size ≤ 100
  omega
 rw [if_neg c9]
 by_cases c10 : c = 10
 ·rw [if_pos c10]
  have h1 := jr b
  refine { h' with broader := fun s hs => ?_, nbroader := ?_ }
  ·rcases List.mem_append.1 hs with hs | hs
   ·exact h'.broader s hs
   ·simp only [List.mem_cons, List.not_mem_nil, or_false] at hs
    rcases hs with rfl | rfl | rfl
    ·omega
    ·decide
    ·omega
  ·have := h.nbroader
   show (e.Term.Broader ++ [_, _, _]).length ≤ _
   rw [List.length_append]
   simp only [List.length_cons, List.length_nil]
   omega
 rw [if_neg c10]
 by_cases c11 : c = 11
 ·rw [if_pos c11]
  exact { h' with tl := hb }
 rw [if_neg c11]
 by_cases c12 : c = 12
 ·rw [if_pos c12]
  have h1 := jr b
  refine { h' with posts := fun p hp => ?_, nposts := ?_ }
  ·rcases List.mem_append.1 hp with hp | hp
   ·exact h'.posts p hp
   ·rw [List.mem_singleton.1 hp]
    refine ⟨h'.id, by show ([wordM b]).length ≤ 10; simp, fun s hs => ?_⟩
    rw [List.mem_singleton.1 hs]
    omega
  ·have := h.nposts
   show (e.Posts ++ [_]).length ≤ _
   rw [List.length_append, List.length_singleton]
   omega
 rw [if_neg c12]
 by_cases c13 : c = 13
 ·rw [if_pos c13]
  have hps := h'.posts
  have hnp := h'.nposts
  refine { h' with posts := fun p hp => ?_, nposts := ?_ }
  ·have hp : p ∈ zp2 e.Posts b := hp
   cases hq : e.Posts with
   | nil => rw [hq] at hp; simp [zp2] at hp
   | cons p0 ps =>
    rw [hq] at hp hps
    rcases List.mem_cons.1 hp with hp | hp
    ·have h0 := hps p0 (by simp)
     rw [hp]
     refine ⟨⟨zr2 _, h0.1.2.1, h0.1.2.2⟩, ?_, fun s hs => h0.2.2 s (List.mem_of_mem_take hs)⟩
     show (p0.Path.take _).length ≤ 10
     rw [List.length_take]
     omega
    ·exact hps p (List.mem_cons.2 (.inr hp))
  ·show (zp2 e.Posts b).length ≤ _
   cases hq : e.Posts with
   | nil => simp [zp2]
   | cons p0 ps => rw [hq] at hnp; exact hnp
 rw [if_neg c13]
 by_cases c14 : c = 14
 ·rw [if_pos c14]
  refine { h' with op := { h'.op with head := fun x hx => ?_ } }
  have hh := h'.op.head
  simp only [y7, List.mem_cons, List.not_mem_nil, or_false] at hx hh
  rcases hx with rfl | rfl | rfl | rfl | rfl | rfl | rfl | rfl | rfl | rfl | rfl | rfl | rfl
  ·exact hh _ (by simp)
  ·exact hh _ (by simp)
  ·exact hh _ (by simp)
  ·exact hh _ (by simp)
  ·exact hh _ (by simp)
  ·exact hh _ (by simp)
  ·exact hh _ (by simp)
  ·exact hh _ (by simp)
  ·exact hh _ (by simp)
  ·exact hh _ (by simp)
  ·exact hb
  ·exact hh _ (by simp)
  ·exact hh _ (by simp)
 rw [if_neg c14]
 ·have hn := h.nrefs
  refine { h' with refs := znb hb (by omega) h'.refs, nrefs := ?_ }
  show (z79 e.Refs b).length ≤ _
  rw [z79, zco (by omega)]
  omega
theorem smZ : SmOp zbm where
 head := okZ.head
 pairs := by simp [zbm]
 refs := by simp [zbm]
 text := by decide
 texts := by simp [zbm]
 ntexts := by decide
 npairs := by decide
 nrefs := by decide
theorem ztj (n : Int) : vr (wordM n) = true := by
 have h := xj (n := n) (m := 8) (by omega)
 have key : ∀ i : Fin 8, vr (wordsL.getD i.val default) = true := by decide +kernel
 exact key ⟨(wc n 8).toNat, by omega⟩
theorem z54 (l : List Int) (a : Int) (i : Nat) : (k8 l a i).length = i ∧ (∀ s ∈ k8 l a i, s.size ≤ 12) ∧ yp (k8 l a i) = true := by
 refine ⟨by simp [k8], fun s hs => ?_, ?_⟩
 ·obtain ⟨j, _, rfl⟩ := List.mem_map.1 hs
  exact jr _
 ·unfold yp
  rw [List.all_eq_true]
  intro s hs
  obtain ⟨j, _, rfl⟩ := List.mem_map.1 hs
  exact ztj _
theorem Qe {n c : Int} (hc : 0 < c) (h2 : c ≤ 1000) : I64 (n.tmod c) := by
 have h1 := Int.tmod_lt_of_pos n hc
 have h3 := Int.lt_tmod_of_pos n hc
 exact ye (by omega) (by omega)
theorem zyb (l : List Int) (a : Int) : SmOp (opM l a) where
 head := by
  have h0 := z9o ((opN l a).tdiv 10)
  have hs : I64 (opS l a).Volume ∧ I64 (opS l a).Article ∧ I64 (opS l a).Index := by
   unfold opS
   split
   ·exact ⟨Qe (by omega) (by omega), Qe (by omega) (by omega), Qe (by omega) (by omega)⟩
   ·exact ⟨Zf, Zf, Zf⟩
  intro x hx
  simp only [y7, opM, List.mem_cons, List.not_mem_nil, or_false] at hx
  rcases hx with rfl | rfl | rfl | rfl | rfl | rfl | rfl | rfl | rfl | rfl | rfl | rfl | rfl
  ·exact Qe (by omega) (by omega)
  ·exact h0.1
  ·exact h0.2.1
  ·exact h0.2.2
  ·exact Zf
  ·exact Zf
  ·exact Zf
  ·exact hs.1
  ·exact hs.2.1
  ·exact hs.2.2
  ·exact Qe (by omega) (by omega)
  ·exact Zf
  ·exact Zf
 pairs := by
  intro p hp
  have hp : p ∈ opP l a := hp
  unfold opP at hp
  split at hp
  ·rw [List.mem_singleton.1 hp]
   exact ⟨Qe (by omega) (by omega), Qe (by omega) (by omega)⟩
  ·simp at hp
 refs := by
  intro p hp
  have hp : p ∈ opR l a := hp
  unfold opR at hp
  split at hp
  ·rw [List.mem_singleton.1 hp]
   exact z9o _
  ·simp at hp
 text := by
  have := jr ((opN l a).tdiv 7)
  show (wordM _).size ≤ 100
  omega
 texts := by
  intro s hs
  have hs : s ∈ opT l a := hs
  unfold opT at hs
  split at hs
  ·have := (z54 l (a + 1) (((opN l a).tdiv 3).tmod 3).toNat).2.1 s hs
   omega
  ·simp at hs
 ntexts := by
  show (opT l a).length ≤ 10
  unfold opT
  split
  ·rw [(z54 l (a + 1) (((opN l a).tdiv 3).tmod 3).toNat).1]
   have := Int.tmod_lt_of_pos ((opN l a).tdiv 3) (b := 3) (by omega)
   omega
  ·simp
 npairs := by
  show (opP l a).length ≤ 10
  unfold opP
  split <;> simp
 nrefs := by
  show (opR l a).length ≤ 10
  unfold opR
  split <;> simp
theorem zdc (l : List Int) {r : NameM} : ∀ {i : Nat}, r ∈ refsG l i → (0 ≤ r.By ∧ r.By < i ∧ 0 ≤ r.Seq ∧ r.Seq ≤ 63) ∧ r ≠ ⟨atM l 0 6, atM l 1 64⟩
 | 0, h => by simp [refsG] at h
 | i + 1, h => by
  rw [refsG] at h
  rcases List.mem_append.1 h with h | h
  ·have := zdc l h
   exact ⟨by omega, this.2⟩
  ·split at h
   ·rename_i hc
    rw [List.mem_singleton.1 h]
    have := wk (l := l) (i := 5 + (i : Int)) (m := 64) (by omega)
    unfold nmG
    refine ⟨by dsimp only; omega, fun hq => ?_⟩
    simp only [NameM.mk.injEq] at hq
    exact hc.2 hq.1 hq.2
   ·simp at h
theorem zo5 (l : List Int) (i : Nat) : (jp l i).length = i ∧ ∀ p ∈ jp l i, p.ID = idM (xr l) ∧ 1 ≤ p.Path.length ∧ p.Path.length ≤ 4 ∧ yp p.Path = true ∧ ∀ s ∈ p.Path, s.size ≤ 12 := by
 refine ⟨by simp [jp], fun p hp => ?_⟩
 obtain ⟨j, _, rfl⟩ := List.mem_map.1 hp
 have h := wk (l := l) (i := 30 + (j : Int)) (m := 4) (by omega)
 have hl := z54 l (12 + 4 * (j : Int)) (1 + atM l (30 + (j : Int)) 4).toNat
 unfold postG
 exact ⟨rfl, by dsimp only; rw [hl.1]; omega, by dsimp only; rw [hl.1]; omega, hl.2.2, hl.2.1⟩
theorem zxu (l : List Int) : SmEv 0 (evI l 6) := by
 have a0 := wk (l := l) (i := 0) (m := 6) (by omega)
 have a1 := wk (l := l) (i := 1) (m := 64) (by omega)
 have a2 := wk (l := l) (i := 2) (m := 1048577) (by omega)
 have a3 := wk (l := l) (i := 3) (m := 7) (by omega)
 have hrl := z6r l 6
 exact { by_ := ye (by show _ ≤ atM l 0 6; omega) (by show atM l 0 6 ≤ _; omega), seq := ye (by show _ ≤ atM l 1 64; omega) (by show atM l 1 64 ≤ _; omega)
         tick := ye (by show _ ≤ atM l 2 1048577; omega) (by show atM l 2 1048577 ≤ _; omega), kind := ye (by show _ ≤ atM l 3 7; omega) (by show atM l 3 7 ≤ _; omega)
         n := Zf, id := ⟨Zf, Zf, Zf⟩, tk := Zf, tl := Zf
         refs := fun r hr => by
          have := (zdc l hr).1
          exact ⟨ye (by omega) (by omega), ye (by omega) (by omega)⟩
         nrefs := by show (refsG l 6).length ≤ _; omega
         op := smZ
         name := by show (0 : Nat) ≤ 100; omega
         see := by show (0 : Nat) ≤ 100; omega
         broader := by simp [evI, zfm]
         nbroader := by show (0 : Nat) ≤ _; omega
         posts := by simp [evI]
         nposts := by show (0 : Nat) ≤ _; omega }
theorem zv2 (l : List Int) : 0 ≤ xr l ∧ xr l < 4096 := wk (l := l) (i := 11) (m := 4096) (by omega)
theorem zxt (l : List Int) : SmEv 0 (evG l) := by
 have h := zxu l
 have hn := zv2 l
 have t4 := Int.tmod_nonneg (b := 4) (a := xr l) hn.1
 have t4b := Int.tmod_lt_of_pos (xr l) (b := 4) (by omega)
 unfold evG
 split
 ·exact { h with op := zyb l 12 }
 split
 ·have hw := jr (xr l)
  have hw2 := jr ((xr l).tdiv 5)
  have hl := z54 l 12 (((xr l).tdiv 12).tmod 3).toNat
  have t3 := Int.tmod_lt_of_pos ((xr l).tdiv 12) (b := 3) (by omega)
  refine { h with tk := Qe (by omega) (by omega), tl := Qe (by omega) (by omega), name := ?_, see := ?_, broader := fun s hs => ?_, nbroader := ?_ }
  ·show (wordM (xr l)).size ≤ 100; omega
  ·show (if (xr l).tmod 5 = 0 then wordM ((xr l).tdiv 5) else ⟨#[]⟩ : ByteArray).size ≤ 100
   split
   ·omega
   ·decide
  ·have := hl.2.1 s hs; omega
  ·show (k8 l 12 (((xr l).tdiv 12).tmod 3).toNat).length ≤ _
   rw [hl.1]; omega
 split
 ·have hp := zo5 l ((xr l).tmod 4).toNat
  refine { h with id := z9o _, posts := fun p hpm => ?_, nposts := ?_ }
  ·obtain ⟨h1, h2, h3, h4, h5⟩ := hp.2 p hpm
   refine ⟨by rw [h1]; exact z9o _, by omega, fun s hs => by have := h5 s hs; omega⟩
  ·show (jp l ((xr l).tmod 4).toNat).length ≤ _
   rw [hp.1]; omega
 split
 ·have a12 := wk (l := l) (i := 12) (m := 1048577) (by omega)
  exact { h with id := z9o _, n := ye (by show _ ≤ atM l 12 1048577; omega) (by show atM l 12 1048577 ≤ _; omega) }
 ·exact h
theorem z50 {i : IdM} (h : z6e i) : ∀ x ∈ idI i, I64 x := fun x hx => by
 simp only [idI, List.mem_cons, List.not_mem_nil, or_false] at hx
 rcases hx with rfl | rfl | rfl
 ·exact h.1
 ·exact h.2.1
 ·exact h.2.2
theorem znd (l : List (Int × Int)) : (l.flatMap pairI).length = 2 * l.length := by
 induction l with
 | nil => rfl
 | cons p l ih => simp only [List.flatMap_cons, List.length_append, ih, pairI, List.length_cons, List.length_nil]; omega
theorem zne (l : List IdM) : (l.flatMap idI).length = 3 * l.length := by
 induction l with
 | nil => rfl
 | cons p l ih => simp only [List.flatMap_cons, List.length_append, ih, idI, List.length_cons, List.length_nil]; omega
theorem z69 (l : List NameM) : (l.flatMap nameI).length = 2 * l.length := by
 induction l with
 | nil => rfl
 | cons p l ih => simp only [List.flatMap_cons, List.length_append, ih, nameI, List.length_cons, List.length_nil]; omega
theorem zym {o : OpM} (h : SmOp o) : (opB o).length ≤ 3000 := by
 have h0 := w8 h.head (by simp [y7])
 have e0 : (y7 o).length = 13 := rfl
 have h1 := Zu h.text (by omega)
 have h2 : (strsM o.Texts).length ≤ 9 + 109 * o.Texts.length := by
  rw [strsM, Zi, Xg, List.length_append]
  have ha := Zm x7 109 o.Texts fun s hs => Zu (h.texts s hs) (by omega)
  have hb := vj (n := (o.Texts.length : Int)) (by have := h.ntexts; unfold I64; omega)
  omega
 have n1 := h.ntexts
 have n2 := h.npairs
 have n3 := h.nrefs
 have h3 := z14 (f := pairI) (l := o.Pairs) (c := 2) (fun p hp => ⟨Nat.le_refl _, fun y hy => by
  have := h.pairs p hp
  simp only [pairI, List.mem_cons, List.not_mem_nil, or_false] at hy
  rcases hy with rfl | rfl
  ·exact this.1
  ·exact this.2⟩) (by omega)
 have h4 := z14 (f := idI) (l := o.Refs) (c := 3) (fun p hp => ⟨Nat.le_refl _, fun y hy => by
  have := h.refs p hp
  simp only [idI, List.mem_cons, List.not_mem_nil, or_false] at hy
  rcases hy with rfl | rfl | rfl
  ·exact this.1
  ·exact this.2.1
  ·exact this.2.2⟩) (by omega)
 rw [opB, List.length_append, List.length_append, List.length_append, List.length_append]
 omega
theorem zm8 {l : List ByteArray} (h : ∀ s ∈ l, s.size ≤ 100) (hl : l.length ≤ 100000) : (strsM l).length ≤ 9 + 109 * l.length := by
 rw [strsM, Zi, Xg, List.length_append]
 have ha := Zm x7 109 l fun s hs => Zu (h s hs) (by omega)
 have hb := vj (n := (l.length : Int)) (by unfold I64; omega)
 omega
theorem zt2 {k : Nat} {e : EventM} (h : SmEv k e) (hk : k ≤ 4) : (evB e).length ≤ 17000 + 13000 * k := by
 have ok := zb1 h (by omega)
 have n1 := h.nrefs
 have n2 := h.nbroader
 have n3 := h.nposts
 have m1 : 20 * (k + 1) ≤ 100 := by omega
 have m2 : 10 * (k + 1) ≤ 50 := by omega
 have hb1 := w8 (l := [e.By, e.Seq, e.Tick, e.Kind]) (by
  simp only [List.forall_mem_cons]
  exact ⟨h.by_, h.seq, h.tick, h.kind, by simp⟩) (by simp)
 simp only [List.length_cons, List.length_nil] at hb1
 have hb2 := w8 (z0l ok) (by rw [z69]; omega)
 rw [z69] at hb2
 have ht : (Zj e).length ≤ 16100 + 12600 * k := by
  unfold Zj
  split
  ·have := zym h.op; omega
  split
  ·have q1 := w8 (l := [e.Term.Kind, e.Term.Lang]) (by
    simp only [List.forall_mem_cons]
    exact ⟨h.tk, h.tl, by simp⟩) (by simp)
   have q2 := zm8 (l := e.Term.Name :: e.Term.See :: e.Term.Broader) (by
    intro s hs
    rcases List.mem_cons.1 hs with rfl | hs
    ·exact h.name
    ·rcases List.mem_cons.1 hs with rfl | hs
     ·exact h.see
     ·exact h.broader s hs) (by simp only [List.length_cons]; omega)
   simp only [List.length_append, List.length_cons, List.length_nil] at q1 q2 ⊢
   omega
  split
  ·have q1 := w8 (l := idI e.ID) (z50 h.id) (by simp [idI])
   have q2 := vj (n := (e.Posts.length : Int)) (by unfold I64; omega)
   have q3 := Zm qp 1200 e.Posts fun p hp => by
    obtain ⟨_, p1, p2⟩ := h.posts p hp
    have r1 := zm8 p2 (by omega)
    have r2 := vj (n := (if p.Main = true then 1 else 0)) (by split <;> (unfold I64; omega))
    rw [qp, List.length_append]
    omega
   have q4 : (idI e.ID).length = 3 := rfl
   simp only [List.length_append]
   omega
  split
  ·have q1 := w8 (l := idI e.ID ++ [e.N]) (fun x hx => by
    rcases List.mem_append.1 hx with hx | hx
    ·exact z50 h.id x hx
    ·simp at hx; subst hx; exact h.n) (by simp [idI])
   have q2 : (idI e.ID ++ [e.N]).length = 4 := rfl
   omega
  ·simp
 simp only [evB, Zh, List.length_append]
 omega
theorem zkf {k : Nat} {e : EventM} (h : SmEv k e) (hk : k ≤ 4) : (evB e).length ≤ 800000 := by have := zt2 h hk; omega
theorem z0f {n : Int} (hn : I64 n) : isB (wd n) := fun x hx => by
 have hk := Xu hn
 unfold wd z4b at hx
 rcases List.mem_cons.1 hx with rfl | hx
 ·exact Q3 (by omega)
 ·obtain ⟨i, _, rfl⟩ := List.mem_map.1 hx
  unfold digM
  exact Q3 (by omega)
theorem jf {a b : List Int} (ha : isB a) (hb : isB b) : isB (a ++ b) := fun x hx => by
 rcases List.mem_append.1 hx with h | h
 ·exact ha x h
 ·exact hb x h
theorem z9v {α : Type} {f : α → List Int} {l : List α} (h : ∀ x ∈ l, isB (f x)) : isB (l.flatMap f) := fun y hy => by
 obtain ⟨x, hx, hy⟩ := List.mem_flatMap.1 hy
 exact h x hx y hy
theorem zt6 (s : ByteArray) : isB (yu s) := fun x hx => by
 unfold yu at hx
 obtain ⟨c, _, rfl⟩ := List.mem_map.1 hx
 have := c.toNat_lt
 omega
theorem z10 {s : ByteArray} (h : s.size ≤ 1000000000000) : isB (x7 s) := jf (z0f (zel h)) (zt6 s)
theorem kv {l : List Int} (hl : l.length ≤ 1000000000000) (h : ∀ x ∈ l, I64 x) : isB (intsM l) := by
 rw [zcy]
 exact jf (z0f (zel hl)) (z9v fun x hx => z0f (h x hx))
theorem z6z {l : List ByteArray} (hl : l.length ≤ 1000000000000) (h : ∀ s ∈ l, s.size ≤ 1000000000000) : isB (strsM l) := by
 rw [zdn]
 exact jf (z0f (zel hl)) (z9v fun x hx => z10 (h x hx))
theorem zvc {o : OpM} (h : OkOp o) : isB (opB o) := by
 have hnt := h.ntexts
 have hnp := h.npairs
 have hnr := h.nrefs
 unfold opB
 refine jf (jf (jf (jf (kv (by simp [y7]) h.head) (z10 (by have := h.text; omega))) (z6z (by omega) fun s hs => by have := h.texts s hs; omega)) (kv (by rw [znd]; omega) fun x hx => ?_)) (kv (by rw [zne]; omega) fun x hx => ?_)
 ·obtain ⟨p, hp, hx⟩ := List.mem_flatMap.1 hx
  have := h.pairs p hp
  simp only [pairI, List.mem_cons, List.not_mem_nil, or_false] at hx
  rcases hx with rfl | rfl
  ·exact this.1
  ·exact this.2
 ·obtain ⟨p, hp, hx⟩ := List.mem_flatMap.1 hx
  exact z50 (h.refs p hp) x hx
theorem zua {e : EventM} (ok : OkEv e) : isB (evB e) := by
 have hnr := ok.nrefs
 have hnb := ok.nbroader
 have hnp := ok.nposts
 unfold evB Zh
 refine jf (jf (kv (by simp) (by simp only [List.forall_mem_cons]; exact ⟨ok.by_, ok.seq, ok.tick, ok.kind, by simp⟩)) (kv (by rw [z69]; omega) (z0l ok))) ?_
 unfold Zj
 split
 ·exact zvc ok.op
 split
 ·refine jf (kv (by simp) (by simp only [List.forall_mem_cons]; exact ⟨ok.tk, ok.tl, by simp⟩)) (z6z (by simp only [List.length_cons]; omega) fun s hs => ?_)
  rcases List.mem_cons.1 hs with rfl | hs
  ·have := ok.name; omega
  ·rcases List.mem_cons.1 hs with rfl | hs
   ·have := ok.see; omega
   ·have := ok.broader s hs; omega
 split
 ·refine jf (jf (kv (by simp [idI]) (z50 ok.id)) (z0f (by unfold I64; omega))) (z9v fun p hp => ?_)
  obtain ⟨_, p1, p2⟩ := ok.posts p hp
  exact jf (z0f (by split <;> (unfold I64; omega))) (z6z (by omega) fun s hs => by have := p2 s hs; omega)
 split
 ·refine kv (by simp [idI]) fun x hx => ?_
  rcases List.mem_append.1 hx with hx | hx
  ·exact z50 ok.id x hx
  ·simp at hx; subst hx; exact ok.n
 ·exact fun x hx => by simp at hx
def Z0 (a b : EventM) : Bool := a.By == b.By && a.Seq == b.Seq && a.Tick == b.Tick && a.Kind == b.Kind && xg a.ID b.ID && a.N == b.N && x5 ju a.Posts b.Posts && x5 wh a.Refs b.Refs && Qr a.Term b.Term && Z1 a.Op b.Op
set_option maxRecDepth 100000 in
set_option maxHeartbeats 2000000 in
theorem zw0 (G) (a b : EventM) (h : OkEv a) : zo Tryz.prog G 23 [zr a, zr b] [bD (Z0 a b)] := by
 have hnr := h.nrefs
 have hnb := h.nbroader
 have hnp := h.nposts
 have hsl := yr (f := ju) (a := a.Posts) (b := b.Posts)
 skip
 skip
 refine GI [] [] [] Tryz.func23 Tryz.ntmps23 fun F hP hG hN hR hA => ?_
 have hE := And.intro @Tryz.results23 (And.intro @zj3 (@z9b))
 refine WS [2, 3] [2, 3] ?_
 apply z6
 refine WS [2, 3, 54] [2, 3] ?_
 refine WI ?_ ?_ <;> intro hb
 ·have hv : Z0 a b = false := by unfold Z0 xg; grind
  have hE := And.intro hE hv
  refine WS [4] [] ?_
  apply za
  apply zb
  refine EN ?_
  all_goals try trivial
  all_goals (unfold Z0; grind)
 ·have hq : (a.By = b.By ∧ a.Seq = b.Seq ∧ a.Tick = b.Tick ∧ a.Kind = b.Kind ∧ xg a.ID b.ID = true ∧ a.N = b.N) ∧ a.Posts.length = b.Posts.length := by unfold xg; grind
  have hlen := hq.2
  apply z9
  apply z7
  apply z6
  refine WS [2, 3, 5] [2, 3] ?_
  apply zc
  refine WL (ι := {i : Nat // i ≤ a.Posts.length ∧ ∀ j, j < i → ju (a.Posts.getD j default) (b.Posts.getD j default) = true}) [2, 3] [2, 3] (fun ⟨i, hih⟩ => [(5, .dat (iD i))]) (fun ⟨i, hih⟩ => []) (fun ⟨i, hih⟩ => a.Posts.length - i) (⟨0, by omega, fun j h => absurd h (Nat.not_lt_zero j)⟩) ?_
  rintro ⟨i, hih⟩
  refine LA ?_
  obtain ⟨hi, hall⟩ := id hih
  apply z6
  refine WS [2, 3, 5, 59] [2, 3] ?_
  refine WI ?_ ?_ <;> intro hb
  ·apply z9
   apply z7
   apply z6
   apply zc
   apply wn [2, 3, 5, 73] [2, 3] [0, 1, 2, 3, 4, 5, 6, 7, 8, 9, 10, 11] []
   ·rw [hP]; kernel_rfl
   ·exact hR
   ·kernel_rfl
   ·(repeat (apply PickL.cons; exact rfl)); exact PickL.nil _
   ·refine RN ?_
    refine CU (zsv G (a.Posts.getD i default) (b.Posts.getD i default) (by have := x4 (p := fun p : PostM => p.Path.length ≤ 60000) (l := a.Posts) (fun p hp => (h.posts p hp).2.1) (i := i) (by omega); omega)) ?_
    exact SC
   refine WI ?_ ?_ <;> intro hb
   ·have hv : Z0 a b = false := by
     have := jc (f := ju) (a := a.Posts) (b := b.Posts) i (by omega) hlen (by grind)
     unfold Z0; rw [this]; simp
    have hE := And.intro hE hv
    refine WS [4] [] ?_
    apply za
    apply zf
    apply zb
    apply qb
    apply zf
    apply zb
    refine EN ?_
    all_goals try trivial
    all_goals (unfold Z0; grind)
   ·have hok : ju (a.Posts.getD i default) (b.Posts.getD i default) = true := by grind
    apply z9
    apply zg
    apply z7
    refine WQ [2, 3, 5] [2, 3] ?_
    refine WN (⟨i + 1, by omega, vx hih.2 hok⟩)
  ·apply zn
   apply zh
   obtain rfl : i = a.Posts.length := by omega
   have hp : x5 ju a.Posts b.Posts = true := jb hlen hall
   apply ze
   apply zw
   apply z7
   apply zu [4] []
   ·refine RN ?_
    refine CU (zoi G a.Refs b.Refs (by omega)) ?_
    refine CG (zhw G a.Term b.Term (by omega)) ?_
    refine CG (zsu G a.Op b.Op (zfd h.op)) ?_
    exact SC
   apply za
   refine EN ?_
   all_goals try trivial
   all_goals (unfold Z0; grind)
theorem z4m {α : Type} {f : α → α → Bool} (hf : ∀ a, f a a = true) : ∀ {a : List α}, x5 f a a = true
 | [] => rfl
 | x :: a => by simp only [x5, hf x, z4m hf, Bool.and_self]
end Go.Proofs.YtabjaaonfaejmaaGreatDoor

namespace Go.Proofs.YtabjaaonfaejmaaGreatDoor
open Go.Av
def ofIn (t : Int) (l : List ByteArray) : Nat → List Int
 | 0 => [t]
 | i + 1 => ofIn t l i ++ x7 (l.getD i default)
def zeu (t : Int) (l : List ByteArray) : Nat → List Int
 | 0 => bkF [t] y64 0 1
 | i + 1 => bkF (ofIn t l (i + 1)) (zeu t l i) (ofIn t l i).length (x7 (l.getD i default)).length
def dgM (t : Int) (l : List ByteArray) : List Int := (z5t (ofIn t l l.length)).take 16
theorem z8g (t : Int) (l : List ByteArray) : ∀ i, z40 (ofIn t l i) (ofIn t l i).length (zeu t l i)
 | 0 => zwj [t] (zfy zfl)
 | i + 1 => zwj (x7 (l.getD i default)) (z8g t l i)
theorem z2a {t : Int} {l : List ByteArray} (h : ∀ s ∈ l, s.size ≤ 1000000) : ∀ i, i ≤ l.length → (ofIn t l i).length ≤ 1 + 1000009 * i
 | 0, _ => Nat.le_refl _
 | i + 1, hi => by
  have h1 := z2a (t := t) h i (by omega)
  have h2 := Zt (h (l.getD i default) (by rw [List.getD_eq_getElem?_getD, List.getElem?_eq_getElem (by omega)]; exact List.getElem_mem _))
  simp only [ofIn, List.length_append]
  omega
theorem z24 {t : Int} (ht : 0 ≤ t ∧ t ≤ 255) {l : List ByteArray} (h : ∀ s ∈ l, s.size ≤ 1000000) : ∀ i, i ≤ l.length → isB (ofIn t l i)
 | 0, _ => fun x hx => by simp only [ofIn, List.mem_singleton] at hx; subst hx; exact ht
 | i + 1, hi => zlg (z24 ht h i (by omega)) (z10 (by have := h (l.getD i default) (by rw [List.getD_eq_getElem?_getD, List.getElem?_eq_getElem (by omega)]; exact List.getElem_mem _); omega))
set_option maxRecDepth 100000 in
set_option maxHeartbeats 2000000 in
theorem zr1 (G) (hgk : G.lookup 1 = some (wsD kH)) (l : List ByteArray) (hl : l.length ≤ 1000) (h : ∀ s ∈ l, s.size ≤ 1000000) : zo Tryz.prog G 17 [iD 7, ssD l] [bsD (dgM 7 l)] := by
 have h7 : IntKind.u8.wrap 7 = 7 := by decide
 have hbl : ∀ i, (zeu 7 l i).length = 64 := fun i => (z8g 7 l i).1
 have h8 : zfi [Dat.int IntKind.u8 7] = some [7] := rfl
 have hz : isB (ofIn 7 l 0) := z24 (by decide) h 0 (by omega)
 have c0 : zo Tryz.prog G 37 [stD [] y64, .str (X1 [7])] [stD (ofIn 7 l 0) (zeu 7 l 0)] := zih G hgk [] y64 [7] (zfy zfl) (fun x hx => by cases hx) hz (by decide)
 have hsl := zbb (ofIn 7 l l.length)
 skip
 skip
 refine GI [] [] [] Tryz.func17 Tryz.ntmps17 fun F hP hG hN hR hA => ?_
 have hE := And.intro @Tryz.results17 (And.intro @h7 (And.intro @h8 (And.intro @hbl (@hsl))))
 refine WS [0, 1, 4] [4] ?_
 apply wn [1, 4, 5] [4, 5] [0, 1, 2, 3, 4, 5, 6, 7] [5]
 ·rw [hP]; kernel_rfl
 ·exact hR
 ·kernel_rfl
 ·(repeat (apply PickL.cons; exact rfl)); exact PickL.nil _
 ·refine RN ?_
  refine CU (zq0 G) ?_
  refine CU (c0) ?_
  exact SC
 apply z6
 refine WS [4, 5, 15, 16, 17] [4, 5] ?_
 apply zc
 refine WL (ι := {i : Nat // i ≤ l.length}) [4, 5, 15, 16] [4] (fun ⟨i, hi⟩ => [(17, .dat (iD i))]) (fun ⟨i, hi⟩ => [(5, ⟨73, [.dat (stD (ofIn 7 l i) (zeu 7 l i))]⟩)]) (fun ⟨i, hi⟩ => l.length - i) (⟨0, by omega⟩) ?_
 rintro ⟨i, hi⟩
 refine LA ?_
 refine WS [4, 5, 15, 16, 17, 18] [4, 5] ?_
 apply z6
 refine WI ?_ ?_ <;> intro hb
 ·have hs := h (l.getD i default) (by rw [List.getD_eq_getElem?_getD, List.getElem?_eq_getElem (by omega)]; exact List.getElem_mem _)
  have c1 : zo Tryz.prog G 37 [stD (ofIn 7 l i) (zeu 7 l i), .str (X1 (x7 (l.getD i default)))] [stD (ofIn 7 l (i + 1)) (zeu 7 l (i + 1))] := zih G hgk (ofIn 7 l i) (zeu 7 l i) (x7 (l.getD i default)) (z8g 7 l i) (z24 (by decide) h i hi) (z10 (by omega)) (by have := z2a (t := 7) h i hi; have := Zt hs; omega)
  apply z9
  apply z7
  apply z6
  apply zc
  refine WS [4, 5, 7, 15, 16, 17] [4, 5] ?_
  apply z0y [4, 5, 15, 16, 17] [4, 5] [0, 1, 2, 3, 4, 5] []
  ·rw [hP]; kernel_rfl
  ·exact hR
  ·kernel_rfl
  ·(repeat (apply PickL.cons; exact rfl)); exact PickL.nil _
  ·refine RN ?_
   refine CU (zdw G (l.getD i default) hs) ?_
   refine CU (c1) ?_
   exact SC
  apply zg
  apply z7
  refine WQ [4, 5, 15, 16, 17] [4, 5] ?_
  refine WN (⟨i + 1, by omega⟩)
 ·have hie : i = l.length := by omega
  subst hie
  apply zn
  apply zh
  apply ze
  apply zw
  apply z7
  have hc := gvF hP hG (zw7 G hgk (ofIn 7 l l.length) (zeu 7 l l.length) (z8g 7 l _) (z24 (by decide) h _ (Nat.le_refl _)) (by have := z2a (t := 7) h l.length (Nat.le_refl _); omega))
  refine WSc [4, 8] [4, 8] ?_
  refine WS [4] [4] ?_
  apply za
  exact E0
theorem tr6 {α : Type} {f : α → Dat} (A B C D E F : List α) (n : Nat) (h : A.length + B.length + C.length + D.length + E.length + F.length ≤ n) : List.take n (List.map AV.dat (List.map f A) ++ List.map AV.dat (List.map f B) ++ List.map AV.dat (List.map f C) ++ List.map AV.dat (List.map f D) ++ List.map AV.dat (List.map f E) ++ List.map AV.dat (List.map f F)) = List.map AV.dat (List.map f A) ++ List.map AV.dat (List.map f B) ++ List.map AV.dat (List.map f C) ++ List.map AV.dat (List.map f D) ++ List.map AV.dat (List.map f E) ++ List.map AV.dat (List.map f F) := List.take_of_length_le (by simpa [Nat.add_assoc] using h)
theorem tr7 {α : Type} {f : α → Dat} (A B C D E F G : List α) (n : Nat) (h : A.length + B.length + C.length + D.length + E.length + F.length + G.length ≤ n) : List.take n (List.map AV.dat (List.map f A) ++ List.map AV.dat (List.map f B) ++ List.map AV.dat (List.map f C) ++ List.map AV.dat (List.map f D) ++ List.map AV.dat (List.map f E) ++ List.map AV.dat (List.map f F) ++ List.map AV.dat (List.map f G)) = List.map AV.dat (List.map f A) ++ List.map AV.dat (List.map f B) ++ List.map AV.dat (List.map f C) ++ List.map AV.dat (List.map f D) ++ List.map AV.dat (List.map f E) ++ List.map AV.dat (List.map f F) ++ List.map AV.dat (List.map f G) := List.take_of_length_le (by simpa [Nat.add_assoc] using h)
set_option maxRecDepth 100000 in
set_option maxHeartbeats 2000000 in
theorem zkk (G) (e : EventM) (h : OkEv e) : zo Tryz.prog G 12 [zr e] [wm (evB e)] := by
 have hnr := h.nrefs
 have hnp := h.nposts
 have hnb := h.nbroader
 have hpl := kr (f := nameI) (k := 2) (fun _ => rfl) e.Refs
 have hrl := hpl e.Refs.length (Nat.le_refl _)
 rw [vp] at hrl
 have hhd : ∀ x ∈ [e.By, e.Seq, e.Tick, e.Kind], I64 x := by
  simp only [List.forall_mem_cons]
  exact ⟨h.by_, h.seq, h.tick, h.kind, by simp⟩
 have hid : ∀ x ∈ idI e.ID, I64 x := by
  simp only [idI, List.forall_mem_cons]
  exact ⟨h.id.1, h.id.2.1, h.id.2.2, by simp⟩
 have hb1 := w8 hhd (by simp)
 have hb2 := w8 (z0l h) (by omega)
 simp only [List.length_cons, List.length_nil] at hb1
 rw [hrl] at hb2
 have hoa := h.op.all
 have o1 := zrz e.Kind
 have o2 := zev e.Kind
 have o4 := z5d e.Kind
 have o5 := zv6 e.Kind
 skip
 skip
 skip
 refine GI [] [21, 50, 130] [] Tryz.func12 Tryz.ntmps12 fun F hP hG hN hR hA => ?_
 have hE := And.intro @Tryz.results12 (And.intro @X5 (And.intro @Nat.min_self (And.intro @tr2 (And.intro @tr3 (@tr4)))))
 refine WS [1] [1, 21] ?_
 apply zu [1, 3] [1, 102, 120, 21]
 ·refine RN ?_
  refine CX (fun _ => 21) [18] (z74 G [e.By, e.Seq, e.Tick, e.Kind] hhd (by simp)) ?_
  exact SC
 refine WS [1, 3, 4] [1, 35, 102, 120, 21] ?_
 apply z6
 refine WS [1, 3, 4, 23, 24, 25] [1, 35, 102, 120, 21] ?_
 apply zc
 refine xz 35 1 (by omega) ?_
 refine y9 4 35 1 rfl rfl ?_
 refine WL (ι := {i : Nat // i ≤ e.Refs.length}) [1, 3, 23, 24] [1, 34, 40, 61, 74, 89, 96, 102, 115, 120, 132, 21] (fun ⟨i, hi⟩ => [(4, .osl 35 1 0 (x3 nameI e.Refs i).length), (25, .dat (iD i))]) (fun ⟨i, hi⟩ => [(35, ⟨1, ((x3 nameI e.Refs i).map iD).map .dat⟩)]) (fun ⟨i, hi⟩ => e.Refs.length - i) (⟨0, by omega⟩) ?_
 rintro ⟨i, hi⟩
 refine LA ?_
 have hl := hpl i hi
 refine WS [1, 3, 4, 23, 24, 25, 26] [1, 34, 35, 102, 120, 21] ?_
 apply z6
 refine WI ?_ ?_ <;> intro hb
 ·have hl2 := hpl (i + 1) (by omega)
  have hsc := j2 nameI e.Refs i (by omega)
  have hE := And.intro hE (And.intro hsc (nameI.eq_1 (e.Refs.getD i default)))
  apply z9
  apply z7
  apply z6
  apply zc
  refine WS [1, 3, 4, 6, 23, 24, 25] [1, 6, 34, 35, 102, 120, 21] ?_
  refine WQ [1, 3, 4, 23, 24, 25] [1, 34, 35, 102, 120, 21] ?_
  apply zg
  apply z7
  refine WQ [1, 3, 4, 23, 24, 25] [1, 34, 35, 102, 120, 21] ?_
  refine WN (⟨i + 1, by omega⟩)
 ·apply zn
  apply zh
  have hend : i = e.Refs.length := by omega
  subst hend
  have hf := vp nameI e.Refs
  have hE := And.intro hE hf
  apply ze
  apply zw
  apply z7
  refine jh 35 hR.2.2.2 rfl (datE_map _) ?_
  have hc := gvF hP hG (Zc G (e.Refs.flatMap nameI) (z0l h) (by omega))
  refine WSc [1, 3] [1, 40, 102, 120, 21] ?_
  refine WS [1, 3, 7] [1, 40, 50, 102, 120, 21] ?_
  apply z6
  have hc := gvF hP hG (zry G e.Kind)
  refine WSc [1, 3, 7, 8] [1, 8, 40, 50, 102, 120, 21] ?_
  apply zc
  refine WS [1, 3, 7, 8, 54] [1, 8, 40, 50, 102, 120, 21] ?_
  refine WI ?_ ?_ <;> intro hb
  ·have hk : e.Kind = 0 := by grind
   have hv : evB e = intsM [e.By, e.Seq, e.Tick, e.Kind] ++ intsM (e.Refs.flatMap nameI) ++ opB e.Op := by
    unfold evB Zh Zj
    rw [if_pos hk]
   have hE := And.intro hE hv
   have hc := gvF hP hG (zti G e.Op h.op)
   refine WQc [3] [40, 61, 102, 120, 21] ?_
   apply zg
   apply z7
   refine WS [2] [40, 61, 74, 89, 96, 102, 115, 120, 132, 21] ?_
   apply za
   refine EN ?_
   all_goals try trivial
   all_goals (simp only [← List.map_append, datE_map] <;> rfl)
  ·refine WS [1, 3, 7, 8, 62] [1, 8, 40, 50, 102, 120, 21] ?_
   refine WI ?_ ?_ <;> intro hb
   ·have hk : e.Kind = 2 := by grind
    have hk0 : e.Kind ≠ 0 := by omega
    have hv : evB e = intsM [e.By, e.Seq, e.Tick, e.Kind] ++ intsM (e.Refs.flatMap nameI) ++ intsM [e.Term.Kind, e.Term.Lang] ++ strsM (e.Term.Name :: e.Term.See :: e.Term.Broader) := by
     unfold evB Zh Zj
     rw [if_neg hk0, if_pos hk]
     simp only [List.append_assoc]
    have hE := And.intro hE hv
    have htk : ∀ x ∈ [e.Term.Kind, e.Term.Lang], I64 x := by
     simp only [List.forall_mem_cons]
     exact ⟨h.tk, h.tl, by simp⟩
    have hts : ∀ s ∈ e.Term.Name :: e.Term.See :: e.Term.Broader, s.size ≤ 1000000 := by
     simp only [List.forall_mem_cons]
     exact ⟨by have := h.name; omega, by have := h.see; omega, fun s hs => by have := h.broader s hs; omega⟩
    have hb3 := w8 htk (by simp)
    have hb4 := z0s hts (by simp; omega)
    simp only [List.length_cons, List.length_nil] at hb3 hb4
    have hfl : ([[e.Term.Name, e.Term.See], e.Term.Broader] : List (List ByteArray)).flatten = e.Term.Name :: e.Term.See :: e.Term.Broader := by simp
    have hE := And.intro hE hfl
    have hc := gvF hP hG (Zc G [e.Term.Kind, e.Term.Lang] htk (by simp))
    refine WSc [1, 3] [1, 40, 74, 102, 120, 21] ?_
    apply kf [3] [40, 74, 89, 102, 120, 21]
    ·refine RN ?_
     refine CU (zit G [[e.Term.Name, e.Term.See], e.Term.Broader] (by simp) (by simp; omega) (by simp; omega)) ?_
     refine CU (z5w G (e.Term.Name :: e.Term.See :: e.Term.Broader) hts (by simp; omega)) ?_
     exact SC
    apply zg
    apply z7
    refine WS [2] [40, 61, 74, 89, 96, 102, 115, 120, 132, 21] ?_
    apply za
    refine EN ?_
    all_goals try trivial
    all_goals (simp only [← List.map_append, datE_map] <;> rfl)
   ·refine WS [1, 3, 7, 8, 90] [1, 8, 40, 50, 102, 120, 21] ?_
    refine WI ?_ ?_ <;> intro hb
    ·have hk : e.Kind = 3 ∨ e.Kind = 4 := by grind
     have hk0 : e.Kind ≠ 0 := by omega
     have hk2 : e.Kind ≠ 2 := by omega
     have hv : evB e = intsM [e.By, e.Seq, e.Tick, e.Kind] ++ intsM (e.Refs.flatMap nameI) ++ intsM (idI e.ID) ++ wd e.Posts.length ++ e.Posts.flatMap qp := by
      unfold evB Zh Zj
      rw [if_neg hk0, if_neg hk2, if_pos hk]
      simp only [List.append_assoc]
     have hE := And.intro hE hv
     have hb3 : (intsM (idI e.ID)).length ≤ 36 := w8 hid (by simp [idI])
     have hb4 : (wd (e.Posts.length : Int)).length ≤ 9 := vj (by unfold I64; omega)
     refine zto 7 rfl ?_
     have hc := gvF hP hG (Zc G (idI e.ID) hid (by simp [idI]))
     refine WSc [1, 3] [1, 40, 96, 102, 120, 21] ?_
     have hc := gvF hP hG (zfk G e.Posts.length (by unfold I64; omega))
     refine WSc [1, 3] [1, 40, 96, 102, 120, 21] ?_
     refine WS [3, 104, 105, 106] [40, 96, 102, 120, 21] ?_
     apply zc
     refine wv 102 120 (by omega) (by omega) ?_
     have hE := And.intro hE (And.intro (tr5 (α := Int) (f := u8D)) (And.intro (tr6 (α := Int) (f := u8D)) (tr7 (α := Int) (f := u8D))))
     refine WL (ι := {i : Nat // i ≤ e.Posts.length}) [104, 105] [40, 61, 74, 89, 96, 102, 115, 132, 21] (fun ⟨i, hi⟩ => [(3, .osl 120 1 0 ((intsM [e.By, e.Seq, e.Tick, e.Kind]).length + (intsM (e.Refs.flatMap nameI)).length + (intsM (idI e.ID)).length + (wd e.Posts.length).length + (x3 qp e.Posts i).length)), (106, .dat (iD i))]) (fun ⟨i, hi⟩ => [(120, ⟨1, ((intsM [e.By, e.Seq, e.Tick, e.Kind] ++ intsM (e.Refs.flatMap nameI) ++ intsM (idI e.ID) ++ wd e.Posts.length ++ x3 qp e.Posts i).map u8D).map .dat⟩)]) (fun ⟨i, hi⟩ => e.Posts.length - i) (⟨0, by omega⟩) ?_
     rintro ⟨i, hi⟩
     refine LA ?_
     have hpi := z6n h i hi
     refine WS [3, 104, 105, 106, 107] [40, 96, 102, 115, 120, 21] ?_
     apply z6
     refine WI ?_ ?_ <;> intro hb
     ·have hsc := j2 qp e.Posts i (by omega)
      have hpp := x4 h.posts (i := i) (by omega)
      have hsl : (x3 qp e.Posts (i + 1)).length = (x3 qp e.Posts i).length + (qp (e.Posts.getD i default)).length := by rw [hsc, List.length_append]
      have hps := z0s (l := (e.Posts.getD i default).Path) (fun s hs => by have := hpp.2.2 s hs; omega) (by omega)
      apply z9
      apply z7
      apply z6
      apply zc
      refine WS [3, 10, 104, 105, 106] [10, 40, 96, 102, 115, 120, 21] ?_
      refine WS [3, 10, 11, 104, 105, 106] [10, 40, 96, 102, 115, 120, 21] ?_
      apply z6
      refine WS [3, 10, 11, 104, 105, 106, 111] [10, 40, 96, 102, 115, 120, 21] ?_
      refine WI ?_ ?_ <;> intro hb
      ·have hpb : qp (e.Posts.getD i default) = wd 1 ++ strsM (e.Posts.getD i default).Path := by unfold qp; rw [if_pos hb]
       have him : (wd 1).length ≤ 9 := vj (by unfold I64; omega)
       have hsx : ∀ X : List Int, X ++ x3 qp e.Posts (i + 1) = X ++ x3 qp e.Posts i ++ wd 1 ++ strsM (e.Posts.getD i default).Path := fun X => by rw [hsc, hpb]; simp only [List.append_assoc]
       rw [hpb, List.length_append, ← Nat.add_assoc] at hsl
       have hsy : ∀ Y : Nat, Y + (x3 qp e.Posts (i + 1)).length = Y + (x3 qp e.Posts i).length + (wd 1).length + (strsM (e.Posts.getD i default).Path).length := fun Y => by omega
       have hE := And.intro hE (And.intro hsx hsy)
       refine WQ [3, 10, 11, 104, 105, 106] [10, 40, 96, 102, 115, 120, 21] ?_
       apply z7
       have hc := gvF hP hG (zfk G 1 (by unfold I64; omega))
       refine WSc [3, 10, 104, 105, 106] [10, 40, 96, 102, 115, 120, 21] ?_
       have hc := gvF hP hG (z5w G (e.Posts.getD i default).Path (fun s hs => by have := hpp.2.2 s hs; omega) (by omega))
       refine WQc [3, 104, 105, 106] [40, 96, 102, 115, 120, 21] ?_
       apply zg
       apply z7
       refine WQ [3, 104, 105, 106] [40, 96, 102, 115, 120, 21] ?_
       refine WN (⟨i + 1, by omega⟩)
      ·have hpb : qp (e.Posts.getD i default) = wd 0 ++ strsM (e.Posts.getD i default).Path := by unfold qp; rw [if_neg (by rw [hb]; exact Bool.false_ne_true)]
       have him : (wd 0).length ≤ 9 := vj (by unfold I64; omega)
       have hsx : ∀ X : List Int, X ++ x3 qp e.Posts (i + 1) = X ++ x3 qp e.Posts i ++ wd 0 ++ strsM (e.Posts.getD i default).Path := fun X => by rw [hsc, hpb]; simp only [List.append_assoc]
       rw [hpb, List.length_append, ← Nat.add_assoc] at hsl
       have hsy : ∀ Y : Nat, Y + (x3 qp e.Posts (i + 1)).length = Y + (x3 qp e.Posts i).length + (wd 0).length + (strsM (e.Posts.getD i default).Path).length := fun Y => by omega
       have hE := And.intro hE (And.intro hsx hsy)
       apply z9
       apply z7
       have hc := gvF hP hG (zfk G 0 (by unfold I64; omega))
       refine WSc [3, 10, 104, 105, 106] [10, 40, 96, 102, 115, 120, 21] ?_
       have hc := gvF hP hG (z5w G (e.Posts.getD i default).Path (fun s hs => by have := hpp.2.2 s hs; omega) (by omega))
       refine WQc [3, 104, 105, 106] [40, 96, 102, 115, 120, 21] ?_
       apply zg
       apply z7
       refine WQ [3, 104, 105, 106] [40, 96, 102, 115, 120, 21] ?_
       refine WN (⟨i + 1, by omega⟩)
     ·apply zn
      apply zh
      have hend : i = e.Posts.length := by omega
      subst hend
      have hf2 := vp qp e.Posts
      have hE := And.intro hE hf2
      apply ze
      apply zw
      apply zg
      apply z7
      refine WS [2] [40, 61, 74, 89, 96, 102, 115, 120, 132, 21] ?_
      apply za
      refine EN ?_
      all_goals try trivial
      all_goals (simp only [← List.map_append, datE_map] <;> rfl)
    ·refine WS [1, 3, 7, 122] [1, 40, 50, 102, 120, 21] ?_
     refine WI ?_ ?_ <;> intro hb
     ·have hk : e.Kind = 5 ∨ e.Kind = 6 := by grind
      have hk0 : e.Kind ≠ 0 := by omega
      have hk2 : e.Kind ≠ 2 := by omega
      have hk3 : ¬ (e.Kind = 3 ∨ e.Kind = 4) := by omega
      have hv : evB e = intsM [e.By, e.Seq, e.Tick, e.Kind] ++ intsM (e.Refs.flatMap nameI) ++ intsM (idI e.ID ++ [e.N]) := by
       unfold evB Zh Zj
       rw [if_neg hk0, if_neg hk2, if_neg hk3, if_pos hk]
      have hE := And.intro hE hv
      have hin : ∀ x ∈ idI e.ID ++ [e.N], I64 x := by
       simp only [idI, List.cons_append, List.nil_append, List.forall_mem_cons]
       exact ⟨h.id.1, h.id.2.1, h.id.2.2, h.n, by simp⟩
      have hb3 : (intsM (idI e.ID ++ [e.N])).length ≤ 45 := w8 hin (by simp [idI])
      have hc := gvF hP hG (Zc G (idI e.ID ++ [e.N]) hin (by simp [idI]))
      refine WQc [3] [40, 102, 120, 132, 21] ?_
      apply zg
      apply z7
      refine WS [2] [40, 61, 74, 89, 96, 102, 115, 120, 132, 21] ?_
      apply za
      refine EN ?_
      all_goals try trivial
      all_goals (simp only [← List.map_append, datE_map] <;> rfl)
     ·have hv : evB e = intsM [e.By, e.Seq, e.Tick, e.Kind] ++ intsM (e.Refs.flatMap nameI) := by
       unfold evB Zh Zj
       rw [if_neg (by grind), if_neg (by grind), if_neg (by grind), if_neg (by grind)]
       simp only [List.append_nil]
      have hE := And.intro hE hv
      apply z9
      apply zg
      apply z7
      refine WS [2] [40, 61, 74, 89, 96, 102, 115, 120, 132, 21] ?_
      apply za
      refine EN ?_
      all_goals try trivial
      all_goals (simp only [← List.map_append, datE_map] <;> rfl)
set_option maxRecDepth 100000 in
set_option maxHeartbeats 2000000 in
theorem zm0 (G) (e : EventM) (h : OkEv e) : zo Tryz.prog G 14 [zr e] [wm (evB e)] := by
 have hnr := h.nrefs
 have hnp := h.nposts
 have hnb := h.nbroader
 have hpl := kr (f := nameI) (k := 2) (fun _ => rfl) e.Refs
 have hrl := hpl e.Refs.length (Nat.le_refl _)
 rw [vp] at hrl
 have hhd : ∀ x ∈ [e.By, e.Seq, e.Tick, e.Kind], I64 x := by
  simp only [List.forall_mem_cons]
  exact ⟨h.by_, h.seq, h.tick, h.kind, by simp⟩
 have hid : ∀ x ∈ idI e.ID, I64 x := by
  simp only [idI, List.forall_mem_cons]
  exact ⟨h.id.1, h.id.2.1, h.id.2.2, by simp⟩
 have hb1 := w8 hhd (by simp)
 have hb2 := w8 (z0l h) (by omega)
 simp only [List.length_cons, List.length_nil] at hb1
 rw [hrl] at hb2
 have hoa := h.op.all
 skip
 skip
 skip
 refine GI [39] [17, 72, 76] [] Tryz.func14 Tryz.ntmps14 fun F hP hG hN hR hA => ?_
 have hE := And.intro @Tryz.results14 (And.intro @X5 (And.intro @Nat.min_self (And.intro @tr2 (And.intro @tr3 (@tr4)))))
 refine WS [1] [1, 17, 4] ?_
 apply zu [1, 3] [1, 100, 126, 17, 4]
 ·refine RN ?_
  refine CX (fun _ => 17) [20] (z6u G [e.By, e.Seq, e.Tick, e.Kind] hhd (by simp)) ?_
  exact SC
 refine WS [1, 3, 4] [1, 39, 100, 126, 17, 4] ?_
 apply z6
 refine WS [1, 3, 4, 5] [1, 39, 100, 126, 17, 4] ?_
 apply zc
 refine xz 4 1 (by omega) ?_
 refine y9 4 4 1 rfl rfl ?_
 refine WL (ι := {i : Nat // i ≤ e.Refs.length}) [1, 3] [1, 38, 39, 43, 52, 64, 78, 94, 100, 117, 126, 144, 17] (fun ⟨i, hi⟩ => [(4, .osl 4 1 0 (x3 nameI e.Refs i).length), (5, .dat (iD i))]) (fun ⟨i, hi⟩ => [(4, ⟨1, ((x3 nameI e.Refs i).map iD).map .dat⟩)]) (fun ⟨i, hi⟩ => e.Refs.length - i) (⟨0, by omega⟩) ?_
 rintro ⟨i, hi⟩
 refine LA ?_
 have hl := hpl i hi
 apply z6
 refine WS [1, 3, 4, 5, 22] [1, 38, 39, 100, 126, 17, 4] ?_
 refine WI ?_ ?_ <;> intro hb
 ·have hl2 := hpl (i + 1) (by omega)
  have hsc := j2 nameI e.Refs i (by omega)
  have hE := And.intro hE (And.intro hsc (nameI.eq_1 (e.Refs.getD i default)))
  apply z9
  apply z7
  apply z6
  apply zc
  refine WDQ [1, 3, 4, 5] [1, 38, 39, 100, 126, 17, 4] [0, 1, 2, 3, 4, 5, 6, 7, 8, 9, 10, 11, 12, 13, 14, 15] [39] ?_
  apply zg
  apply z7
  refine wv 39 4 (by omega) (by omega) ?_
  refine WQ [1, 3, 4, 5] [1, 38, 39, 100, 126, 17, 4] ?_
  refine WN (⟨i + 1, by omega⟩)
 ·apply zn
  apply zh
  have hend : i = e.Refs.length := by omega
  subst hend
  have hf := vp nameI e.Refs
  have hE := And.intro hE hf
  apply ze
  apply zw
  apply z7
  refine jh 4 hR.2.2.2 rfl (datE_map _) ?_
  have hc := gvF hP hG (Z9 G (e.Refs.flatMap nameI) (z0l h) (by omega))
  refine WSc [1, 3] [1, 43, 100, 126, 17, 4] ?_
  apply z6
  refine WS [1, 3, 45] [1, 43, 100, 126, 17, 4] ?_
  apply zc
  refine WS [1, 3, 45, 46] [1, 43, 100, 126, 17, 4] ?_
  refine WI ?_ ?_ <;> intro hb
  ·have hk : e.Kind = 0 := by omega
   have hv : evB e = intsM [e.By, e.Seq, e.Tick, e.Kind] ++ intsM (e.Refs.flatMap nameI) ++ opB e.Op := by
    unfold evB Zh Zj
    rw [if_pos hk]
   have hE := And.intro hE hv
   have hc := gvF hP hG (zau G e.Op h.op)
   refine WQc [3] [43, 52, 100, 126, 17, 4] ?_
   apply zg
   apply z7
   refine WS [2] [43, 52, 64, 78, 94, 100, 117, 126, 144, 17, 4] ?_
   apply za
   refine EN ?_
   all_goals try trivial
   all_goals (simp only [← List.map_append, datE_map] <;> rfl)
  ·refine WS [1, 3, 45, 53] [1, 43, 100, 126, 17, 4] ?_
   refine WI ?_ ?_ <;> intro hb
   ·have hk : e.Kind = 2 := by omega
    have hk0 : e.Kind ≠ 0 := by omega
    have hv : evB e = intsM [e.By, e.Seq, e.Tick, e.Kind] ++ intsM (e.Refs.flatMap nameI) ++ intsM [e.Term.Kind, e.Term.Lang] ++ strsM (e.Term.Name :: e.Term.See :: e.Term.Broader) := by
     unfold evB Zh Zj
     rw [if_neg hk0, if_pos hk]
     simp only [List.append_assoc]
    have hE := And.intro hE hv
    have htk : ∀ x ∈ [e.Term.Kind, e.Term.Lang], I64 x := by
     simp only [List.forall_mem_cons]
     exact ⟨h.tk, h.tl, by simp⟩
    have hts : ∀ s ∈ e.Term.Name :: e.Term.See :: e.Term.Broader, s.size ≤ 1000000 := by
     simp only [List.forall_mem_cons]
     exact ⟨by have := h.name; omega, by have := h.see; omega, fun s hs => by have := h.broader s hs; omega⟩
    have hb3 := w8 htk (by simp)
    have hb4 := z0s hts (by simp; omega)
    simp only [List.length_cons, List.length_nil] at hb3 hb4
    have hc := gvF hP hG (Z9 G [e.Term.Kind, e.Term.Lang] htk (by simp))
    refine WSc [1, 3] [1, 43, 64, 100, 126, 17, 4] ?_
    have hc := gvF hP hG (z0p G (e.Term.Name :: e.Term.See :: e.Term.Broader) hts (by simp; omega))
    refine WQc [3] [43, 64, 78, 100, 126, 17, 4] ?_
    apply zg
    apply z7
    refine WS [2] [43, 52, 64, 78, 94, 100, 117, 126, 144, 17, 4] ?_
    apply za
    refine EN ?_
    all_goals try trivial
    all_goals (simp only [← List.map_append, datE_map] <;> rfl)
   ·apply z6
    refine WS [1, 3, 45, 79] [1, 43, 100, 126, 17, 4] ?_
    refine WI ?_ ?_ <;> intro hb
    ·have hk : e.Kind = 3 ∨ e.Kind = 4 := by omega
     have hk0 : e.Kind ≠ 0 := by omega
     have hk2 : e.Kind ≠ 2 := by omega
     have hv : evB e = intsM [e.By, e.Seq, e.Tick, e.Kind] ++ intsM (e.Refs.flatMap nameI) ++ intsM (idI e.ID) ++ wd e.Posts.length ++ e.Posts.flatMap qp := by
      unfold evB Zh Zj
      rw [if_neg hk0, if_neg hk2, if_pos hk]
      simp only [List.append_assoc]
     have hE := And.intro hE hv
     have hb3 : (intsM (idI e.ID)).length ≤ 36 := w8 hid (by simp [idI])
     have hb4 : (wd (e.Posts.length : Int)).length ≤ 9 := vj (by unfold I64; omega)
     apply z9
     apply z7
     refine jd (by first | exact rfl | (simp only [xi, wt, qn, qw]; simp [*])) ?_
     have hc := gvF hP hG (Z9 G (idI e.ID) hid (by simp [idI]))
     refine WSc [1, 3] [1, 43, 94, 100, 126, 17, 4] ?_
     have hc := gvF hP hG (z1h G e.Posts.length (by unfold I64; omega))
     refine WSc [1, 3] [1, 43, 94, 100, 126, 17, 4] ?_
     refine WS [1, 3, 6] [1, 43, 94, 100, 126, 17, 4] ?_
     apply zc
     refine wv 100 126 (by omega) (by omega) ?_
     have hE := And.intro hE (And.intro (tr5 (α := Int) (f := u8D)) (And.intro (tr6 (α := Int) (f := u8D)) (tr7 (α := Int) (f := u8D))))
     refine WL (ι := {i : Nat // i ≤ e.Posts.length}) [1] [1, 43, 52, 64, 78, 94, 100, 117, 144, 17, 4] (fun ⟨i, hi⟩ => [(3, .osl 126 1 0 ((intsM [e.By, e.Seq, e.Tick, e.Kind]).length + (intsM (e.Refs.flatMap nameI)).length + (intsM (idI e.ID)).length + (wd e.Posts.length).length + (x3 qp e.Posts i).length)), (6, .dat (iD i))]) (fun ⟨i, hi⟩ => [(126, ⟨1, ((intsM [e.By, e.Seq, e.Tick, e.Kind] ++ intsM (e.Refs.flatMap nameI) ++ intsM (idI e.ID) ++ wd e.Posts.length ++ x3 qp e.Posts i).map u8D).map .dat⟩)]) (fun ⟨i, hi⟩ => e.Posts.length - i) (⟨0, by omega⟩) ?_
     rintro ⟨i, hi⟩
     refine LA ?_
     have hpi := z6n h i hi
     apply z6
     refine WS [1, 3, 6, 105] [1, 43, 94, 100, 117, 126, 17, 4] ?_
     refine WI ?_ ?_ <;> intro hb
     ·have hsc := j2 qp e.Posts i (by omega)
      have hpp := x4 h.posts (i := i) (by omega)
      have hsl : (x3 qp e.Posts (i + 1)).length = (x3 qp e.Posts i).length + (qp (e.Posts.getD i default)).length := by rw [hsc, List.length_append]
      have hps := z0s (l := (e.Posts.getD i default).Path) (fun s hs => by have := hpp.2.2 s hs; omega) (by omega)
      apply z9
      apply z7
      apply z6
      apply zc
      refine WS [1, 3, 6, 7] [1, 43, 94, 100, 117, 126, 17, 4] ?_
      apply z6
      refine WS [1, 3, 6, 7, 113] [1, 43, 94, 100, 117, 126, 17, 4] ?_
      refine WI ?_ ?_ <;> intro hb
      ·have hpb : qp (e.Posts.getD i default) = wd 1 ++ strsM (e.Posts.getD i default).Path := by unfold qp; rw [if_pos hb]
       have him : (wd 1).length ≤ 9 := vj (by unfold I64; omega)
       have hsx : ∀ X : List Int, X ++ x3 qp e.Posts (i + 1) = X ++ x3 qp e.Posts i ++ wd 1 ++ strsM (e.Posts.getD i default).Path := fun X => by rw [hsc, hpb]; simp only [List.append_assoc]
       rw [hpb, List.length_append, ← Nat.add_assoc] at hsl
       have hsy : ∀ Y : Nat, Y + (x3 qp e.Posts (i + 1)).length = Y + (x3 qp e.Posts i).length + (wd 1).length + (strsM (e.Posts.getD i default).Path).length := fun Y => by omega
       have hE := And.intro hE (And.intro hsx hsy)
       refine WQ [1, 3, 6, 7] [1, 43, 94, 100, 117, 126, 17, 4] ?_
       apply z7
       have hc := gvF hP hG (z1h G 1 (by unfold I64; omega))
       refine WSc [1, 3, 6] [1, 43, 94, 100, 117, 126, 17, 4] ?_
       have hc := gvF hP hG (z0p G (e.Posts.getD i default).Path (fun s hs => by have := hpp.2.2 s hs; omega) (by omega))
       refine WQc [1, 3, 6] [1, 43, 94, 100, 117, 126, 17, 4] ?_
       apply zg
       apply z7
       refine WQ [1, 3, 6] [1, 43, 94, 100, 117, 126, 17, 4] ?_
       refine WN (⟨i + 1, by omega⟩)
      ·have hpb : qp (e.Posts.getD i default) = wd 0 ++ strsM (e.Posts.getD i default).Path := by unfold qp; rw [if_neg (by rw [hb]; exact Bool.false_ne_true)]
       have him : (wd 0).length ≤ 9 := vj (by unfold I64; omega)
       have hsx : ∀ X : List Int, X ++ x3 qp e.Posts (i + 1) = X ++ x3 qp e.Posts i ++ wd 0 ++ strsM (e.Posts.getD i default).Path := fun X => by rw [hsc, hpb]; simp only [List.append_assoc]
       rw [hpb, List.length_append, ← Nat.add_assoc] at hsl
       have hsy : ∀ Y : Nat, Y + (x3 qp e.Posts (i + 1)).length = Y + (x3 qp e.Posts i).length + (wd 0).length + (strsM (e.Posts.getD i default).Path).length := fun Y => by omega
       have hE := And.intro hE (And.intro hsx hsy)
       apply z9
       apply z7
       have hc := gvF hP hG (z1h G 0 (by unfold I64; omega))
       refine WSc [1, 3, 6] [1, 43, 94, 100, 117, 126, 17, 4] ?_
       have hc := gvF hP hG (z0p G (e.Posts.getD i default).Path (fun s hs => by have := hpp.2.2 s hs; omega) (by omega))
       refine WQc [1, 3, 6] [1, 43, 94, 100, 117, 126, 17, 4] ?_
       apply zg
       apply z7
       refine WQ [1, 3, 6] [1, 43, 94, 100, 117, 126, 17, 4] ?_
       refine WN (⟨i + 1, by omega⟩)
     ·apply zn
      apply zh
      have hend : i = e.Posts.length := by omega
      subst hend
      have hf2 := vp qp e.Posts
      have hE := And.intro hE hf2
      apply ze
      apply zw
      apply zg
      apply z7
      refine WS [2] [43, 52, 64, 78, 94, 100, 117, 126, 144, 17, 4] ?_
      apply za
      refine EN ?_
      all_goals try trivial
      all_goals (simp only [← List.map_append, datE_map] <;> rfl)
    ·by_cases h4 : e.Kind = 4
     ·have hk : e.Kind = 3 ∨ e.Kind = 4 := by omega
      have hk0 : e.Kind ≠ 0 := by omega
      have hk2 : e.Kind ≠ 2 := by omega
      have hv : evB e = intsM [e.By, e.Seq, e.Tick, e.Kind] ++ intsM (e.Refs.flatMap nameI) ++ intsM (idI e.ID) ++ wd e.Posts.length ++ e.Posts.flatMap qp := by
       unfold evB Zh Zj
       rw [if_neg hk0, if_neg hk2, if_pos hk]
       simp only [List.append_assoc]
      have hE := And.intro hE hv
      have hb3 : (intsM (idI e.ID)).length ≤ 36 := w8 hid (by simp [idI])
      have hb4 : (wd (e.Posts.length : Int)).length ≤ 9 := vj (by unfold I64; omega)
      refine WQ [1, 3, 45, 79] [1, 43, 100, 126, 17, 4] ?_
      apply z7
      refine jd (by first | exact rfl | (simp only [xi, wt, qn, qw]; simp [*])) ?_
      have hc := gvF hP hG (Z9 G (idI e.ID) hid (by simp [idI]))
      refine WSc [1, 3] [1, 43, 94, 100, 126, 17, 4] ?_
      have hc := gvF hP hG (z1h G e.Posts.length (by unfold I64; omega))
      refine WSc [1, 3] [1, 43, 94, 100, 126, 17, 4] ?_
      refine WS [1, 3, 6] [1, 43, 94, 100, 126, 17, 4] ?_
      apply zc
      refine wv 100 126 (by omega) (by omega) ?_
      have hE := And.intro hE (And.intro (tr5 (α := Int) (f := u8D)) (And.intro (tr6 (α := Int) (f := u8D)) (tr7 (α := Int) (f := u8D))))
      refine WL (ι := {i : Nat // i ≤ e.Posts.length}) [1] [1, 43, 52, 64, 78, 94, 100, 117, 144, 17, 4] (fun ⟨i, hi⟩ => [(3, .osl 126 1 0 ((intsM [e.By, e.Seq, e.Tick, e.Kind]).length + (intsM (e.Refs.flatMap nameI)).length + (intsM (idI e.ID)).length + (wd e.Posts.length).length + (x3 qp e.Posts i).length)), (6, .dat (iD i))]) (fun ⟨i, hi⟩ => [(126, ⟨1, ((intsM [e.By, e.Seq, e.Tick, e.Kind] ++ intsM (e.Refs.flatMap nameI) ++ intsM (idI e.ID) ++ wd e.Posts.length ++ x3 qp e.Posts i).map u8D).map .dat⟩)]) (fun ⟨i, hi⟩ => e.Posts.length - i) (⟨0, by omega⟩) ?_
      rintro ⟨i, hi⟩
      refine LA ?_
      have hpi := z6n h i hi
      apply z6
      refine WS [1, 3, 6, 105] [1, 43, 94, 100, 117, 126, 17, 4] ?_
      refine WI ?_ ?_ <;> intro hb
      ·have hsc := j2 qp e.Posts i (by omega)
       have hpp := x4 h.posts (i := i) (by omega)
       have hsl : (x3 qp e.Posts (i + 1)).length = (x3 qp e.Posts i).length + (qp (e.Posts.getD i default)).length := by rw [hsc, List.length_append]
       have hps := z0s (l := (e.Posts.getD i default).Path) (fun s hs => by have := hpp.2.2 s hs; omega) (by omega)
       apply z9
       apply z7
       apply z6
       apply zc
       refine WS [1, 3, 6, 7] [1, 43, 94, 100, 117, 126, 17, 4] ?_
       apply z6
       refine WS [1, 3, 6, 7, 113] [1, 43, 94, 100, 117, 126, 17, 4] ?_
       refine WI ?_ ?_ <;> intro hb
       ·have hpb : qp (e.Posts.getD i default) = wd 1 ++ strsM (e.Posts.getD i default).Path := by unfold qp; rw [if_pos hb]
        have him : (wd 1).length ≤ 9 := vj (by unfold I64; omega)
        have hsx : ∀ X : List Int, X ++ x3 qp e.Posts (i + 1) = X ++ x3 qp e.Posts i ++ wd 1 ++ strsM (e.Posts.getD i default).Path := fun X => by rw [hsc, hpb]; simp only [List.append_assoc]
        rw [hpb, List.length_append, ← Nat.add_assoc] at hsl
        have hsy : ∀ Y : Nat, Y + (x3 qp e.Posts (i + 1)).length = Y + (x3 qp e.Posts i).length + (wd 1).length + (strsM (e.Posts.getD i default).Path).length := fun Y => by omega
        have hE := And.intro hE (And.intro hsx hsy)
        refine WQ [1, 3, 6, 7] [1, 43, 94, 100, 117, 126, 17, 4] ?_
        apply z7
        have hc := gvF hP hG (z1h G 1 (by unfold I64; omega))
        refine WSc [1, 3, 6] [1, 43, 94, 100, 117, 126, 17, 4] ?_
        have hc := gvF hP hG (z0p G (e.Posts.getD i default).Path (fun s hs => by have := hpp.2.2 s hs; omega) (by omega))
        refine WQc [1, 3, 6] [1, 43, 94, 100, 117, 126, 17, 4] ?_
        apply zg
        apply z7
        refine WQ [1, 3, 6] [1, 43, 94, 100, 117, 126, 17, 4] ?_
        refine WN (⟨i + 1, by omega⟩)
       ·have hpb : qp (e.Posts.getD i default) = wd 0 ++ strsM (e.Posts.getD i default).Path := by unfold qp; rw [if_neg (by rw [hb]; exact Bool.false_ne_true)]
        have him : (wd 0).length ≤ 9 := vj (by unfold I64; omega)
        have hsx : ∀ X : List Int, X ++ x3 qp e.Posts (i + 1) = X ++ x3 qp e.Posts i ++ wd 0 ++ strsM (e.Posts.getD i default).Path := fun X => by rw [hsc, hpb]; simp only [List.append_assoc]
        rw [hpb, List.length_append, ← Nat.add_assoc] at hsl
        have hsy : ∀ Y : Nat, Y + (x3 qp e.Posts (i + 1)).length = Y + (x3 qp e.Posts i).length + (wd 0).length + (strsM (e.Posts.getD i default).Path).length := fun Y => by omega
        have hE := And.intro hE (And.intro hsx hsy)
        apply z9
        apply z7
        have hc := gvF hP hG (z1h G 0 (by unfold I64; omega))
        refine WSc [1, 3, 6] [1, 43, 94, 100, 117, 126, 17, 4] ?_
        have hc := gvF hP hG (z0p G (e.Posts.getD i default).Path (fun s hs => by have := hpp.2.2 s hs; omega) (by omega))
        refine WQc [1, 3, 6] [1, 43, 94, 100, 117, 126, 17, 4] ?_
        apply zg
        apply z7
        refine WQ [1, 3, 6] [1, 43, 94, 100, 117, 126, 17, 4] ?_
        refine WN (⟨i + 1, by omega⟩)
      ·apply zn
       apply zh
       have hend : i = e.Posts.length := by omega
       subst hend
       have hf2 := vp qp e.Posts
       have hE := And.intro hE hf2
       apply ze
       apply zw
       apply zg
       apply z7
       refine WS [2] [43, 52, 64, 78, 94, 100, 117, 126, 144, 17, 4] ?_
       apply za
       refine EN ?_
       all_goals try trivial
       all_goals (simp only [← List.map_append, datE_map] <;> rfl)
     ·refine WQ [1, 3, 45, 79] [1, 43, 100, 126, 17, 4] ?_
      apply z7
      refine X0 (by first | exact rfl | (simp only [xi, wt, qn, qw]; simp [*])) ?_
      apply z6
      refine WS [1, 3, 45, 127] [1, 43, 100, 126, 17, 4] ?_
      refine WI ?_ ?_ <;> intro hb
      ·have hk : e.Kind = 5 ∨ e.Kind = 6 := by omega
       have hk0 : e.Kind ≠ 0 := by omega
       have hk2 : e.Kind ≠ 2 := by omega
       have hk3 : ¬ (e.Kind = 3 ∨ e.Kind = 4) := by omega
       have hv : evB e = intsM [e.By, e.Seq, e.Tick, e.Kind] ++ intsM (e.Refs.flatMap nameI) ++ intsM (idI e.ID ++ [e.N]) := by
        unfold evB Zh Zj
        rw [if_neg hk0, if_neg hk2, if_neg hk3, if_pos hk]
       have hE := And.intro hE hv
       have hin : ∀ x ∈ idI e.ID ++ [e.N], I64 x := by
        simp only [idI, List.cons_append, List.nil_append, List.forall_mem_cons]
        exact ⟨h.id.1, h.id.2.1, h.id.2.2, h.n, by simp⟩
       have hb3 : (intsM (idI e.ID ++ [e.N])).length ≤ 45 := w8 hin (by simp [idI])
       apply z9
       apply z7
       refine jd (by first | exact rfl | (simp only [xi, wt, qn, qw]; simp [*])) ?_
       have hc := gvF hP hG (Z9 G (idI e.ID ++ [e.N]) hin (by simp [idI]))
       refine WQc [3] [43, 100, 126, 144, 17, 4] ?_
       apply zg
       apply z7
       refine WS [2] [43, 52, 64, 78, 94, 100, 117, 126, 144, 17, 4] ?_
       apply za
       refine EN ?_
       all_goals try trivial
       all_goals (simp only [← List.map_append, datE_map] <;> rfl)
      ·by_cases h6 : e.Kind = 6
       ·have hk : e.Kind = 5 ∨ e.Kind = 6 := by omega
        have hk0 : e.Kind ≠ 0 := by omega
        have hk2 : e.Kind ≠ 2 := by omega
        have hk3 : ¬ (e.Kind = 3 ∨ e.Kind = 4) := by omega
        have hv : evB e = intsM [e.By, e.Seq, e.Tick, e.Kind] ++ intsM (e.Refs.flatMap nameI) ++ intsM (idI e.ID ++ [e.N]) := by
         unfold evB Zh Zj
         rw [if_neg hk0, if_neg hk2, if_neg hk3, if_pos hk]
        have hE := And.intro hE hv
        have hin : ∀ x ∈ idI e.ID ++ [e.N], I64 x := by
         simp only [idI, List.cons_append, List.nil_append, List.forall_mem_cons]
         exact ⟨h.id.1, h.id.2.1, h.id.2.2, h.n, by simp⟩
        have hb3 : (intsM (idI e.ID ++ [e.N])).length ≤ 45 := w8 hin (by simp [idI])
        refine WQ [1, 3, 127] [1, 43, 100, 126, 17, 4] ?_
        apply z7
        refine jd (by first | exact rfl | (simp only [xi, wt, qn, qw]; simp [*])) ?_
        have hc := gvF hP hG (Z9 G (idI e.ID ++ [e.N]) hin (by simp [idI]))
        refine WQc [3] [43, 100, 126, 144, 17, 4] ?_
        apply zg
        apply z7
        refine WS [2] [43, 52, 64, 78, 94, 100, 117, 126, 144, 17, 4] ?_
        apply za
        refine EN ?_
        all_goals try trivial
        all_goals (simp only [← List.map_append, datE_map] <;> rfl)
       ·have hv : evB e = intsM [e.By, e.Seq, e.Tick, e.Kind] ++ intsM (e.Refs.flatMap nameI) := by
         unfold evB Zh Zj
         rw [if_neg (by omega), if_neg (by omega), if_neg (by omega), if_neg (by omega)]
         simp only [List.append_nil]
        have hE := And.intro hE hv
        refine WQ [1, 3, 127] [1, 43, 100, 126, 17, 4] ?_
        apply z7
        refine X0 (by first | exact rfl | (simp only [xi, wt, qn, qw]; simp [*])) ?_
        apply z9
        apply zg
        apply z7
        refine WS [2] [43, 52, 64, 78, 94, 100, 117, 126, 144, 17, 4] ?_
        apply za
        refine EN ?_
        all_goals try trivial
        all_goals (simp only [← List.map_append, datE_map] <;> rfl)
def cpM (m : List Int) : Nat → List Int
 | 0 => List.replicate 16 0
 | i + 1 => (cpM m i).set i (m.getD i 0)
theorem z2y (m : List Int) : ∀ i, (cpM m i).length = 16
 | 0 => rfl
 | i + 1 => by simp [cpM, z2y m i]
theorem zkt (m : List Int) : ∀ i k, k < i → i ≤ 16 → (cpM m i).getD k 0 = m.getD k 0
 | 0, _, h, _ => absurd h (by omega)
 | i + 1, k, h, h16 => by
  simp only [cpM]
  rw [z4y _ _ _ _ (by rw [z2y]; omega)]
  by_cases hk : k = i
  ·rw [if_pos hk, hk]
  ·rw [if_neg hk, zkt m i k (by omega) (by omega)]
theorem zxk {m : List Int} (h : m.length = 32) : cpM m 16 = m.take 16 := by
 refine List.ext_getElem (by rw [z2y, List.length_take]; omega) fun k h1 h2 => ?_
 rw [z2y] at h1
 have := zkt m 16 k h1 (by omega)
 rw [List.getD_eq_getElem?_getD, List.getD_eq_getElem?_getD, List.getElem?_eq_getElem (by rw [z2y]; exact h1), List.getElem?_eq_getElem (by omega)] at this
 simpa using this
set_option maxRecDepth 100000 in
set_option maxHeartbeats 1000000 in
theorem zor (G) (hgk : G.lookup 0 = some (wsD kH)) (b : List Int) (hib : isB b) (hl : b.length ≤ 1099511627776) : zo Tryz.prog G 88 [wm b] [bsD ((z5t b).take 16)] := by
 have hsl := zbb b
 skip
 refine GI [] [] [] Tryz.func88 Tryz.ntmps88 fun F hP hG hN hR hA => ?_
 have hE := @Tryz.results88
 refine WS [0, 2] [2] ?_
 have hc := gvF hP hG (zvx G hgk b hib hl)
 refine WSc [2, 3] [2, 3] ?_
 refine WS [2, 3, 4] [2, 3, 4] ?_
 apply z6
 refine WS [2, 3, 4, 5] [2, 3, 4] ?_
 apply zc
 refine WL (ι := {i : Nat // i ≤ 16}) [2, 3, 4] [2, 3] (fun ⟨i, hi⟩ => [(5, .dat (iD i))]) (fun ⟨i, hi⟩ => [(4, ⟨16, [.dat (bsD (cpM (z5t b) i))]⟩)]) (fun ⟨i, hi⟩ => 16 - i) (⟨0, by omega⟩) ?_
 rintro ⟨i, hi⟩
 refine LA ?_
 have hl2 := z2y (z5t b) i
 apply z6
 refine WS [2, 3, 4, 5, 10] [2, 3, 4] ?_
 refine WI ?_ ?_ <;> intro hb
 ·have g1 := zqy (z5t b) i (by omega)
  have g2 := zqy (cpM (z5t b) i) i (by omega)
  have t1 := zkd (cpM (z5t b) i) i (by omega)
  have hE := And.intro hE (And.intro g1 (And.intro g2 (And.intro t1 (And.intro (cpM.eq_2 (z5t b) i) (And.intro zjl (And.intro zqn (And.intro hl2 hsl)))))))
  apply z9
  apply z7
  apply z6
  apply zc
  refine WQ [2, 3, 4, 5] [2, 3, 4] ?_
  apply zg
  apply z7
  refine WQ [2, 3, 4, 5] [2, 3, 4] ?_
  refine WN (⟨i + 1, by omega⟩)
 ·apply zn
  apply zh
  have hend : i = 16 := by omega
  subst hend
  have h16 := zxk hsl
  have hE := And.intro hE h16
  apply ze
  apply zw
  apply z7
  refine WS [2] [2] ?_
  apply za
  exact E0
set_option maxRecDepth 100000 in
set_option maxHeartbeats 1000000 in
theorem zoe (G) (l : List ByteArray) (hl : l.length ≤ 1000) (h : ∀ s ∈ l, s.size ≤ 1000000) : zo Tryz.prog G 89 [iD 7, ssD l] [wm (ofIn 7 l l.length)] := by
 have h7 : IntKind.u8.wrap 7 = 7 := by decide
 skip
 skip
 refine GI [9] [] [] Tryz.func89 Tryz.ntmps89 fun F hP hG hN hR hA => ?_
 have hE := And.intro @Tryz.results89 (@h7)
 refine WS [0, 1] [] ?_
 refine WS [1, 5] [9, 22] ?_
 apply z6
 refine WS [1, 5, 6] [9, 22] ?_
 apply zc
 refine wv 9 22 (by omega) (by omega) ?_
 refine WL (ι := {i : Nat // i ≤ l.length}) [1] [9] (fun ⟨i, hi⟩ => [(5, .osl 22 1 0 (ofIn 7 l i).length), (6, .dat (iD i))]) (fun ⟨i, hi⟩ => [(22, ⟨1, ((ofIn 7 l i).map u8D).map .dat⟩)]) (fun ⟨i, hi⟩ => l.length - i) (⟨0, by omega⟩) ?_
 rintro ⟨i, hi⟩
 refine LA ?_
 apply z6
 refine WS [1, 5, 6, 13] [9, 22] ?_
 refine WI ?_ ?_ <;> intro hb
 ·have hs := x4 h (i := i) (by omega)
  have hin := z2a (t := 7) h i (by omega)
  have hby := Zt hs
  have hE := And.intro hE (ofIn.eq_2 7 l i)
  apply z9
  apply z7
  apply z6
  apply zc
  have hc := gvF hP hG (zdb G (l.getD i default) hs)
  refine WQc [1, 5, 6] [9, 22] ?_
  apply zg
  apply z7
  refine WQ [1, 5, 6] [9, 22] ?_
  refine WN (⟨i + 1, by omega⟩)
 ·apply zn
  apply zh
  have hend : i = l.length := by omega
  subst hend
  apply ze
  apply zw
  apply z7
  refine WS [4] [9, 22] ?_
  apply za
  exact E0
set_option maxRecDepth 100000 in
theorem zyj (G) (hgk : G.lookup 0 = some (wsD kH)) (l : List ByteArray) (hl : l.length ≤ 1000) (h : ∀ s ∈ l, s.size ≤ 1000000) : zo Tryz.prog G 52 [iD 7, ssD l] [bsD (dgM 7 l)] := by
 skip
 refine GI [] [] [] Tryz.func52 Tryz.ntmps52 fun F hP hG hN hR hA => ?_
 have hE := @Tryz.results52
 refine WS [0, 1, 4] [4] ?_
 apply zu [4] [4]
 ·refine RN ?_
  refine CU (zoe G l hl h) ?_
  refine CU (zor G hgk (ofIn 7 l l.length) (z24 (by decide) h _ (Nat.le_refl _)) (by have := z2a (t := 7) h l.length (Nat.le_refl _); omega)) ?_
  exact SC
 apply za
 exact E0
set_option maxRecDepth 100000 in
theorem zn0 (G) (hgk : G.lookup 1 = some (wsD kH)) (e : EventM) (h : OkEv e) (hs : (evB e).length ≤ 1000000) : zo Tryz.prog G 16 [zr e] [bsD (dgM 7 [X1 (evB e)])] := by
 skip
 refine GI [] [] [] Tryz.func16 Tryz.ntmps16 fun F hP hG hN hR hA => ?_
 have hE := @Tryz.results16
 refine WS [1, 2] [1, 2] ?_
 apply zu [2] [2]
 ·refine RN ?_
  refine CU (zkk G e h) ?_
  refine CU (zr1 G hgk [X1 (evB e)] (by simp) (by intro s hs'; rw [List.mem_singleton] at hs'; rw [hs', z1w]; exact hs)) ?_
  exact SC
 apply za
 exact E0
set_option maxRecDepth 100000 in
theorem zk1 (G) (hgk : G.lookup 0 = some (wsD kH)) (e : EventM) (h : OkEv e) (hs : (evB e).length ≤ 1000000) : zo Tryz.prog G 18 [zr e] [bsD (dgM 7 [X1 (evB e)])] := by
 skip
 refine GI [] [] [] Tryz.func18 Tryz.ntmps18 fun F hP hG hN hR hA => ?_
 have hE := @Tryz.results18
 refine WS [1, 2] [1, 2] ?_
 apply zu [2] [2]
 ·refine RN ?_
  refine CU (zm0 G e h) ?_
  refine CU (zyj G hgk [X1 (evB e)] (by simp) (by intro s hs'; rw [List.mem_singleton] at hs'; rw [hs', z1w]; exact hs)) ?_
  exact SC
 apply za
 exact E0
theorem z9c (G) (b : List Int) (m : Nat) (hm : m ≤ 1000000) : GivesX Tryz.prog G 19 [.dat (wm b), .dat (iD m)] [] [.osl 13 1 0 (min b.length m)] [(13, ⟨1, ((b.take (min b.length m)).map u8D).map .dat⟩)] := by
 have hmin : (if (m : Int) < (b.length : Int) then (m : Int) else (b.length : Int)).toNat = min b.length m := by split <;> omega
 skip
 skip
 refine GX [] [] [] Tryz.func19 Tryz.ntmps19 fun F hP hG hN hR hA => ?_
 have hE := And.intro @Tryz.results19 (And.intro @hmin (And.intro @Nat.min_self (@Nat.min_assoc)))
 refine WS [0, 1] [] ?_
 refine WS [0, 1, 5] [] ?_
 refine WS [4] [13] ?_
 apply za
 refine EN ?_
 all_goals try trivial
 all_goals (refine .inl ?_; congr 1; omega)
theorem zud (G) (b : List Int) (m : Nat) (hm : m ≤ 1000000) : zo Tryz.prog G 19 [wm b, iD m] [wm (b.take (min b.length m))] := (z9c G b m hm).row (by simp)
theorem zu2 {cur : List EventM} {j : Nat} (hj : 0 < j) (h : yx (cur.getD j default) (cur.getD (j - 1) default) = true) : Xt cur j = Xt (swapM cur j) (j - 1) := by
 obtain ⟨k, rfl⟩ : ∃ k, j = k + 1 := ⟨j - 1, by omega⟩
 rw [Xt, if_pos (by simpa using h)]
 rfl
theorem zn1 {cur : List EventM} {j : Nat} (h : 0 < j → ¬ yx (cur.getD j default) (cur.getD (j - 1) default) = true) : Xt cur j = cur := by
 cases j with
 | zero => rfl
 | succ k => rw [Xt, if_neg (by simpa using h (by omega))]
theorem zxj (G) (a b : EventM) : zo Tryz.prog G 118 [zr a, zr b] [iD (ze8 a b)] := by
 skip
 refine GI [] [] [] Tryz.func118 Tryz.ntmps118 fun F hP hG hN hR hA => ?_
 have hE := @Tryz.results118
 refine WS [2, 3] [2, 3] ?_
 apply z6
 apply zc
 have hc := gvF hP hG (z2v G a b)
 refine WSc [2, 3, 5] [2, 3] ?_
 refine WI ?_ ?_ <;> intro hb
 ·have hv : ze8 a b = -1 := by unfold ze8; rw [if_pos hb]
  have hE := And.intro hE hv
  refine WS [4] [] ?_
  apply za
  apply zf
  apply zb
  exact E0
 ·have h0 : ¬ yx a b = true := by rw [hb]; exact Bool.false_ne_true
  have hc := gvF hP hG (z2v G b a)
  refine WSc [9] [] ?_
  refine WI ?_ ?_ <;> intro hb
  ·have hv : ze8 a b = 1 := by unfold ze8; rw [if_neg h0, if_pos hb]
   have hE := And.intro hE hv
   refine WS [4] [] ?_
   apply za
   apply zf
   apply zb
   exact E0
  ·have hv : ze8 a b = 0 := by unfold ze8; rw [if_neg h0, if_neg (by rw [hb]; exact Bool.false_ne_true)]
   have hE := And.intro hE hv
   apply z9
   apply zg
   apply z7
   refine WS [4] [] ?_
   apply za
   exact E0
theorem zrb (G) (l : List EventM) (hn : l.length ≤ 1000) : GivesX Tryz.prog G 139 [.osl 1000 32 0 l.length, .dat (iD 0), .dat (iD l.length), .fn 118 []] [(1000, ⟨32, (l.map zr).map .dat⟩)] [] [(1000, ⟨32, ((zm l).map zr).map .dat⟩)] := by
 skip
 skip
 skip
 refine GX [] [] [] Tryz.func139 Tryz.ntmps139 fun F hP hG hN hR hA => ?_
 have hE := And.intro @Tryz.results139 (And.intro @zfa (And.intro @List.length_set.{0} (@swapM.eq_1)))
 refine WS [0, 1, 2, 3, 8] [1000] ?_
 apply zc
 have h1 : z51 l 1 = l := rfl
 have hE := And.intro hE h1
 refine WL (ι := {i : Nat // 1 ≤ i ∧ (i ≤ l.length ∨ i = 1)}) [0, 1, 2, 3] [] (fun ⟨i, hi⟩ => [(8, .dat (iD i))]) (fun ⟨i, hi⟩ => [(1000, ⟨32, ((z51 l i).map zr).map .dat⟩)]) (fun ⟨i, hi⟩ => l.length - i) (⟨1, by omega⟩) ?_
 rintro ⟨i, hi⟩
 refine LA ?_
 obtain ⟨hi1, hi2⟩ := hi
 have hil := z52 l i
 apply z6
 refine WS [0, 1, 2, 3, 8, 14] [1000] ?_
 refine WI ?_ ?_ <;> intro hb
 ·apply z9
  apply z7
  apply z6
  apply zc
  refine WS [0, 1, 2, 3, 8, 9] [1000] ?_
  apply zc
  refine WL (ι := {p : Nat × List EventM // p.1 ≤ i ∧ p.2.length = l.length ∧ Xt p.2 p.1 = Xt (z51 l i) i}) [0, 1, 2, 3, 8] [] (fun ⟨⟨j, cur⟩, hp⟩ => [(9, .dat (iD j))]) (fun ⟨⟨j, cur⟩, hp⟩ => [(1000, ⟨32, (cur.map zr).map .dat⟩)]) (fun ⟨⟨j, cur⟩, hp⟩ => j) (⟨(i, z51 l i), by simp [hil]⟩) ?_
  rintro ⟨⟨j, cur⟩, hp⟩
  refine LA ?_
  obtain ⟨hp1, hp2, hp3⟩ := hp
  dsimp only at hp1 hp2 hp3
  have hj1 : ((j : Int) - 1).toNat = j - 1 := by omega
  have hE := And.intro hE hj1
  have hcn := zqc (cur.getD j default) (cur.getD (j - 1) default)
  apply z6
  apply wn [0, 1, 2, 3, 8, 9, 34] [1000] [0, 1, 2, 3, 4, 5, 6, 7, 8, 9, 10, 11, 12, 13, 14, 15, 16] []
  ·rw [hP]; kernel_rfl
  ·exact hR
  ·kernel_rfl
  ·(repeat (apply PickL.cons; exact rfl)); exact PickL.nil _
  ·refine RN ?_
   refine CG (zxj G (cur.getD j default) (cur.getD (j - 1) default)) ?_
   exact SC
  refine WI ?_ ?_ <;> intro hb
  ·have hbf := hcn.1 hb.2
   have hdn := zu2 (cur := cur) (j := j) (by omega) hbf
   have hls : (cur.set j (cur.getD (j - 1) default)).length = cur.length := by simp
   apply z9
   apply z7
   apply z6
   apply zc
   refine WDQ [0, 1, 2, 3, 8, 9] [1000] [0, 1, 5, 6, 7, 8, 9, 10, 11, 12, 13, 14, 15, 2, 3, 4, 16, 17] [] ?_
   apply zg
   apply z7
   refine WQ [0, 1, 2, 3, 8, 9] [1000] ?_
   refine WN (⟨(j - 1, swapM cur j), by dsimp only; exact ⟨by omega, by rw [zdq]; exact hp2, by rw [← hdn]; exact hp3⟩⟩)
  ·have hdn : Xt cur j = cur := zn1 fun h => mt hcn.2 (by grind)
   apply zn
   apply zh
   have hcur : cur = z51 l (i + 1) := by rw [z51, ← hp3, hdn]
   subst hcur
   apply ze
   apply zw
   apply zg
   apply z7
   refine WQ [0, 1, 2, 3, 8] [1000] ?_
   refine WN (⟨i + 1, by omega⟩)
 ·apply zn
  apply zh
  have hlast : z51 l i = zm l := by
   unfold zm
   rcases hi2 with h | h
   ·rw [show i = l.length by omega]
   ·subst h
    rcases Nat.eq_zero_or_pos l.length with h0 | h0
    ·rw [h0]; rfl
    ·rw [show l.length = 1 by omega]
  have hE := And.intro hE hlast
  apply ze
  apply zw
  exact E0
theorem zp4 (G) (l : List EventM) (hn : l.length < 20) : GivesX Tryz.prog G 131 [.osl 1000 32 0 l.length, .dat (iD l.length), .fn 118 []] [(1000, ⟨32, (l.map zr).map .dat⟩)] [] [(1000, ⟨32, ((zm l).map zr).map .dat⟩)] := by
 skip
 skip
 refine GX [] [27] [] Tryz.func131 Tryz.ntmps131 fun F hP hG hN hR hA => ?_
 have hE := @Tryz.results131
 refine WS [0, 1, 2, 6] [1000] ?_
 refine WS [0, 1, 2, 6, 7, 8] [1000] ?_
 apply z6
 apply zc
 refine WL (ι := Unit) [0, 1, 2, 6] [1000] (fun _u => [(7, .dat (iD 0)), (8, .dat (iD 20))]) (fun _u => []) (fun _u => 0) (()) ?_
 rintro _u
 refine LA ?_
 apply z6
 refine WS [0, 1, 2, 6, 7, 8, 13] [1000] ?_
 refine WI ?_ ?_ <;> intro hb
 ·exfalso
  omega --STOP
 ·apply zn
  apply zh
  apply ze
  apply zw
  apply z7
  apply zu [0, 1, 2, 6] [1000]
  ·refine RN ?_
   refine CX (fun _ => 1000) [] (zrb G l (by omega)) ?_
   exact SC
  apply zc
  refine WL (ι := Unit) [0, 1, 2] [1000] (fun _u => [(6, .dat (iD 20))]) (fun _u => []) (fun _u => 0) (()) ?_
  rintro _u
  refine LA ?_
  apply z6
  refine WS [0, 1, 2, 6, 30] [1000] ?_
  refine WI ?_ ?_ <;> intro hb
  ·exfalso
   omega --STOP
  ·apply zn
   apply zh
   apply ze
   apply zw
   exact E0
theorem zc1 (G) (l : List EventM) (hn : l.length < 20) : GivesX Tryz.prog G 117 [.osl 1000 32 0 l.length, .fn 118 []] [(1000, ⟨32, (l.map zr).map .dat⟩)] [] [(1000, ⟨32, ((zm l).map zr).map .dat⟩)] := by
 skip
 skip
 refine GX [] [8] [] Tryz.func117 Tryz.ntmps117 fun F hP hG hN hR hA => ?_
 have hE := @Tryz.results117
 apply kf [] [1000]
 ·refine RN ?_
  refine CX (fun _ => 1000) [] (zp4 G l hn) ?_
  exact SC
 exact E0
theorem zmr (G) (l : List EventM) (hn : l.length ≤ 1000) : GivesX Tryz.prog G 116 [.dat (yz l)] [] [.osl 7 32 0 l.length] [(7, ⟨32, (l.map zr).map .dat⟩)] := by
 skip
 refine GX [] [] [] Tryz.func116 Tryz.ntmps116 fun F hP hG hN hR hA => ?_
 have hE := @Tryz.results116
 refine WS [0] [] ?_
 apply z6
 refine qo ?_
 apply qz
 ·(iterate 1 apply Seg.cons); exact Seg.nil _
 ·refine RK ?_
  exact SC
 refine zpm rfl rfl rfl (by rw [hN]; omega) (by rw [hP]; exact ti41) rfl rfl fun b hb0 => ?_
 rw [ww]
 apply vi [0, 4] []
 ·refine RN ?_
  exact SC
 refine WI ?_ ?_ <;> intro hb
 ·have hl0 : l = [] := by
   cases l with
   | nil => rfl
   | cons x l =>
    rw [hb0 (by simp)] at hb
    cases hb
  subst hl0
  refine WS [2] [7] ?_
  refine xz 7 32 (by omega) ?_
  refine y9 2 7 32 rfl rfl ?_
  apply za
  apply zb
  exact E0
 ·apply z9
  apply z7
  refine WS [2] [5, 7] ?_
  apply za
  exact E0
theorem zw6 (G) (l : List EventM) (hn : l.length < 20) : zo Tryz.prog G 84 [yz l] [yz (zm l)] := by
 have hsl : (zm l).length = l.length := z52 l _
 skip
 skip
 skip
 refine GI [] [5, 7] [] Tryz.func84 Tryz.ntmps84 fun F hP hG hN hR hA => ?_
 have hE := And.intro @Tryz.results84 (@hsl)
 refine WS [0] [5] ?_
 apply zu [3] [5]
 ·refine RN ?_
  refine CX (fun _ => 5) [7] (zmr G l (by omega)) ?_
  exact SC
 apply zu [3] [5]
 ·refine RN ?_
  refine CX (fun _ => 5) [] (zc1 G l hn) ?_
  exact SC
 refine WS [2] [5] ?_
 apply za
 exact E0
theorem zed : zgk Tryz.prog 65 := by unfold zgk; kernel_rfl
theorem z4o : Tryz.prog.underlying 3 = some (.int .i64) := by kernel_rfl
theorem z84 : (Tryz.prog.info? 3).bind (·.zero) = some (.int .i64 0) := by kernel_rfl
theorem zwm (z : Dat) (r : Option Dat) : lkA true z r = .tup [.dat (r.getD z), .dat (.bool r.isSome)] := rfl
theorem zh0 (z : Dat) (r : Option Dat) : lkA false z r = .dat (r.getD z) := rfl
def zj0 (e : EventM) (n : Nat) : List (Nat × Nat × AV) := [(0, 94, .mp 20), (1, 95, .dat (zr e)), (2, 96, .dat (vb (evName e))), (3, 97, .mp 22), (4, 98, .rp (zr e) 0), (5, 99, .dat (iD e.By)), (6, 100, .rp (zr e) 2), (7, 101, .dat (iD e.Tick)), (8, 102, .rp (zr e) 2), (9, 103, .dat (iD e.Tick)), (10, 104, .tup [.dat (iD 0), .dat (iD n)]), (11, 105, .dat (iD n))]
theorem z12 (e : EventM) (n : Nat) : (zj0 e n).map (·.2.1) = [94, 95, 96, 97, 98, 99, 100, 101, 102, 103, 104, 105] := rfl
theorem z1z (e : EventM) (n : Nat) : (zj0 e n).map (·.1) = [0, 1, 2, 3, 4, 5, 6, 7, 8, 9, 10, 11] := rfl
def z45 (e : EventM) (k1 v1 : List Dat) (D : Nat → Bool) : AObj := if D 12 = true then wg (k1 ++ [vb (evName e)]) (v1 ++ [iD e.Tick]) else if D 10 = true then wg (k1 ++ [vb (evName e)]) (v1 ++ [iD 0]) else wg k1 v1
def z46 (e : EventM) (k3 v3 : List Dat) (D : Nat → Bool) : AObj := if D 13 = true then wg (Qa k3 (iD e.By)) (Z6 k3 v3 (iD e.By) (iD e.Tick)) else wg k3 v3
def kg (st : ASt) (e : EventM) (k1 v1 k3 v3 : List Dat) (D : Nat → Bool) : ASt := { env := kh D st.env (zj0 e k1.length), objs := fun id => if id = 20 then some (z45 e k1 v1 D) else if id = 22 then some (z46 e k3 v3 D) else st.objs id }
theorem z0d {st : ASt} {e : EventM} {k1 v1 k3 v3 : List Dat} {D : Nat → Bool} {n : Nat} (h : n < 94) : (kg st e k1 v1 k3 v3 D).env n = st.env n :=
 z98 fun p hp => by
  have : p.2.1 ∈ (zj0 e k1.length).map (·.2.1) := List.mem_map.2 ⟨p, hp, rfl⟩
  rw [z12] at this
  intro hn
  rw [hn] at this
  simp at this
  omega
theorem yn {st : ASt} {e : EventM} {k1 v1 k3 v3 : List Dat} {D : Nat → Bool} {i d : Nat} {v : AV} (hD : D i = true) (h : (zj0 e k1.length)[i]? = some (i, d, v)) : (kg st e k1 v1 k3 v3 D).env d = v :=
 z97 hD (List.mem_of_getElem? h) (by rw [z12]; decide)
theorem jk {st : ASt} {e : EventM} {k1 v1 k3 v3 : List Dat} {D : Nat → Bool} {i d : Nat} {v : AV} (h : (zj0 e k1.length)[i]? = some (i, d, v)) (hi : i ≠ 10 ∧ i ≠ 12 ∧ i ≠ 13) : (kg st e k1 v1 k3 v3 D).put (some d) v = kg st e k1 v1 k3 v3 (xn D i) := by
 have h1 : z45 e k1 v1 (xn D i) = z45 e k1 v1 D := by simp [z45, xn, Ne.symm hi.1, Ne.symm hi.2.1]
 have h3 : z46 e k3 v3 (xn D i) = z46 e k3 v3 D := by simp [z46, xn, Ne.symm hi.2.2]
 unfold kg
 rw [h1, h3]
 simp only [ASt.put]
 rw [envD_add (List.mem_of_getElem? h) (by rw [z12]; decide) (by rw [z1z]; decide)]
theorem zu7 {st : ASt} {e : EventM} {k1 v1 k3 v3 : List Dat} {D : Nat → Bool} (hD : D 12 = false) :
  ((kg st e k1 v1 k3 v3 D).obj 20 (wg (k1 ++ [vb (evName e)]) (v1 ++ [iD 0]))).put (some 104) (.tup [.dat (iD 0), .dat (iD k1.length)]) = kg st e k1 v1 k3 v3 (xn D 10) := by
 have h1 : z45 e k1 v1 (xn D 10) = wg (k1 ++ [vb (evName e)]) (v1 ++ [iD 0]) := by simp [z45, xn, hD]
 have h3 : z46 e k3 v3 (xn D 10) = z46 e k3 v3 D := by simp [z46, xn]
 unfold kg
 rw [h1, h3]
 simp only [ASt.put, ASt.obj]
 rw [envD_add (i := 10) (List.mem_of_getElem? (i := 10) rfl) (by rw [z12]; decide) (by rw [z1z]; decide)]
 congr 1
 funext id
 simp only [q9]
 split <;> rfl
theorem zl2 {D : Nat → Bool} {base : Nat → AV} {i : Nat} {l : List (Nat × Nat × AV)} (h : i ∉ l.map (·.1)) : kh (xn D i) base l = kh D base l := envD_add.envD_same h
theorem zu8 {st : ASt} {e : EventM} {k1 v1 k3 v3 : List Dat} {D : Nat → Bool} :
  (kg st e k1 v1 k3 v3 D).obj 20 (wg (k1 ++ [vb (evName e)]) (v1 ++ [iD e.Tick])) = kg st e k1 v1 k3 v3 (xn D 12) := by
 have h1 : z45 e k1 v1 (xn D 12) = wg (k1 ++ [vb (evName e)]) (v1 ++ [iD e.Tick]) := by simp [z45, xn]
 have h3 : z46 e k3 v3 (xn D 12) = z46 e k3 v3 D := by simp [z46, xn]
 unfold kg
 rw [h1, h3, zl2 (by rw [z1z]; decide)]
 simp only [ASt.obj]
 congr 1
 funext id
 simp only [q9]
 split <;> rfl
theorem zu9 {st : ASt} {e : EventM} {k1 v1 k3 v3 : List Dat} {D : Nat → Bool} :
  (kg st e k1 v1 k3 v3 D).obj 22 (wg (Qa k3 (iD e.By)) (Z6 k3 v3 (iD e.By) (iD e.Tick))) = kg st e k1 v1 k3 v3 (xn D 13) := by
 have h1 : z45 e k1 v1 (xn D 13) = z45 e k1 v1 D := by simp [z45, xn]
 have h3 : z46 e k3 v3 (xn D 13) = wg (Qa k3 (iD e.By)) (Z6 k3 v3 (iD e.By) (iD e.Tick)) := by simp [z46, xn]
 unfold kg
 rw [h1, h3, zl2 (by rw [z1z]; decide)]
 simp only [ASt.obj]
 congr 1
 funext id
 simp only [q9]
 by_cases h : id = 22
 ·subst h; rfl
 ·simp [h]
theorem zn4 {st : ASt} {e : EventM} {k1 v1 k3 v3 : List Dat} {D : Nat → Bool} (h : ∀ i, i < 14 → D i = false) (h1 : st.objs 20 = some (wg k1 v1)) (h3 : st.objs 22 = some (wg k3 v3)) : kg st e k1 v1 k3 v3 D = st := by
 unfold kg
 rw [z2z fun p hp => h p.1 (by
  have : p.1 ∈ (zj0 e k1.length).map (·.1) := List.mem_map.2 ⟨p, hp, rfl⟩
  rw [z1z] at this
  simp at this
  omega)]
 have e1 : z45 e k1 v1 D = wg k1 v1 := by simp [z45, h]
 have e3 : z46 e k3 v3 D = wg k3 v3 := by simp [z46, h]
 rw [e1, e3, ← h1, ← h3]
 cases st
 congr 1
 funext id
 simp only
 split
 ·rename_i hh; rw [hh]
 ·split
  ·rename_i hh; rw [hh]
  ·rfl
set_option maxRecDepth 100000 in
set_option maxHeartbeats 4000000 in
theorem zms (G) (l : List EventM) (hl : l.length < 20 ∨ 384 < l.length) (h : ∀ e ∈ zm l, OkEv e) : zo Tryz.prog G 45 [yz l] [iD (vo l).1, iD (vo l).2] := by
 have hsl : (zm l).length = l.length := z52 l _
 skip
 skip
 skip
 refine GI [] [] [] Tryz.func45 Tryz.ntmps45 fun F hP hG hN hR hA => ?_
 have hE := And.intro @Tryz.results45 (And.intro @hsl (And.intro @zuv (@zy7)))
 refine WS [0] [20, 21, 22] ?_
 apply z6
 refine WS [0, 19] [20, 21, 22] ?_
 refine WI ?_ ?_ <;> intro hb
 ·have hv : vo l = (0, 4) := by unfold vo; rw [if_pos (by omega)]
  have hE := And.intro hE hv
  refine WS [2, 3] [20, 21, 22] ?_
  apply za
  apply zb
  exact E0
 ·have hl20 : l.length < 20 := by omega
  have hv : vo l = Qv l.length (zm l) ((zm l).length - 0) := by unfold vo; rw [if_neg (by omega)]; rfl
  apply z9
  apply z7
  refine qo ?_
  refine ws rfl (z4h rfl rfl (by rw [hN]; omega)) ?_
  simp only [avA, seval]
  apply vi [0, 4] [20, 21, 22]
  ·refine RN ?_
   exact SC
  refine qo ?_
  refine ws rfl (z4h rfl rfl (by rw [hN]; omega)) ?_
  simp only [avA, seval]
  refine ws rfl (z4h rfl rfl (by rw [hN]; omega)) ?_
  simp only [avA, seval]
  apply vi [0, 4, 5, 6] [20, 21, 22]
  ·refine RN ?_
   exact SC
  apply z6
  have hc := gvF hP hG (zw6 G l hl20)
  refine WSc [0, 4, 5, 6, 24, 25, 26] [20, 21, 22] ?_
  apply zc
  refine WL (ι := {p : Nat × (List Dat × List Dat) × (List Dat × List Dat) × (List Dat × List Dat) // p.1 ≤ (zm l).length ∧ ClInv ((zm l).take p.1) p.2.1.1 p.2.1.2 p.2.2.1.1 p.2.2.1.2 p.2.2.2.1 p.2.2.2.2 ∧ vo l = Qv l.length (zm l) ((zm l).length - p.1)}) [0, 4, 5, 6, 24, 25] [] (fun ⟨⟨i, ⟨k1, v1⟩, ⟨k2, v2⟩, ⟨k3, v3⟩⟩, hic⟩ => [(26, .dat (iD i))]) (fun ⟨⟨i, ⟨k1, v1⟩, ⟨k2, v2⟩, ⟨k3, v3⟩⟩, hic⟩ => [(20, ⟨0, [.tup [], .dat (.sl k1), .dat (.sl v1)]⟩), (21, ⟨0, [.tup [], .dat (.sl k2), .dat (.sl v2)]⟩), (22, ⟨0, [.tup [], .dat (.sl k3), .dat (.sl v3)]⟩)]) (fun ⟨⟨i, ⟨k1, v1⟩, ⟨k2, v2⟩, ⟨k3, v3⟩⟩, hic⟩ => (zm l).length - i) (⟨⟨0, ⟨[], []⟩, ⟨[], []⟩, ⟨[], []⟩⟩, by dsimp only; exact ⟨by omega, zmq, hv⟩⟩) ?_
  rintro ⟨⟨i, ⟨k1, v1⟩, ⟨k2, v2⟩, ⟨k3, v3⟩⟩, hic⟩
  refine LA ?_
  dsimp only at hic
  obtain ⟨hi, hinv, hcl⟩ := id hic
  have htl : (List.take i (zm l)).length = i := by rw [List.length_take]; omega
  refine WS [0, 4, 5, 6, 24, 25, 26, 27] [20, 21, 22] ?_
  apply z6
  refine WI ?_ ?_ <;> intro hb
  ·apply z9
   apply z7
   apply z6
   apply zc
   refine WS [0, 4, 5, 6, 7, 8, 24, 25, 26] [8, 20, 21, 22] ?_
   apply z6
   refine jh 8 hR.2.2.2 rfl rfl ?_
   have hc := gvF hP hG (zbh G ((zm l).getD i default) (x4 h (by omega)))
   refine WSc [0, 4, 5, 6, 7, 8, 9, 24, 25, 26] [8, 20, 21, 22] ?_
   refine WS [0, 4, 5, 6, 7, 8, 9, 24, 25, 26, 34] [8, 20, 21, 22] ?_
   refine WI ?_ ?_ <;> intro hb
   ·have hf : jx ((zm l).take i) ((zm l).getD i default) = vu ((zm l).getD i default) := by unfold jx; rw [if_pos (by omega)]
    have hv : vo l = ((i : Int), vu ((zm l).getD i default)) := by rw [hcl, X2 (by omega) (by omega), hf]
    have hE := And.intro hE hv
    refine WS [2, 3] [20, 21, 22] ?_
    apply za
    apply zb
    apply zf
    apply zb
    apply qb
    apply zf
    apply zb
    exact E0
   ·have hv0 : vu ((zm l).getD i default) = 0 := by omega
    apply z9
    apply z7
    apply z6
    refine qo ?_
    apply qz
    ·(iterate 3 apply Seg.cons); exact Seg.nil _
    ·refine RK ?_
     refine CU (z38 G ((zm l).getD i default)) ?_
     exact SC
    refine ws rfl (Qm (kt := 65) (et := 3) (isK := znm) (id := 20) (ks := k1) (vs := v1) rfl rfl (by rw [hN]; omega) ⟨⟨_, by rw [hP]; exact ti132, rfl⟩, by rw [hP]; exact z4g .i64 .i64 zed, rfl, rfl, hinv.q1⟩ rfl ⟨_, _, rfl⟩ (by rw [hP]; exact z84)) ?_
    rw [ww, zwm]
    apply vi [0, 4, 5, 6, 7, 8, 11, 24, 25, 26] [8, 20, 21, 22]
    ·refine RN ?_
     exact SC
    refine WS [0, 4, 5, 6, 7, 8, 24, 25, 26, 44] [8, 20, 21, 22] ?_
    refine WI ?_ ?_ <;> intro hb
    ·have hfd : 0 ≤ ya ((zm l).take i) (evName ((zm l).getD i default)) := by
      rcases hinv.tick (evName ((zm l).getD i default)) with ⟨_, h2⟩ | ⟨h1, _⟩
      ·rw [h2] at hb; cases hb
      ·exact h1
     have hf : jx ((zm l).take i) ((zm l).getD i default) = 7 := by unfold jx; rw [if_neg (by omega), if_pos hfd]
     have hv : vo l = ((i : Int), 7) := by rw [hcl, X2 (by omega) (by omega), hf]
     have hE := And.intro hE hv
     refine WS [2, 3] [20, 21, 22] ?_
     apply za
     apply zb
     apply zf
     apply zb
     apply qb
     apply zf
     apply zb
     exact E0
    ·have hfd : ya ((zm l).take i) (evName ((zm l).getD i default)) = -1 ∧ lkp k1 v1 (vb (evName ((zm l).getD i default))) = none := by
      rcases hinv.tick (evName ((zm l).getD i default)) with h1 | ⟨_, h2⟩
      ·exact h1
      ·rw [h2] at hb; cases hb
     have hcn := hinv.count ((zm l).getD i default).By
     have hcl2 : ((zm l).take i).countP (fun x => x.By == ((zm l).getD i default).By) ≤ 20 := Nat.le_trans List.countP_le_length (by omega)
     apply z9
     apply z7
     apply z6
     refine qo ?_
     apply qz
     ·(iterate 5 apply Seg.cons); exact Seg.nil _
     ·refine RK ?_
      exact SC
     refine ws rfl (Qm (kt := 3) (et := 3) (isK := z9w) (id := 21) (ks := k2) (vs := v2) rfl rfl (by rw [hN]; omega) ⟨⟨_, by rw [hP]; exact ti133, rfl⟩, by rw [hP]; exact km z4o, rfl, rfl, hinv.q2⟩ rfl ⟨_, rfl⟩ (by rw [hP]; exact z84)) ?_
     rw [ww, zh0, hcn]
     apply vi [0, 4, 5, 6, 7, 8, 24, 25, 26, 52] [8, 20, 21, 22]
     ·refine RN ?_
      exact SC
     refine WI ?_ ?_ <;> intro hb
     ·have hf : jx ((zm l).take i) ((zm l).getD i default) = 10 := by
       unfold jx
       rw [if_neg (by omega), if_neg (by omega), if_pos (fun hq => hb (by show ((zm l).getD i default).Seq = _; rw [← hq]; rfl))]
      have hv : vo l = ((i : Int), 10) := by rw [hcl, X2 (by omega) (by omega), hf]
      have hE := And.intro hE hv
      refine WS [2, 3] [20, 21, 22] ?_
      apply za
      apply zb
      apply zf
      apply zb
      apply qb
      apply zf
      apply zb
      exact E0
     ·have hq : (((zm l).take i).countP (znl ((zm l).getD i default)) : Int) = ((zm l).getD i default).Seq := by
       have : (((zm l).take i).countP (znl ((zm l).getD i default))) = ((zm l).take i).countP (fun x => x.By == ((zm l).getD i default).By) := rfl
       omega
      apply z9
      apply z7
      have hlate := zin hinv ((zm l).getD i default)
      refine zpu (.of [(0, .dat (yz l)), (4, .mp 20), (5, .mp 21), (6, .mp 22), (7, .dat (iD i)), (8, .rp (zr ((zm l).getD i default)) 0), (12, .dat (bD (((zm l).take i).any (kl ((zm l).getD i default))))), (24, .dat (yz (zm l))), (25, .dat (iD (zm l).length)), (26, .dat (iD i))] [(20, ⟨0, [.tup [], .dat (.sl k1), .dat (.sl v1)]⟩), (21, ⟨0, [.tup [], .dat (.sl k2), .dat (.sl v2)]⟩), (22, ⟨0, [.tup [], .dat (.sl k3), .dat (.sl v3)]⟩)]) ?_ ?_
      ·rcases hlate with ⟨h0, h1, h2⟩ | ⟨h0, t, h1, h2⟩
       ·refine Xp ?_
        apply qz
        ·(iterate 3 apply Seg.cons); exact Seg.nil _
        ·refine RK ?_
         exact SC
        refine ws rfl (Qm (kt := 3) (et := 3) (isK := z9w) (id := 21) (ks := k2) (vs := v2) rfl rfl (by rw [hN]; omega) ⟨⟨_, by rw [hP]; exact ti133, rfl⟩, by rw [hP]; exact km z4o, rfl, rfl, hinv.q2⟩ rfl ⟨_, rfl⟩ (by rw [hP]; exact z84)) ?_
        rw [ww, zh0, hcn, h0]
        apply qz
        ·(iterate 5 apply Seg.cons); exact Seg.nil _
        ·refine RK ?_
         exact SC
        refine z42 (.dat (iD 0)) rfl rfl (by rw [hN]; omega) rfl ?_
        rw [ww]
        apply vi [0, 4, 5, 6, 7, 8, 12, 24, 25, 26] [20, 21, 22]
        ·simp (maxSteps := 2000000) (disch := omega) only [qq, avA, zl, zp, seval, ↓List.forall_mem_cons, Op.operands, hA, tiA, hE]
         exact SC
        exact ⟨rfl, by rw [h1, hsl]; rfl⟩
       ·have hd : decide ((0 : Int) < (((zm l).take i).countP (fun x => x.By == ((zm l).getD i default).By) : Int)) = true := decide_eq_true (by omega)
        have hE := And.intro hE hd
        refine Xp ?_
        apply qz
        ·(iterate 3 apply Seg.cons); exact Seg.nil _
        ·refine RK ?_
         exact SC
        refine ws rfl (Qm (kt := 3) (et := 3) (isK := z9w) (id := 21) (ks := k2) (vs := v2) rfl rfl (by rw [hN]; omega) ⟨⟨_, by rw [hP]; exact ti133, rfl⟩, by rw [hP]; exact km z4o, rfl, rfl, hinv.q2⟩ rfl ⟨_, rfl⟩ (by rw [hP]; exact z84)) ?_
        rw [ww, zh0, hcn]
        apply qz
        ·(iterate 2 apply Seg.cons); exact Seg.nil _
        ·refine RK ?_
         exact SC
        apply zdz
        ·rfl
        ·simp (maxSteps := 2000000) (disch := omega) only [qq, avA, zl, zp, seval, ↓List.forall_mem_cons, Op.operands, hA, tiA, hE, z76]
         exact SC
        apply zdz
        ·rfl
        ·simp (maxSteps := 2000000) (disch := omega) only [qq, avA, zl, zp, seval, ↓List.forall_mem_cons, Op.operands, hA, tiA, hE, z76]
         exact SC
        apply zdz
        ·rfl
        ·simp (maxSteps := 2000000) (disch := omega) only [qq, avA, zl, zp, seval, ↓List.forall_mem_cons, Op.operands, hA, tiA, hE, z76]
         exact SC
        refine zyr rfl rfl (Qm (kt := 3) (et := 3) (isK := z9w) (id := 22) (ks := k3) (vs := v3) rfl rfl (by rw [hN]; omega) ⟨⟨_, by rw [hP]; exact ti133, rfl⟩, by rw [hP]; exact km z4o, rfl, rfl, hinv.q3⟩ rfl ⟨_, rfl⟩ (by rw [hP]; exact z84)) ?_
        rw [ww, zh0, h1, Option.getD_some]
        apply vi [0, 4, 5, 6, 7, 8, 12, 24, 25, 26] [20, 21, 22]
        ·simp (maxSteps := 2000000) (disch := omega) only [qq, avA, zl, zp, seval, ↓List.forall_mem_cons, Op.operands, hA, tiA, hE]
         exact SC
        exact ⟨rfl, by rw [h2, hsl]⟩
      apply z6
      refine WS [0, 4, 5, 6, 7, 8, 12, 24, 25, 26, 69, 70, 71] [8, 20, 21, 22] ?_
      apply zc
      have hz0 : (((zm l).take i).any (kl ((zm l).getD i default)) || z8q (z1e ((zm l).take i) ((zm l).getD i default)) ((zm l).getD i default).Refs 0) = ((zm l).take i).any (kl ((zm l).getD i default)) := by rw [zme, Bool.or_false]
      have hE := And.intro hE hz0
      have hre := (x4 h (show i < (zm l).length by omega)).nrefs
      refine WL (ι := {j : Nat // j ≤ ((zm l).getD i default).Refs.length ∧ ∀ k, k < j → 0 ≤ ya ((zm l).take i) (((zm l).getD i default).Refs.getD k default)}) [0, 4, 5, 6, 7, 8, 24, 25, 26, 69, 70] [8, 20, 21, 22] (fun ⟨j, hjc⟩ => [(12, .dat (bD (((zm l).take i).any (kl ((zm l).getD i default)) || z8q (z1e ((zm l).take i) ((zm l).getD i default)) ((zm l).getD i default).Refs j))), (71, .dat (iD j))]) (fun ⟨j, hjc⟩ => []) (fun ⟨j, hjc⟩ => ((zm l).getD i default).Refs.length - j) (⟨0, by omega, by omega⟩) ?_
      rintro ⟨j, hjc⟩
      refine LA ?_
      obtain ⟨hj, hall⟩ := id hjc
      refine WS [0, 4, 5, 6, 7, 8, 12, 24, 25, 26, 69, 70, 71, 72] [8, 20, 21, 22] ?_
      apply z6
      refine WI ?_ ?_ <;> intro hb
      ·apply z9
       apply z7
       apply z6
       apply zc
       refine WS [0, 4, 5, 6, 7, 8, 12, 14, 24, 25, 26, 69, 70, 71] [8, 14, 20, 21, 22] ?_
       refine qo ?_
       apply qz
       ·(iterate 2 apply Seg.cons); exact Seg.nil _
       ·refine RK ?_
        exact SC
       refine ws rfl (Qm (kt := 65) (et := 3) (isK := znm) (id := 20) (ks := k1) (vs := v1) rfl rfl (by rw [hN]; omega) ⟨⟨_, by rw [hP]; exact ti132, rfl⟩, by rw [hP]; exact z4g .i64 .i64 zed, rfl, rfl, hinv.q1⟩ rfl ⟨_, _, rfl⟩ (by rw [hP]; exact z84)) ?_
       rw [ww, zwm]
       apply vi [0, 4, 5, 6, 7, 8, 12, 15, 16, 24, 25, 26, 69, 70, 71] [8, 20, 21, 22]
       ·refine RN ?_
        exact SC
       apply z6
       refine WS [0, 4, 5, 6, 7, 8, 12, 15, 24, 25, 26, 69, 70, 71, 82] [8, 20, 21, 22] ?_
       refine WI ?_ ?_ <;> intro hb
       ·have hfd : ya ((zm l).take i) (((zm l).getD i default).Refs.getD j default) = -1 := by
         rcases hinv.tick (((zm l).getD i default).Refs.getD j default) with ⟨h1, _⟩ | ⟨_, h2⟩
         ·exact h1
         ·rw [h2] at hb; cases hb
        have hf : jx ((zm l).take i) ((zm l).getD i default) = 10 := zj7 hv0 (by omega) hq (show j < ((zm l).getD i default).Refs.length by omega) (by omega)
        have hv : vo l = ((i : Int), 10) := by rw [hcl, X2 (by omega) (by omega), hf]
        have hE := And.intro hE hv
        refine WS [2, 3] [20, 21, 22] ?_
        apply za
        apply zb
        apply zf
        apply zb
        apply qb
        apply zf
        apply zb
        apply zf
        apply zb
        apply qb
        apply zf
        apply zb
        exact E0
       ·have hfd2 : 0 ≤ ya ((zm l).take i) (((zm l).getD i default).Refs.getD j default) ∧ lkp k1 v1 (vb (((zm l).getD i default).Refs.getD j default)) = some (iD (((zm l).take i).getD (ya ((zm l).take i) (((zm l).getD i default).Refs.getD j default)).toNat default).Tick) := by
         rcases hinv.tick (((zm l).getD i default).Refs.getD j default) with ⟨_, h2⟩ | h1
         ·rw [h2] at hb; cases hb
         ·exact h1
        have hge := hfd2.1
        have hr1 : (((zm l).take i).any (kl ((zm l).getD i default)) || z8q (z1e ((zm l).take i) ((zm l).getD i default)) ((zm l).getD i default).Refs (j + 1)) = (((zm l).take i).any (kl ((zm l).getD i default)) || z8q (z1e ((zm l).take i) ((zm l).getD i default)) ((zm l).getD i default).Refs j || decide (((zm l).getD i default).Tick ≤ (((zm l).take i).getD (ya ((zm l).take i) (((zm l).getD i default).Refs.getD j default)).toNat default).Tick)) := by rw [zmd _ _ (show j < ((zm l).getD i default).Refs.length by omega), ← Bool.or_assoc]; rfl
        have hE := And.intro hE (And.intro hfd2.2 (@Option.getD_some Dat))
        apply z9
        apply z7
        refine WQ [0, 4, 5, 6, 7, 8, 12, 24, 25, 26, 69, 70, 71] [8, 20, 21, 22] ?_
        apply zg
        apply z7
        have hE := And.intro hE hr1
        refine WQ [0, 4, 5, 6, 7, 8, 12, 24, 25, 26, 69, 70, 71] [8, 20, 21, 22] ?_
        refine WN (⟨j + 1, by omega, vx hjc.2 hge⟩)
      ·apply zn
       apply zh
       obtain rfl : j = ((zm l).getD i default).Refs.length := by omega
       have hf := zj6 hv0 (show ¬ 0 ≤ ya ((zm l).take i) (evName ((zm l).getD i default)) by omega) hq hall
       have hw := zpo (z1e ((zm l).take i) ((zm l).getD i default)) ((zm l).getD i default).Refs
       rw [hw] at *
       apply ze
       apply zw
       apply z7
       apply z6
       refine WS [0, 4, 5, 6, 7, 8, 24, 25, 26, 92] [8, 20, 21, 22] ?_
       refine WI ?_ ?_ <;> intro hb
       ·rw [if_pos (by grind)] at hf
        have hv : vo l = ((i : Int), 5) := by rw [hcl, X2 (by omega) (by omega), hf]
        have hE := And.intro hE hv
        refine WS [2, 3] [20, 21, 22] ?_
        apply za
        apply zb
        apply zf
        apply zb
        apply qb
        apply zf
        apply zb
        exact E0
       ·rw [if_neg (by grind)] at hf
        apply z9
        apply z7
        refine ze3 [0, 4, 5, 6, 8, 24, 25, 26] [20, 21, 22] (fun s => kg s ((zm l).getD i default) k1 v1 k3 v3) (e := [(0, .dat (yz l)), (4, .mp 20), (5, .mp 21), (6, .mp 22), (8, .rp (zr ((zm l).getD i default)) 0), (24, .dat (yz (zm l))), (25, .dat (iD l.length)), (26, .dat (iD i))]) (o := [(20, wg (k1 ++ [vb (evName ((zm l).getD i default))]) (v1 ++ [iD ((zm l).getD i default).Tick])), (21, wg k2 v2), (22, wg (Qa k3 (iD ((zm l).getD i default).By)) (Z6 k3 v3 (iD ((zm l).getD i default).By) (iD ((zm l).getD i default).Tick)))]) (by rw [hP]; kernel_rfl) (by kernel_rfl) (by kernel_rfl) ?_ (fun D hD => zn4 (fun i hi => hD i hi) rfl rfl) ⟨rfl, rfl⟩ ?_
        ·intro D i' o ho hD hdep hcd
         generalize hst : ASt.of _ _ = st0
         have s4 : st0.env 4 = .mp 20 := by rw [← hst]; rfl
         have s6 : st0.env 6 = .mp 22 := by rw [← hst]; rfl
         have s8 : st0.env 8 = .rp (zr ((zm l).getD i default)) 0 := by rw [← hst]; rfl
         clear hst
         have hi14 : i' < 14 := (List.getElem?_eq_some_iff.1 ho).1
         have hcs : i' = 0 ∨ i' = 1 ∨ i' = 2 ∨ i' = 3 ∨ i' = 4 ∨ i' = 5 ∨ i' = 6 ∨ i' = 7 ∨ i' = 8 ∨ i' = 9 ∨ i' = 10 ∨ i' = 11 ∨ i' = 12 ∨ i' = 13 := by omega
         rcases hcs with rfl | rfl | rfl | rfl | rfl | rfl | rfl | rfl | rfl | rfl | rfl | rfl | rfl | rfl
         ·simp only [List.getElem?_cons_zero, List.getElem?_cons_succ, Option.some.injEq] at ho
          subst ho
          have f := z0d (st := st0) (e := ((zm l).getD i default)) (k1 := k1) (v1 := v1) (k3 := k3) (v3 := v3) (D := D) (n := 4) (by omega)
          rw [s4] at f
          rw [← jk (i := 0) (d := 94) (v := (.mp 20)) rfl (by decide)]
          generalize kg st0 ((zm l).getD i default) k1 v1 k3 v3 D = st1 at f ⊢
          refine xa (ops := #[]) rfl ?_
          simp (maxSteps := 2000000) (disch := omega) only [qq, avA, zl, zp, seval, ↓List.forall_mem_cons, Op.operands, hA, tiA, hE, f]
          all_goals exact SC
         ·simp only [List.getElem?_cons_zero, List.getElem?_cons_succ, Option.some.injEq] at ho
          subst ho
          have f := z0d (st := st0) (e := ((zm l).getD i default)) (k1 := k1) (v1 := v1) (k3 := k3) (v3 := v3) (D := D) (n := 8) (by omega)
          rw [s8] at f
          rw [← jk (i := 1) (d := 95) (v := (.dat (zr ((zm l).getD i default)))) rfl (by decide)]
          generalize kg st0 ((zm l).getD i default) k1 v1 k3 v3 D = st1 at f ⊢
          refine xa (ops := #[]) rfl ?_
          simp (maxSteps := 2000000) (disch := omega) only [qq, avA, zl, zp, seval, ↓List.forall_mem_cons, Op.operands, hA, tiA, hE, f]
          all_goals exact SC
         ·simp only [List.getElem?_cons_zero, List.getElem?_cons_succ, Option.some.injEq] at ho
          subst ho
          have f := yn (st := st0) (e := ((zm l).getD i default)) (k1 := k1) (v1 := v1) (k3 := k3) (v3 := v3) (D := D) (i := 1) (d := 95) (v := (.dat (zr ((zm l).getD i default)))) (hdep ⟨1, .data⟩ (by simp) rfl) rfl
          rw [← jk (i := 2) (d := 96) (v := (.dat (vb (evName ((zm l).getD i default))))) rfl (by decide)]
          generalize kg st0 ((zm l).getD i default) k1 v1 k3 v3 D = st1 at f ⊢
          refine xa (ops := #[]) rfl ?_
          simp (maxSteps := 2000000) (disch := omega) only [qq, avA, zl, zp, seval, ↓List.forall_mem_cons, Op.operands, hA, tiA, hE, f]
          (repeat' refine And.intro ?_ ?_) <;> try exact SD
          refine CallC.use (gvF hP hG (z38 G ((zm l).getD i default))) rfl ?_
          try simp (maxSteps := 2000000) (disch := omega) only [qq, avA, zl, zp, seval, ↓List.forall_mem_cons, Op.operands, hA, tiA, hE, f]
          all_goals exact SC
         ·simp only [List.getElem?_cons_zero, List.getElem?_cons_succ, Option.some.injEq] at ho
          subst ho
          have f := z0d (st := st0) (e := ((zm l).getD i default)) (k1 := k1) (v1 := v1) (k3 := k3) (v3 := v3) (D := D) (n := 6) (by omega)
          rw [s6] at f
          rw [← jk (i := 3) (d := 97) (v := (.mp 22)) rfl (by decide)]
          generalize kg st0 ((zm l).getD i default) k1 v1 k3 v3 D = st1 at f ⊢
          refine xa (ops := #[]) rfl ?_
          simp (maxSteps := 2000000) (disch := omega) only [qq, avA, zl, zp, seval, ↓List.forall_mem_cons, Op.operands, hA, tiA, hE, f]
          all_goals exact SC
         ·simp only [List.getElem?_cons_zero, List.getElem?_cons_succ, Option.some.injEq] at ho
          subst ho
          have f := z0d (st := st0) (e := ((zm l).getD i default)) (k1 := k1) (v1 := v1) (k3 := k3) (v3 := v3) (D := D) (n := 8) (by omega)
          rw [s8] at f
          rw [← jk (i := 4) (d := 98) (v := (.rp (zr ((zm l).getD i default)) 0)) rfl (by decide)]
          generalize kg st0 ((zm l).getD i default) k1 v1 k3 v3 D = st1 at f ⊢
          refine xa (ops := #[]) rfl ?_
          simp (maxSteps := 2000000) (disch := omega) only [qq, avA, zl, zp, seval, ↓List.forall_mem_cons, Op.operands, hA, tiA, hE, f]
          all_goals exact SC
         ·simp only [List.getElem?_cons_zero, List.getElem?_cons_succ, Option.some.injEq] at ho
          subst ho
          have f := yn (st := st0) (e := ((zm l).getD i default)) (k1 := k1) (v1 := v1) (k3 := k3) (v3 := v3) (D := D) (i := 4) (d := 98) (v := (.rp (zr ((zm l).getD i default)) 0)) (hdep ⟨4, .data⟩ (by simp) rfl) rfl
          rw [← jk (i := 5) (d := 99) (v := (.dat (iD ((zm l).getD i default).By))) rfl (by decide)]
          generalize kg st0 ((zm l).getD i default) k1 v1 k3 v3 D = st1 at f ⊢
          refine xa (ops := #[]) rfl ?_
          simp (maxSteps := 2000000) (disch := omega) only [qq, avA, zl, zp, seval, ↓List.forall_mem_cons, Op.operands, hA, tiA, hE, f]
          all_goals exact SC
         ·simp only [List.getElem?_cons_zero, List.getElem?_cons_succ, Option.some.injEq] at ho
          subst ho
          have f := z0d (st := st0) (e := ((zm l).getD i default)) (k1 := k1) (v1 := v1) (k3 := k3) (v3 := v3) (D := D) (n := 8) (by omega)
          rw [s8] at f
          rw [← jk (i := 6) (d := 100) (v := (.rp (zr ((zm l).getD i default)) 2)) rfl (by decide)]
          generalize kg st0 ((zm l).getD i default) k1 v1 k3 v3 D = st1 at f ⊢
          refine xa (ops := #[]) rfl ?_
          simp (maxSteps := 2000000) (disch := omega) only [qq, avA, zl, zp, seval, ↓List.forall_mem_cons, Op.operands, hA, tiA, hE, f]
          all_goals exact SC
         ·simp only [List.getElem?_cons_zero, List.getElem?_cons_succ, Option.some.injEq] at ho
          subst ho
          have f := yn (st := st0) (e := ((zm l).getD i default)) (k1 := k1) (v1 := v1) (k3 := k3) (v3 := v3) (D := D) (i := 6) (d := 100) (v := (.rp (zr ((zm l).getD i default)) 2)) (hdep ⟨6, .data⟩ (by simp) rfl) rfl
          rw [← jk (i := 7) (d := 101) (v := (.dat (iD ((zm l).getD i default).Tick))) rfl (by decide)]
          generalize kg st0 ((zm l).getD i default) k1 v1 k3 v3 D = st1 at f ⊢
          refine xa (ops := #[]) rfl ?_
          simp (maxSteps := 2000000) (disch := omega) only [qq, avA, zl, zp, seval, ↓List.forall_mem_cons, Op.operands, hA, tiA, hE, f]
          all_goals exact SC
         ·simp only [List.getElem?_cons_zero, List.getElem?_cons_succ, Option.some.injEq] at ho
          subst ho
          have f := z0d (st := st0) (e := ((zm l).getD i default)) (k1 := k1) (v1 := v1) (k3 := k3) (v3 := v3) (D := D) (n := 8) (by omega)
          rw [s8] at f
          rw [← jk (i := 8) (d := 102) (v := (.rp (zr ((zm l).getD i default)) 2)) rfl (by decide)]
          generalize kg st0 ((zm l).getD i default) k1 v1 k3 v3 D = st1 at f ⊢
          refine xa (ops := #[]) rfl ?_
          simp (maxSteps := 2000000) (disch := omega) only [qq, avA, zl, zp, seval, ↓List.forall_mem_cons, Op.operands, hA, tiA, hE, f]
          all_goals exact SC
         ·simp only [List.getElem?_cons_zero, List.getElem?_cons_succ, Option.some.injEq] at ho
          subst ho
          have f := yn (st := st0) (e := ((zm l).getD i default)) (k1 := k1) (v1 := v1) (k3 := k3) (v3 := v3) (D := D) (i := 8) (d := 102) (v := (.rp (zr ((zm l).getD i default)) 2)) (hdep ⟨8, .data⟩ (by simp) rfl) rfl
          rw [← jk (i := 9) (d := 103) (v := (.dat (iD ((zm l).getD i default).Tick))) rfl (by decide)]
          generalize kg st0 ((zm l).getD i default) k1 v1 k3 v3 D = st1 at f ⊢
          refine xa (ops := #[]) rfl ?_
          simp (maxSteps := 2000000) (disch := omega) only [qq, avA, zl, zp, seval, ↓List.forall_mem_cons, Op.operands, hA, tiA, hE, f]
          all_goals exact SC
         ·simp only [List.getElem?_cons_zero, List.getElem?_cons_succ, Option.some.injEq] at ho
          subst ho
          have f0 := yn (st := st0) (e := ((zm l).getD i default)) (k1 := k1) (v1 := v1) (k3 := k3) (v3 := v3) (D := D) (i := 0) (d := 94) (v := (.mp 20)) (hdep ⟨0, .data⟩ (by simp) rfl) rfl
          have f2 := yn (st := st0) (e := ((zm l).getD i default)) (k1 := k1) (v1 := v1) (k3 := k3) (v3 := v3) (D := D) (i := 2) (d := 96) (v := (.dat (vb (evName ((zm l).getD i default))))) (hdep ⟨2, .data⟩ (by simp) rfl) rfl
          have d12 : D 12 = false := by
           cases h12 : D 12
           ·rfl
           ·have := hcd 12 _ rfl h12 ⟨10, .chain⟩ (by simp) rfl
            rw [hD] at this; cases this
          rw [← zu7 d12]
          exact zh3 (kt := 65) (et := 3) (isK := znm) (id := 20) (ks := k1) (vs := v1) rfl rfl (by rw [hN]; omega) ⟨⟨_, by rw [hP]; exact ti132, rfl⟩, by rw [hP]; exact z4g .i64 .i64 zed, f0, by simp [kg, z45, d12, hD], hinv.q1⟩ f2 ⟨_, _, rfl⟩ hfd.2 (by rw [hP]; exact z84)
         ·simp only [List.getElem?_cons_zero, List.getElem?_cons_succ, Option.some.injEq] at ho
          subst ho
          have f := yn (st := st0) (e := ((zm l).getD i default)) (k1 := k1) (v1 := v1) (k3 := k3) (v3 := v3) (D := D) (i := 10) (d := 104) (v := (.tup [.dat (iD 0), .dat (iD k1.length)])) (hdep ⟨10, .data⟩ (by simp) rfl) rfl
          rw [← jk (i := 11) (d := 105) (v := (.dat (iD k1.length))) rfl (by decide)]
          generalize kg st0 ((zm l).getD i default) k1 v1 k3 v3 D = st1 at f ⊢
          refine xa (ops := #[]) rfl ?_
          simp (maxSteps := 2000000) (disch := omega) only [qq, avA, zl, zp, seval, ↓List.forall_mem_cons, Op.operands, hA, tiA, hE, f]
          all_goals exact SC
         ·simp only [List.getElem?_cons_zero, List.getElem?_cons_succ, Option.some.injEq] at ho
          subst ho
          have f0 := yn (st := st0) (e := ((zm l).getD i default)) (k1 := k1) (v1 := v1) (k3 := k3) (v3 := v3) (D := D) (i := 0) (d := 94) (v := (.mp 20)) (hdep ⟨0, .data⟩ (by simp) rfl) rfl
          have f11 := yn (st := st0) (e := ((zm l).getD i default)) (k1 := k1) (v1 := v1) (k3 := k3) (v3 := v3) (D := D) (i := 11) (d := 105) (v := (.dat (iD k1.length))) (hdep ⟨11, .data⟩ (by simp) rfl) rfl
          have f7 := yn (st := st0) (e := ((zm l).getD i default)) (k1 := k1) (v1 := v1) (k3 := k3) (v3 := v3) (D := D) (i := 7) (d := 101) (v := (.dat (iD ((zm l).getD i default).Tick))) (hdep ⟨7, .data⟩ (by simp) rfl) rfl
          have d10 := hdep ⟨10, .chain⟩ (by simp) rfl
          have hset : (v1 ++ [iD 0]).set k1.length (iD ((zm l).getD i default).Tick) = v1 ++ [iD ((zm l).getD i default).Tick] := by rw [hinv.l1]; simp
          rw [← zu8, ← hset]
          exact zbu (id := 20) (n := k1.length) (ks := k1 ++ [vb (evName ((zm l).getD i default))]) (vs := v1 ++ [iD 0]) rfl rfl f0 (by simp [kg, z45, d10, hD]) f11 (by rw [hinv.l1]; simp) f7
         ·simp only [List.getElem?_cons_zero, List.getElem?_cons_succ, Option.some.injEq] at ho
          subst ho
          have f3 := yn (st := st0) (e := ((zm l).getD i default)) (k1 := k1) (v1 := v1) (k3 := k3) (v3 := v3) (D := D) (i := 3) (d := 97) (v := (.mp 22)) (hdep ⟨3, .data⟩ (by simp) rfl) rfl
          have f5 := yn (st := st0) (e := ((zm l).getD i default)) (k1 := k1) (v1 := v1) (k3 := k3) (v3 := v3) (D := D) (i := 5) (d := 99) (v := (.dat (iD ((zm l).getD i default).By))) (hdep ⟨5, .data⟩ (by simp) rfl) rfl
          have f9 := yn (st := st0) (e := ((zm l).getD i default)) (k1 := k1) (v1 := v1) (k3 := k3) (v3 := v3) (D := D) (i := 9) (d := 103) (v := (.dat (iD ((zm l).getD i default).Tick))) (hdep ⟨9, .data⟩ (by simp) rfl) rfl
          rw [← zu9]
          exact z55 (kt := 3) (et := 3) (isK := z9w) (id := 22) (ks := k3) (vs := v3) rfl rfl ⟨⟨_, by rw [hP]; exact ti133, rfl⟩, by rw [hP]; exact km z4o, f3, by simp [kg, z46, hD], hinv.q3⟩ f5 ⟨_, rfl⟩ f9
        have hlt : ∀ x ∈ ((zm l).take i), x.By = ((zm l).getD i default).By → x.Tick < ((zm l).getD i default).Tick := by
         intro x hx hby
         have hno : (((zm l).take i).any (kl ((zm l).getD i default))) = false := by grind
         have hnx1 := List.any_eq_false.1 hno x hx
         simp [kl, hby] at hnx1
         exact hnx1
        have hnx : i + 1 ≤ (zm l).length ∧ ClInv ((zm l).take (i + 1)) (k1 ++ [vb (evName ((zm l).getD i default))]) (v1 ++ [iD ((zm l).getD i default).Tick]) (Qa k2 (iD ((zm l).getD i default).By)) (Z6 k2 v2 (iD ((zm l).getD i default).By) (iD ((((zm l).take i).countP (fun x => x.By == ((zm l).getD i default).By) : Int) + 1))) (Qa k3 (iD ((zm l).getD i default).By)) (Z6 k3 v3 (iD ((zm l).getD i default).By) (iD ((zm l).getD i default).Tick)) ∧ vo l = Qv l.length (zm l) ((zm l).length - (i + 1)) := by
         have hp := zrl hinv.l1 hfd.2
         refine ⟨by omega, ?_, by rw [hcl, zir (by omega) hf]⟩
         rw [zdr _ (show i < (zm l).length by omega), ← hp.1, ← hp.2]
         exact zmp hinv ((zm l).getD i default) hfd.1 hlt
        refine Xp ?_
        apply qz
        ·(iterate 3 apply Seg.cons); exact Seg.nil _
        ·refine RK ?_
         exact SC
        refine ws rfl (Qm (kt := 3) (et := 3) (isK := z9w) (id := 21) (ks := k2) (vs := v2) rfl rfl (by rw [hN]; omega) ⟨⟨_, by rw [hP]; exact ti133, rfl⟩, by rw [hP]; exact km z4o, rfl, rfl, hinv.q2⟩ rfl ⟨_, rfl⟩ (by rw [hP]; exact z84)) ?_
        rw [ww, zh0, hcn]
        apply qz
        ·(iterate 1 apply Seg.cons); exact Seg.nil _
        ·refine RK ?_
         exact SC
        refine ws rfl (z55 (kt := 3) (et := 3) (isK := z9w) (id := 21) (ks := k2) (vs := v2) rfl rfl ⟨⟨_, by rw [hP]; exact ti133, rfl⟩, by rw [hP]; exact km z4o, rfl, rfl, hinv.q2⟩ rfl ⟨_, rfl⟩ rfl) ?_
        simp only [avA, seval]
        apply vi [0, 4, 5, 6, 24, 25, 26] [20, 21, 22]
        ·refine RN ?_
         exact SC
        apply zg
        apply z7
        refine WQ [0, 4, 5, 6, 24, 25, 26] [20, 21, 22] ?_
        refine WN (⟨⟨i + 1, ⟨_, _⟩, ⟨_, _⟩, ⟨_, _⟩⟩, hnx⟩)
  ·apply zn
   apply zh
   have hend : i = (zm l).length := by omega
   have hv2 : vo l = ((l.length : Int), 0) := by rw [hcl, hend, Nat.sub_self]; rfl
   have hE := And.intro hE hv2
   apply ze
   apply zw
   apply z7
   refine WS [2, 3] [20, 21, 22] ?_
   apply za
   exact E0
abbrev exA : EventM := exE 0 3 1 [] 0
abbrev exB : EventM := exE 1 4 1 [⟨0, 0⟩] 0
abbrev exC : EventM := exE 1 3 1 [⟨0, 0⟩] 0
abbrev zz6 : EventM := exE 2 1 5 [] (-1)
theorem okA : OkEv exA := zv9 (by unfold I64; omega) (by unfold I64; omega) (by unfold I64; omega) (by unfold I64; omega) (by decide) (by simp)
theorem okB : OkEv exB := zv9 (by unfold I64; omega) (by unfold I64; omega) (by unfold I64; omega) (by unfold I64; omega) (by decide) (by intro x hx; simp at hx; subst hx; exact ⟨Zf, Zf⟩)
theorem okC : OkEv exC := zv9 (by unfold I64; omega) (by unfold I64; omega) (by unfold I64; omega) (by unfold I64; omega) (by decide) (by intro x hx; simp at hx; subst hx; exact ⟨Zf, Zf⟩)
theorem okD : OkEv zz6 := zv9 (by unfold I64; omega) (by unfold I64; omega) (by unfold I64; omega) (by unfold I64; omega) (by decide) (by simp)
theorem z4u (G) (l : List EventM) (hl : l.length < 20) (h : ∀ e ∈ l, OkEv e) (a b : Int) (hc : vo l = (a, b)) : zo Tryz.prog G 45 [yz l] [iD a, iD b] := by
 have := zms G l (.inl hl) (fun e he => h e (zp1 he))
 rw [hc] at this
 exact this
theorem cl1 (G) : zo Tryz.prog G 45 [yz [exB, exA]] [iD 2, iD 0] := z4u G _ (by decide) (by simp [okA, okB]) 2 0 ex1
theorem cl2 (G) : zo Tryz.prog G 45 [yz [exA, exC]] [iD 1, iD 5] := z4u G _ (by decide) (by simp [okA, okC]) 1 5 ex2
theorem cl3 (G) : zo Tryz.prog G 45 [yz [exB]] [iD 0, iD 10] := z4u G _ (by decide) (by simp [okB]) 0 10 ex3
theorem cl4 (G) : zo Tryz.prog G 45 [yz [exA, exA]] [iD 1, iD 7] := z4u G _ (by decide) (by simp [okA]) 1 7 ex4
theorem cl5 (G) : zo Tryz.prog G 45 [yz [zz6]] [iD 0, iD 1] := z4u G _ (by decide) (by simp [okD]) 0 1 ex5
theorem ztf (f : AV → Option Dat) (A B : List Dat) : xd f (A.map .dat ++ B.map .dat) = some (A ++ B) := by rw [← List.map_append]; exact xh _ _
set_option maxRecDepth 100000 in
set_option maxHeartbeats 2000000 in
theorem zrk (G) : zo Tryz.prog G 13 [] [bD true] := by
 have hx1 : (intsM [0, 0, 3, 1]).length ≤ 1000 := by decide +kernel
 have hx2 : (intsM []).length ≤ 1000 := by decide +kernel
 have hs1 : x5 (fun x y : Int => x == y) (evB exA) (intsM [0, 0, 3, 1] ++ intsM []) = true := by decide +kernel
 have hs2 : yx exA exB = true := by decide +kernel
 have hs3 : yx exB exA = false := by decide +kernel
 skip
 skip
 skip
 refine GI [49] [94] [] Tryz.func13 Tryz.ntmps13 fun F hP hG hN hR hA => ?_
 have hE := And.intro @Tryz.results13 (And.intro @hs1 (And.intro @hs2 (@hs3)))
 refine WS [] [49] ?_
 refine WS [1] [1, 49] ?_
 refine WS [1, 2] [1, 2, 16, 49] ?_
 refine WS [1, 2, 3] [1, 2, 3, 16, 49] ?_
 refine WS [1, 2, 3] [1, 2, 3, 16, 49] ?_
 refine ze1 1 rfl rfl ?_
 refine ze1 2 rfl rfl ?_
 refine ze1 3 rfl rfl ?_
 have hc := gvF hP hG (cl1 G)
 refine WSc [1, 2, 3, 4, 5] [1, 2, 3, 16, 49] ?_
 have hc := gvF hP hG (cl2 G)
 refine WSc [1, 2, 4, 5, 6, 7] [1, 2, 16, 49] ?_
 have hc := gvF hP hG (cl3 G)
 refine WSc [1, 2, 4, 5, 6, 7, 8, 9] [1, 2, 16, 49] ?_
 have hc := gvF hP hG (cl4 G)
 refine WSc [1, 2, 4, 5, 6, 7, 8, 9, 10, 11] [1, 2, 16, 49] ?_
 apply zu [1, 2, 4, 5, 6, 7, 8, 9, 10, 11, 12, 13] [1, 2, 16, 49]
 ·refine RN ?_
  (repeat' refine And.intro ?_ ?_) <;> try exact SD
  refine CallC.use (gvF hP hG (cl5 G)) (by simp only [xe, qg, qa, xu, qx, vg, xk, xx, xt, vf, xw, xh, xy, avA, zl, zp, seval, ↓List.forall_mem_cons, Op.operands, hE, xd] <;> rfl) ?_
  try simp (maxSteps := 2000000) (disch := omega) only [qq, avA, zl, zp, seval, ↓List.forall_mem_cons, Op.operands, hA, tiA, hE]
  exact SC
 apply z6
 refine WS [1, 2, 90] [1, 2, 16, 49] ?_
 refine WI ?_ ?_ <;> intro hb
 ·refine WS [0] [49] ?_
  apply za
  apply zb
  exact E0
 ·apply z9
  apply z7
  apply zu [0] [49]
  ·refine RN ?_
   refine CU (zkk G exA okA) ?_
   refine CX (fun _ => 94) [18] (z74 G [0, 0, 3, 1] (by intro x hx; simp at hx; unfold I64; omega) (by decide)) ?_
   refine CU (Zc G [] (by simp) (by decide)) ?_
   (repeat' refine And.intro ?_ ?_) <;> try exact SD
   refine CallC.use (gvF hP hG (zav G (evB exA) (intsM [0, 0, 3, 1] ++ intsM []) (by decide +kernel))) (by simp only [xe, qg, qa, xu, qx, vg, xk, xx, xt, vf, xw, xh, xy, avA, zl, zp, seval, ↓List.forall_mem_cons, Op.operands, hE, ztf] <;> rfl) ?_
   try simp (maxSteps := 2000000) (disch := omega) only [qq, avA, zl, zp, seval, ↓List.forall_mem_cons, Op.operands, hA, tiA, hE]
   refine CG (z2v G exA exB) ?_
   refine CG (z2v G exB exA) ?_
   exact SC
  apply za
  exact E0
theorem zd0 (l : List Int) (a : Int) (i : Nat) : (k8 l a i).length = i := by simp [k8]
theorem zjo (l : List Int) (a : Int) : k8 l a 0 = [] := rfl
theorem zjm (l : List Int) (a : Int) (i : Nat) : k8 l a (i + 1) = k8 l a i ++ [wordM (atM l (a + (i : Int)) 64)] := by simp [k8, List.range_succ]
theorem zjn (l : List Int) (a : Int) (i : Nat) : (k8 l a i).take i = k8 l a i := List.take_of_length_le (by rw [zd0]; exact Nat.le_refl _)
theorem kb {n c m : Int} (hn : 0 ≤ n ∧ n ≤ m) (hc : 0 < c) : 0 ≤ n.tdiv c ∧ n.tdiv c ≤ m := by
 rw [Int.tdiv_eq_ediv_of_nonneg hn.1]
 exact ⟨Int.ediv_nonneg hn.1 (Int.le_of_lt hc), Int.le_trans (Int.ediv_le_self _ hn.1) hn.2⟩
theorem zbd {n c : Int} (hn : 0 ≤ n) (hc : 0 < c) : 0 ≤ n.tmod c ∧ n.tmod c < c := ⟨Int.tmod_nonneg _ hn, Int.tmod_lt_of_pos _ hc⟩
theorem z5v {n : Int} (hn : 0 ≤ n ∧ n ≤ 1000000000000000) : IntKind.i64.wrap n = n := IntWalk.i64_in _ (by omega)
theorem z9p (G) (n : Int) (hn : 0 ≤ n ∧ n ≤ 1000000) : zo Tryz.prog G 29 [iD n] [idD (idM n)] := by
 have w4 := z5v (n := n.tdiv 4) (by have := kb (c := 4) hn (by omega); omega)
 have w32 := z5v (n := n.tdiv 32) (by have := kb (c := 32) hn (by omega); omega)
 skip
 skip
 refine GI [] [] [] Tryz.func29 Tryz.ntmps29 fun F hP hG hN hR hA => ?_
 have hE := And.intro @Tryz.results29 (And.intro @idM.eq_1 (And.intro @w4 (@w32)))
 refine WS [0, 2] [2] ?_
 refine WS [2] [2] ?_
 apply za
 exact E0
theorem z8d (G) (l : List Int) (a m : Int) (hl : ∀ n ∈ l, I64 n) (ha : 0 ≤ a ∧ a ≤ 1000) (hm : m ≤ 1000) : zo Tryz.prog G 28 [isD l, iD a, iD m] [ssD (k8 l a m.toNat)] := by
 skip
 skip
 refine GI [] [] [] Tryz.func28 Tryz.ntmps28 fun F hP hG hN hR hA => ?_
 have hE := And.intro @Tryz.results28 (And.intro @zd0 (And.intro @zjo (And.intro @zjn (@Nat.min_self))))
 refine WS [0, 1, 2] [] ?_
 refine WS [0, 1, 2, 7] [22] ?_
 apply z6
 refine WS [0, 1, 2, 7, 8] [22] ?_
 apply zc
 refine xz 22 1 (by omega) ?_
 refine y9 7 22 1 rfl rfl ?_
 refine WL (ι := {i : Nat // i ≤ m.toNat}) [0, 1, 2] [21] (fun ⟨i, hi⟩ => [(7, .osl 22 1 0 i), (8, .dat (iD i))]) (fun ⟨i, hi⟩ => [(22, ⟨1, ((k8 l a i).map Dat.str).map .dat⟩)]) (fun ⟨i, hi⟩ => m.toNat - i) (⟨0, by omega⟩) ?_
 rintro ⟨i, hi⟩
 refine LA ?_
 have hat := wk (l := l) (i := a + (i : Int)) (m := 64) (by omega)
 apply z6
 refine WS [0, 1, 2, 7, 8, 11] [21, 22] ?_
 refine WI ?_ ?_ <;> intro hb
 ·apply z9
  apply z7
  apply z6
  apply zc
  apply kf [0, 1, 2, 7, 8] [21, 22]
  ·refine RN ?_
   refine CU (z0a G l (a + (i : Int)) 64 hl (by omega) (by unfold I64; omega)) ?_
   refine CU (Xz G (atM l (a + (i : Int)) 64) (by unfold I64; omega)) ?_
   exact SC
  apply zg
  apply z7
  have hs := zjm l a i
  have hE := And.intro hE hs
  refine WQ [0, 1, 2, 7, 8] [21, 22] ?_
  refine WN (⟨i + 1, by omega⟩)
 ·apply zn
  apply zh
  have hend : i = m.toNat := by omega
  subst hend
  apply ze
  apply zw
  apply z7
  refine WS [6] [21, 22] ?_
  apply za
  exact E0
set_option maxRecDepth 100000 in
set_option maxHeartbeats 2000000 in
theorem zzc (G) (l : List Int) (a : Int) (hl : ∀ n ∈ l, I64 n) (ha : 0 ≤ a ∧ a ≤ 900) : zo Tryz.prog G 26 [isD l, iD a] [opD (opM l a)] := by
 have hr : 0 ≤ opN l a ∧ opN l a ≤ 65536 := by have := wk (l := l) (i := a) (m := 65536) (by omega); unfold opN; omega
 have q := fun c (hc : 0 < c) => z5v (n := (opN l a).tdiv c) (by have := kb (c := c) hr hc; omega)
 have q2 := q 2 (by omega)
 have q3 := q 3 (by omega)
 have q4 := q 4 (by omega)
 have q5 := q 5 (by omega)
 have q7 := q 7 (by omega)
 have q8 := q 8 (by omega)
 have q10 := q 10 (by omega)
 have q16 := q 16 (by omega)
 have q100 := q 100 (by omega)
 have t10 := kb (c := 10) hr (by omega)
 have t7 := kb (c := 7) hr (by omega)
 have t5 := kb (c := 5) hr (by omega)
 have t3 := zbd (n := (opN l a).tdiv 3) (c := 3) (kb hr (by omega)).1 (by omega)
 have hn : atM l a 65536 = opN l a := rfl
 skip
 skip
 skip
 refine GI [39, 58] [] [] Tryz.func26 Tryz.ntmps26 fun F hP hG hN hR hA => ?_
 have hE := And.intro @Tryz.results26 (And.intro (And.intro hn (And.intro q2 (And.intro q3 (And.intro q4 (And.intro q5 (And.intro q7 (And.intro q8 (And.intro q10 (And.intro q16 q100))))))))) (And.intro @opM.eq_1 (@idM.eq_1)))
 refine WS [0, 1, 4] [4, 39, 58] ?_
 have hc := gvF hP hG (z0a G l a 65536 hl (by omega) (by unfold I64; omega))
 refine WSc [0, 1, 4, 5] [4, 39, 58] ?_
 apply zu [0, 1, 4, 5, 6] [4, 6, 39, 58]
 ·refine RN ?_
  refine CU (z9p G ((opN l a).tdiv 10) (by omega)) ?_
  refine CU (Xz G ((opN l a).tdiv 7) (by unfold I64; omega)) ?_
  exact SC
 apply z6
 refine WS [0, 1, 4, 5, 6, 24] [4, 6, 39, 58] ?_
 refine WI ?_ ?_ <;> intro hb
 ·have hs : opT l a = k8 l (a + 1) (((opN l a).tdiv 3).tmod 3).toNat ∧ opP l a = [((opN l a).tmod 2, ((opN l a).tdiv 2).tmod 3)] := by unfold opT opP; rw [if_pos hb, if_pos hb]; exact ⟨rfl, rfl⟩
  have hE := And.intro hE hs
  have hc := gvF hP hG (z8d G l (a + 1) (((opN l a).tdiv 3).tmod 3) hl (by omega) (by omega))
  refine WSc [4, 5, 6] [4, 6, 39, 58] ?_
  refine WQ [4, 5, 6] [4, 6, 39, 58] ?_
  apply z7
  apply z6
  refine WS [4, 5, 6, 43] [4, 6, 39, 58] ?_
  refine WI ?_ ?_ <;> intro hb
  ·have hs2 : opS l a = ⟨((opN l a).tdiv 4).tmod 2, ((opN l a).tdiv 8).tmod 3, ((opN l a).tdiv 16).tmod 4⟩ ∧ opR l a = [idM ((opN l a).tdiv 5)] := by unfold opS opR; rw [if_pos hb, if_pos hb]; exact ⟨rfl, rfl⟩
   have hE := And.intro hE hs2
   refine WS [4, 5, 6] [4, 6, 39, 58] ?_
   have hc := gvF hP hG (z9p G ((opN l a).tdiv 5) (by omega))
   refine WQc [4, 6] [4, 6, 39, 58] ?_
   apply z7
   refine WS [4] [4, 39, 58] ?_
   apply za
   exact E0
  ·have hs2 : opS l a = ⟨0, 0, 0⟩ ∧ opR l a = [] := by unfold opS opR; rw [if_neg hb, if_neg hb]; exact ⟨rfl, rfl⟩
   have hE := And.intro hE hs2
   apply z9
   apply z7
   refine WS [4] [4, 39, 58] ?_
   apply za
   exact E0
 ·have hs : opT l a = [] ∧ opP l a = [] := by unfold opT opP; rw [if_neg hb, if_neg hb]; exact ⟨rfl, rfl⟩
  have hE := And.intro hE hs
  apply z9
  apply z7
  apply z6
  refine WS [4, 5, 6, 43] [4, 6, 39, 58] ?_
  refine WI ?_ ?_ <;> intro hb
  ·have hs2 : opS l a = ⟨((opN l a).tdiv 4).tmod 2, ((opN l a).tdiv 8).tmod 3, ((opN l a).tdiv 16).tmod 4⟩ ∧ opR l a = [idM ((opN l a).tdiv 5)] := by unfold opS opR; rw [if_pos hb, if_pos hb]; exact ⟨rfl, rfl⟩
   have hE := And.intro hE hs2
   refine WS [4, 5, 6] [4, 6, 39, 58] ?_
   have hc := gvF hP hG (z9p G ((opN l a).tdiv 5) (by omega))
   refine WQc [4, 6] [4, 6, 39, 58] ?_
   apply z7
   refine WS [4] [4, 39, 58] ?_
   apply za
   exact E0
  ·have hs2 : opS l a = ⟨0, 0, 0⟩ ∧ opR l a = [] := by unfold opS opR; rw [if_neg hb, if_neg hb]; exact ⟨rfl, rfl⟩
   have hE := And.intro hE hs2
   apply z9
   apply z7
   refine WS [4] [4, 39, 58] ?_
   apply za
   exact E0
theorem zaf (l : List Int) (i : Nat) : (jp l i).length = i := by simp [jp]
theorem zhg (l : List Int) : jp l 0 = [] := rfl
theorem z7v (l : List Int) (i : Nat) : jp l (i + 1) = jp l i ++ [postG l i] := by simp [jp, List.range_succ]
theorem zhf (l : List Int) (i : Nat) : (jp l i).take i = jp l i := List.take_of_length_le (by rw [zaf]; exact Nat.le_refl _)
set_option maxRecDepth 100000 in
set_option maxHeartbeats 2000000 in
theorem zqw (G) (l : List Int) (hl : ∀ n ∈ l, I64 n) : zo Tryz.prog G 5 [isD l] [zr (evG l)] := by
 have hk : atM l 3 7 = z28 l := rfl
 have hn11 : atM l 11 4096 = xr l := rfl
 have a0 := wk (l := l) (i := 0) (m := 6) (by omega)
 have a1 := wk (l := l) (i := 1) (m := 64) (by omega)
 have a2 := wk (l := l) (i := 2) (m := 1048577) (by omega)
 have a3 := wk (l := l) (i := 3) (m := 7) (by omega)
 have a4 := wk (l := l) (i := 4) (m := 64) (by omega)
 have rn : 0 ≤ xr l ∧ xr l ≤ 4096 := by have := wk (l := l) (i := 11) (m := 4096) (by omega); unfold xr; omega
 have q := fun c (hc : 0 < c) => z5v (n := (xr l).tdiv c) (by have := kb (c := c) rn hc; omega)
 have q3 := q 3 (by omega)
 have q5 := q 5 (by omega)
 have q12 := q 12 (by omega)
 have t5 := kb (c := 5) rn (by omega)
 have t12 := zbd (n := (xr l).tdiv 12) (c := 3) (kb rn (by omega)).1 (by omega)
 have t4 := zbd (n := xr l) (c := 4) rn.1 (by omega)
 skip
 skip
 skip
 refine GI [113] [] [] Tryz.func5 Tryz.ntmps5 fun F hP hG hN hR hA => ?_
 have hE := And.intro @Tryz.results5 (And.intro (And.intro q3 (And.intro q5 q12)) (And.intro @zaf (And.intro @zhg (And.intro @zhf (And.intro @hk (And.intro @hn11 (And.intro @z9b (And.intro @refsG.eq_1 (@Nat.min_self)))))))))
 refine WS [0, 2] [2, 45, 113, 7] ?_
 apply zu [0, 2, 3] [2, 3, 45, 113, 7]
 ·refine RN ?_
  refine CU (z0a G l 0 6 hl (by omega) (by unfold I64; omega)) ?_
  refine CU (z0a G l 1 64 hl (by omega) (by unfold I64; omega)) ?_
  refine CU (z0a G l 2 1048577 hl (by omega) (by unfold I64; omega)) ?_
  refine CU (z0a G l 3 7 hl (by omega) (by unfold I64; omega)) ?_
  exact SC
 have hc := gvF hP hG (z0a G l 4 64 hl (by omega) (by unfold I64; omega))
 refine WSc [0, 2, 3, 4] [2, 3, 45, 113, 7] ?_
 apply z6
 refine WS [0, 2, 3, 4, 5] [2, 3, 45, 113, 7] ?_
 apply zc
 refine xz 45 2 (by omega) ?_
 refine Qu 3 45 2 4 rfl rfl rfl rfl ?_
 refine WL (ι := {i : Nat // i ≤ 6}) [0, 2, 3, 4] [2, 44, 112, 113, 7] (fun ⟨i, hi⟩ => [(5, .dat (iD i))]) (fun ⟨i, hi⟩ => [(3, ⟨32, [.agg [.dat (iD (atM l 0 6)), .dat (iD (atM l 1 64)), .dat (iD (atM l 2 1048577)), .dat (iD (z28 l)), .osl 45 2 0 (refsG l i).length, .dat (iD 0), .dat (iD 0), .dat (iD 0), .dat (iD 0), .dat (iD 0), .dat (iD 0), .dat (iD 0), .dat (iD 0), .dat (iD 0), .dat (iD 0), .dat (iD 0), .dat (iD 0), .dat (iD 0), .dat (sD ⟨#[]⟩), .nils, .nils, .nils, .dat (sD ⟨#[]⟩), .dat (iD 0), .dat (iD 0), .dat (sD ⟨#[]⟩), .nils, .dat (iD 0), .dat (iD 0), .dat (iD 0), .nils, .dat (iD 0)]]⟩), (45, ⟨2, ((refsG l i).map vb).map .dat⟩)]) (fun ⟨i, hi⟩ => 6 - i) (⟨0, by omega⟩) ?_
 rintro ⟨i, hi⟩
 refine LA ?_
 have hrl := z6r l i
 apply z6
 refine WS [0, 2, 3, 4, 5, 21] [2, 3, 44, 45, 113, 7] ?_
 refine WI ?_ ?_ <;> intro hb
 ·apply z9
  apply z7
  apply z6
  apply zc
  have hc := gvF hP hG (z0a G l (5 + (i : Int)) 64 hl (by omega) (by unfold I64; omega))
  refine WSc [0, 2, 3, 4, 5, 6] [2, 3, 6, 44, 45, 113, 7] ?_
  apply wn [0, 2, 3, 4, 5, 6, 40] [2, 3, 6, 44, 45, 113, 7] [0, 1, 2, 3, 4, 5, 6, 7, 8, 9, 10] []
  ·rw [hP]; kernel_rfl
  ·exact hR
  ·kernel_rfl
  ·(repeat (apply PickL.cons; exact rfl)); exact PickL.nil _
  ·refine RN ?_
   (repeat' refine And.intro ?_ ?_) <;> try exact SD
   refine CallGC.use (by simp only [xe, qg, qa, xu, qx, vg, xk, xx, xt, vf, xw, xh, xy, avA, zl, zp, seval, ↓List.forall_mem_cons, Op.operands, hE, xd, evI.eq_1, evName.eq_1, List.length_map.{0,0}] <;> rfl) (fun hg => ⟨by first | trivial | (simp only [gdAll, AV.gd, avA, seval]; (repeat' apply And.intro) <;> first | trivial | rfl | exact hg) | simp_all [gdAll], gvF hP hG (zat G (evI l i))⟩) ?_
   try simp (maxSteps := 2000000) (disch := omega) only [qq, avA, zl, zp, seval, ↓List.forall_mem_cons, Op.operands, hA, tiA, hE]
   exact SC
  refine WI ?_ ?_ <;> intro hb
  ·have hr1 : refsG l (i + 1) = refsG l i ++ [nmG l i] := by rw [refsG, if_pos (show zw4 (atM l 4 64) i = 1 ∧ ((i : Int) = atM l 0 6 → ¬ atM l (5 + (i : Int)) 64 = atM l 1 64) from hb)]
   refine WQ [0, 2, 3, 4, 5] [2, 3, 44, 45, 113, 7] ?_
   apply zg
   apply z7
   have hE := And.intro hE (And.intro hr1 (nmG.eq_1 l i))
   refine WQ [0, 2, 3, 4, 5] [2, 3, 44, 45, 113, 7] ?_
   refine WN (⟨i + 1, by omega⟩)
  ·have hr1 : refsG l (i + 1) = refsG l i := by rw [refsG, if_neg (by have e1 : (evName (evI l i)).By = atM l 0 6 := rfl; have e2 : (evName (evI l i)).Seq = atM l 1 64 := rfl; (try rw [e1, e2] at hb); unfold zw4; intro hh; grind), List.append_nil]
   apply z9
   apply zg
   apply z7
   have hE := And.intro hE (And.intro hr1 (nmG.eq_1 l i))
   refine WQ [0, 2, 3, 4, 5] [2, 3, 44, 45, 113, 7] ?_
   refine WN (⟨i + 1, by omega⟩)
 ·apply zn
  apply zh
  have hend : i = 6 := by omega
  subst hend
  apply ze
  apply zw
  apply z7
  refine jh 45 hR.2.2.2 rfl (datE_map _) ?_
  have hc := gvF hP hG (z0a G l 11 4096 hl (by omega) (by unfold I64; omega))
  refine WSc [0, 2, 3, 7] [2, 3, 44, 45, 113, 7] ?_
  apply z6
  refine WS [0, 2, 3, 7, 50] [2, 3, 44, 45, 113, 7] ?_
  apply zc
  refine WS [0, 2, 3, 7, 50, 51] [2, 3, 44, 45, 113, 7] ?_
  refine WI ?_ ?_ <;> intro hb
  ·have hv : evG l = { evI l 6 with Op := opM l 12 } := by unfold evG; rw [if_pos hb]
   have hE := And.intro hE hv
   have hc := gvF hP hG (zzc G l 12 hl (by omega))
   refine WQc [2, 3] [2, 3, 44, 45, 113, 7] ?_
   apply zg
   apply z7
   refine WS [2] [2, 44, 45, 112, 113, 7] ?_
   apply za
   refine EN ?_
   all_goals try trivial
   all_goals first
    | rfl
    | (have hv : evG l = evI l 6 := by unfold evG; rw [if_neg (by omega), if_neg (by omega), if_neg (by omega), if_neg (by omega)]
       rw [hv]; rfl)
    | (have hv : evG l = { evI l 6 with ID := idM (xr l), N := atM l 12 1048577 } := by unfold evG; rw [if_neg (by omega), if_neg (by omega), if_neg (by omega), if_pos (by omega)]
       rw [hv]; rfl)
  ·have hk0 := hb
   refine WS [0, 2, 3, 7, 50, 56] [2, 3, 44, 45, 113, 7] ?_
   refine WI ?_ ?_ <;> intro hb
   ·have hv : evG l = { evI l 6 with Term := zds l } := by unfold evG; rw [if_neg hk0, if_pos hb]
    have hE := And.intro hE hv
    apply zu [2, 3, 7] [2, 3, 44, 45, 113, 7]
    ·refine RN ?_
     refine CU (Xz G (xr l) (by unfold I64; omega)) ?_
     refine CU (z8d G l 12 (((xr l).tdiv 12).tmod 3) hl (by omega) (by omega)) ?_
     exact SC
    refine WS [2, 3, 7, 74] [2, 3, 44, 45, 113, 7] ?_
    refine WI ?_ ?_ <;> intro hb
    ·have ht : zds l = { Name := wordM (xr l), Kind := (xr l).tmod 3, Lang := ((xr l).tdiv 3).tmod 4, See := wordM ((xr l).tdiv 5), Broader := k8 l 12 (((xr l).tdiv 12).tmod 3).toNat } := by unfold zds; rw [if_pos hb]
     have hE := And.intro hE ht
     have hc := gvF hP hG (Xz G ((xr l).tdiv 5) (by unfold I64; omega))
     refine WQc [2, 3] [2, 3, 44, 45, 113, 7] ?_
     apply zg
     apply z7
     refine WS [2] [2, 44, 45, 112, 113, 7] ?_
     apply za
     refine EN ?_
     all_goals try trivial
     all_goals first
      | rfl
      | (have hv : evG l = evI l 6 := by unfold evG; rw [if_neg (by omega), if_neg (by omega), if_neg (by omega), if_neg (by omega)]
         rw [hv]; rfl)
      | (have hv : evG l = { evI l 6 with ID := idM (xr l), N := atM l 12 1048577 } := by unfold evG; rw [if_neg (by omega), if_neg (by omega), if_neg (by omega), if_pos (by omega)]
         rw [hv]; rfl)
    ·have ht : zds l = { Name := wordM (xr l), Kind := (xr l).tmod 3, Lang := ((xr l).tdiv 3).tmod 4, See := ⟨#[]⟩, Broader := k8 l 12 (((xr l).tdiv 12).tmod 3).toNat } := by unfold zds; rw [if_neg hb]
     have hE := And.intro hE ht
     apply z9
     apply zg
     apply z7
     refine WS [2] [2, 44, 45, 112, 113, 7] ?_
     apply za
     refine EN ?_
     all_goals try trivial
     all_goals first
      | rfl
      | (have hv : evG l = evI l 6 := by unfold evG; rw [if_neg (by omega), if_neg (by omega), if_neg (by omega), if_neg (by omega)]
         rw [hv]; rfl)
      | (have hv : evG l = { evI l 6 with ID := idM (xr l), N := atM l 12 1048577 } := by unfold evG; rw [if_neg (by omega), if_neg (by omega), if_neg (by omega), if_pos (by omega)]
         rw [hv]; rfl)
   ·have hk2 := hb
    apply z6
    refine WS [0, 2, 3, 7, 50, 80] [2, 3, 44, 45, 113, 7] ?_
    refine WI ?_ ?_ <;> intro hb
    ·apply z9
     apply z7
     refine jd (by first | exact rfl | (simp only [xi, wt, qn, qw]; simp [*])) ?_
     have hc := gvF hP hG (z9p G (xr l) (by omega))
     refine WSc [0, 2, 3, 7] [2, 3, 44, 45, 113, 7] ?_
     refine WS [0, 2, 3, 7, 8] [2, 3, 44, 45, 113, 7] ?_
     apply zc
     have hv : evG l = { evI l 6 with ID := idM (xr l), Posts := jp l ((xr l).tmod 4).toNat } := by unfold evG; rw [if_neg hk0, if_neg hk2, if_pos (by omega)]
     have hE := And.intro hE hv
     refine xz 7 5 (by omega) ?_
     refine Qu 3 7 5 30 rfl rfl rfl rfl ?_
     refine WL (ι := {j : Nat // j ≤ ((xr l).tmod 4).toNat}) [0, 2, 3, 7] [2, 44, 45, 112, 113] (fun ⟨j, hj⟩ => [(8, .dat (iD j))]) (fun ⟨j, hj⟩ => [(3, ⟨32, [.agg [.dat (iD (atM l 0 6)), .dat (iD (atM l 1 64)), .dat (iD (atM l 2 1048577)), .dat (iD (z28 l)), .dat (x9 (refsG l 6)), .dat (iD 0), .dat (iD 0), .dat (iD 0), .dat (iD 0), .dat (iD 0), .dat (iD 0), .dat (iD 0), .dat (iD 0), .dat (iD 0), .dat (iD 0), .dat (iD 0), .dat (iD 0), .dat (iD 0), .dat (sD ⟨#[]⟩), .nils, .nils, .nils, .dat (sD ⟨#[]⟩), .dat (iD 0), .dat (iD 0), .dat (sD ⟨#[]⟩), .nils, .dat (iD (idM (xr l)).By), .dat (iD (idM (xr l)).Seq), .dat (iD (idM (xr l)).K), .osl 7 5 0 j, .dat (iD 0)]]⟩), (7, ⟨5, ((jp l j).map zae).map .dat⟩)]) (fun ⟨j, hj⟩ => ((xr l).tmod 4).toNat - j) (⟨0, by omega⟩) ?_
     rintro ⟨j, hj⟩
     refine LA ?_
     have ja := wk (l := l) (i := 30 + (j : Int)) (m := 4) (by omega)
     apply z6
     refine WS [0, 2, 3, 7, 8, 89] [2, 3, 44, 45, 112, 113, 7] ?_
     refine WI ?_ ?_ <;> intro hb
     ·apply z9
      apply z7
      apply z6
      apply zc
      apply z0y [0, 2, 3, 7, 8] [2, 3, 44, 45, 112, 113, 7] [0, 1, 2, 3, 4, 5, 6, 7, 8, 9, 10, 11, 12, 13, 14, 15, 16, 17, 18, 19, 20, 21, 22, 23] [113]
      ·rw [hP]; kernel_rfl
      ·exact hR
      ·kernel_rfl
      ·(repeat (apply PickL.cons; exact rfl)); exact PickL.nil _
      ·refine RN ?_
       refine CU (z0a G l (30 + (j : Int)) 4 hl (by omega) (by unfold I64; omega)) ?_
       refine CU (z8d G l (12 + 4 * (j : Int)) (1 + atM l (30 + (j : Int)) 4) hl (by omega) (by omega)) ?_
       exact SC
      apply zg
      apply z7
      refine wv 113 7 (by omega) (by omega) ?_
      have hps := z7v l j
      have hE := And.intro hE (And.intro hps (postG.eq_1 l j))
      refine WQ [0, 2, 3, 7, 8] [2, 3, 44, 45, 112, 113, 7] ?_
      refine WN (⟨j + 1, by omega⟩)
     ·apply zn
      apply zh
      have hend : j = ((xr l).tmod 4).toNat := by omega
      subst hend
      apply ze
      apply zw
      apply zg
      apply z7
      refine WS [2] [2, 44, 45, 112, 113, 7] ?_
      apply za
      refine EN ?_
      all_goals try trivial
      all_goals first
       | rfl
       | (have hv : evG l = evI l 6 := by unfold evG; rw [if_neg (by omega), if_neg (by omega), if_neg (by omega), if_neg (by omega)]
          rw [hv]; rfl)
       | (have hv : evG l = { evI l 6 with ID := idM (xr l), N := atM l 12 1048577 } := by unfold evG; rw [if_neg (by omega), if_neg (by omega), if_neg (by omega), if_pos (by omega)]
          rw [hv]; rfl)
    ·refine WQ [0, 2, 3, 7, 50, 80] [2, 3, 44, 45, 113, 7] ?_
     apply z7
     refine WI ?_ ?_ <;> intro hb
     ·have hc := gvF hP hG (z9p G (xr l) (by omega))
      refine WSc [0, 2, 3, 7] [2, 3, 44, 45, 113, 7] ?_
      refine WS [0, 2, 3, 7, 8] [2, 3, 44, 45, 113, 7] ?_
      apply zc
      have hv : evG l = { evI l 6 with ID := idM (xr l), Posts := jp l ((xr l).tmod 4).toNat } := by unfold evG; rw [if_neg hk0, if_neg hk2, if_pos (by omega)]
      have hE := And.intro hE hv
      refine xz 7 5 (by omega) ?_
      refine Qu 3 7 5 30 rfl rfl rfl rfl ?_
      refine WL (ι := {j : Nat // j ≤ ((xr l).tmod 4).toNat}) [0, 2, 3, 7] [2, 44, 45, 112, 113] (fun ⟨j, hj⟩ => [(8, .dat (iD j))]) (fun ⟨j, hj⟩ => [(3, ⟨32, [.agg [.dat (iD (atM l 0 6)), .dat (iD (atM l 1 64)), .dat (iD (atM l 2 1048577)), .dat (iD (z28 l)), .dat (x9 (refsG l 6)), .dat (iD 0), .dat (iD 0), .dat (iD 0), .dat (iD 0), .dat (iD 0), .dat (iD 0), .dat (iD 0), .dat (iD 0), .dat (iD 0), .dat (iD 0), .dat (iD 0), .dat (iD 0), .dat (iD 0), .dat (sD ⟨#[]⟩), .nils, .nils, .nils, .dat (sD ⟨#[]⟩), .dat (iD 0), .dat (iD 0), .dat (sD ⟨#[]⟩), .nils, .dat (iD (idM (xr l)).By), .dat (iD (idM (xr l)).Seq), .dat (iD (idM (xr l)).K), .osl 7 5 0 j, .dat (iD 0)]]⟩), (7, ⟨5, ((jp l j).map zae).map .dat⟩)]) (fun ⟨j, hj⟩ => ((xr l).tmod 4).toNat - j) (⟨0, by omega⟩) ?_
      rintro ⟨j, hj⟩
      refine LA ?_
      have ja := wk (l := l) (i := 30 + (j : Int)) (m := 4) (by omega)
      apply z6
      refine WS [0, 2, 3, 7, 8, 89] [2, 3, 44, 45, 112, 113, 7] ?_
      refine WI ?_ ?_ <;> intro hb
      ·apply z9
       apply z7
       apply z6
       apply zc
       apply z0y [0, 2, 3, 7, 8] [2, 3, 44, 45, 112, 113, 7] [0, 1, 2, 3, 4, 5, 6, 7, 8, 9, 10, 11, 12, 13, 14, 15, 16, 17, 18, 19, 20, 21, 22, 23] [113]
       ·rw [hP]; kernel_rfl
       ·exact hR
       ·kernel_rfl
       ·(repeat (apply PickL.cons; exact rfl)); exact PickL.nil _
       ·refine RN ?_
        refine CU (z0a G l (30 + (j : Int)) 4 hl (by omega) (by unfold I64; omega)) ?_
        refine CU (z8d G l (12 + 4 * (j : Int)) (1 + atM l (30 + (j : Int)) 4) hl (by omega) (by omega)) ?_
        exact SC
       apply zg
       apply z7
       refine wv 113 7 (by omega) (by omega) ?_
       have hps := z7v l j
       have hE := And.intro hE (And.intro hps (postG.eq_1 l j))
       refine WQ [0, 2, 3, 7, 8] [2, 3, 44, 45, 112, 113, 7] ?_
       refine WN (⟨j + 1, by omega⟩)
      ·apply zn
       apply zh
       have hend : j = ((xr l).tmod 4).toNat := by omega
       subst hend
       apply ze
       apply zw
       apply zg
       apply z7
       refine WS [2] [2, 44, 45, 112, 113, 7] ?_
       apply za
       refine EN ?_
       all_goals try trivial
       all_goals first
        | rfl
        | (have hv : evG l = evI l 6 := by unfold evG; rw [if_neg (by omega), if_neg (by omega), if_neg (by omega), if_neg (by omega)]
           rw [hv]; rfl)
        | (have hv : evG l = { evI l 6 with ID := idM (xr l), N := atM l 12 1048577 } := by unfold evG; rw [if_neg (by omega), if_neg (by omega), if_neg (by omega), if_pos (by omega)]
           rw [hv]; rfl)
     ·apply z6
      refine WS [0, 2, 3, 7, 50, 115] [2, 3, 44, 45, 113, 7] ?_
      refine WI ?_ ?_ <;> intro hb
      ·apply z9
       apply z7
       refine jd (by first | exact rfl | (simp only [xi, wt, qn, qw]; simp [*])) ?_
       have hc := gvF hP hG (z9p G (xr l) (by omega))
       refine WSc [0, 2, 3] [2, 3, 44, 45, 113, 7] ?_
       have hc := gvF hP hG (z0a G l 12 1048577 hl (by omega) (by unfold I64; omega))
       refine WQc [2, 3] [2, 3, 44, 45, 113, 7] ?_
       apply zg
       apply z7
       refine WS [2] [2, 44, 45, 112, 113, 7] ?_
       apply za
       refine EN ?_
       all_goals try trivial
       all_goals first
        | rfl
        | (have hv : evG l = evI l 6 := by unfold evG; rw [if_neg (by omega), if_neg (by omega), if_neg (by omega), if_neg (by omega)]
           rw [hv]; rfl)
        | (have hv : evG l = { evI l 6 with ID := idM (xr l), N := atM l 12 1048577 } := by unfold evG; rw [if_neg (by omega), if_neg (by omega), if_neg (by omega), if_pos (by omega)]
           rw [hv]; rfl)
      ·refine WQ [0, 2, 3, 7, 115] [2, 3, 44, 45, 113, 7] ?_
       apply z7
       refine WI ?_ ?_ <;> intro hb
       ·have hc := gvF hP hG (z9p G (xr l) (by omega))
        refine WSc [0, 2, 3] [2, 3, 44, 45, 113, 7] ?_
        have hc := gvF hP hG (z0a G l 12 1048577 hl (by omega) (by unfold I64; omega))
        refine WQc [2, 3] [2, 3, 44, 45, 113, 7] ?_
        apply zg
        apply z7
        refine WS [2] [2, 44, 45, 112, 113, 7] ?_
        apply za
        refine EN ?_
        all_goals try trivial
        all_goals first
         | rfl
         | (have hv : evG l = evI l 6 := by unfold evG; rw [if_neg (by omega), if_neg (by omega), if_neg (by omega), if_neg (by omega)]
            rw [hv]; rfl)
         | (have hv : evG l = { evI l 6 with ID := idM (xr l), N := atM l 12 1048577 } := by unfold evG; rw [if_neg (by omega), if_neg (by omega), if_neg (by omega), if_pos (by omega)]
            rw [hv]; rfl)
       ·apply z9
        apply zg
        apply z7
        refine WS [2] [2, 44, 45, 112, 113, 7] ?_
        apply za
        refine EN ?_
        all_goals try trivial
        all_goals first
         | rfl
         | (have hv : evG l = evI l 6 := by unfold evG; rw [if_neg (by omega), if_neg (by omega), if_neg (by omega), if_neg (by omega)]
            rw [hv]; rfl)
         | (have hv : evG l = { evI l 6 with ID := idM (xr l), N := atM l 12 1048577 } := by unfold evG; rw [if_neg (by omega), if_neg (by omega), if_neg (by omega), if_pos (by omega)]
            rw [hv]; rfl)
set_option maxRecDepth 100000 in
set_option maxHeartbeats 4000000 in
theorem zdl (G) (e : EventM) (how b : Int) (hs : OkEv e) (hh : I64 how) (hbb : I64 b) : zo Tryz.prog G 6 [zr e, iD how, iD b] [zr (qe e how b)] := by
 have hnr := hs.nrefs
 have hnp := hs.nposts
 have hnb := hs.nbroader
 have q := fun c (hc : 1 ≤ c) => IntWalk.i64_quo' b c (by unfold I64 at hbb; omega)
 have q5 := q 5 (by omega)
 have q7 := q 7 (by omega)
 have q8 := q 8 (by omega)
 have hc16 := xj (n := how) (m := 16) (by omega)
 have w1 := jr b
 have hi8 := zgq hbb (c := 8) (by omega)
 have r8 := xj (n := b.tdiv 8) (m := 5) (by omega)
 have r4 := xj (n := b) (m := 4) (by omega)
 have w2 := zdo (i := (wc (b.tdiv 8) 5).toNat) (by omega)
 have hw1 : ([.str ⟨#[]⟩, .str ⟨#[64]⟩, .str ⟨#[32]⟩, .str ⟨#[32, 32, 120]⟩, .str ⟨#[32, 111, 102, 32, 116, 104, 101, 32, 108, 121, 114, 101, 32, 111, 102, 32, 114, 111, 109, 101]⟩] : List Dat) = sufL.map Dat.str := rfl
 have hw2 : ([.str ⟨#[]⟩, .str ⟨#[97, 110, 110, 97]⟩, .str ⟨#[64]⟩, .str ⟨#[32]⟩] : List Dat) = seeL.map Dat.str := rfl
 have hw3 : sufL.length = 5 := rfl
 have hw4 : seeL.length = 4 := rfl
 skip
 skip
 refine GI [134] [] [156] Tryz.func6 Tryz.ntmps6 fun F hP hG hN hR hA => ?_
 have hE := And.intro @Tryz.results6 (And.intro (And.intro q5 (And.intro q7 (And.intro q8 (And.intro hw1 (And.intro hw2 (And.intro hw3 hw4)))))) (@zln))
 refine WS [1, 2, 3, 6] [3, 6, 12, 16, 28, 64, 110, 116, 156] ?_
 refine WS [1, 2, 3, 6, 7] [3, 6, 9, 12, 16, 28, 64, 110, 116, 156] ?_
 refine WS [1, 2, 3, 6, 7, 8] [3, 6, 9, 12, 13, 16, 28, 64, 110, 116, 156] ?_
 apply z6
 have hc := gvF hP hG (kq G how 16 hh (by omega) (by unfold I64; omega))
 refine WSc [2, 3, 6, 7, 8, 18] [3, 6, 9, 12, 13, 16, 28, 64, 110, 116, 156] ?_
 apply zc
 refine WS [2, 3, 6, 7, 8, 18, 31] [3, 6, 9, 12, 13, 16, 28, 64, 110, 116, 156] ?_
 refine WI ?_ ?_ <;> intro hb
 ·have hv : qe e how b = { e with By := b } := by
   unfold qe spM
   rw [if_pos hb]
  have hE := And.intro hE hv
  refine WQ [3, 6] [3, 6, 9, 12, 13, 16, 28, 64, 110, 116, 156] ?_
  apply zg
  apply z7
  refine WS [6] [6, 9, 12, 13, 16, 27, 28, 63, 64, 106, 110, 115, 116, 131, 133, 134, 142, 156] ?_
  apply za
  refine EN ?_
  all_goals try trivial
  all_goals first | done | rfl | (simp only [zr, x9, xf, ssD, List.map_append, List.map_cons, List.map_nil]; done) | (simp only [zr, x9, xf, ssD, List.map_append, List.map_cons, List.map_nil]; rfl) | skip
 ·refine WS [2, 3, 6, 7, 8, 18, 35] [3, 6, 9, 12, 13, 16, 28, 64, 110, 116, 156] ?_
  refine WI ?_ ?_ <;> intro hb
  ·have hv : qe e how b = { e with Seq := b } := by
    unfold qe spM
    rw [if_neg (by omega), if_pos hb]
   have hE := And.intro hE hv
   refine WQ [3, 6] [3, 6, 9, 12, 13, 16, 28, 64, 110, 116, 156] ?_
   apply zg
   apply z7
   refine WS [6] [6, 9, 12, 13, 16, 27, 28, 63, 64, 106, 110, 115, 116, 131, 133, 134, 142, 156] ?_
   apply za
   refine EN ?_
   all_goals try trivial
   all_goals first | done | rfl | (simp only [zr, x9, xf, ssD, List.map_append, List.map_cons, List.map_nil]; done) | (simp only [zr, x9, xf, ssD, List.map_append, List.map_cons, List.map_nil]; rfl) | skip
  ·refine WS [2, 3, 6, 7, 8, 18, 39] [3, 6, 9, 12, 13, 16, 28, 64, 110, 116, 156] ?_
   refine WI ?_ ?_ <;> intro hb
   ·have hv : qe e how b = { e with Tick := b } := by
     unfold qe spM
     rw [if_neg (by omega), if_neg (by omega), if_pos hb]
    have hE := And.intro hE hv
    refine WQ [3, 6] [3, 6, 9, 12, 13, 16, 28, 64, 110, 116, 156] ?_
    apply zg
    apply z7
    refine WS [6] [6, 9, 12, 13, 16, 27, 28, 63, 64, 106, 110, 115, 116, 131, 133, 134, 142, 156] ?_
    apply za
    refine EN ?_
    all_goals try trivial
    all_goals first | done | rfl | (simp only [zr, x9, xf, ssD, List.map_append, List.map_cons, List.map_nil]; done) | (simp only [zr, x9, xf, ssD, List.map_append, List.map_cons, List.map_nil]; rfl) | skip
   ·refine WS [2, 3, 6, 7, 8, 18, 43] [3, 6, 9, 12, 13, 16, 28, 64, 110, 116, 156] ?_
    refine WI ?_ ?_ <;> intro hb
    ·have hv : qe e how b = { e with Kind := b } := by
      unfold qe spM
      rw [if_neg (by omega), if_neg (by omega), if_neg (by omega), if_pos hb]
     have hE := And.intro hE hv
     refine WQ [3, 6] [3, 6, 9, 12, 13, 16, 28, 64, 110, 116, 156] ?_
     apply zg
     apply z7
     refine WS [6] [6, 9, 12, 13, 16, 27, 28, 63, 64, 106, 110, 115, 116, 131, 133, 134, 142, 156] ?_
     apply za
     refine EN ?_
     all_goals try trivial
     all_goals first | done | rfl | (simp only [zr, x9, xf, ssD, List.map_append, List.map_cons, List.map_nil]; done) | (simp only [zr, x9, xf, ssD, List.map_append, List.map_cons, List.map_nil]; rfl) | skip
    ·refine WS [2, 3, 6, 7, 8, 18, 47] [3, 6, 9, 12, 13, 16, 28, 64, 110, 116, 156] ?_
     refine WI ?_ ?_ <;> intro hb
     ·have hv : qe e how b = { e with N := b } := by
       unfold qe spM
       rw [if_neg (by omega), if_neg (by omega), if_neg (by omega), if_neg (by omega), if_pos hb]
      have hE := And.intro hE hv
      refine WQ [3, 6] [3, 6, 9, 12, 13, 16, 28, 64, 110, 116, 156] ?_
      apply zg
      apply z7
      refine WS [6] [6, 9, 12, 13, 16, 27, 28, 63, 64, 106, 110, 115, 116, 131, 133, 134, 142, 156] ?_
      apply za
      refine EN ?_
      all_goals try trivial
      all_goals first | done | rfl | (simp only [zr, x9, xf, ssD, List.map_append, List.map_cons, List.map_nil]; done) | (simp only [zr, x9, xf, ssD, List.map_append, List.map_cons, List.map_nil]; rfl) | skip
     ·refine WS [2, 3, 6, 7, 8, 18, 51] [3, 6, 9, 12, 13, 16, 28, 64, 110, 116, 156] ?_
      refine WI ?_ ?_ <;> intro hb
      ·have hv : qe e how b = { e with ID := { e.ID with K := b } } := by
        unfold qe spM
        rw [if_neg (by omega), if_neg (by omega), if_neg (by omega), if_neg (by omega), if_neg (by omega), if_pos hb]
       have hE := And.intro hE hv
       refine WQ [3, 6] [3, 6, 9, 12, 13, 16, 28, 64, 110, 116, 156] ?_
       apply zg
       apply z7
       refine WS [6] [6, 9, 12, 13, 16, 27, 28, 63, 64, 106, 110, 115, 116, 131, 133, 134, 142, 156] ?_
       apply za
       refine EN ?_
       all_goals try trivial
       all_goals first | done | rfl | (simp only [zr, x9, xf, ssD, List.map_append, List.map_cons, List.map_nil]; done) | (simp only [zr, x9, xf, ssD, List.map_append, List.map_cons, List.map_nil]; rfl) | skip
      ·refine WS [2, 3, 6, 7, 8, 18, 56] [3, 6, 9, 12, 13, 16, 28, 64, 110, 116, 156] ?_
       refine WI ?_ ?_ <;> intro hb
       ·have hv : qe e how b = { e with Refs := e.Refs ++ [⟨b, b.tdiv 7⟩] } := by
         unfold qe spM
         rw [if_neg (by omega), if_neg (by omega), if_neg (by omega), if_neg (by omega), if_neg (by omega), if_neg (by omega), if_pos hb]
        have hE := And.intro hE hv
        refine WQ [3, 6] [3, 6, 9, 12, 13, 16, 28, 63, 64, 110, 116, 156] ?_
        apply zg
        apply z7
        refine WS [6] [6, 9, 12, 13, 16, 27, 28, 63, 64, 106, 110, 115, 116, 131, 133, 134, 142, 156] ?_
        apply za
        refine EN ?_
        all_goals try trivial
        all_goals first | done | rfl | (simp only [zr, x9, xf, ssD, List.map_append, List.map_cons, List.map_nil]; done) | (simp only [zr, x9, xf, ssD, List.map_append, List.map_cons, List.map_nil]; rfl) | skip
       ·refine WS [2, 3, 6, 7, 8, 18, 66] [3, 6, 9, 12, 13, 16, 28, 64, 110, 116, 156] ?_
        refine WI ?_ ?_ <;> intro hb
        ·have hv : qe e how b = { e with Refs := sp7 e.Refs b } := by
          unfold qe spM
          rw [if_neg (by omega), if_neg (by omega), if_neg (by omega), if_neg (by omega), if_neg (by omega), if_neg (by omega), if_neg (by omega), if_pos hb]
         apply z6
         refine WS [2, 3, 6, 7, 70] [3, 6, 9, 12, 13, 16, 28, 64, 110, 116, 156] ?_
         refine WI ?_ ?_ <;> intro hb
         ·have r7 := xj (n := b) (m := (e.Refs.length : Int)) (by omega)
          have hv7 : qe e how b = { e with Refs := e.Refs.set (wc b e.Refs.length).toNat (e.Refs.getD 0 default) } := by
           rw [hv]
           unfold sp7
           rw [if_pos (by omega)]
          have hset := zfa vb e.Refs (wc b e.Refs.length).toNat (e.Refs.getD 0 default)
          dsimp only [vb] at hset
          have hsl : (e.Refs.set (wc b e.Refs.length).toNat (e.Refs.getD 0 default)).length = e.Refs.length := List.length_set
          have hst : List.take e.Refs.length (e.Refs.set (wc b e.Refs.length).toNat (e.Refs.getD 0 default)) = e.Refs.set (wc b e.Refs.length).toNat (e.Refs.getD 0 default) := List.take_of_length_le (by omega)
          have hE := And.intro hE (And.intro hv7 (And.intro hset (And.intro hsl hst)))
          apply z0y [3, 6, 7] [3, 6, 9, 12, 13, 16, 28, 64, 110, 116, 156] [0, 1, 2, 3, 4, 5, 6, 7, 8, 9] []
          ·rw [hP]; kernel_rfl
          ·exact hR
          ·kernel_rfl
          ·(repeat (apply PickL.cons; exact rfl)); exact PickL.nil _
          ·refine RN ?_
           refine CU (kq G b e.Refs.length hbb (by omega) (by unfold I64; omega)) ?_
           exact SC
          apply z7
          refine WQ [3, 6] [3, 6, 9, 12, 13, 16, 28, 64, 110, 116, 156] ?_
          apply zg
          apply z7
          refine WS [6] [6, 9, 12, 13, 16, 27, 28, 63, 64, 106, 110, 115, 116, 131, 133, 134, 142, 156] ?_
          apply za
          refine EN ?_
          all_goals try trivial
          all_goals first | done | rfl | (simp only [zr, x9, xf, ssD, List.map_append, List.map_cons, List.map_nil]; done) | (simp only [zr, x9, xf, ssD, List.map_append, List.map_cons, List.map_nil]; rfl) | skip
         ·have hv7 : qe e how b = e := by
           rw [hv]
           unfold sp7
           rw [if_neg (by omega)]
          have hE := And.intro hE hv7
          apply z9
          apply z7
          refine WQ [3, 6] [3, 6, 9, 12, 13, 16, 28, 64, 110, 116, 156] ?_
          apply zg
          apply z7
          refine WS [6] [6, 9, 12, 13, 16, 27, 28, 63, 64, 106, 110, 115, 116, 131, 133, 134, 142, 156] ?_
          apply za
          refine EN ?_
          all_goals try trivial
          all_goals first | done | rfl | (simp only [zr, x9, xf, ssD, List.map_append, List.map_cons, List.map_nil]; done) | (simp only [zr, x9, xf, ssD, List.map_append, List.map_cons, List.map_nil]; rfl) | skip
        ·refine WS [2, 3, 6, 7, 8, 18, 82] [3, 6, 9, 12, 13, 16, 28, 64, 110, 116, 156] ?_
         refine WI ?_ ?_ <;> intro hb
         ·have hv : qe e how b = { e with Term := { e.Term with Name := wordM b ++ sufL.getD (wc (b.tdiv 8) 5).toNat default } } := by
           unfold qe spM
           rw [if_neg (by omega), if_neg (by omega), if_neg (by omega), if_neg (by omega), if_neg (by omega), if_neg (by omega), if_neg (by omega), if_neg (by omega), if_pos hb]
          have hE := And.intro hE hv
          apply kf [3, 6] [3, 6, 9, 12, 13, 16, 28, 64, 110, 116, 156]
          ·refine RN ?_
           refine CU (Xz G b hbb) ?_
           refine CU (kq G (b.tdiv 8) 5 hi8 (by omega) (by unfold I64; omega)) ?_
           exact SC
          apply zg
          apply z7
          refine WS [6] [6, 9, 12, 13, 16, 27, 28, 63, 64, 106, 110, 115, 116, 131, 133, 134, 142, 156] ?_
          apply za
          refine EN ?_
          all_goals try trivial
          all_goals first | done | rfl | (simp only [zr, x9, xf, ssD, List.map_append, List.map_cons, List.map_nil]; done) | (simp only [zr, x9, xf, ssD, List.map_append, List.map_cons, List.map_nil]; rfl) | skip
         ·refine WS [2, 3, 6, 7, 8, 18, 95] [3, 6, 9, 12, 13, 16, 28, 64, 110, 116, 156] ?_
          refine WI ?_ ?_ <;> intro hb
          ·have hv : qe e how b = { e with Term := { e.Term with See := seeL.getD (wc b 4).toNat default } } := by
            unfold qe spM
            rw [if_neg (by omega), if_neg (by omega), if_neg (by omega), if_neg (by omega), if_neg (by omega), if_neg (by omega), if_neg (by omega), if_neg (by omega), if_neg (by omega), if_pos hb]
           have hE := And.intro hE hv
           have hc := gvF hP hG (kq G b 4 hbb (by omega) (by unfold I64; omega))
           refine WQc [3, 6] [3, 6, 9, 12, 13, 16, 28, 64, 110, 116, 156] ?_
           apply zg
           apply z7
           refine WS [6] [6, 9, 12, 13, 16, 27, 28, 63, 64, 106, 110, 115, 116, 131, 133, 134, 142, 156] ?_
           apply za
           refine EN ?_
           all_goals try trivial
           all_goals first | done | rfl | (simp only [zr, x9, xf, ssD, List.map_append, List.map_cons, List.map_nil]; done) | (simp only [zr, x9, xf, ssD, List.map_append, List.map_cons, List.map_nil]; rfl) | skip
          ·refine WS [2, 3, 6, 7, 8, 18, 104] [3, 6, 9, 12, 13, 16, 28, 64, 110, 116, 156] ?_
           refine WI ?_ ?_ <;> intro hb
           ·have hv : qe e how b = { e with Term := { e.Term with Broader := e.Term.Broader ++ [wordM b, ⟨#[]⟩, wordM b] } } := by
             unfold qe spM
             rw [if_neg (by omega), if_neg (by omega), if_neg (by omega), if_neg (by omega), if_neg (by omega), if_neg (by omega), if_neg (by omega), if_neg (by omega), if_neg (by omega), if_neg (by omega), if_pos hb]
            have hE := And.intro hE hv
            apply kf [3, 6] [3, 6, 9, 12, 13, 16, 28, 64, 106, 110, 115, 116, 156]
            ·refine RN ?_
             refine CU (Xz G b hbb) ?_
             refine CU (Xz G b hbb) ?_
             exact SC
            apply zg
            apply z7
            refine WS [6] [6, 9, 12, 13, 16, 27, 28, 63, 64, 106, 110, 115, 116, 131, 133, 134, 142, 156] ?_
            apply za
            refine EN ?_
            all_goals try trivial
            all_goals first | done | rfl | (simp only [zr, x9, xf, ssD, List.map_append, List.map_cons, List.map_nil]; done) | (simp only [zr, x9, xf, ssD, List.map_append, List.map_cons, List.map_nil]; rfl) | skip
           ·refine WS [2, 3, 6, 7, 8, 18, 119] [3, 6, 9, 12, 13, 16, 28, 64, 110, 116, 156] ?_
            refine WI ?_ ?_ <;> intro hb
            ·have hv : qe e how b = { e with Term := { e.Term with Lang := b } } := by
              unfold qe spM
              rw [if_neg (by omega), if_neg (by omega), if_neg (by omega), if_neg (by omega), if_neg (by omega), if_neg (by omega), if_neg (by omega), if_neg (by omega), if_neg (by omega), if_neg (by omega), if_neg (by omega), if_pos hb]
             have hE := And.intro hE hv
             refine WQ [3, 6] [3, 6, 9, 12, 13, 16, 28, 64, 110, 116, 156] ?_
             apply zg
             apply z7
             refine WS [6] [6, 9, 12, 13, 16, 27, 28, 63, 64, 106, 110, 115, 116, 131, 133, 134, 142, 156] ?_
             apply za
             refine EN ?_
             all_goals try trivial
             all_goals first | done | rfl | (simp only [zr, x9, xf, ssD, List.map_append, List.map_cons, List.map_nil]; done) | (simp only [zr, x9, xf, ssD, List.map_append, List.map_cons, List.map_nil]; rfl) | skip
            ·refine WS [2, 3, 6, 7, 8, 18, 124] [3, 6, 9, 12, 13, 16, 28, 64, 110, 116, 156] ?_
             refine WI ?_ ?_ <;> intro hb
             ·have hv : qe e how b = { e with Posts := e.Posts ++ [{ ID := e.ID, Path := [wordM b], Main := false }] } := by
               unfold qe spM
               rw [if_neg (by omega), if_neg (by omega), if_neg (by omega), if_neg (by omega), if_neg (by omega), if_neg (by omega), if_neg (by omega), if_neg (by omega), if_neg (by omega), if_neg (by omega), if_neg (by omega), if_neg (by omega), if_pos hb]
              have hE := And.intro hE hv
              apply z0y [3, 6] [3, 6, 9, 12, 13, 16, 28, 64, 110, 116, 131, 133, 134, 156] [0, 1, 2, 3, 4, 5, 6, 7, 8, 9, 10] [134]
              ·rw [hP]; kernel_rfl
              ·exact hR
              ·kernel_rfl
              ·(repeat (apply PickL.cons; exact rfl)); exact PickL.nil _
              ·refine RN ?_
               refine CU (Xz G b hbb) ?_
               exact SC
              apply zg
              apply z7
              refine WS [6] [6, 9, 12, 13, 16, 27, 28, 63, 64, 106, 110, 115, 116, 131, 133, 134, 142, 156] ?_
              apply za
              refine EN ?_
              all_goals try trivial
              all_goals first | done | rfl | (simp only [zr, x9, xf, ssD, List.map_append, List.map_cons, List.map_nil]; done) | (simp only [zr, x9, xf, ssD, List.map_append, List.map_cons, List.map_nil]; rfl) | skip
             ·refine WS [2, 3, 6, 7, 8, 18, 136] [3, 6, 9, 12, 13, 16, 28, 64, 110, 116, 156] ?_
              refine WI ?_ ?_ <;> intro hb
              ·have hv : qe e how b = { e with Posts := zp2 e.Posts b } := by
                unfold qe spM
                rw [if_neg (by omega), if_neg (by omega), if_neg (by omega), if_neg (by omega), if_neg (by omega), if_neg (by omega), if_neg (by omega), if_neg (by omega), if_neg (by omega), if_neg (by omega), if_neg (by omega), if_neg (by omega), if_neg (by omega), if_pos hb]
               apply z6
               refine WS [2, 3, 6, 8, 140] [3, 6, 9, 12, 13, 16, 28, 64, 110, 116, 156] ?_
               refine WI ?_ ?_ <;> intro hb
               ·obtain ⟨p, ps, hps⟩ : ∃ p ps, e.Posts = p :: ps := by
                 cases hq : e.Posts with
                 | nil => rw [hq] at hb; simp at hb
                 | cons p ps => exact ⟨p, ps, rfl⟩
                have hpo := hs.posts p (by rw [hps]; simp)
                have r13 := xj (n := b) (m := (p.Path.length : Int) + 1) (by omega)
                have r52a := Int.tmod_lt_of_pos (b.tdiv 5) (b := 2) (by omega)
                have r52b := Int.lt_tmod_of_pos (b.tdiv 5) (b := 2) (by omega)
                have hv13 : qe e how b = { e with Posts := { ID := ⟨IntKind.i64.wrap (p.ID.By + (b.tdiv 5).tmod 2), p.ID.Seq, p.ID.K⟩, Path := p.Path.take (wc b (p.Path.length + 1)).toNat, Main := p.Main } :: ps } := by
                 rw [hv, hps]
                 rfl
                have hE := And.intro hE (And.intro hps hv13)
                apply wn [2, 3, 6, 8] [3, 6, 9, 12, 13, 16, 28, 64, 110, 116, 142, 156] [0, 1, 2, 3, 4, 5, 6, 7, 8, 9, 10, 11, 12, 13, 14, 15, 16, 17, 18] [156]
                ·rw [hP]; kernel_rfl
                ·exact hR
                ·kernel_rfl
                ·(repeat (apply PickL.cons; exact rfl)); exact PickL.nil _
                ·refine RN ?_
                 refine CU (kq G b ((p.Path.length : Int) + 1) hbb (by omega) (by unfold I64; omega)) ?_
                 exact SC
                refine jh 156 hR.2.2.2 rfl (datE_map _) ?_
                refine WQ [3, 6, 8] [3, 6, 9, 12, 13, 16, 28, 64, 110, 116, 142, 156] ?_
                apply z7
                refine WQ [3, 6] [3, 6, 9, 12, 13, 16, 28, 64, 110, 116, 142, 156] ?_
                apply zg
                apply z7
                refine WS [6] [6, 9, 12, 13, 16, 27, 28, 63, 64, 106, 110, 115, 116, 131, 133, 134, 142, 156] ?_
                apply za
                refine EN ?_
                all_goals try trivial
                all_goals first | done | rfl | (simp only [zr, x9, xf, ssD, List.map_append, List.map_cons, List.map_nil]; done) | (simp only [zr, x9, xf, ssD, List.map_append, List.map_cons, List.map_nil]; rfl) | skip
               ·have hps : e.Posts = [] := List.eq_nil_of_length_eq_zero (by omega)
                have hv13 : qe e how b = e := by
                 rw [hv, hps]
                 show ({ e with Posts := [] } : EventM) = e
                 rw [← hps]
                have hE := And.intro hE hv13
                apply z9
                apply z7
                refine WQ [3, 6] [3, 6, 9, 12, 13, 16, 28, 64, 110, 116, 142, 156] ?_
                apply zg
                apply z7
                refine WS [6] [6, 9, 12, 13, 16, 27, 28, 63, 64, 106, 110, 115, 116, 131, 133, 134, 142, 156] ?_
                apply za
                refine EN ?_
                all_goals try trivial
                all_goals first | done | rfl | (simp only [zr, x9, xf, ssD, List.map_append, List.map_cons, List.map_nil]; done) | (simp only [zr, x9, xf, ssD, List.map_append, List.map_cons, List.map_nil]; rfl) | skip
              ·refine WS [2, 3, 6, 7, 174] [3, 6, 9, 12, 13, 16, 28, 64, 110, 116, 156] ?_
               refine WI ?_ ?_ <;> intro hb
               ·have hv : qe e how b = { e with Op := { e.Op with N := b } } := by
                 unfold qe spM
                 rw [if_neg (by omega), if_neg (by omega), if_neg (by omega), if_neg (by omega), if_neg (by omega), if_neg (by omega), if_neg (by omega), if_neg (by omega), if_neg (by omega), if_neg (by omega), if_neg (by omega), if_neg (by omega), if_neg (by omega), if_neg (by omega), if_pos hb]
                have hE := And.intro hE hv
                refine WQ [3, 6] [3, 6, 9, 12, 13, 16, 28, 64, 110, 116, 156] ?_
                apply zg
                apply z7
                refine WS [6] [6, 9, 12, 13, 16, 27, 28, 63, 64, 106, 110, 115, 116, 131, 133, 134, 142, 156] ?_
                apply za
                refine EN ?_
                all_goals try trivial
                all_goals first | done | rfl | (simp only [zr, x9, xf, ssD, List.map_append, List.map_cons, List.map_nil]; done) | (simp only [zr, x9, xf, ssD, List.map_append, List.map_cons, List.map_nil]; rfl) | skip
               ·apply z6
                apply zc
                have hv : qe e how b = { e with Refs := z79 e.Refs b } := by
                 unfold qe spM
                 rw [if_neg (by omega), if_neg (by omega), if_neg (by omega), if_neg (by omega), if_neg (by omega), if_neg (by omega), if_neg (by omega), if_neg (by omega), if_neg (by omega), if_neg (by omega), if_neg (by omega), if_neg (by omega), if_neg (by omega), if_neg (by omega), if_neg (by omega)]
                have hE := And.intro hE (And.intro hv (z9e e.Refs b))
                refine wv 12 28 (by omega) (by omega) ?_
                refine WL (ι := {i : Nat // e.Refs.length ≤ i ∧ (i ≤ 17 ∨ i = e.Refs.length)}) [2, 3, 6] [3, 6, 9, 12, 13, 16, 27, 63, 64, 106, 110, 115, 116, 131, 133, 134, 142, 156] (fun ⟨i, hi2⟩ => [(7, .osl 28 2 0 i)]) (fun ⟨i, hi2⟩ => [(28, ⟨2, ((z1p e.Refs b i).map vb).map .dat⟩)]) (fun ⟨i, hi2⟩ => 17 - i) (⟨e.Refs.length, by omega, by omega⟩) ?_
                rintro ⟨i, hi2⟩
                refine LA ?_
                obtain ⟨hi, hi3⟩ := id hi2
                have hfl := zco (b := b) hi
                have hfs := zj9 (b := b) hi
                have hE := And.intro hE (And.intro hfl (And.intro hfs (z9e e.Refs b)))
                apply z6
                refine WS [2, 3, 6, 7, 21] [3, 6, 9, 12, 13, 16, 27, 28, 64, 110, 116, 156] ?_
                refine WI ?_ ?_ <;> intro hb
                ·apply z9
                 apply z7
                 apply zc
                 refine WQ [2, 3, 6, 7] [3, 6, 9, 12, 13, 16, 27, 28, 64, 110, 116, 156] ?_
                 apply zg
                 refine WN (⟨i + 1, by omega⟩)
                ·apply zn
                 apply zh
                 have hfr : z79 e.Refs b = z1p e.Refs b i := by unfold z79; congr 1; omega
                 have hE := And.intro hE hfr
                 apply ze
                 apply zw
                 apply z7
                 refine WQ [3, 6] [3, 6, 9, 12, 13, 16, 27, 28, 64, 110, 116, 156] ?_
                 apply zg
                 apply z7
                 refine WS [6] [6, 9, 12, 13, 16, 27, 28, 63, 64, 106, 110, 115, 116, 131, 133, 134, 142, 156] ?_
                 apply za
                 refine EN ?_
                 all_goals try trivial
                 all_goals first | done | rfl | (simp only [zr, x9, xf, ssD, List.map_append, List.map_cons, List.map_nil]; done) | (simp only [zr, x9, xf, ssD, List.map_append, List.map_cons, List.map_nil]; rfl) | skip
theorem z13 {b : List Int} (hb : isB b) (h : (zj b).2.2 = 0) : 1 ≤ (zj b).2.1 := by
 have hk := zlc hb
 unfold zj at h ⊢
 split
 ·rename_i h0; rw [if_pos h0] at h; cases h
 rename_i h0
 rw [if_neg h0] at h
 split
 ·rename_i h1; rw [if_pos h1] at h; cases h
 rename_i h1
 rw [if_neg h1] at h
 split
 ·rename_i h2; rw [if_pos h2] at h; cases h
 rename_i h2
 rw [if_neg h2] at h
 split
 ·rename_i h3; rw [if_pos h3] at h; cases h
 rename_i h3
 rw [if_neg h3] at h
 split
 ·rename_i h4; rw [if_pos h4] at h; cases h
 ·dsimp only; omega
theorem zgt {b : List Int} (hb : isB b) {a0 : Nat} : ∀ i, (qj b a0 i).2.2 = 0 → (∀ x ∈ (qj b a0 i).1, I64 x) ∧ a0 + (qj b a0 i).1.length ≤ (qj b a0 i).2.1
 | 0, _ => ⟨fun x hx => (by cases hx), by simp [qj]⟩
 | i + 1, h => by
  rw [qj] at h ⊢
  split at h
  ·rename_i h0; exact absurd h h0
  rename_i h0
  rw [if_neg h0]
  split at h
  ·rename_i h1; exact absurd h h1
  rename_i h1
  rw [if_neg h1]
  obtain ⟨g1, g2⟩ := zgt hb (a0 := a0) i (by omega)
  have h2 := qu (zt hb (qj b a0 i).2.1)
  have h3 := z13 (zt hb (qj b a0 i).2.1) (by omega)
  refine ⟨fun x hx => ?_, ?_⟩
  ·rcases List.mem_append.1 hx with hx | hx
   ·exact g1 x hx
   ·rw [List.mem_singleton] at hx; rw [hx]; exact h2.1
  ·simp only [List.length_append, List.length_singleton]; omega
theorem z9l {b : List Int} (hb : isB b) (h : (zd b).2.2 = 0) : (∀ x ∈ (zd b).1, I64 x) ∧ (zd b).1.length + 1 ≤ (zd b).2.1 := by
 unfold zd at h ⊢
 split
 ·rename_i h0; rw [if_pos h0] at h; exact absurd h h0
 ·rename_i h0
  rw [if_neg h0] at h
  obtain ⟨c1, c2, c3, c4⟩ := vz hb (by omega)
  obtain ⟨g1, g2⟩ := zgt hb _ h
  have h3 := z13 hb c2
  rw [c1] at g2 ⊢
  exact ⟨by rw [c1] at g1; exact g1, by omega⟩
theorem ztr (l : List Int) : (X1 l).size = l.length := by simp [X1, ByteArray.size]
theorem z7f {b : List Int} (hb : isB b) (h : (zq b).2.2 = 0) : ((zq b).1.size : Int) + 1 ≤ (zq b).2.1 := by
 unfold zq at h ⊢
 split
 ·rename_i h0; rw [if_pos h0] at h; exact absurd h h0
 ·rename_i h0
  obtain ⟨c1, c2, c3, c4⟩ := vz hb (by omega)
  have h2 := qu hb
  have h3 := z13 hb c2
  rw [c1]
  dsimp only
  rw [ztr, List.length_drop, List.length_take]
  omega
def z05 (l : List ByteArray) : Nat := (l.map fun s => s.size + 1).sum
theorem zt7 (a : List ByteArray) (s : ByteArray) : z05 (a ++ [s]) = z05 a + (s.size + 1) := by simp [z05]
theorem z2t {l : List ByteArray} {s : ByteArray} (h : s ∈ l) : s.size + 1 ≤ z05 l := by
 induction l with
 | nil => cases h
 | cons x l ih =>
  simp only [z05, List.map_cons, List.sum_cons] at ih ⊢
  rcases List.mem_cons.1 h with rfl | h
  ·omega
  ·have := ih h; omega
theorem z5u (l : List ByteArray) : l.length ≤ z05 l := by
 induction l with
 | nil => exact Nat.zero_le _
 | cons x l ih => simp only [z05, List.map_cons, List.sum_cons, List.length_cons] at ih ⊢; omega
theorem zi5 {b : List Int} (hb : isB b) {a0 : Nat} : ∀ i, (ql b a0 i).2.2 = 0 → a0 + z05 (ql b a0 i).1 ≤ (ql b a0 i).2.1
 | 0, _ => by simp [ql, z05]
 | i + 1, h => by
  rw [ql] at h ⊢
  split at h
  ·rename_i h0; exact absurd h h0
  rename_i h0
  rw [if_neg h0]
  split at h
  ·rename_i h1; exact absurd h h1
  rename_i h1
  rw [if_neg h1]
  have g2 := zi5 hb (a0 := a0) i (by omega)
  have h3 := z7f (zt hb (ql b a0 i).2.1) (by omega)
  simp only [zt7]
  omega
theorem z9n {b : List Int} (hb : isB b) (h : (zx b).2.2 = 0) : z05 (zx b).1 + 1 ≤ (zx b).2.1 := by
 unfold zx at h ⊢
 split
 ·rename_i h0; rw [if_pos h0] at h; exact absurd h h0
 ·rename_i h0
  rw [if_neg h0] at h
  obtain ⟨c1, c2, c3, c4⟩ := vz hb (by omega)
  have g2 := zi5 hb _ h
  have h3 := z13 hb c2
  rw [c1] at g2 ⊢
  omega
theorem zdp : ∀ {l : List ByteArray}, (∀ s ∈ l, s.size ≤ 1000000) → (l.flatMap x7).length ≤ 9 * z05 l
 | [], _ => Nat.zero_le _
 | x :: l, h => by
  have ih := zdp (l := l) fun s hs => h s (List.mem_cons_of_mem _ hs)
  have h1 := vj (n := (x.size : Int)) (by have := h x List.mem_cons_self; unfold I64; omega)
  simp only [z05, List.flatMap_cons, List.length_append, List.map_cons, List.sum_cons, x7, j8] at ih ⊢
  omega
theorem zp8 {l : List ByteArray} (h : z05 l ≤ 900000) : (strsM l).length ≤ 9 + 9 * z05 l := by
 have h1 := zdp (l := l) fun s hs => by have := z2t hs; omega
 have h2 := z5u l
 have h3 := vj (n := (l.length : Int)) (by unfold I64; omega)
 rw [zdn, List.length_append]
 omega
theorem z7i : I64 0 := by unfold I64; omega
theorem va {l : List Int} (h : ∀ x ∈ l, I64 x) (i : Nat) : I64 (l.getD i default) := by
 by_cases hi : i < l.length
 ·exact x4 h hi
 ·rw [List.getD_eq_getElem?_getD, List.getElem?_eq_none (by omega)]
  exact z7i
theorem z96 {b : List Int} (hb : isB b) {a : Nat} {er : Int} {n : Nat} {just : Bool} (h : (x8 b a er n just).2.2 = 0) : (∀ x ∈ (x8 b a er n just).1, I64 x) ∧ a + (x8 b a er n just).1.length + 1 ≤ (x8 b a er n just).2.1 ∧ (er = 0) := by
 have hg := (z11 h).1
 unfold x8 at h ⊢
 split
 ·rename_i h0; exact absurd hg h0
 rename_i h0
 rw [if_neg h0] at h
 split
 ·rename_i h1; rw [if_pos h1] at h; exact absurd h h1
 rename_i h1
 rw [if_neg h1] at h
 split
 ·rename_i h2; rw [if_pos h2] at h; cases h
 ·have := z9l (zt hb a) (by omega)
  exact ⟨this.1, by dsimp only; omega, hg⟩
theorem zo4 {l : List Int} (h : ∀ x ∈ l, I64 x) (k : Nat) : ∀ p ∈ vd l k, I64 p.1 ∧ I64 p.2 := fun p hp => by
 obtain ⟨i, _, rfl⟩ := List.mem_map.1 hp
 exact ⟨va h _, va h _⟩
theorem zsc {l : List Int} (h : ∀ x ∈ l, I64 x) (k : Nat) : ∀ p ∈ yd l k, z6e p := fun p hp => by
 obtain ⟨i, _, rfl⟩ := List.mem_map.1 hp
 exact ⟨va h _, va h _, va h _⟩
theorem z49 {α : Type} {f : α → List Int} {c : Nat} (hf : ∀ x, (f x).length = c) : ∀ l : List α, (l.flatMap f).length = c * l.length
 | [] => rfl
 | x :: l => by simp only [List.flatMap_cons, List.length_append, z49 hf l, hf, List.length_cons, Nat.mul_add]; omega
theorem zlq {o : OpM} (hh : ∀ x ∈ y7 o, I64 x) (hp : ∀ p ∈ o.Pairs, I64 p.1 ∧ I64 p.2) (hr : ∀ r ∈ o.Refs, z6e r) (h : o.Text.size + z05 o.Texts + 2 * o.Pairs.length + 3 * o.Refs.length ≤ 60000) : OkOp o where
 head := hh
 pairs := hp
 refs := hr
 text := by omega
 texts := fun s hs => by have := z2t hs; omega
 ntexts := by have := z5u o.Texts; omega
 npairs := by omega
 nrefs := by omega
 all := by
  have h1 := w8 hh (by simp [y7])
  have e1 : (y7 o).length = 13 := rfl
  have h2 := Zu (s := o.Text) (Nat.le_refl _) (by omega)
  have h3 := zp8 (l := o.Texts) (by omega)
  have e4 := z49 (f := pairI) (c := 2) (fun _ => rfl) o.Pairs
  have e5 := z49 (f := idI) (c := 3) (fun _ => rfl) o.Refs
  have h4 := w8 (l := o.Pairs.flatMap pairI) (fun y hy => by
   obtain ⟨x, hx, hy⟩ := List.mem_flatMap.1 hy
   have := hp x hx
   simp only [pairI, List.mem_cons, List.not_mem_nil, or_false] at hy
   rcases hy with rfl | rfl
   ·exact this.1
   ·exact this.2) (by omega)
  have h5 := w8 (l := o.Refs.flatMap idI) (fun y hy => by
   obtain ⟨x, hx, hy⟩ := List.mem_flatMap.1 hy
   have := hr x hx
   simp only [idI, List.mem_cons, List.not_mem_nil, or_false] at hy
   rcases hy with rfl | rfl | rfl
   ·exact this.1
   ·exact this.2.1
   ·exact this.2.2) (by omega)
  simp only [opB, List.length_append]
  omega
theorem zlo : OkOp zOp := zlq (fun x hx => by simp [y7] at hx; subst hx; exact z7i) (by simp) (by simp) (by decide)
theorem ziz {b : List Int} (hb : isB b) (hl : b.length ≤ 60000) (h : (zy b).2.2 = 0) : OkOp (zy b).1 := by
 unfold zy at h ⊢
 split
 ·exact zlo
 rename_i h0
 rw [if_neg h0] at h
 split
 ·exact zlo
 rename_i h1
 rw [if_neg h1] at h
 split
 ·exact zlo
 rename_i h2
 have hH := z96 hb (a := 0) (er := 0) (n := 13) (just := true) (Classical.not_not.1 h0)
 have hT := z7f (zt hb (edH b).2.1) (Classical.not_not.1 h1)
 have hQ := z96 hb (a := (edP b).2.1) (er := (edP b).2.2) (n := 3) (just := false) (Classical.not_not.1 h2)
 have hP := z96 hb (a := z66 b) (er := (edS b).2.2) (n := 2) (just := false) hQ.2.2
 have hS := z9n (zt hb (X4 b)) hP.2.2
 have hQa := (Z4 hb (Z4 hb (zix hb) (edS b).2.2 2 false).1 (edP b).2.2 3 false).1
 have e1 : (X4 b) = (edH b).2.1 + (edT b).2.1.toNat := rfl
 have e2 : (z66 b) = X4 b + (edS b).2.1 := rfl
 have f1 : ((edT b).1.size : Int) + 1 ≤ (edT b).2.1 := hT
 have f2 : z05 (edS b).1 + 1 ≤ (edS b).2.1 := hS
 have f3 : z66 b + (edP b).1.length + 1 ≤ (edP b).2.1 := hP.2.1
 have f4 : (edP b).2.1 + (edQ b).1.length + 1 ≤ (edQ b).2.1 := hQ.2.1
 have f5 : (edQ b).2.1 ≤ b.length := hQa
 refine zlq ?_ (zo4 hP.1 _) (zsc hQ.1 _) ?_
 ·intro x hx
  simp only [y7, zek, List.mem_cons, List.not_mem_nil, or_false] at hx
  rcases hx with rfl | rfl | rfl | rfl | rfl | rfl | rfl | rfl | rfl | rfl | rfl | rfl | rfl <;> exact va hH.1 _
 ·show (edT b).1.size + z05 (edS b).1 + 2 * (vd _ _).length + 3 * (yd _ _).length ≤ 60000
  rw [z1b, z1f]
  omega
theorem z5m {b : List Int} (hb : isB b) {a : Nat} {l : List Int} {n : Nat} (h : v8 b a = some (l, n)) : (∀ x ∈ l, I64 x) := by
 unfold v8 at h
 split at h
 ·rename_i h0
  simp only [Option.some.injEq, Prod.mk.injEq] at h
  rw [← h.1]
  exact (z9l (zt hb a) h0).1
 ·cases h
theorem zhv {b : List Int} (hb : isB b) (hl : b.length ≤ 60000) {a : Nat} {l : List ByteArray} {n : Nat} (h : yj b a = some (l, n)) : z05 l ≤ 60000 := by
 unfold yj at h
 split at h
 ·rename_i h0
  simp only [Option.some.injEq, Prod.mk.injEq] at h
  rw [← h.1]
  have h1 := z9n (zt hb a) h0
  have h2 := ki (zt hb a)
  have hd : (b.drop a).length = b.length - a := List.length_drop
  omega
 ·cases h
theorem zlb {l : List ByteArray} (h : z05 l ≤ 60000) (i : Nat) : (l.getD i default).size ≤ 60000 := by
 by_cases hi : i < l.length
 ·have := x4 (p := fun s : ByteArray => s.size + 1 ≤ z05 l) (l := l) (fun s hs => z2t hs) hi
  omega
 ·rw [List.getD_eq_getElem?_getD, List.getElem?_eq_none (by omega)]
  exact Nat.zero_le _
theorem zl4 {l r : List Int} (hl : ∀ x ∈ l, I64 x) (hr : ∀ x ∈ r, I64 x) (hrl : r.length ≤ 60000) : OkEv (evHd l r) where
 by_ := va hl _
 seq := va hl _
 tick := va hl _
 kind := va hl _
 n := z7i
 id := ⟨z7i, z7i, z7i⟩
 tk := z7i
 tl := z7i
 refs := fun p hp => by
  obtain ⟨i, _, rfl⟩ := List.mem_map.1 hp
  exact ⟨va hr _, va hr _⟩
 nrefs := by show (Qn r (r.length / 2)).length ≤ _; rw [z17]; omega
 op := zlo
 name := Nat.zero_le _
 see := Nat.zero_le _
 broader := fun s hs => by cases hs
 nbroader := Nat.zero_le _
 posts := fun s hs => by cases hs
 nposts := Nat.zero_le _
theorem zd9 {b : List Int} (hb : isB b) (hl : b.length ≤ 60000) {d : IdM} (hd : z6e d) {a : Nat} : ∀ i, (zz b d a i).2.2 = true → ∀ p ∈ (zz b d a i).1, z6e p.ID ∧ p.Path.length ≤ 60000 ∧ ∀ s ∈ p.Path, s.size ≤ 900000
 | 0, _ => fun p hp => by cases hp
 | i + 1, h => by
  rw [zz] at h ⊢
  split at h
  ·rename_i h0; rw [h0] at h; cases h
  rename_i h0
  rw [if_neg h0]
  have ih := zd9 hb hl hd (a := a) i (by simpa using h0)
  cases h1 : jg b (zz b d a i).2.1 1 with
  | none => simp [h1] at h
  | some q =>
   obtain ⟨mn, n⟩ := q
   simp only [h1] at h ⊢
   cases h2 : yj b n with
   | none => simp [h2] at h
   | some q =>
    obtain ⟨p, n'⟩ := q
    have hs := zhv hb hl h2
    have hs2 := z5u p
    simp only
    intro y hy
    rcases List.mem_append.1 hy with hy | hy
    ·exact ih y hy
    ·rw [List.mem_singleton] at hy
     rw [hy]
     exact ⟨hd, by dsimp only; omega, fun s hs' => by have : s.size + 1 ≤ z05 p := z2t hs'; omega⟩
theorem zn9 {b : List Int} (hb : isB b) (hl : b.length ≤ 60000) {x : EventM} {n : Nat} (h : yf b 0 = some (x, n)) : OkEv x := by
 unfold yf at h
 cases h1 : v8 b 0 with
 | none => simp [h1] at h
 | some q =>
  obtain ⟨l, n1⟩ := q
  have a1 := Z8 hb (Nat.zero_le _) h1
  simp only [h1] at h
  split at h
  ·cases h
  cases h2 : v8 b n1 with
  | none => simp [h2] at h
  | some q =>
   obtain ⟨r, n2⟩ := q
   have a2 := Z8 hb a1.1 h2
   simp only [h2] at h
   split at h
   ·cases h
   ·simp only [Option.some.injEq, Prod.mk.injEq] at h
    rw [← h.1]
    exact zl4 (z5m hb h1) (z5m hb h2) (by omega)
theorem zna {b : List Int} (hb : isB b) (hl : b.length ≤ 60000) {x y : EventM} {n m : Nat} (hx : OkEv x) (h : Qw b x n = some (y, m)) : OkEv y := by
 unfold Qw at h
 split at h
 ·split at h
  ·cases h
  ·rename_i h0
   simp only [Option.some.injEq, Prod.mk.injEq] at h
   rw [← h.1]
   have hd : (b.drop n).length = b.length - n := List.length_drop
   have := ziz (zt hb n) (by omega) (Classical.not_not.1 h0)
   exact { hx with op := this }
 split at h
 ·unfold yl at h
  cases h1 : v8 b n with
  | none => simp [h1] at h
  | some q =>
   obtain ⟨k, n1⟩ := q
   have i1 := z5m hb h1
   simp only [h1] at h
   split at h
   ·cases h
   cases h2 : yj b n1 with
   | none => simp [h2] at h
   | some q =>
    obtain ⟨s, n2⟩ := q
    have i2 := zhv hb hl h2
    have i3 := z5u s
    simp only [h2] at h
    split at h
    ·cases h
    ·simp only [Option.some.injEq, Prod.mk.injEq] at h
     rw [← h.1]
     exact { hx with tk := va i1 _, tl := va i1 _, name := by have := zlb i2 0; show (s.getD 0 default).size ≤ _; omega, see := by have := zlb i2 1; show (s.getD 1 default).size ≤ _; omega, broader := fun z hz => by have := z2t (List.mem_of_mem_drop hz); omega, nbroader := by show (s.drop 2).length ≤ _; rw [List.length_drop]; omega }
 split at h
 ·unfold z1o at h
  cases h1 : v8 b n with
  | none => simp [h1] at h
  | some q =>
   obtain ⟨k, n1⟩ := q
   have i1 := z5m hb h1
   have hk : z6e (idR k) := ⟨va i1 _, va i1 _, va i1 _⟩
   simp only [h1] at h
   split at h
   ·cases h
   split at h
   ·simp only [Option.some.injEq, Prod.mk.injEq] at h
    rw [← h.1]
    exact { hx with id := hk, n := va i1 _ }
   cases h2 : jg b n1 16 with
   | none => simp [h2] at h
   | some q =>
    obtain ⟨c, n2⟩ := q
    simp only [h2] at h
    split at h
    ·cases h
    ·rename_i h3
     have h3' : (zz b (idR k) n2 c.toNat).2.2 = true := by simpa using h3
     have hc : c ≤ 16 := by
      unfold jg at h2
      split at h2
      ·rename_i h0
       have h5 := h0.2
       unfold we at h5
       simp only [Bool.and_eq_true, decide_eq_true_eq] at h5
       simp only [Option.some.injEq, Prod.mk.injEq] at h2
       omega
      ·cases h2
     simp only [Option.some.injEq, Prod.mk.injEq] at h
     rw [← h.1]
     exact { hx with id := hk, posts := zd9 hb hl hk _ h3', nposts := by show (zz b (idR k) n2 c.toNat).1.length ≤ _; rw [z1c _ h3']; omega }
 ·simp only [Option.some.injEq, Prod.mk.injEq] at h
  rw [← h.1]; exact hx
theorem zcl {b : List Int} (hb : isB b) (hl : b.length ≤ 60000) {x : EventM} {n : Nat} (h : qf b 0 = some (x, n)) : OkEv x := by
 unfold qf at h
 cases h1 : yf b 0 with
 | none => simp [h1] at h
 | some q =>
  obtain ⟨y, m⟩ := q
  simp only [h1] at h
  exact zna hb hl (zn9 hb hl h1) h
theorem zwp : OkEv z1n := zl4 (l := []) (r := []) (by simp) (by simp) (by decide)
theorem zu0 {b : List Int} (hb : isB b) (hl : b.length ≤ 60000) : OkEv (Qk b).1 := by
 unfold Qk
 cases h : qf b 0 with
 | none => exact zwp
 | some q =>
  obtain ⟨x, n⟩ := q
  simp only
  split
  ·exact zcl hb hl h
  ·exact zwp
def Zd (B raw : List Int) (k : Nat) (to : Int) : List (List Int) := [B, B.set k to, B.take k, B ++ [to], raw.take (min raw.length 60)]
def OkS (s : List Int) : Prop := isB s ∧ s.length ≤ 1000000 ∧ (∀ x n, qf s 0 = some (x, n) → OkEv x) ∧ OkEv (Qk s).1
theorem zac {s : List Int} (h : isB s) (hl : s.length ≤ 60000) : OkS s := ⟨h, by omega, fun _ _ hx => zcl h hl hx, zu0 h hl⟩
theorem zuj {b : List Int} (h : isB b) (k : Nat) {x : Int} (hx : 0 ≤ x ∧ x ≤ 255) : isB (b.set k x) := fun y hy => by
 rcases List.mem_or_eq_of_mem_set hy with hy | rfl
 ·exact h y hy
 ·exact hx
theorem zva {B raw : List Int} {k : Nat} {to : Int} (hB : isB B) (hl : B.length ≤ 59000) (hr : isB raw) (hto : 0 ≤ to ∧ to ≤ 255) : ∀ s ∈ Zd B raw k to, OkS s := by
 intro s hs
 simp only [Zd, List.mem_cons, List.not_mem_nil, or_false] at hs
 rcases hs with rfl | rfl | rfl | rfl | rfl
 ·exact zac hB (by omega)
 ·exact zac (zuj hB k hto) (by rw [List.length_set]; omega)
 ·exact zac (zgu hB k) (by rw [List.length_take]; omega)
 ·exact zac (jf hB fun x hx => by rw [List.mem_singleton] at hx; subst hx; exact hto) (by simp; omega)
 ·exact zac (zgu hr _) (by rw [List.length_take]; omega)
theorem zya {k : Nat} {e : EventM} (h : SmEv k e) (hk : k ≤ 3) {raw : List Int} {j : Nat} {to : Int} (hr : isB raw) (hto : 0 ≤ to ∧ to ≤ 255) : ∀ s ∈ Zd (evB e) raw j to, OkS s :=
 zva (zua (zb1 h (by omega))) (by have := zt2 h (by omega); omega) hr hto
end Go.Proofs.YtabjaaonfaejmaaGreatDoor

