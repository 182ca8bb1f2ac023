/- A part of the proof. -/
import Derived.Test.YtabjaaonfaejmaaGreatDoorHP44
import Derived.Test.YtabjaaonfaejmaaGreatDoorHP45
import Derived.Test.YtabjaaonfaejmaaGreatDoorHAv51
import Derived.Test.YtabjaaonfaejmaaGreatDoorHP42
import Derived.Test.YtabjaaonfaejmaaGreatDoorHP43
set_option linter.all false
namespace Go.Proofs.YtabjaaonfaejmaaGreatDoor
open Go.Av
theorem zw1 (B : List Int) : x5 (fun x y : Int => x == y) B B = true := z4m (fun x => by simp)
theorem zi0 (e : EventM) : Z0 e e = true := by
 simp [Z0, ju, Qr, Z1, w6, xg, wh, z2q, wy, z4m]
theorem zku (t : Int) (l : List ByteArray) : (dgM t l).length = 16 := by simp [dgM, zbb]
theorem zub (e : EventM) : 0 < (evB e).length := by
 simp only [evB, Zh, zcy, List.length_append, w7]
 omega
theorem zyl (B : List Int) (k : Nat) (to : Int) : ((B.map u8D).map AV.dat).set k (AV.dat (u8D to)) = ((B.set k to).map u8D).map AV.dat := by rw [List.map_set, List.map_set]
set_option maxRecDepth 100000 in
set_option maxHeartbeats 8000000 in
theorem zmm (G) (g0 : G.lookup 0 = some (wsD kH)) (g1 : G.lookup 1 = some (wsD kH)) (q : List Int) (how b at_ to : Int) (raw : List Int) (hq : ∀ n ∈ q, I64 n) (hh : I64 how) (hbb : I64 b) (hat : I64 at_) (hto : 0 ≤ to ∧ to ≤ 255) (hraw : isB raw) : zo Tryz.prog G 4 [isD q, iD how, iD b, iD at_, .int .u8 to, wm raw] [bD true] := by
 have h1 := zxt q
 have hq0 := zqw G q hq
 generalize evG q = e at *
 have h2 : SmEv 1 (qe e how b) := zws h1 (by omega) hbb _
 have h3 : SmEv 2 (qe (qe e how b) b how) := zws h2 (by omega) hh _
 obtain ⟨L, hL⟩ : ∃ L, L = [e, qe e how b, qe (qe e how b) b how] := ⟨_, rfl⟩
 have hLl : L.length = 3 := by rw [hL]; rfl
 have hLm : ∀ x ∈ L, SmEv 3 x := by
  rw [hL]
  simp only [List.forall_mem_cons]
  exact ⟨zb2 (zb2 (zb2 h1)), zb2 (zb2 h2), zb2 h3, by simp⟩
 have hLs : ∀ x ∈ L, OkEv x ∧ (evB x).length ≤ 1000000 := by
  rw [hL]
  simp only [List.forall_mem_cons]
  exact ⟨⟨zb1 h1 (by omega), by have := zkf h1 (by omega); omega⟩, ⟨zb1 h2 (by omega), by have := zkf h2 (by omega); omega⟩, ⟨zb1 h3 (by omega), by have := zkf h3 (by omega); omega⟩, by simp⟩
 have hL3 : Dat.sl [zr e, zr (qe e how b), zr (qe (qe e how b) b how)] = yz L := by rw [hL]; rfl
 skip
 skip
 skip
 refine GI [108, 111] [88, 105] [] Tryz.func4 Tryz.ntmps4 fun F hP hG hN hR hA => ?_
 have hE := And.intro @Tryz.results4 (And.intro @hLl (And.intro @Nat.min_self (@List.take_length.{0})))
 refine WS [0, 1, 2, 3, 4, 5] [88, 105] ?_
 have hc := gvF hP hG (hq0)
 refine WSc [1, 2, 3, 4, 5, 13] [13, 88, 105] ?_
 have hc := gvF hP hG (zdl G e how b (zb1 h1 (by omega)) hh hbb)
 refine WSc [1, 2, 3, 4, 5, 13, 14] [13, 14, 88, 105] ?_
 apply wn [3, 4, 5, 15] [40, 88, 105] [0, 1, 2, 3, 4, 5, 6, 7] []
 ·rw [hP]; kernel_rfl
 ·exact hR
 ·kernel_rfl
 ·(repeat (apply PickL.cons; exact rfl)); exact PickL.nil _
 ·refine RN ?_
  refine CU (zdl G (qe e how b) b how (zb1 h2 (by omega)) hbb hh) ?_
  exact SC
 apply z6
 rw [hL3]
 refine WS [3, 4, 5, 15, 16] [40, 88, 105] ?_
 apply zc
 refine WL (ι := {i : Nat // i ≤ 3}) [3, 4, 5, 15] [40, 88, 105] (fun ⟨i, hi⟩ => [(16, .dat (iD i))]) (fun ⟨i, hi⟩ => []) (fun ⟨i, hi⟩ => 3 - i) (⟨0, by omega⟩) ?_
 rintro ⟨i, hi⟩
 refine LA ?_
 apply z6
 refine WS [3, 4, 5, 15, 16, 44] [40, 88, 105] ?_
 refine WI ?_ ?_ <;> intro hb
 ·have hx := x4 hLs (i := i) (by omega)
  have hsx := fun k => zya (x4 hLm (i := i) (by omega)) (by omega) (j := k) hraw hto
  have hB0 := zub (L.getD i default)
  obtain ⟨B, hB⟩ : ∃ B, B = evB (L.getD i default) := ⟨_, rfl⟩
  have c1 := zm0 G (L.getD i default) hx.1
  have c2 := zkk G (L.getD i default) hx.1
  have c3 := zn0 G g1 (L.getD i default) hx.1 hx.2
  have c4 := zk1 G g0 (L.getD i default) hx.1 hx.2
  have hBl := hx.2
  rw [← hB] at c1 c2 c3 c4 hBl hsx hB0
  have hE := And.intro hE (zw1 B)
  apply z9
  apply z7
  apply z6
  apply zc
  have hc := gvF hP hG (c1)
  refine WSc [3, 4, 5, 15, 16, 17] [40, 88, 105] ?_
  apply z6
  refine WDF [3, 4, 5, 15, 16, 17, 84] [40, 88, 105] [(0, 52, _), (1, 53, _), (2, 54, _), (3, 55, _), (4, 56, _), (5, 57, _), (6, 58, _), (7, 59, _), (8, 60, _), (9, 61, _), (10, 62, _), (11, 63, _), (12, 64, _), (13, 65, _), (14, 66, _), (15, 67, _), (16, 68, _), (17, 69, _), (18, 70, .dat (bD false)), (19, 71, _), (20, 72, _), (21, 73, _), (22, 74, _), (23, 75, _), (24, 76, _), (25, 77, _), (26, 78, _), (27, 79, _), (28, 80, _), (29, 81, _), (30, 82, _), (31, 83, .dat (bD false)), (32, 84, _)] [] ⟨FV 0 [] [2, 3, 4, 6, 7, 8, 9, 10, 11, 12, 13, 14, 15, 16, 17, 18, 19, 20, 21, 22, 23, 24, 25, 26, 27, 28, 29, 30, 31, 32], FV 1 [] [2, 3, 4, 6, 7, 8, 9, 10, 11, 12, 13, 14, 15, 16, 17, 18, 19, 20, 21, 22, 23, 24, 25, 26, 27, 28, 29, 30, 31, 32], FV 2 [0, 1] [3, 4, 6, 7, 8, 9, 10, 11, 12, 13, 14, 15, 16, 17, 18, 19, 20, 21, 22, 23, 24, 25, 26, 27, 28, 29, 30, 31, 32], FV 3 [0, 1, 2] [4, 6, 7, 8, 9, 10, 11, 12, 13, 14, 15, 16, 17, 18, 19, 20, 21, 22, 23, 24, 25, 26, 27, 28, 29, 30, 31, 32], (by have hc := gvF hP hG (c2); exact FVc 4 [0, 1, 2, 3] [6, 7, 8, 9, 10, 11, 12, 13, 14, 15, 16, 17, 18, 19, 20, 21, 22, 23, 24, 25, 26, 27, 28, 29, 30, 31, 32]), FV 5 [] [6, 7, 8, 9, 10, 11, 12, 13, 14, 15, 16, 17, 18, 19, 20, 21, 22, 23, 24, 25, 26, 27, 28, 29, 30, 31, 32], (by have hc := gvF hP hG (zav G B B (by omega)); exact FVc 6 [0, 1, 2, 3, 4, 5] [7, 8, 9, 10, 11, 12, 13, 14, 15, 16, 17, 18, 19, 20, 21, 22, 23, 24, 25, 26, 27, 28, 29, 30, 31, 32]), FV 7 [0, 1, 2, 3, 4, 5, 6] [8, 9, 10, 11, 12, 13, 14, 15, 16, 17, 18, 19, 20, 21, 22, 23, 24, 25, 26, 27, 28, 29, 30, 31, 32], FV 8 [0, 1, 2, 3, 4, 5, 6, 7] [9, 10, 11, 12, 13, 14, 15, 16, 17, 18, 19, 20, 21, 22, 23, 24, 25, 26, 27, 28, 29, 30, 31, 32], FG 9 [0, 1, 2, 3, 4, 5, 6, 7, 8] [11, 12, 13, 17, 18, 19, 20, 21, 22, 23, 24, 25, 26, 27, 28, 29, 30, 31, 32], FG 10 [0, 1, 2, 3, 4, 5, 6, 7, 8] [11, 12, 13, 17, 18, 19, 20, 21, 22, 23, 24, 25, 26, 27, 28, 29, 30, 31, 32], FG 11 [0, 1, 2, 3, 4, 5, 6, 7, 8, 9, 10] [12, 13, 17, 18, 19, 20, 21, 22, 23, 24, 25, 26, 27, 28, 29, 30, 31, 32], FG 12 [0, 1, 2, 3, 4, 5, 6, 7, 8, 9, 10, 11] [13, 17, 18, 19, 20, 21, 22, 23, 24, 25, 26, 27, 28, 29, 30, 31, 32], (by have hc := gvF hP hG (c3); exact FGc 13 [0, 1, 2, 3, 4, 5, 6, 7, 8, 9, 10, 11, 12] [17, 18, 19, 20, 21, 22, 23, 24, 25, 26, 27, 28, 29, 30, 31, 32]), FG 14 [0, 1, 2, 3, 4, 5, 6, 7, 8] [15, 16, 17, 18, 19, 20, 21, 22, 23, 24, 25, 26, 27, 28, 29, 30, 31, 32], FG 15 [0, 1, 2, 3, 4, 5, 6, 7, 8, 14] [16, 17, 18, 19, 20, 21, 22, 23, 24, 25, 26, 27, 28, 29, 30, 31, 32], FG 16 [0, 1, 2, 3, 4, 5, 6, 7, 8, 14, 15] [17, 18, 19, 20, 21, 22, 23, 24, 25, 26, 27, 28, 29, 30, 31, 32], (by have hc := gvF hP hG (zr1 G g1 [X1 B] (by simp) (by intro s hs; rw [List.mem_singleton] at hs; rw [hs, z1w]; exact hBl)); exact FGc 17 [0, 1, 2, 3, 4, 5, 6, 7, 8, 9, 10, 11, 12, 13, 14, 15, 16] [18, 19, 20, 21, 22, 23, 24, 25, 26, 27, 28, 29, 30, 31, 32]), (FGs 18 [0, 1, 2, 3, 4, 5, 6, 7, 8, 9, 10, 11, 12, 13, 14, 15, 16, 17] [19, 20, 21, 22, 23, 24, 25, 26, 27, 28, 29, 30, 31, 32] (fun D hA1 hA2 => by simp only [v9, NoD] at hA1 hA2; exact z8s (n := 16) rfl rfl (by rw [hN]; omega) (by rw [hP]; unfold zn6; kernel_rfl) EV' EV' (zku _ _))), FV 19 [0, 1, 2, 3, 4, 5, 6, 7, 8, 9, 10, 11, 12, 13, 14, 15, 16, 17, 18] [20, 21, 22, 23, 24, 25, 26, 27, 28, 29, 30, 31, 32], FV 20 [0, 1, 2, 3, 4, 5, 6, 7, 8, 9, 10, 11, 12, 13, 14, 15, 16, 17, 18, 19] [21, 22, 23, 24, 25, 26, 27, 28, 29, 30, 31, 32], FG 21 [0, 1, 2, 3, 4, 5, 6, 7, 8, 9, 10, 11, 12, 13, 14, 15, 16, 17, 18, 19, 20] [23, 24, 25, 30, 31, 32], FG 22 [0, 1, 2, 3, 4, 5, 6, 7, 8, 9, 10, 11, 12, 13, 14, 15, 16, 17, 18, 19, 20] [23, 24, 25, 30, 31, 32], FG 23 [0, 1, 2, 3, 4, 5, 6, 7, 8, 9, 10, 11, 12, 13, 14, 15, 16, 17, 18, 19, 20, 21, 22] [24, 25, 30, 31, 32], FG 24 [0, 1, 2, 3, 4, 5, 6, 7, 8, 9, 10, 11, 12, 13, 14, 15, 16, 17, 18, 19, 20, 21, 22, 23] [25, 30, 31, 32], (by have hc := gvF hP hG (c3); exact FGc 25 [0, 1, 2, 3, 4, 5, 6, 7, 8, 9, 10, 11, 12, 13, 14, 15, 16, 17, 18, 19, 20, 21, 22, 23, 24] [30, 31, 32]), FG 26 [0, 1, 2, 3, 4, 5, 6, 7, 8, 9, 10, 11, 12, 13, 14, 15, 16, 17, 18, 19, 20] [28, 29, 30, 31, 32], FG 27 [0, 1, 2, 3, 4, 5, 6, 7, 8, 9, 10, 11, 12, 13, 14, 15, 16, 17, 18, 19, 20] [28, 29, 30, 31, 32], FG 28 [0, 1, 2, 3, 4, 5, 6, 7, 8, 9, 10, 11, 12, 13, 14, 15, 16, 17, 18, 19, 20, 26, 27] [29, 30, 31, 32], FG 29 [0, 1, 2, 3, 4, 5, 6, 7, 8, 9, 10, 11, 12, 13, 14, 15, 16, 17, 18, 19, 20, 26, 27, 28] [30, 31, 32], (by have hc := gvF hP hG (c4); exact FGc 30 [0, 1, 2, 3, 4, 5, 6, 7, 8, 9, 10, 11, 12, 13, 14, 15, 16, 17, 18, 19, 20, 21, 22, 23, 24, 25, 26, 27, 28, 29] [31, 32]), (FGs 31 [0, 1, 2, 3, 4, 5, 6, 7, 8, 9, 10, 11, 12, 13, 14, 15, 16, 17, 18, 19, 20, 21, 22, 23, 24, 25, 26, 27, 28, 29, 30] [32] (fun D hA1 hA2 => by simp only [v9, NoD] at hA1 hA2; exact z8s (n := 16) rfl rfl (by rw [hN]; omega) (by rw [hP]; unfold zn6; kernel_rfl) EV' EV' (zku _ _))), FV 32 [0, 1, 2, 3, 4, 5, 6, 7, 8, 9, 10, 11, 12, 13, 14, 15, 16, 17, 18, 19, 20, 21, 22, 23, 24, 25, 26, 27, 28, 29, 30, 31] [], trivial⟩ ?_
  refine WI ?_ ?_ <;> intro hb
  ·exact absurd hb (by simp)
  ·apply z9
   apply z7
   apply zu [3, 4, 5, 15, 16, 17, 18] [40, 88, 105]
   ·refine RN ?_
    refine CX (fun _ => 88) [13] (z9c G B B.length hBl) ?_
    exact SC
   have hc := gvF hP hG (kq G at_ B.length hat (by omega) (by unfold I64; omega))
   refine WSc [3, 4, 5, 15, 16, 17, 18, 19] [40, 88, 105] ?_
   have har := xj (n := at_) (m := (B.length : Int)) (by omega)
   obtain ⟨k, hk⟩ : ∃ k : Nat, wc at_ B.length = (k : Int) := ⟨(wc at_ B.length).toNat, by omega⟩
   rw [hk] at har ⊢
   have hkl : k < B.length := by omega
   have hE := And.intro hE Int.toNat_natCast
   refine WS [3, 4, 5, 15, 16, 17, 18, 19] [40, 88, 105] ?_
   refine jh 88 hR.2.2.2 rfl (ds := (B.set k to).map u8D) ((congrArg j6 (zyl B k to)).trans (datE_map _)) ?_
   have htk : List.take B.length ((B.set k to).map u8D) = (B.set k to).map u8D := List.take_of_length_le (by simp)
   have hle : B.length ≤ (B.set k to).length := by rw [List.length_set]; exact Nat.le_refl _
   simp (disch := omega) only [avA, zl, zp, seval, hE, htk, if_pos hle]
   refine WDF [3, 4, 5, 15, 16, 20] [40, 107, 108, 111, 88, 105] [(0, 97, _), (1, 98, _), (2, 99, _), (3, 100, _), (4, 101, _), (5, 102, _), (6, 103, _), (7, 104, _), (8, 105, .osl 105 1 0 B.length), (9, 106, .dat (.int .u8 to)), (10, 107, .dat (.sl [.int .u8 to])), (11, 108, .osl 108 1 0 (B.length + 1)), (12, 109, .dat (wm raw)), (13, 110, .dat (wm (raw.take (min raw.length 60)))), (14, 111, .osl 111 1 0 5), (15, 20, .osl 111 1 0 5)] [(14, 111, some ⟨1, [.dat (wm B), .dat (wm (B.set k to)), .dat (wm (B.take k)), .osl 108 1 0 (B.length + 1), .dat (wm (raw.take (min raw.length 60)))]⟩), (11, 108, some ⟨1, (B.map u8D).map .dat ++ [.dat (.int .u8 to)]⟩), (11, 105, none), (8, 105, some ⟨1, (B.map u8D).map .dat⟩)] ⟨FV 0 [] [14, 15], FV 1 [] [14, 15], FV 2 [] [4, 14, 15], FV 3 [] [4, 14, 15], FV 4 [2, 3] [14, 15], FV 5 [] [8, 11, 13, 14, 15], FV 6 [] [7, 8, 11, 13, 14, 15], FV 7 [6] [8, 11, 13, 14, 15], FN 8 3 [5, 6, 7] [11, 13, 14, 15] (hfix := by
     intro D hA1 hA2
     simp only [v9, NoD] at hA1 hA2
     exact zeb (z6k (by simp [AV.kill, killL]) (by simp [AV.kill, killL])) (by simp [AV.kill, killL, hA1, hA2]) (by simp [AV.kill, killL, hA1, hA2])) (h := by
     intro D hA1 hA2
     simp only [v9, NoD] at hA1 hA2
     simp (maxSteps := 2000000) (disch := omega) only [qq, avA, zl, zp, seval, ↓List.forall_mem_cons, Op.operands, hA, tiA, hE, Z3, hA1, hA2]
     (repeat' refine And.intro ?_ ?_) <;> try exact SD
     refine CallC.useX (fun _ => 105) [13] (by simp [zbp, hR.2.1]) (zuf hP hG (z9c G B B.length hBl)) rfl (qv hN (by first | trivial | (simp (maxSteps := 2000000) (disch := omega) only [yc, AObj.ren, AV.ren, renL, qy, List.map_cons, List.map_nil, avA, seval, hE, Z3, hA1, hA2] <;> ((repeat' apply And.intro) <;> first | trivial | rfl))) (by rfl)) ?_
     simp (maxSteps := 2000000) (disch := omega) only [qq, avA, zl, zp, seval, ↓List.forall_mem_cons, Op.operands, hA, tiA, hE, Z3, hA1, hA2, avX]
     all_goals exact SC), FV 9 [] [10, 11, 13, 14, 15], FV 10 [9] [11, 13, 14, 15], FA 11 1 2 [5, 6, 7, 8, 9, 10] [13, 14, 15] (hfix := by
     intro D hA1 hA2
     simp only [v9, NoD] at hA1 hA2
     exact zeb (z6k (by simp [AV.kill, killL]) (by simp [AV.kill, killL])) (by simp [AV.kill, killL, hA1, hA2]) (by simp [AV.kill, killL, hA1, hA2])) (h := by
     intro D hA1 hA2
     simp only [v9, NoD] at hA1 hA2
     simp (maxSteps := 2000000) (disch := omega) only [qq, avA, zl, zp, seval, ↓List.forall_mem_cons, Op.operands, hA, tiA, hE, Z3, hA1, hA2]
     all_goals exact SC), FV 12 [] [13, 14, 15], FV 13 [5, 6, 7, 8, 9, 10, 11, 12] [14, 15] (h := by
     intro D hA1 hA2
     simp only [v9, NoD] at hA1 hA2
     simp (maxSteps := 2000000) (disch := omega) only [qq, avA, zl, zp, seval, ↓List.forall_mem_cons, Op.operands, hA, tiA, hE, Z3, hA1, hA2]
     (repeat' refine And.intro ?_ ?_) <;> try exact SD
     refine CallC.use (gvF hP hG (zud G raw 60 (by omega))) rfl ?_
     try simp (maxSteps := 2000000) (disch := omega) only [qq, avA, zl, zp, seval, ↓List.forall_mem_cons, Op.operands, hA, tiA, hE, Z3, hA1, hA2]
     all_goals exact SC), FN 14 0 [0, 1, 2, 3, 4, 5, 6, 7, 8, 9, 10, 11, 12, 13] [15] (hfix := by
     intro D hA1 hA2
     simp only [v9, NoD] at hA1 hA2
     exact zeb (z6k (by simp [AV.kill, killL]) (by simp [AV.kill, killL])) (by simp [AV.kill, killL, hA1, hA2]) (by simp [AV.kill, killL, hA1, hA2])) (h := by
     intro D hA1 hA2
     simp only [v9, NoD] at hA1 hA2
     simp (maxSteps := 2000000) (disch := omega) only [qq, avA, zl, zp, seval, ↓List.forall_mem_cons, Op.operands, hA, tiA, hE, Z3, hA1, hA2]
     all_goals exact SC), FV 15 [0, 1, 2, 3, 4, 5, 6, 7, 8, 9, 10, 11, 12, 13, 14] [], trivial⟩ ?_
   refine jh 108 hR.2.2.2 rfl (ds := (B ++ [to]).map u8D) ((congrArg j6 (by simp)).trans (datE_map _)) ?_
   have htk2 : List.take (B.length + 1) (B.map u8D ++ [u8D to]) = B.map u8D ++ [u8D to] := List.take_of_length_le (by simp)
   have hle2 : B.length + 1 ≤ (B ++ [to]).length := by simp
   simp (disch := omega) only [avA, zl, zp, seval, hE, htk2, if_pos hle2]
   refine jh 111 hR.2.2.2 rfl (ds := (Zd B raw k to).map wm) (by simp [j6, Zd]) ?_
   have hb5 : (Zd B raw k to).length = 5 := rfl
   have htk3 : List.take 5 ((Zd B raw k to).map wm) = (Zd B raw k to).map wm := List.take_of_length_le (by simp [hb5])
   have hE := And.intro hE hb5
   simp (disch := omega) only [avA, zl, zp, seval, hE, htk3]
   refine WS [3, 4, 5, 15, 16, 20, 21] [40, 107, 108, 111, 88, 105] ?_
   apply zc
   refine WL (ι := {j : Nat // j ≤ 5}) [3, 4, 5, 15, 16, 20] [40, 107, 108, 111, 88, 105] (fun ⟨j, hj⟩ => [(21, .dat (iD j))]) (fun ⟨j, hj⟩ => []) (fun ⟨j, hj⟩ => 5 - j) (⟨0, by omega⟩) ?_
   rintro ⟨j, hj⟩
   refine LA ?_
   apply z6
   refine WS [3, 4, 5, 15, 16, 20, 21, 115] [40, 107, 108, 111, 88, 105] ?_
   refine WI ?_ ?_ <;> intro hb
   ·have hs := x4 (hsx k) (i := j) (by show j < 5; omega)
    apply z9
    apply z7
    apply z6
    apply zc
    have hc := gvF hP hG (zmx G ((Zd B raw k to).getD j default) hs.1 hs.2.1 hs.2.2.1)
    refine WSc [3, 4, 5, 15, 16, 20, 21, 22, 23, 24] [22, 40, 107, 108, 111, 88, 105] ?_
    have hc := gvF hP hG (zk0 G ((Zd B raw k to).getD j default) hs.1 hs.2.1 hs.2.2.1)
    refine WSc [3, 4, 5, 15, 16, 20, 21, 22, 23, 24, 25, 26, 27] [22, 25, 40, 107, 108, 111, 88, 105] ?_
    apply zu [3, 4, 5, 15, 16, 20, 21, 149] [40, 107, 108, 111, 88, 105]
    ·refine RN ?_
     refine CG (zw0 G (Qk ((Zd B raw k to).getD j default)).1 (Qk ((Zd B raw k to).getD j default)).1 hs.2.2.2) ?_
     exact SC
    refine WI ?_ ?_ <;> intro hb
    ·exact absurd hb (by rw [zi0]; simp)
    ·apply z9
     apply zg
     apply z7
     refine WQ [3, 4, 5, 15, 16, 20, 21] [40, 107, 108, 111, 88, 105] ?_
     refine WN (⟨j + 1, by omega⟩)
   ·apply zn
    apply zh
    have hend : j = 5 := by omega
    subst hend
    apply ze
    apply zw
    apply zg
    apply z7
    refine WQ [3, 4, 5, 15, 16] [40, 88, 105] ?_
    refine WN (⟨i + 1, by omega⟩)
 ·apply zn
  apply zh
  have hend : i = 3 := by omega
  subst hend
  apply ze
  apply zw
  apply z7
  have hc := gvF hP hG (zrk G)
  refine WSc [12] [88, 105] ?_
  apply za
  exact E0
open Go.Av Go.ChangeShapes Go.WideShapes Go.ChangeAt Go.RowKit
mutual
/-- How great a datum is. -/
def z3q : Dat → Nat
 | .str s => s.size + 1
 | .sl l => y5 l + 1
 | .agg l => y5 l
 | _ => 1
def y5 : List Dat → Nat
 | [] => 0
 | d :: l => z3q d + y5 l
end
theorem z62 : ∀ a b : List Dat, y5 (a ++ b) = y5 a + y5 b
 | [], b => by simp [y5]
 | d :: a, b => by rw [List.cons_append, y5, y5, z62 a b]; omega
section
variable (P : Program)
def z4c (t : TypeId) : Bool := match P.underlying t with
 | some (.struct _) | some (.array _ _) => true
 | _ => false
def elD (t : TypeId) (ds : List Dat) : Dat := if z4c P t = true then .agg ds else ds.headD .nilp
def tiles : Nat → List Field → Nat → Bool
 | off, [], tot => off == tot
 | off, f :: fs, tot => f.offset == off && tiles (off + P.cellsOf f.type) fs tot
def Zr : Nat → TypeId → Bool
 | 0, _ => false
 | n + 1, t => match P.underlying t with
  | some (.int _) | some .bool | some .string => true
  | some (.slice e) => Zr n e && (0 < P.cellsOf e : Bool) && (z4c P e || P.cellsOf e == 1)
  | some (.struct fs) => fs.toList.all (fun f => Zr n f.type) && tiles P 0 fs.toList (P.cellsOf t)
  | some (.array m e) => Zr n e && m * P.cellsOf e == P.cellsOf t
  | _ => false
def zy8 (ok : TypeId → List Dat → Prop) : List Field → List Dat → Prop
 | [], ds => ds = []
 | f :: fs, ds => ∃ a b, ds = a ++ b ∧ ok f.type a ∧ zy8 ok fs b
def zs0 (ok : List Dat → Prop) : Nat → List Dat → Prop
 | 0, ds => ds = []
 | m + 1, ds => ∃ a b, ds = a ++ b ∧ ok a ∧ zs0 ok m b
def okT : Nat → TypeId → List Dat → Prop
 | 0, _, _ => False
 | n + 1, t, ds => match P.underlying t with
  | some (.int k) => ∃ m, ds = [.int k m] ∧ (Lit.int k m).wf = true
  | some .bool => ∃ b, ds = [.bool b]
  | some .string => ∃ s, ds = [.str s] ∧ s.size ≤ maxLen
  | some (.slice e) => ∃ l, ds = [.sl l] ∧ l.length ≤ maxLen ∧ ∀ d ∈ l, ∃ es, okT n e es ∧ d = elD P e es
  | some (.struct fs) => zy8 (okT n) fs.toList ds
  | some (.array m e) => zs0 (okT n e) m ds
  | _ => False
end
theorem zak {S : Nat → Nat → Prop} {w : World} : ∀ {a b : List Dat} {u v : List Value}, RepL S w a u → RepL S w b v → RepL S w (a ++ b) (u ++ v)
 | [], _, _, _, h, k => by simp only [RepL] at h; subst h; simpa using k
 | d :: a, b, u, v, h, k => by
  simp only [RepL] at h
  obtain ⟨x, u', rfl, h1, h2⟩ := h
  simp only [List.cons_append, RepL]
  exact ⟨x, u' ++ v, rfl, h1, zak h2 k⟩
theorem kd {S : Nat → Nat → Prop} {w : World} {b : Nat} : ∀ {ds : List Dat} {cs : List Value} {off : Nat}, RepL S w ds cs → (∀ j v, cs[j]? = some v → S b (off + j) ∧ w.cell? ⟨b, off + j, none⟩ = some v) → RepC S w ds b off
 | [], _, _, _, _ => by simp [RepC]
 | d :: ds, cs, off, h, k => by
  simp only [RepL] at h
  obtain ⟨v, cs', rfl, h1, h2⟩ := h
  simp only [RepC]
  have k0 := k 0 v (by simp)
  refine ⟨⟨by simpa using k0.1, v, by simpa using k0.2, h1⟩, kd h2 fun j u hu => ?_⟩
  have := k (j + 1) u (by simpa using hu)
  rw [show off + 1 + j = off + (j + 1) by omega]
  exact this
theorem zhm {S : Nat → Nat → Prop} {w : World} : ∀ {ds : List Dat} {cs : List Value}, RepL S w ds cs → cs.length = ds.length
 | [], _, h => by simp only [RepL] at h; subst h; rfl
 | d :: ds, cs, h => by
  simp only [RepL] at h
  obtain ⟨v, cs', rfl, h1, h2⟩ := h
  simp [zhm h2]
theorem zal {S : Nat → Nat → Prop} {w : World} {d : Dat} {cs : List Value} (h : RepL S w [d] cs) : d.isAgg = false ∧ ∃ v, cs = [v] ∧ Rep1 S w d v := by
 simp only [RepL] at h
 obtain ⟨v, cs', rfl, h1, rfl⟩ := h
 refine ⟨?_, v, rfl, h1⟩
 cases d <;> first | rfl | (simp only [Rep1] at h1)
theorem zg2 {d : Dat} (h : d.isAgg = false) : d.cells = [d] := by cases d <;> first | rfl | (simp [Dat.isAgg] at h)
theorem zts {P : Program} {t : TypeId} {ds : List Dat} (h : z4c P t = true ∨ ds.length = 1) : z3q (elD P t ds) ≤ y5 ds := by
 unfold elD
 split
 ·simp [z3q]
 ·rename_i hn
  rcases h with h | h
  ·exact absurd h hn
  ·match ds, h with
   | [d], _ => simp [y5]
theorem zlp {P : Program} {n : Nat} {t : TypeId} {ds : List Dat} (h : okT P n t ds) (ha : z4c P t = false) : ds.length = 1 := by
 cases n with
 | zero => exact h.elim
 | succ n =>
  unfold okT at h
  unfold z4c at ha
  split at h
  ·obtain ⟨_, rfl, _⟩ := h; rfl
  ·obtain ⟨_, rfl⟩ := h; rfl
  ·obtain ⟨_, rfl, _⟩ := h; rfl
  ·obtain ⟨_, rfl, _⟩ := h; rfl
  ·rename_i hu; rw [hu] at ha; simp at ha
  ·rename_i hu; rw [hu] at ha; simp at ha
  ·exact h.elim
theorem zvb {P : Program} {n : Nat} {t : TypeId} {k : IntKind} {ds : List Dat} (hu : P.underlying t = some (.int k)) (h : okT P (n + 1) t ds) : ∃ m, ds = [.int k m] ∧ (Lit.int k m).wf = true := by
 unfold okT at h; rw [hu] at h; exact h
theorem znz {P : Program} {n : Nat} {t e : TypeId} {ds : List Dat} (hu : P.underlying t = some (.slice e)) (h : okT P (n + 1) t ds) : ∃ l, ds = [.sl l] ∧ l.length ≤ maxLen ∧ ∀ d ∈ l, ∃ es, okT P n e es ∧ d = elD P e es := by
 unfold okT at h; rw [hu] at h; exact h
theorem zs1 {P : Program} {n : Nat} {t e : TypeId} {ds : List Dat} {α : Type} {f : α → Dat} {p : α → Prop} (hu : P.underlying t = some (.slice e)) (h : okT P (n + 1) t ds) (hf : ∀ es, okT P n e es → ∃ x, elD P e es = f x ∧ p x) : ∃ l : List α, ds = [.sl (l.map f)] ∧ l.length ≤ maxLen ∧ ∀ x ∈ l, p x := by
 obtain ⟨l, rfl, hl, he⟩ := znz hu h
 have key : ∀ l : List Dat, (∀ d ∈ l, ∃ es, okT P n e es ∧ d = elD P e es) → ∃ m : List α, l = m.map f ∧ ∀ x ∈ m, p x := fun l => by
  induction l with
  | nil => intro _; exact ⟨[], rfl, by simp⟩
  | cons d l ih =>
   intro hd
   obtain ⟨es, h1, rfl⟩ := hd d (by simp)
   obtain ⟨x, hx, hp⟩ := hf es h1
   obtain ⟨m, rfl, hm⟩ := ih fun d h => hd d (by simp [h])
   refine ⟨x :: m, by rw [hx, List.map_cons], fun y hy => ?_⟩
   rcases List.mem_cons.1 hy with rfl | hy
   ·exact hp
   ·exact hm y hy
 obtain ⟨m, rfl, hm⟩ := key l he
 exact ⟨m, rfl, by simpa using hl, hm⟩
section
variable {H : Type} {enc : TypeId × Value → H} {P : Program} {w : World} {sp : Nat → Bool} {held : Bool}
theorem zcn {n m : Nat} (ih : ∀ {t : TypeId} {cs : List Value} {x : DataW H × List MemPlace}, Zr P n t = true → DataW.trod enc P w 0 sp held m t cs = some x → ∃ ds, RepL (Old w) w ds cs ∧ okT P n t ds ∧ y5 ds ≤ Rows.uptoBulk x.1)
  {cs : List Value} : ∀ (fs : List Field) (off : Nat) (xs : List (DataW H × List MemPlace)), tiles P off fs cs.length = true → fs.all (fun f => Zr P n f.type) = true → xs.length = fs.length →
   (∀ (i : Nat) (f : Field), fs[i]? = some f → DataW.trod enc P w 0 sp held m f.type ((cs.drop f.offset).take (P.cellsOf f.type)) = xs[i]?) →
   ∃ ds, RepL (Old w) w ds (cs.drop off) ∧ zy8 (okT P n) fs ds ∧ y5 ds ≤ Rows.uptoBulkAll (xs.map (·.1))
 | [], off, xs, ht, _, hl, _ => by
  simp only [tiles, beq_iff_eq] at ht
  have : xs = [] := List.eq_nil_of_length_eq_zero (by simpa using hl)
  subst this
  exact ⟨[], by simp [RepL, ht], rfl, by simp [y5]⟩
 | f :: fs, off, xs, ht, hs, hl, hx => by
  simp only [tiles, Bool.and_eq_true, beq_iff_eq] at ht
  simp only [List.all_cons, Bool.and_eq_true] at hs
  match xs, hl with
  | x :: xs, hl =>
   have h0 := hx 0 f rfl
   obtain ⟨d1, r1, o1, b1⟩ := ih hs.1 h0
   obtain ⟨d2, r2, o2, b2⟩ := zcn ih fs (off + P.cellsOf f.type) xs ht.2 hs.2 (by simpa using hl) fun i g hg => by
    have := hx (i + 1) g (by simpa using hg)
    simpa using this
   refine ⟨d1 ++ d2, ?_, ⟨d1, d2, rfl, o1, o2⟩, ?_⟩
   ·have := zak r1 r2
    rw [ht.1, ← List.drop_drop] at this
    rwa [List.take_append_drop] at this
   ·rw [z62, List.map_cons]
    simp only [Rows.uptoBulkAll]
    omega
theorem zfr {n m c : Nat} {e : TypeId} (ih : ∀ {cs : List Value} {x : DataW H × List MemPlace}, DataW.trod enc P w 0 sp held m e cs = some x → ∃ ds, RepL (Old w) w ds cs ∧ okT P n e ds ∧ y5 ds ≤ Rows.uptoBulk x.1) :
  ∀ (k : Nat) {cs : List Value} (xs : List (DataW H × List MemPlace)), cs.length = k * c → xs.length = k →
   (∀ (i : Nat), i < k → DataW.trod enc P w 0 sp held m e ((cs.drop (i * c)).take c) = xs[i]?) →
   ∃ ds, RepL (Old w) w ds cs ∧ zs0 (okT P n e) k ds ∧ y5 ds ≤ Rows.uptoBulkAll (xs.map (·.1))
 | 0, cs, xs, hc, hl, _ => by
  have : xs = [] := List.eq_nil_of_length_eq_zero hl
  subst this
  have : cs = [] := List.eq_nil_of_length_eq_zero (by omega)
  subst this
  exact ⟨[], by simp [RepL], rfl, by simp [y5]⟩
 | k + 1, cs, xs, hc, hl, hx => by
  match xs, hl with
  | x :: xs, hl =>
   have h0 := hx 0 (by omega)
   simp only [Nat.zero_mul, List.drop_zero, List.getElem?_cons_zero] at h0
   obtain ⟨d1, r1, o1, b1⟩ := ih h0
   obtain ⟨d2, r2, o2, b2⟩ := zfr (c := c) ih k (cs := cs.drop c) xs (by rw [List.length_drop, hc, Nat.succ_mul]; omega) (by simpa using hl) fun i hi => by
    have := hx (i + 1) (by omega)
    rw [List.drop_drop, show c + i * c = (i + 1) * c by rw [Nat.succ_mul]; omega]
    simpa using this
   refine ⟨d1 ++ d2, ?_, ⟨d1, d2, rfl, o1, o2⟩, ?_⟩
   ·have := zak r1 r2
    rwa [List.take_append_drop] at this
   ·rw [z62, List.map_cons]
    simp only [Rows.uptoBulkAll]
    omega
theorem zml {P : Program} {e : TypeId} {f : Nat → Dat} {xs : List (DataW H × List MemPlace)} (h : ∀ i x, xs[i]? = some x → z3q (f i) ≤ Rows.uptoBulk x.1) : y5 ((List.range xs.length).map f) ≤ Rows.uptoBulkAll (xs.map (·.1)) := by
 induction xs generalizing f with
 | nil => simp [y5]
 | cons x xs ih =>
  have h0 := h 0 x rfl
  have h1 := ih (f := fun i => f (i + 1)) fun i y hy => h (i + 1) y (by simpa using hy)
  rw [List.length_cons, List.range_succ_eq_map, List.map_cons, List.map_map, y5, List.map_cons]
  simp only [Rows.uptoBulkAll]
  have : ((List.range xs.length).map (f ∘ Nat.succ)) = (List.range xs.length).map (fun i => f (i + 1)) := rfl
  rw [this]
  omega
theorem z5h : ∀ (n : Nat) {t : TypeId} {cs : List Value} {x : DataW H × List MemPlace} {m : Nat}, Zr P n t = true → DataW.trod enc P w 0 sp held m t cs = some x → ∃ ds, RepL (Old w) w ds cs ∧ okT P n t ds ∧ y5 ds ≤ Rows.uptoBulk x.1
 | 0, _, _, _, _, h, _ => by simp [Zr] at h
 | n + 1, t, cs, x, m, hs, h => by
  unfold Zr at hs
  unfold okT
  split at hs
  ·rename_i k ht
   obtain ⟨z, rfl, rfl, hw⟩ := DataW.trod_int ht h
   exact ⟨[.int k z], by simp [RepL, Rep1], ⟨z, rfl, hw⟩, by simp [y5, z3q, Rows.uptoBulk]⟩
  ·rename_i ht
   obtain ⟨z, rfl, rfl⟩ := DataW.trod_bool ht h
   exact ⟨[.bool z], by simp [RepL, Rep1], ⟨z, rfl⟩, by simp [y5, z3q, Rows.uptoBulk]⟩
  ·rename_i ht
   obtain ⟨z, rfl, rfl, hw⟩ := DataW.trod_string ht h
   exact ⟨[.str z], by simp [RepL, Rep1], ⟨z, rfl, hw⟩, by simp [y5, z3q, Rows.uptoBulk]⟩
  ·rename_i e ht
   simp only [Bool.and_eq_true, decide_eq_true_eq, Bool.or_eq_true, beq_iff_eq] at hs
   obtain ⟨⟨hse, hc0⟩, hc1⟩ := hs
   rcases DataW.trod_slice ht h with ⟨rfl, rfl⟩ | ⟨a, len, cap, elems, rest, k, _, rfl, rfl, _, hlc, hcm, hlen, hel, _, _⟩
   ·exact ⟨[.sl []], by simp [RepL, Rep1, RepS], ⟨[], rfl, by simp, by simp⟩, by simp [y5, z3q, Rows.uptoBulk]⟩
   ·have each : ∀ i, i < len → ∃ ds csi, ∃ y, elems[i]? = some y ∧ w.cells? 0 (a.add (i * P.cellsOf e)) (P.cellsOf e) = some csi ∧ RepL (Old w) w ds csi ∧ okT P n e ds ∧ y5 ds ≤ Rows.uptoBulk y.1 := fun i hi => by
     have h2 := hel i hi
     rw [List.getElem?_eq_getElem (by omega), Option.bind_eq_some_iff] at h2
     obtain ⟨csi, h3, h4⟩ := h2
     obtain ⟨ds, r, o, b⟩ := z5h n hse h4
     exact ⟨ds, csi, _, List.getElem?_eq_getElem (by omega), h3, r, o, b⟩
    have hs0 : 0 < len → a.spot = none ∧ a.block < w.heap.size := fun h0 => by
     obtain ⟨ds, csi, y, _, h3, _⟩ := each 0 h0
     have h5 := (World.cells?_some h3)
     have c0 := h5.2.2 0 hc0
     rw [List.getElem?_eq_getElem (by omega)] at c0
     rw [Nat.zero_mul] at c0
     have hsp := z8o (z8o (z2w c0).1)
     have hb := (z2w c0).2
     rw [Zs hsp, Zs rfl] at hb
     exact ⟨hsp, hb⟩
    let g : Nat → List Dat := fun i => if hi : i < len then (each i hi).choose else []
    have hg : ∀ i, i < len → ∃ csi, ∃ y, elems[i]? = some y ∧ w.cells? 0 (a.add (i * P.cellsOf e)) (P.cellsOf e) = some csi ∧ RepL (Old w) w (g i) csi ∧ okT P n e (g i) ∧ y5 (g i) ≤ Rows.uptoBulk y.1 := fun i hi => by
     simp only [g, dif_pos hi]
     exact (each i hi).choose_spec
    refine ⟨[.sl ((List.range len).map fun i => elD P e (g i))], ?_, ⟨_, rfl, by simp; omega, fun d hd => ?_⟩, ?_⟩
    ·simp only [RepL, Rep1]
     refine ⟨_, _, rfl, ⟨P.cellsOf e, some a, cap, by simp, by simp; omega, ?_⟩, rfl⟩
     by_cases h0 : len = 0
     ·subst h0; simp [RepS]
     ·obtain ⟨hsp, hb⟩ := hs0 (by omega)
      have ha : a = ⟨a.block, a.off, none⟩ := by
       obtain ⟨b, o, s⟩ := a
       simp only at hsp
       subst hsp
       rfl
      rw [ha]
      refine Qx fun i d hd => ?_
      have hi : i < len := by simpa using (List.getElem?_eq_some_iff.1 hd).1
      rw [List.getElem?_map, List.getElem?_range hi, Option.map_some, Option.some.injEq] at hd
      subst hd
      obtain ⟨csi, y, _, h3, hr, ho, _⟩ := hg i hi
      have h5 := World.cells?_some h3
      have hcell : ∀ j v, csi[j]? = some v → Old w a.block (a.off + i * P.cellsOf e + j) ∧ w.cell? ⟨a.block, a.off + i * P.cellsOf e + j, none⟩ = some v := fun j v hv => by
       have hj : j < P.cellsOf e := by have := (List.getElem?_eq_some_iff.1 hv).1; omega
       have := h5.2.2 j hj
       rw [Zs hsp, Zs rfl, hv] at this
       exact ⟨hb, this⟩
      have hcl : (g i).length = P.cellsOf e := by rw [← zhm hr]; exact h5.2.1
      have hrc := kd hr hcell
      unfold elD
      split
      ·exact ⟨by simpa using hcl, by simpa using hrc⟩
      ·rename_i hna
       have h1 := zlp ho (by simpa using hna)
       match hgi : g i, h1 with
       | [d], _ =>
        rw [hgi] at hr hrc hcl
        have hnd := (zal hr).1
        simp only [List.headD_cons]
        rw [zg2 hnd]
        exact ⟨by simpa using hcl, hrc⟩
    ·obtain ⟨i, hi, rfl⟩ := List.mem_map.1 hd
     obtain ⟨csi, y, _, h3, hr, ho, _⟩ := hg i (List.mem_range.1 hi)
     exact ⟨g i, ho, rfl⟩
    ·have hb : y5 ((List.range len).map fun i => elD P e (g i)) ≤ Rows.uptoBulkAll (elems.map (·.1)) := by
      rw [← hlen]
      refine zml (P := P) (e := e) fun i y hy => ?_
      have hi : i < len := by rw [← hlen]; exact (List.getElem?_eq_some_iff.1 hy).1
      obtain ⟨csi, y', hy', _, _, ho, hbb⟩ := hg i hi
      rw [hy] at hy'
      cases hy'
      refine Nat.le_trans (zts ?_) hbb
      by_cases hag : z4c P e = true
      ·exact .inl hag
      ·exact .inr (zlp ho (by simpa using hag))
     simp only [y5, z3q, Rows.uptoBulk]
     omega
  ·rename_i fs ht
   simp only [Bool.and_eq_true] at hs
   obtain ⟨xs, k, _, rfl, hl, hn, hx⟩ := DataW.trod_struct ht h
   obtain ⟨ds, r, o, b⟩ := zcn (fun hs' h' => z5h n hs' h') (cs := cs) fs.toList 0 xs (by rw [hl]; exact hs.2) hs.1 (by simpa using hn) (fun i f hf => hx i f (by simpa using hf))
   refine ⟨ds, by simpa using r, o, ?_⟩
   simp only [Rows.uptoBulk]
   omega
  ·rename_i k e ht
   simp only [Bool.and_eq_true, beq_iff_eq] at hs
   obtain ⟨xs, j, _, rfl, hl, hn, hx⟩ := DataW.trod_array ht h
   obtain ⟨ds, r, o, b⟩ := zfr (c := P.cellsOf e) (fun h' => z5h n hs.1 h') k (cs := cs) xs (by rw [hl, hs.2]) hn hx
   refine ⟨ds, r, o, ?_⟩
   simp only [Rows.uptoBulk]
   omega
  ·cases hs
theorem zt1 (n : Nat) {r : Reach} {base : Nat} {t e : TypeId} {v : Value} {d : DataW H} {ps : List MemPlace} (ht : P.underlying t = some (.slice e)) (hs : Zr P n t = true) (hv : Value.okWide P w r base t v) (hd : DataW.Trod enc P w 0 sp held t v d ps) :
  ∃ l, okT P n t [.sl l] ∧ RepX (Old w) w (.sl l) v ∧ y5 l < Rows.uptoBulk d := by
 obtain ⟨m, hd⟩ := hd
 obtain ⟨a, len, cap, rfl⟩ := zi3 ht hv
 obtain ⟨ds, h1, h2, h3⟩ := z5h n hs hd
 have h2' := h2
 cases n with
 | zero => exact h2.elim
 | succ n =>
  unfold okT at h2'
  rw [ht] at h2'
  obtain ⟨l, rfl, _⟩ := h2'
  obtain ⟨_, v, hv, hr⟩ := zal h1
  simp [Value.cells] at hv
  subst hv
  refine ⟨l, h2, Zq hr, ?_⟩
  simp only [y5, z3q] at h3
  omega
end
end Go.Proofs.YtabjaaonfaejmaaGreatDoor

