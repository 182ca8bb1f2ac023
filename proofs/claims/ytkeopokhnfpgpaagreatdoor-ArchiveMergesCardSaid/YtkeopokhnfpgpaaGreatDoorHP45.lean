/- A part of the proof. -/
import Derived.Test.YtkeopokhnfpgpaaGreatDoorHP44
import Derived.Test.YtkeopokhnfpgpaaGreatDoorHP42
import Derived.Test.YtkeopokhnfpgpaaGreatDoorHP43
import Derived.Test.YtkeopokhnfpgpaaGreatDoorHAv50
set_option linter.all false
namespace Go.Proofs.YtkeopokhnfpgpaaGreatDoor
open Go.Av
inductive TakenL (p : Nat) : List EventM → Prop
 | nil : TakenL p []
 | snoc {L : List EventM} {c : EventM} : TakenL p L → zq p L c = (L ++ [c], true, 0) → TakenL p (L ++ [c])
theorem zin {e : EventM} (h : qn e = 0) : yl (evName e) = true ∧ wa e.Tick 1048576 = true ∧ ∀ i, i < e.Refs.length → j4 e i = false := by
 unfold qn at h
 split at h
 ·cases h
 split at h
 ·cases h
 rename_i h2
 split at h
 ·cases h
 rename_i h3
 simp only [not_or] at h2
 have h2 := h2.1
 unfold z26 at h2
 simp only [Bool.or_eq_true, Bool.not_eq_true', not_or, Bool.not_eq_false] at h2
 refine ⟨h2.1.1, h2.1.2, fun i hi => ?_⟩
 cases hq : j4 e i
 ·rfl
 ·exact absurd ⟨i, hi, hq⟩ h3
theorem zbf {e : EventM} (h : qn e = 0) : 0 ≤ e.By ∧ e.By < 6 ∧ 0 ≤ e.Seq ∧ e.Seq ≤ 63 ∧ 0 ≤ e.Tick ∧ e.Tick ≤ 1048576 := by
 obtain ⟨h1, h2, _⟩ := zin h
 unfold yl evName at h1
 unfold wa at h2
 simp only [Bool.and_eq_true, decide_eq_true_eq] at h1 h2
 omega
theorem Qw {p : Nat} {L : List EventM} {c : EventM} : zq p L c = (L ++ [c], true, 0) ↔ qn c = 0 ∧ c.By < p ∧ zx L (evName c) = none ∧ kh L c = false ∧ wv L c = false := by
 unfold zq
 constructor
 ·intro h
  (repeat' split at h) <;> simp_all
 ·rintro ⟨h1, h2, h3, h4, h5⟩
  rw [if_neg (by simp [h1]), if_neg (by omega), if_neg (by simp [h3]), if_neg (by simp [h4]), if_neg (by simp [h5])]
theorem zba {p : Nat} {L : List EventM} {c : EventM} (h : TakenL p (L ++ [c])) : TakenL p L ∧ zq p L c = (L ++ [c], true, 0) := by
 generalize ht : L ++ [c] = t at h
 cases h with
 | nil => simp at ht
 | snoc h1 h2 =>
  obtain ⟨rfl, he⟩ := List.append_inj' ht rfl
  simp only [List.cons.injEq, and_true] at he
  subst he
  exact ⟨h1, h2⟩
theorem z2p {p : Nat} {L : List EventM} (h : TakenL p L) : ∀ k, TakenL p (L.take k) := by
 induction h with
 | nil => intro k; simpa using TakenL.nil
 | @snoc s e h1 h2 ih =>
  intro k
  by_cases hk : k ≤ s.length
  ·rw [List.take_append_of_le_length hk]; exact ih k
  ·rw [List.take_of_length_le (by simp; omega)]; exact .snoc h1 h2
theorem Zx {L : List EventM} {n : NameM} : zx L n = none ↔ ∀ x ∈ L, evName x ≠ n := by
 unfold zx
 rw [List.find?_eq_none]
 refine forall_congr' fun x => forall_congr' fun _ => ?_
 unfold Qk
 constructor
 ·intro h hq; exact h (by rw [hq]; exact kb _)
 ·intro h hq; exact h (Zj hq)
theorem z9x {L : List EventM} {n : NameM} {e : EventM} (h : zx L n = some e) : e ∈ L ∧ evName e = n := by
 unfold zx at h
 exact ⟨List.mem_of_find?_eq_some h, Zj (by have := List.find?_some h; exact this)⟩
theorem z17 {p : Nat} {L : List EventM} (h : TakenL p L) : ∀ x ∈ L, qn x = 0 ∧ x.By < p := by
 induction h with
 | nil => intro x hx; cases hx
 | @snoc s e h1 h2 ih =>
  intro x hx
  rcases List.mem_append.1 hx with hx | hx
  ·exact ih x hx
  ·obtain rfl := List.mem_singleton.1 hx
   obtain ⟨a, b, _⟩ := Qw.1 h2
   exact ⟨a, b⟩
theorem Qx {p : Nat} {L : List EventM} (h : TakenL p L) : ∀ x ∈ L, 0 ≤ x.By ∧ x.By < p := fun x hx => ⟨(zbf (z17 h x hx).1).1, (z17 h x hx).2⟩
theorem ko {p : Nat} {L : List EventM} (h : TakenL p L) : L.Pairwise fun x y => evName x ≠ evName y := by
 induction h with
 | nil => exact .nil
 | @snoc s e h1 h2 ih =>
  rw [List.pairwise_append]
  refine ⟨ih, by simp, fun x hx y hy => ?_⟩
  obtain rfl := List.mem_singleton.1 hy
  exact Zx.1 (Qw.1 h2).2.2.1 x hx
theorem qi (L : List EventM) (b : Int) : qx L b = (qg L b).length := by
 unfold qx qg
 rw [List.countP_eq_length_filter]
 congr 1
theorem z3a {L : List EventM} {c : EventM} : kh L c = false ↔ c.Seq = (qx L c.By : Int) ∧ ∀ n ∈ c.Refs, (zx L n).isSome = true := by
 unfold kh
 rw [Bool.or_eq_false_iff, bne_eq_false_iff_eq, List.any_eq_false]
 simp only [Bool.not_eq_true', Bool.not_eq_false]
theorem j2 (L M : List EventM) (b : Int) : qg (L ++ M) b = qg L b ++ qg M b := List.filter_append ..
theorem zjv (c : EventM) (b : Int) : qg [c] b = if c.By = b then [c] else [] := by
 unfold qg
 by_cases h : c.By = b <;> simp [h]
theorem z1r {p : Nat} {L : List EventM} (h : TakenL p L) (b : Int) : ∀ k (hk : k < (qg L b).length), ((qg L b)[k]).By = b ∧ ((qg L b)[k]).Seq = (k : Int) := by
 induction h with
 | nil => intro k hk; simp [qg] at hk
 | @snoc s e h1 h2 ih =>
  intro k hk
  have hs := (z3a.1 (Qw.1 h2).2.2.2.1).1
  simp only [j2, zjv] at hk ⊢
  by_cases hb : e.By = b
  ·simp only [hb, if_true, List.length_append, List.length_singleton] at hk
   rw [List.getElem_append]
   split
   ·rename_i hlt; exact ih k hlt
   ·rename_i hlt
    have : k = (qg s b).length := by omega
    subst this
    simp only [hb, if_true, Nat.sub_self, List.getElem_singleton]
    rw [hs, hb, qi]
    exact ⟨trivial, rfl⟩
  ·simp only [hb, if_false, List.append_nil] at hk ⊢
   exact ih k hk
theorem Zc {L : List EventM} {x : EventM} {b : Int} : x ∈ qg L b ↔ x ∈ L ∧ x.By = b := by
 unfold qg; simp
theorem zal {L : List EventM} (h : L.Pairwise fun x y => evName x ≠ evName y) {x y : EventM} (hx : x ∈ L) (hy : y ∈ L) (hn : evName x = evName y) : x = y := by
 obtain ⟨i, hi, rfl⟩ := List.getElem_of_mem hx
 obtain ⟨j, hj, rfl⟩ := List.getElem_of_mem hy
 rcases Nat.lt_trichotomy i j with h1 | h1 | h1
 ·exact absurd hn (List.pairwise_iff_getElem.1 h i j hi hj h1)
 ·subst h1; rfl
 ·exact absurd hn.symm (List.pairwise_iff_getElem.1 h j i hj hi h1)
theorem ze2 {L : List EventM} (h : L.Pairwise fun x y => evName x ≠ evName y) {x : EventM} (hx : x ∈ L) : zx L (evName x) = some x := by
 cases hf : zx L (evName x) with
 | none => exact absurd rfl (Zx.1 hf x hx)
 | some e =>
  obtain ⟨h1, h2⟩ := z9x hf
  rw [zal h h1 hx h2]
theorem Xh {p : Nat} {L : List EventM} (h : TakenL p L) (b : Int) {k : Nat} (hk : k < (qg L b).length) : zx L ⟨b, (k : Int)⟩ = some ((qg L b)[k]) := by
 obtain ⟨h1, h2⟩ := z1r h b k hk
 have hm : (qg L b)[k] ∈ L := (Zc.1 (List.getElem_mem hk)).1
 have := ze2 (ko h) hm
 unfold evName at this
 rw [h1, h2] at this
 exact this
theorem z6i {p : Nat} {L : List EventM} (h : TakenL p L) (b : Int) {n : Nat} (hn : n ≤ (qg L b).length) : xd L b n = (qg L b).take n := by
 apply List.ext_getElem (by simp [w6]; omega)
 intro i h1 h2
 simp only [xd, List.getElem_map, List.getElem_range, List.getElem_take]
 rw [Xh h b (by rw [w6] at h1; omega), Option.getD_some]
theorem z47 {p : Nat} {L : List EventM} (h : TakenL p L) (b : Int) : xd L b (qx L b) = qg L b := by
 rw [z6i h b (by rw [qi]; exact Nat.le_refl _), qi, List.take_length]
theorem zjc {p : Nat} {L : List EventM} (h : TakenL p L) (n : Nat) : qf L n = zx0 L n := by
 unfold qf zx0
 refine List.map_congr_left fun b _ => ?_
 rw [z47 h, qi]
theorem zt3 {p : Nat} {L : List EventM} (h : TakenL p L) (n : Nat) : qc L n = (List.range n).flatMap fun b : Nat => qg L (b : Int) := by
 unfold qc
 congr 1
 funext b
 exact z47 h _
theorem za0 (L : List EventM) : ∀ n : Nat, ((List.range n).flatMap fun b : Nat => qg L (b : Int)).Perm (L.filter fun e => decide (0 ≤ e.By ∧ e.By < (n : Int)))
 | 0 => by
  have : L.filter (fun e => decide (0 ≤ e.By ∧ e.By < ((0 : Nat) : Int))) = [] := by
   rw [List.filter_eq_nil_iff]; intro x _; simp only [decide_eq_true_eq]; omega
  rw [this]; exact .nil
 | n + 1 => by
  have ih := za0 L n
  rw [List.range_succ, List.flatMap_append, List.flatMap_singleton]
  refine (ih.append_right _).trans ?_
  unfold qg
  have h1 : (L.filter fun e => decide (0 ≤ e.By ∧ e.By < ((n : Nat) : Int))) = (L.filter fun e => decide (0 ≤ e.By ∧ e.By < ((n + 1 : Nat) : Int))).filter fun e => !decide (e.By = (n : Int)) := by
   rw [List.filter_filter]
   refine List.filter_congr fun x _ => ?_
   rw [Bool.eq_iff_iff]
   simp only [decide_eq_true_eq, Bool.and_eq_true, Bool.not_eq_true', decide_eq_false_iff_not]
   omega
  have h2 : (L.filter fun e => decide (e.By = (n : Int))) = (L.filter fun e => decide (0 ≤ e.By ∧ e.By < ((n + 1 : Nat) : Int))).filter fun e => decide (e.By = (n : Int)) := by
   rw [List.filter_filter]
   refine List.filter_congr fun x _ => ?_
   rw [Bool.eq_iff_iff]
   simp only [decide_eq_true_eq, Bool.and_eq_true]
   omega
  rw [h1, h2]
  exact List.perm_append_comm.trans (List.filter_append_perm _ _)
theorem z2b {p : Nat} {L : List EventM} (h : TakenL p L) : (qc L p).Perm L := by
 rw [zt3 h]
 refine (za0 L p).trans ?_
 rw [List.filter_eq_self.2]
 intro x hx
 exact decide_eq_true (Qx h x hx)
theorem z9w {p : Nat} {L : List EventM} (h : TakenL p L) : (qc L p).length = L.length := (z2b h).length_eq
theorem z5p {l m : List EventM} (h : l.Perm m) (hm : m.Pairwise fun x y => evName x ≠ evName y) : qv l = qv m := by
 refine List.Perm.eq_of_pairwise (le := leE) ?_ (z3s l) (z3s m) (((j7 l).trans h).trans (j7 m).symm)
 intro a b ha hb h1 h2
 refine zal hm (((j7 l).trans h).subset ha) ((j7 m).subset hb) ?_
 exact zbr h2 h1
theorem z8c {p : Nat} {L : List EventM} (h : TakenL p L) : qv (qc L p) = qv L := z5p (z2b h) (ko h)
theorem zil {p : Nat} {L : List EventM} (h : TakenL p L) (b : Int) : (qg L b).Pairwise fun x y => x.Tick < y.Tick := by
 induction h with
 | nil => exact .nil
 | @snoc s e h1 h2 ih =>
  obtain ⟨hv, hp, hf, hn, hl⟩ := Qw.1 h2
  have hs := (z3a.1 hn).1
  rw [j2, zjv]
  by_cases hb : e.By = b
  ·rw [if_pos hb, List.pairwise_append]
   refine ⟨ih, by simp, fun x hx y hy => ?_⟩
   obtain rfl := List.mem_singleton.1 hy
   rw [hb, qi] at hs
   unfold wv at hl
   rw [Bool.or_eq_false_iff] at hl
   have hl := hl.2
   obtain ⟨k, hk, rfl⟩ := List.getElem_of_mem hx
   have hz : decide (0 < y.Seq) = true := by rw [decide_eq_true_eq]; omega
   rw [hz, Bool.true_and] at hl
   unfold wq at hl
   rw [decide_eq_false_iff_not] at hl
   have hfc := Xh h1 b (k := (qg s b).length - 1) (by omega)
   rw [show (((qg s b).length - 1 : Nat) : Int) = y.Seq - 1 by omega] at hfc
   rw [hb, hfc, Option.getD_some] at hl
   by_cases hq : k = (qg s b).length - 1
   ·subst hq; omega
   ·have := List.pairwise_iff_getElem.1 ih k ((qg s b).length - 1) hk (by omega) (by omega)
    omega
  ·rw [if_neg hb, List.append_nil]; exact ih
theorem z2f {p : Nat} {L : List EventM} (h : TakenL p L) (b : Int) (hc : 0 < qx L b) : (zx L ⟨b, (qx L b : Int) - 1⟩).getD default = (qg L b)[(qg L b).length - 1]'(by rw [qi] at hc; omega) := by
 have hcc := qi L b
 have := Xh h b (k := (qg L b).length - 1) (by omega)
 rw [show (((qg L b).length - 1 : Nat) : Int) = (qx L b : Int) - 1 by omega] at this
 rw [this, Option.getD_some]
theorem znw {p : Nat} {L : List EventM} (h : TakenL p L) : ∀ n : Nat, 0 ≤ clkN L n ∧ ∀ x ∈ L, 0 ≤ x.By → x.By < (n : Int) → x.Tick ≤ clkN L n
 | 0 => ⟨Int.le_refl 0, fun x _ h1 h2 => by omega⟩
 | n + 1 => by
  obtain ⟨h0, ih⟩ := znw h n
  rw [clkN]
  constructor
  ·split
   ·split <;> omega
   ·exact h0
  intro x hx hb hn
  by_cases hq : x.By < (n : Int)
  ·have := ih x hx hb hq
   split
   ·split <;> omega
   ·exact this
  ·have hbn : x.By = (n : Int) := by omega
   have hm : x ∈ qg L (n : Int) := Zc.2 ⟨hx, hbn⟩
   obtain ⟨k, hk, rfl⟩ := List.getElem_of_mem hm
   have hc : 0 < qx L (n : Int) := by rw [qi]; omega
   rw [if_pos hc, z2f h _ hc]
   have ht := zil h (n : Int)
   have hle : ((qg L (n : Int))[k]).Tick ≤ ((qg L (n : Int))[(qg L (n : Int)).length - 1]'(by omega)).Tick := by
    by_cases hkl : k = (qg L (n : Int)).length - 1
    ·subst hkl; exact Int.le_refl _
    ·have := List.pairwise_iff_getElem.1 ht k ((qg L (n : Int)).length - 1) hk (by omega) (by omega)
     omega
   split <;> omega
theorem znx {p : Nat} {L : List EventM} (h : TakenL p L) : ∀ n : Nat, clkN L n = 0 ∨ ∃ x ∈ L, x.Tick = clkN L n
 | 0 => .inl rfl
 | n + 1 => by
  have ih := znx h n
  rw [clkN]
  split
  ·rename_i hc
   split
   ·right
    rw [z2f h _ hc]
    have hk : (qg L (n : Int)).length - 1 < (qg L (n : Int)).length := by rw [qi] at hc; omega
    exact ⟨_, (Zc.1 (List.getElem_mem hk)).1, rfl⟩
   ·exact ih
  ·exact ih
theorem zcg (L : List EventM) : ∀ n : Nat, 0 ≤ rclN L n ∧ ∀ k, k < n → (L.getD k default).Tick ≤ rclN L n
 | 0 => ⟨Int.le_refl 0, fun k hk => absurd hk (Nat.not_lt_zero k)⟩
 | n + 1 => by
  obtain ⟨h0, ih⟩ := zcg L n
  rw [rclN]
  constructor
  ·split <;> omega
  intro k hk
  by_cases hq : k = n
  ·subst hq; split <;> omega
  ·have := ih k (by omega)
   split <;> omega
theorem zi3 (L : List EventM) : ∀ n : Nat, rclN L n = 0 ∨ ∃ k, k < n ∧ (L.getD k default).Tick = rclN L n
 | 0 => .inl rfl
 | n + 1 => by
  rw [rclN]
  split
  ·exact .inr ⟨n, Nat.lt_succ_self n, rfl⟩
  ·rcases zi3 L n with h | ⟨k, hk, h⟩
   ·exact .inl h
   ·exact .inr ⟨k, by omega, h⟩
theorem zny {p : Nat} {L : List EventM} (h : TakenL p L) : clkN L p = rclN L L.length := by
 obtain ⟨a0, a1⟩ := znw h p
 obtain ⟨b0, b1⟩ := zcg L L.length
 apply Int.le_antisymm
 ·rcases znx h p with h1 | ⟨x, hx, h1⟩
  ·omega
  ·obtain ⟨k, hk, rfl⟩ := List.getElem_of_mem hx
   have := b1 k hk
   rw [Z9 hk] at this
   omega
 ·rcases zi3 L L.length with h1 | ⟨k, hk, h1⟩
  ·omega
  ·rw [Z9 hk] at h1
   have := a1 L[k] (List.getElem_mem hk) (Qx h _ (List.getElem_mem hk)).1 (Qx h _ (List.getElem_mem hk)).2
   omega
theorem zua {L : List EventM} {x : EventM} (hx : x ∈ L) : x.Tick ≤ rclN L L.length := by
 obtain ⟨k, hk, rfl⟩ := List.getElem_of_mem hx
 have := (zcg L L.length).2 k hk
 rwa [Z9 hk] at this
set_option maxRecDepth 100000 in
set_option maxHeartbeats 2000000 in
theorem zh4 (G) (p : Nat) (hp : p ≤ 1000) (L : List EventM) (hL : ∀ e ∈ L, jf e) (hn : L.length ≤ 100000) (h20 : (qc L p).length < 20) : GivesX Tryz.prog G 17 [.ptr 1000 2 0 0] (arO p L) [.dat (zr (qv (qc L p)))] (arO p L) := by
 have hsl : (qv (qc L p)).length = (qc L p).length := Qh _ _
 skip
 skip
 skip
 refine GX [] [23] [] Tryz.func17 Tryz.ntmps17 fun F hP hG hN hR hA => ?_
 have hE := And.intro @Tryz.results17 (And.intro @z7t (And.intro @qu (And.intro @hsl (And.intro @Xt (And.intro @jl (And.intro @Zm (@w6)))))))
 refine WS [0] [33, 1000, 1001, 1002] ?_
 apply z3
 refine WS [0, 9] [33, 1000, 1001, 1002] ?_
 refine WI ?_ ?_ <;> intro hb
 ·exact absurd hb (by simp)
 ·apply z6
  apply z5
  refine WS [0, 3] [32, 33, 1000, 1001, 1002] ?_
  apply z3
  refine WS [0, 3, 13, 14, 15] [32, 33, 1000, 1001, 1002] ?_
  apply z7
  refine x7 33 32 (by omega) ?_
  refine xx 3 33 32 rfl rfl ?_
  refine WL (ι := {i : Nat // i ≤ p}) [0, 13, 14] [32, 1000, 1001, 1002] (fun ⟨i, hi⟩ => [(3, .osl 33 32 0 (qc L i).length), (15, .dat (iD i))]) (fun ⟨i, hi⟩ => [(33, ⟨32, ((qc L i).map zf).map .dat⟩)]) (fun ⟨i, hi⟩ => p - i) (⟨0, by omega⟩) ?_
  rintro ⟨i, hi⟩
  refine LA ?_
  refine WS [0, 3, 13, 14, 15, 16] [32, 33, 1000, 1001, 1002] ?_
  apply z3
  refine WI ?_ ?_ <;> intro hb
  ·have hcg := y7 (L := L) (i := i) (p := p) (by omega)
   have hrw := Qq (l := qz p L) (i := i) (by rw [qu]; omega)
   rw [hcg] at hrw
   have hcl := Z6 L (i : Int)
   have hm1 := z6r L (show i + 1 ≤ p by omega)
   rw [Qe, List.length_append, w6] at hm1
   have hE := And.intro hE hrw
   apply z6
   apply z5
   apply z3
   apply z7
   refine WS [0, 3, 4, 5, 13, 14, 15] [32, 33, 1000, 1001, 1002] ?_
   apply zm [0, 3, 13, 14, 15, 23, 24, 25] [32, 33, 1000, 1001, 1002]
   ·refine RN ?_
    refine CX (fun i => i) [] (z1e G p L (i : Int) (qx L (i : Int)) (by omega)) ?_
    exact SC
   have hlc := w6 L (i : Int) (qx L (i : Int))
   have hbc := z1b hL (i : Int) (qx L (i : Int))
   have hevs := Qe L i
   have htkc := z0h L (i : Int) (qx L (i : Int))
   generalize xd L (i : Int) (qx L (i : Int)) = C at hlc hbc hevs htkc ⊢
   apply z7
   have hE := And.intro hE (zb1 (qc L i) C)
   refine WL (ι := {k : Nat // k ≤ qx L (i : Int)}) [0, 13, 14, 15, 23, 24] [32, 1000, 1001, 1002] (fun ⟨k, hk⟩ => [(3, .osl 33 32 0 ((qc L i).length + k)), (25, .dat (iD k))]) (fun ⟨k, hk⟩ => [(33, ⟨32, ((z2m (qc L i) C k).map zf).map .dat⟩)]) (fun ⟨k, hk⟩ => qx L (i : Int) - k) (⟨0, by omega⟩) ?_
   rintro ⟨k, hk⟩
   refine LA ?_
   refine WS [0, 3, 13, 14, 15, 23, 24, 25, 26] [32, 33, 1000, 1001, 1002] ?_
   apply z3
   refine WI ?_ ?_ <;> intro hb
   ·have hok := zt hbc (i := k) (by omega)
    have hrl := z85 (A := qc L i) (C := C) (k := k) (by omega)
    have hrt := zb0 (A := qc L i) (C := C) (k := k) (by omega)
    have hrs := zaz (A := qc L i) (C := C) (k := k) (by omega)
    have hE := And.intro hE (And.intro hrl hrt)
    apply z6
    apply z5
    apply z3
    apply z7
    refine WS [0, 3, 7, 13, 14, 15, 23, 24, 25] [7, 32, 33, 1000, 1001, 1002] ?_
    have hc := gvF hP hG (zcd G (C.getD k default) hok.1)
    refine WQc [0, 3, 13, 14, 15, 23, 24, 25] [32, 33, 1000, 1001, 1002] ?_
    apply zh
    apply z5
    have hE := And.intro hE hrs
    refine WQ [0, 3, 13, 14, 15, 23, 24, 25] [32, 33, 1000, 1001, 1002] ?_
    refine WN (⟨k + 1, by omega⟩)
   ·apply zj
    apply zc
    have hend : k = qx L (i : Int) := by omega
    subst hend
    have hfull : z2m (qc L i) C (qx L (i : Int)) = qc L (i + 1) := by rw [hevs, z2m, htkc]
    have hll : (qc L (i + 1)).length = (qc L i).length + qx L (i : Int) := by rw [hevs, List.length_append, hlc]
    have hE := And.intro hE (And.intro hfull hll)
    apply zb
    apply zn
    apply zh
    apply z5
    refine WQ [0, 3, 13, 14, 15] [32, 33, 1000, 1001, 1002] ?_
    refine WN (⟨i + 1, by omega⟩)
  ·apply zj
   apply zc
   have hend : i = p := by omega
   subst hend
   apply zb
   apply zn
   apply z5
   refine Xe 33 hR.2.2.2 rfl (datE_map _) rfl ?_
   have htk : List.take (qc L i).length ((qc L i).map zf) = (qc L i).map zf := List.take_of_length_le (by simp)
   simp (disch := omega) only [avA, zk, zo, seval, hE, htk]
   have hc := gvF hP hG (zuw G (qc L i) (by omega))
   refine WSc [2] [33, 1000, 1001, 1002] ?_
   apply z9
   exact E0
set_option maxRecDepth 100000 in
theorem zeb (G) (l : List (Int × List Int)) (hl : l.length ≤ 1000) (hh : ∀ x ∈ l, x.2.length = 16) : zl Tryz.prog G 19 [wz l, wz l] [bD true] := by
 skip
 skip
 refine GI [] [] [] Tryz.func19 Tryz.ntmps19 fun F hP hG hN hR hA => ?_
 have hE := And.intro @Tryz.results19 (@z6o)
 refine WS [0, 1] [] ?_
 apply z3
 refine WS [0, 1, 10] [] ?_
 refine WI ?_ ?_ <;> intro hb
 ·exact absurd hb (by simp)
 ·apply z6
  apply z5
  apply z3
  refine WS [0, 1, 5] [] ?_
  apply z7
  refine WL (ι := {i : Nat // i ≤ l.length}) [0, 1] [] (fun ⟨i, hi⟩ => [(5, .dat (iD i))]) (fun ⟨i, hi⟩ => []) (fun ⟨i, hi⟩ => l.length - i) (⟨0, by omega⟩) ?_
  rintro ⟨i, hi⟩
  refine LA ?_
  apply z3
  refine WS [0, 1, 5, 14] [] ?_
  refine WI ?_ ?_ <;> intro hb
  ·have h16 := zt hh (i := i) (by omega)
   have hE := And.intro hE h16
   apply z6
   apply z5
   apply z3
   apply z7
   refine WDF [0, 1, 5, 25] [] [(0, 17, _), (1, 18, _), (2, 19, _), (3, 20, _), (4, 21, _), (5, 22, _), (6, 23, _), (7, 24, _), (8, 25, .dat (bD (!((l.getD i default).1 == (l.getD i default).1 && (l.getD i default).2 == (l.getD i default).2))))] [] ⟨FV 0 [] [2, 3, 8], FV 1 [] [2, 3, 8], FV 2 [0, 1] [3, 8], FV 3 [0, 1, 2] [8], FV 4 [] [6, 7, 8], FV 5 [] [6, 7, 8], FV 6 [4, 5] [7, 8], FV 7 [4, 5, 6] [8], (FVs 8 [0, 1, 2, 3, 4, 5, 6, 7] [] (fun D hA1 hA2 => by simp only [qt, NoD] at hA1 hA2; exact zt7 (n := 16) rfl rfl (by rw [hN]; omega) (by rw [hP]; unfold zog; kernel_rfl) EV' EV' h16 h16)), trivial⟩ ?_
   refine WI ?_ ?_ <;> intro hb
   ·exact absurd hb (by simp)
   ·apply z6
    apply zh
    apply z5
    refine WQ [0, 1, 5] [] ?_
    refine WN (⟨i + 1, by omega⟩)
  ·apply zj
   apply zc
   have hend : i = l.length := by omega
   subst hend
   apply zb
   apply zn
   apply z5
   refine WS [4] [] ?_
   apply z9
   exact E0
theorem zmi (e : EventM) : x4 e e = true := by
 unfold x4
 have h1 : ∀ l : List NameM, qb zz l l = true := fun l => xg rfl fun i _ => kb _
 have h2 : ∀ i : IdM, qm i i = true := fun i => by simp [qm]
 have h3 : ∀ s : ByteArray, qr s s = true := fun s => by simp [qr]
 have h4 : ∀ l : List ByteArray, qb qr l l = true := fun l => xg rfl fun i _ => h3 _
 have h5 : ∀ p : PostM, xc p p = true := fun p => by simp [xc, h2, h4]
 have h6 : ∀ l : List PostM, qb xc l l = true := fun l => xg rfl fun i _ => h5 _
 have h7 : ∀ t : TermM, jc t t = true := fun t => by simp [jc, h3, h4]
 have h8 : ∀ l : List (Int × Int), qb xw l l = true := fun l => xg rfl fun i _ => by simp [xw]
 have h9 : ∀ l : List IdM, qb qm l l = true := fun l => xg rfl fun i _ => h2 _
 have h10 : ∀ o : OpM, jo o o = true := fun o => by simp [jo, h2, h3, h4, h8, h9, z15]
 simp [h1, h2, h6, h7, h10]
theorem zid (l : List EventM) : qb x4 l l = true := xg rfl fun i _ => zmi _
theorem Q1 (G) (l : List EventM) (ha : l.length ≤ 1000) (h : ∀ e ∈ l, OkEv e) : zl Tryz.prog G 16 [zr l, zr l] [bD true] := by
 have := zic G l l ha h
 rwa [zid] at this
theorem z8b {L : List EventM} {p : EventM → Prop} (h : ∀ e ∈ L, p e) : ∀ e ∈ qv L, p e := fun e he => h e ((j7 L).subset he)
theorem zb7 (L : List EventM) : (qv L).length = L.length := (j7 L).length_eq
theorem z2z (G) (p : Nat) (hp : p ≤ 1000) (L : List EventM) (hT : TakenL p L) (hL : ∀ e ∈ L, jf e) (h20 : L.length < 20) : GivesX Tryz.prog G 17 [.ptr 1000 2 0 0] (arO p L) [.dat (zr (qv L))] (arO p L) := by
 have := zh4 G p hp L hL (by omega) (by rw [z9w hT]; exact h20)
 rwa [z8c hT] at this
def ztl : EventM := ⟨1, 0, 0, 1, [], z0c, z03, idZ, [], 0⟩
def ztm : EventM := ⟨0, 0, 0, 5, [⟨1, 0⟩], z0c, z03, idZ, [], 0⟩
def ztn : EventM := ⟨0, 0, 0, 5, [⟨1, 1⟩], z0c, z03, idZ, [], 0⟩
def y4 : EventM := ⟨1, 0, 1, 1, [], z0c, z03, idZ, [], 0⟩
def Z1 : EventM := ⟨0, 0, 2, 5, [⟨1, 0⟩], z0c, z03, idZ, [], 0⟩
def zto : EventM := ⟨1, 0, 9, 1, [], z0c, z03, idZ, [], 0⟩
def lvL : List EventM := [y4, Z1]
def lvS (e : EventM) : List Int := z00 [e]
def lvZ : List (Int × List Int) := [(0, List.replicate 16 0), (0, List.replicate 16 0)]
def lvH : List (Int × List Int) := [(1, lvS Z1), (1, lvS y4)]
theorem zy2 : xi 2 [] ztl = ([y4], y4, 0) := by kernel_rfl
theorem zy3 : xi 2 [y4] ztm = (lvL, Z1, 0) := by kernel_rfl
theorem zy4 : xi 2 lvL ztn = (lvL, default, 10) := by kernel_rfl
theorem zya : xe 2 [] [Z1, y4] 0 = ([], 0, 10) := by kernel_rfl
theorem zyb : xe 2 [] [y4, Z1] 0 = (lvL, 2, 0) := by kernel_rfl
theorem zyc : xe 2 lvL [zto] 0 = (lvL, 0, 7) := by kernel_rfl
theorem zpw : TakenL 2 lvL := .snoc (L := [y4]) (.snoc (L := []) .nil (by kernel_rfl)) (by kernel_rfl)
theorem ztp : qv lvL = lvL := by kernel_rfl
theorem zep : qf lvL 2 = lvH := by kernel_rfl
theorem ztq : je 2 lvL lvZ = (lvL, 0) := by kernel_rfl
theorem zpn : Qc [y4] (1, lvS y4) 1 = 0 := by
 have h : zdk [y4] (1, lvS y4) = false := by
  unfold zdk lvS
  generalize z00 [y4] = s
  simp
 unfold Qc
 rw [if_neg (by decide +kernel), if_neg (by decide +kernel), if_neg (by rw [h]; simp)]
theorem zws : clkN lvL 2 = 2 := by kernel_rfl
theorem z93 : I64 0 := by unfold I64; omega
theorem zy8 : OkOp z0c := okDef.op
theorem zab (b s t k : Int) (r : List NameM) (h1 : 0 ≤ b ∧ b ≤ 9) (h2 : 0 ≤ s ∧ s ≤ 9) (h3 : 0 ≤ t ∧ t ≤ 9) (h4 : 0 ≤ k ∧ k ≤ 9) (h5 : ∀ x ∈ r, I64 x.By ∧ I64 x.Seq) (h6 : r.length ≤ 9) : OkEv ⟨b, s, t, k, r, z0c, z03, idZ, [], 0⟩ where
 by_ := xt (by show _ ≤ b; omega) (by show b ≤ _; omega)
 seq := xt (by show _ ≤ s; omega) (by show s ≤ _; omega)
 tick := xt (by show _ ≤ t; omega) (by show t ≤ _; omega)
 kind := xt (by show _ ≤ k; omega) (by show k ≤ _; omega)
 n := z93
 id := ⟨z93, z93, z93⟩
 tk := z93
 tl := z93
 refs := h5
 nrefs := by show r.length ≤ _; omega
 op := zy8
 name := by show (0 : Nat) ≤ _; omega
 see := by show (0 : Nat) ≤ _; omega
 broader := fun s hs => by cases hs
 nbroader := Nat.zero_le _
 posts := fun p hp => by cases hp
 nposts := Nat.zero_le _
theorem zy5 : OkEv ztl := zab _ _ _ _ _ (by omega) (by omega) (by omega) (by omega) (by simp) (by simp)
theorem zhn (n : Int) (h : 0 ≤ n ∧ n ≤ 9) : ∀ x ∈ [(⟨1, n⟩ : NameM)], I64 x.By ∧ I64 x.Seq := fun x hx => by
 obtain rfl := List.mem_singleton.1 hx
 exact ⟨xt (by show _ ≤ (1 : Int); omega) (by show (1 : Int) ≤ _; omega), xt (by show _ ≤ n; omega) (by show n ≤ _; omega)⟩
theorem zy6 : OkEv ztm := zab _ _ _ _ _ (by omega) (by omega) (by omega) (by omega) (zhn 0 (by omega)) (by simp)
theorem zy7 : OkEv ztn := zab _ _ _ _ _ (by omega) (by omega) (by omega) (by omega) (zhn 1 (by omega)) (by simp)
theorem zjm : OkEv y4 := zab _ _ _ _ _ (by omega) (by omega) (by omega) (by omega) (by simp) (by simp)
theorem zps : OkEv Z1 := zab _ _ _ _ _ (by omega) (by omega) (by omega) (by omega) (zhn 0 (by omega)) (by simp)
theorem zy9 : OkEv zto := zab _ _ _ _ _ (by omega) (by omega) (by omega) (by omega) (by simp) (by simp)
theorem zvk : jf y4 := ⟨zjm, by decide +kernel⟩
theorem zy1 : jf Z1 := ⟨zps, by decide +kernel⟩
theorem z7d : ∀ e ∈ lvL, jf e := fun e he => by
 simp only [lvL, List.mem_cons, List.not_mem_nil, or_false] at he
 rcases he with rfl | rfl
 ·exact zvk
 ·exact zy1
theorem zc6 : ∀ e ∈ lvL, OkEv e := fun e he => (z7d e he).1
theorem zho (e : EventM) : (lvS e).length = 16 := Qv _ _
theorem zpp (G) : GivesX Tryz.prog G 35 [.ptr 1000 2 0 0, .dat (zf ztl)] (arO 2 []) [.dat (zf y4), .dat (iD 0)] (arO 2 [y4]) := by
 have := z7e G 2 (by decide) [] (by simp) (by simp) ztl zy5 (by decide +kernel)
 rwa [zy2] at this
theorem zpq (G) : GivesX Tryz.prog G 35 [.ptr 1000 2 0 0, .dat (zf ztm)] (arO 2 [y4]) [.dat (zf Z1), .dat (iD 0)] (arO 2 lvL) := by
 have := z7e G 2 (by decide) [y4] (fun e he => by obtain rfl := List.mem_singleton.1 he; exact zjm) (by simp) ztm zy6 (by decide +kernel)
 rwa [zy3] at this
theorem zpr (G) : GivesX Tryz.prog G 35 [.ptr 1000 2 0 0, .dat (zf ztn)] (arO 2 lvL) [.dat (zf default), .dat (iD 10)] (arO 2 lvL) := by
 have := z7e G 2 (by decide) lvL zc6 (by decide) ztn zy7 (by decide +kernel)
 rwa [zy4] at this
theorem zeq (G) (g1 : G.lookup 1 = some (wsD kH)) : GivesX Tryz.prog G 14 [.ptr 1000 2 0 0] (arO 2 lvL) [.dat (wz [(1, lvS Z1), (1, lvS y4)])] (arO 2 lvL) := by
 have := Q3 G g1 2 (by decide) lvL z7d (by decide)
 rwa [zep] at this
theorem z39 (G) (g1 : G.lookup 1 = some (wsD kH)) : GivesX Tryz.prog G 20 [.ptr 1000 2 0 0] (arO 2 lvL) [.dat (wz [(1, lvS Z1), (1, lvS y4)])] (arO 2 lvL) := by
 have := z2g G g1 2 (by decide) lvL z7d (by decide)
 rwa [zep] at this
theorem zld (G) : GivesX Tryz.prog G 17 [.ptr 1000 2 0 0] (arO 2 lvL) [.dat (zr [y4, Z1])] (arO 2 lvL) := by
 have := z2z G 2 (by decide) lvL zpw z7d (by decide)
 rwa [ztp] at this
theorem zhp (G) (g1 : G.lookup 1 = some (wsD kH)) : GivesX Tryz.prog G 13 [.ptr 1000 2 0 0, .dat (wz lvZ)] (arO 2 lvL) [.dat (zr [y4, Z1]), .dat (iD 0)] (arO 2 lvL) := by
 have := zg4 G g1 2 (by decide) lvL z7d (by decide) (by decide +kernel) (by decide +kernel) lvZ (by decide +kernel) (by decide +kernel)
 rwa [ztq] at this
theorem zpt (G) : GivesX Tryz.prog G 15 [.ptr 1000 2 0 0, .dat (zr [Z1, y4])] (arO 2 []) [.dat (iD 0), .dat (iD 10)] (arO 2 []) := by
 have := Xa G 2 (by decide) [] [Z1, y4] (by simp) (by simp [zjm, zps]) (by simp)
 rwa [zya] at this
theorem zpu (G) : GivesX Tryz.prog G 15 [.ptr 1000 2 0 0, .dat (zr [y4, Z1])] (arO 2 []) [.dat (iD 2), .dat (iD 0)] (arO 2 lvL) := by
 have := Xa G 2 (by decide) [] [y4, Z1] (by simp) (by simp [zjm, zps]) (by simp)
 rwa [zyb] at this
theorem zpv (G) : GivesX Tryz.prog G 15 [.ptr 1000 2 0 0, .dat (zr [zto])] (arO 2 lvL) [.dat (iD 0), .dat (iD 7)] (arO 2 lvL) := by
 have := Xa G 2 (by decide) lvL [zto] zc6 (by simp [zy9]) (by decide)
 rwa [zyc] at this
theorem zpo (G) : GivesX Tryz.prog G 43 [.ptr 1000 2 0 0] (arO 2 lvL) [.dat (iD 2)] (arO 2 lvL) := by
 have := z9h G 2 (by decide) lvL (by decide)
 rwa [zws] at this
theorem zeo (G) (g1 : G.lookup 1 = some (wsD kH)) : zl Tryz.prog G 23 [zr [y4], Za (1, lvS y4), iD 1] [iD 0] := by
 have := znu G g1 [y4] (by simp [zvk]) (by simp) (1, lvS y4) (zho _) 1
 rwa [zpn] at this
set_option maxRecDepth 100000 in
set_option maxHeartbeats 4000000 in
theorem zpk (G) (g1 : G.lookup 1 = some (wsD kH)) : zl Tryz.prog G 21 [] [bD true] := by
 have h1 := zho y4
 have h2 := zho Z1
 skip
 skip
 skip
 refine GI [] [25, 37, 45, 53, 57, 59, 63, 67, 112, 118, 127] [] Tryz.func21 Tryz.ntmps21 fun F hP hG hN hR hA => ?_
 have hE := And.intro @Tryz.results21 (And.intro @z7t (And.intro @h1 (And.intro @h2 (And.intro @Xt (And.intro @jl (@Zm))))))
 refine WS [] [24, 26, 27, 66, 68, 69] ?_
 apply zm [1, 2] [24, 26, 27, 66, 68, 69]
 ·refine RN ?_
  refine CX (fun i => if i = 14 then 24 else if i = 11 then 26 else 27) [14, 11, 12] (zc9 G 2 (by decide) (by decide)) ?_
  exact SC
 apply z3
 refine WS [1, 33] [24, 26, 27, 66, 68, 69] ?_
 refine WI ?_ ?_ <;> intro hb
 ·exact absurd hb (by simp)
 ·apply z6
  apply z5
  refine wp ?_
  apply wy
  ·(iterate 2 apply Seg.cons); exact Seg.nil _
  ·refine RK ?_
   exact SC
  refine zbm 36 rfl rfl ?_
  apply wi [1, 3, 4] [3, 24, 26, 27, 66, 68, 69]
  ·refine RN ?_
   refine CX (fun i => if i = 1000 then 24 else if i = 1001 then 26 else 27) [] (zpp G) ?_
   exact SC
  refine wp ?_
  apply wy
  ·(iterate 4 apply Seg.cons); exact Seg.nil _
  ·refine RK ?_
   exact SC
  refine zbm 44 rfl rfl ?_
  apply wi [1, 3, 4, 5, 6] [3, 5, 24, 26, 27, 66, 68, 69]
  ·refine RN ?_
   refine CX (fun i => if i = 1000 then 24 else if i = 1001 then 26 else 27) [] (zpq G) ?_
   exact SC
  refine wp ?_
  apply wy
  ·(iterate 4 apply Seg.cons); exact Seg.nil _
  ·refine RK ?_
   exact SC
  refine zbm 52 rfl rfl ?_
  apply wi [1, 3, 4, 5, 6, 8] [3, 5, 24, 26, 27, 66, 68, 69]
  ·refine RN ?_
   refine CX (fun i => if i = 1000 then 24 else if i = 1001 then 26 else 27) [] (zpr G) ?_
   exact SC
  apply zm [1, 3, 4, 5, 6, 8, 9] [3, 5, 24, 26, 27, 66, 68, 69]
  ·refine RN ?_
   refine CX (fun i => if i = 1000 then 24 else if i = 1001 then 26 else 27) [] (zeq G g1) ?_
   exact SC
  apply zm [1, 3, 4, 5, 6, 8, 9, 10] [3, 5, 24, 26, 27, 66, 68, 69]
  ·refine RN ?_
   refine CX (fun i => if i = 1000 then 24 else if i = 1001 then 26 else 27) [] (zld G) ?_
   exact SC
  refine wp ?_
  apply wy
  ·(iterate 2 apply Seg.cons); exact Seg.nil _
  ·refine RK ?_
   exact SC
  refine zvv 62 hR.2.2.2 rfl rfl ?_
  apply wi [1, 3, 4, 5, 6, 8, 9, 10, 11, 12] [3, 5, 24, 26, 27, 66, 68, 69]
  ·refine RN ?_
   refine CX (fun i => if i = 1000 then 24 else if i = 1001 then 26 else 27) [] (zhp G g1) ?_
   exact SC
  apply zm [1, 3, 4, 5, 6, 8, 9, 10, 11, 12, 13, 14] [3, 5, 24, 26, 27, 66, 68, 69]
  ·refine RN ?_
   refine CX (fun i => if i = 14 then 66 else if i = 11 then 68 else 69) [14, 11, 12] (zc9 G 2 (by decide) (by decide)) ?_
   exact SC
  apply z3
  refine WS [1, 3, 5, 9, 10, 11, 13, 106] [3, 5, 24, 26, 27, 66, 68, 69] ?_
  refine WI ?_ ?_ <;> intro hb
  ·exact absurd hb (by simp)
  ·apply z6
   apply z5
   apply zm [1, 3, 5, 9, 10, 11, 13, 15, 16] [3, 5, 24, 26, 27, 66, 68, 69]
   ·refine RN ?_
    refine CX (fun i => if i = 1000 then 66 else if i = 1001 then 68 else 69) [] (zpt G) ?_
    exact SC
   apply zm [1, 3, 5, 9, 10, 11, 13, 15, 16, 17, 18] [3, 5, 24, 26, 27, 66, 68, 69]
   ·refine RN ?_
    refine CX (fun i => if i = 1000 then 66 else if i = 1001 then 68 else 69) [] (zpu G) ?_
    exact SC
   refine WS [1, 3, 5, 9, 10, 11, 13, 15, 16, 17, 18, 19] [3, 5, 19, 24, 26, 27, 66, 68, 69] ?_
   refine WS [1, 3, 5, 9, 10, 11, 13, 15, 16, 17, 18, 19] [3, 5, 19, 24, 26, 27, 66, 68, 69] ?_
   apply zm [1, 3, 5, 9, 10, 11, 13, 15, 16, 17, 18, 20, 21] [3, 5, 24, 26, 27, 66, 68, 69]
   ·refine RN ?_
    refine CX (fun i => if i = 1000 then 66 else if i = 1001 then 68 else 69) [] (zpv G) ?_
    exact SC
   refine WSF [1, 3, 5, 9, 10, 11, 13, 15, 16, 17, 18, 20, 21, 22] [3, 5, 24, 26, 27, 66, 68, 69] [(0, 130, _), (1, 131, _), (2, 132, _), (3, 133, _), (4, 134, _), (5, 135, _), (6, 136, _), (7, 137, _), (8, 138, _), (9, 139, _), (10, 140, _), (11, 141, _), (12, 142, _), (13, 143, _), (14, 144, _), (15, 145, _), (16, 146, _), (17, 147, _), (18, 148, _), (19, 149, _), (20, 150, _), (21, 151, _), (22, 152, _), (23, 153, _), (24, 154, _), (25, 155, _), (26, 156, _), (27, 157, _), (28, 158, _), (29, 159, _), (30, 160, _), (31, 161, _), (32, 162, _), (33, 163, _), (34, 164, .dat (iD 2)), (35, 165, _), (36, 166, _), (37, 22, .dat (bD true))] [] ⟨FV 0 [] [1, 2, 3, 4, 5, 6, 7, 8, 9, 10, 11, 12, 13, 14, 15, 16, 17, 18, 19, 20, 21, 22, 23, 24, 25, 26, 27, 28, 29, 30, 31, 32, 33, 34, 35, 36, 37], FV 1 [0] [2, 3, 4, 5, 6, 7, 8, 9, 10, 11, 12, 13, 14, 15, 16, 17, 18, 19, 20, 21, 22, 23, 24, 25, 26, 27, 28, 29, 30, 31, 32, 33, 34, 35, 36, 37], FV 2 [0, 1] [3, 4, 5, 6, 7, 8, 9, 10, 11, 12, 13, 14, 15, 16, 17, 18, 19, 20, 21, 22, 23, 24, 25, 26, 27, 28, 29, 30, 31, 32, 33, 34, 35, 36, 37], FV 3 [0, 1, 2] [4, 5, 6, 7, 8, 9, 10, 11, 12, 13, 14, 15, 16, 17, 18, 19, 20, 21, 22, 23, 24, 25, 26, 27, 28, 29, 30, 31, 32, 33, 34, 35, 36, 37], FG 4 [0, 1, 2, 3] [5, 6, 7, 8, 9, 10, 11, 12, 13, 14, 15, 16, 17, 18, 19, 20, 21, 22, 23, 24, 25, 26, 27, 28, 29, 30, 31, 32, 33, 34, 35, 36, 37], FG 5 [0, 1, 2, 3, 4] [6, 7, 8, 9, 10, 11, 12, 13, 14, 15, 16, 17, 18, 19, 20, 21, 22, 23, 24, 25, 26, 27, 28, 29, 30, 31, 32, 33, 34, 35, 36, 37], FG 6 [0, 1, 2, 3, 4, 5] [7, 8, 9, 10, 11, 12, 13, 14, 15, 16, 17, 18, 19, 20, 21, 22, 23, 24, 25, 26, 27, 28, 29, 30, 31, 32, 33, 34, 35, 36, 37], FV 7 [0, 1, 2, 3, 4, 5, 6] [8, 9, 10, 11, 12, 13, 14, 15, 16, 17, 18, 19, 20, 21, 22, 23, 24, 25, 26, 27, 28, 29, 30, 31, 32, 33, 34, 35, 36, 37], FV 8 [0, 1, 2, 3, 4, 5, 6, 7] [9, 10, 11, 12, 13, 14, 15, 16, 17, 18, 19, 20, 21, 22, 23, 24, 25, 26, 27, 28, 29, 30, 31, 32, 33, 34, 35, 36, 37], FG 9 [0, 1, 2, 3, 4, 5, 6, 7, 8] [10, 11, 12, 13, 14, 15, 16, 17, 18, 19, 20, 21, 22, 23, 24, 25, 26, 27, 28, 29, 30, 31, 32, 33, 34, 35, 36, 37], FG 10 [0, 1, 2, 3, 4, 5, 6, 7, 8, 9] [11, 12, 13, 14, 15, 16, 17, 18, 19, 20, 21, 22, 23, 24, 25, 26, 27, 28, 29, 30, 31, 32, 33, 34, 35, 36, 37], FG 11 [0, 1, 2, 3, 4, 5, 6, 7, 8, 9, 10] [12, 13, 14, 15, 16, 17, 18, 19, 20, 21, 22, 23, 24, 25, 26, 27, 28, 29, 30, 31, 32, 33, 34, 35, 36, 37], FV 12 [0, 1, 2, 3, 4, 5, 6, 7, 8, 9, 10, 11] [13, 14, 15, 16, 17, 18, 19, 20, 21, 22, 23, 24, 25, 26, 27, 28, 29, 30, 31, 32, 33, 34, 35, 36, 37], FV 13 [0, 1, 2, 3, 4, 5, 6, 7, 8, 9, 10, 11, 12] [14, 15, 16, 17, 18, 19, 20, 21, 22, 23, 24, 25, 26, 27, 28, 29, 30, 31, 32, 33, 34, 35, 36, 37], FG 14 [0, 1, 2, 3, 4, 5, 6, 7, 8, 9, 10, 11, 12, 13] [15, 16, 17, 18, 19, 20, 21, 22, 23, 24, 25, 26, 27, 28, 29, 30, 31, 32, 33, 34, 35, 36, 37], FG 15 [0, 1, 2, 3, 4, 5, 6, 7, 8, 9, 10, 11, 12, 13, 14] [16, 17, 18, 19, 20, 21, 22, 23, 24, 25, 26, 27, 28, 29, 30, 31, 32, 33, 34, 35, 36, 37], FG 16 [0, 1, 2, 3, 4, 5, 6, 7, 8, 9, 10, 11, 12, 13, 14, 15] [17, 18, 19, 20, 21, 22, 23, 24, 25, 26, 27, 28, 29, 30, 31, 32, 33, 34, 35, 36, 37], FV 17 [0, 1, 2, 3, 4, 5, 6, 7, 8, 9, 10, 11, 12, 13, 14, 15, 16] [18, 19, 20, 21, 22, 23, 24, 25, 26, 27, 28, 29, 30, 31, 32, 33, 34, 35, 36, 37], FV 18 [0, 1, 2, 3, 4, 5, 6, 7, 8, 9, 10, 11, 12, 13, 14, 15, 16, 17] [19, 20, 21, 22, 23, 24, 25, 26, 27, 28, 29, 30, 31, 32, 33, 34, 35, 36, 37], FG 19 [0, 1, 2, 3, 4, 5, 6, 7, 8, 9, 10, 11, 12, 13, 14, 15, 16, 17, 18] [20, 21, 22, 23, 24, 25, 26, 27, 28, 29, 30, 31, 32, 33, 34, 35, 36, 37], FG 20 [0, 1, 2, 3, 4, 5, 6, 7, 8, 9, 10, 11, 12, 13, 14, 15, 16, 17, 18, 19] [21, 22, 23, 24, 25, 26, 27, 28, 29, 30, 31, 32, 33, 34, 35, 36, 37], FG 21 [0, 1, 2, 3, 4, 5, 6, 7, 8, 9, 10, 11, 12, 13, 14, 15, 16, 17, 18, 19, 20] [22, 23, 24, 25, 26, 27, 28, 29, 30, 31, 32, 33, 34, 35, 36, 37], FG 22 [0, 1, 2, 3, 4, 5, 6, 7, 8, 9, 10, 11, 12, 13, 14, 15, 16, 17, 18, 19, 20, 21] [23, 24, 25, 26, 27, 28, 29, 30, 31, 32, 33, 34, 35, 36, 37], FG 23 [0, 1, 2, 3, 4, 5, 6, 7, 8, 9, 10, 11, 12, 13, 14, 15, 16, 17, 18, 19, 20, 21, 22] [24, 25, 26, 27, 28, 29, 30, 31, 32, 33, 34, 35, 36, 37], FV 24 [0, 1, 2, 3, 4, 5, 6, 7, 8, 9, 10, 11, 12, 13, 14, 15, 16, 17, 18, 19, 20, 21, 22, 23] [25, 26, 27, 28, 29, 30, 31, 32, 33, 34, 35, 36, 37], FV 25 [0, 1, 2, 3, 4, 5, 6, 7, 8, 9, 10, 11, 12, 13, 14, 15, 16, 17, 18, 19, 20, 21, 22, 23, 24] [26, 27, 28, 29, 30, 31, 32, 33, 34, 35, 36, 37], FG 26 [0, 1, 2, 3, 4, 5, 6, 7, 8, 9, 10, 11, 12, 13, 14, 15, 16, 17, 18, 19, 20, 21, 22, 23, 24, 25] [27, 28, 29, 30, 31, 32, 33, 34, 35, 36, 37], FG 27 [0, 1, 2, 3, 4, 5, 6, 7, 8, 9, 10, 11, 12, 13, 14, 15, 16, 17, 18, 19, 20, 21, 22, 23, 24, 25, 26] [28, 29, 30, 31, 32, 33, 34, 35, 36, 37], FG 28 [0, 1, 2, 3, 4, 5, 6, 7, 8, 9, 10, 11, 12, 13, 14, 15, 16, 17, 18, 19, 20, 21, 22, 23, 24, 25, 26, 27] [29, 30, 31, 32, 33, 34, 35, 36, 37], FG 29 [0, 1, 2, 3, 4, 5, 6, 7, 8, 9, 10, 11, 12, 13, 14, 15, 16, 17, 18, 19, 20, 21, 22, 23, 24, 25, 26, 27, 28] [30, 31, 32, 33, 34, 35, 36, 37], FG 30 [0, 1, 2, 3, 4, 5, 6, 7, 8, 9, 10, 11, 12, 13, 14, 15, 16, 17, 18, 19, 20, 21, 22, 23, 24, 25, 26, 27, 28, 29] [31, 32, 33, 34, 35, 36, 37], FV 31 [0, 1, 2, 3, 4, 5, 6, 7, 8, 9, 10, 11, 12, 13, 14, 15, 16, 17, 18, 19, 20, 21, 22, 23, 24, 25, 26, 27, 28, 29, 30] [32, 33, 34, 35, 36, 37], FV 32 [0, 1, 2, 3, 4, 5, 6, 7, 8, 9, 10, 11, 12, 13, 14, 15, 16, 17, 18, 19, 20, 21, 22, 23, 24, 25, 26, 27, 28, 29, 30, 31] [33, 34, 35, 36, 37], FG 33 [0, 1, 2, 3, 4, 5, 6, 7, 8, 9, 10, 11, 12, 13, 14, 15, 16, 17, 18, 19, 20, 21, 22, 23, 24, 25, 26, 27, 28, 29, 30, 31, 32] [34, 35, 36, 37], (FGs 34 [0, 1, 2, 3, 4, 5, 6, 7, 8, 9, 10, 11, 12, 13, 14, 15, 16, 17, 18, 19, 20, 21, 22, 23, 24, 25, 26, 27, 28, 29, 30, 31, 32, 33] [35, 36, 37] (fun D hA1 hA2 => by simp only [qt, NoD] at hA1 hA2; exact xk (m := fun i => if i = 1000 then 24 else if i = 1001 then 26 else 27) rfl rfl (by rw [hN]; omega) EV' (z0r hP hG (zpo G)) EX' (wh hN EL' (by rfl)))), FG 35 [0, 1, 2, 3, 4, 5, 6, 7, 8, 9, 10, 11, 12, 13, 14, 15, 16, 17, 18, 19, 20, 21, 22, 23, 24, 25, 26, 27, 28, 29, 30, 31, 32, 33, 34] [36, 37], FV 36 [0, 1, 2, 3, 4, 5, 6, 7, 8, 9, 10, 11, 12, 13, 14, 15, 16, 17, 18, 19, 20, 21, 22, 23, 24, 25, 26, 27, 28, 29, 30, 31, 32, 33, 34, 35] [37], FV 37 [0, 1, 2, 3, 4, 5, 6, 7, 8, 9, 10, 11, 12, 13, 14, 15, 16, 17, 18, 19, 20, 21, 22, 23, 24, 25, 26, 27, 28, 29, 30, 31, 32, 33, 34, 35, 36] [], trivial⟩ ?_
   refine WSF [3, 9, 15, 16, 17, 18, 20, 21, 22, 23] [3, 24, 26, 27, 66, 68, 69] [(0, 167, _), (1, 168, _), (2, 169, _), (3, 170, _), (4, 171, .dat (bD true)), (5, 172, _), (6, 173, _), (7, 174, _), (8, 175, .dat (bD true)), (9, 176, _), (10, 177, _), (11, 178, _), (12, 179, .dat (wz [(1, lvS Z1), (1, lvS y4)])), (13, 180, _), (14, 181, .dat (wz [(1, lvS Z1), (1, lvS y4)])), (15, 182, .dat (bD true)), (16, 183, _), (17, 23, .dat (bD true))] [] ⟨FV 0 [] [4, 5, 6, 7, 8, 9, 10, 11, 12, 13, 14, 15, 16, 17], FV 1 [] [3, 4, 5, 6, 7, 8, 9, 10, 11, 12, 13, 14, 15, 16, 17], FV 2 [] [3, 4, 5, 6, 7, 8, 9, 10, 11, 12, 13, 14, 15, 16, 17], FV 3 [1, 2] [4, 5, 6, 7, 8, 9, 10, 11, 12, 13, 14, 15, 16, 17], (by have hc := gvF hP hG (Q1 G [y4, Z1] (by decide) zc6); exact FVc 4 [0, 1, 2, 3] [5, 6, 7, 8, 9, 10, 11, 12, 13, 14, 15, 16, 17]), FV 5 [0, 1, 2, 3, 4] [6, 7, 8, 9, 10, 11, 12, 13, 14, 15, 16, 17], FG 6 [0, 1, 2, 3, 4, 5] [8, 9, 10, 11, 12, 13, 14, 15, 16, 17], FG 7 [0, 1, 2, 3, 4, 5] [8, 9, 10, 11, 12, 13, 14, 15, 16, 17], (by have hc := gvF hP hG (Q1 G [y4, Z1] (by decide) zc6); exact FGc 8 [0, 1, 2, 3, 4, 5, 6, 7] [9, 10, 11, 12, 13, 14, 15, 16, 17]), FV 9 [0, 1, 2, 3, 4, 5, 6, 7, 8] [10, 11, 12, 13, 14, 15, 16, 17], FV 10 [0, 1, 2, 3, 4, 5, 6, 7, 8, 9] [11, 12, 13, 14, 15, 16, 17], FG 11 [0, 1, 2, 3, 4, 5, 6, 7, 8, 9, 10] [12, 14, 15, 16, 17], (FGs 12 [0, 1, 2, 3, 4, 5, 6, 7, 8, 9, 10, 11] [14, 15, 16, 17] (fun D hA1 hA2 => by simp only [qt, NoD] at hA1 hA2; exact xk (m := fun i => if i = 1000 then 66 else if i = 1001 then 68 else 69) rfl rfl (by rw [hN]; omega) EV' (z0r hP hG (z39 G g1)) EX' (wh hN EL' (by rfl)))), FG 13 [0, 1, 2, 3, 4, 5, 6, 7, 8, 9, 10] [14, 15, 16, 17], (FGs 14 [0, 1, 2, 3, 4, 5, 6, 7, 8, 9, 10, 11, 12, 13] [15, 16, 17] (fun D hA1 hA2 => by simp only [qt, NoD] at hA1 hA2; exact xk (m := fun i => if i = 1000 then 24 else if i = 1001 then 26 else 27) rfl rfl (by rw [hN]; omega) EV' (z0r hP hG (z39 G g1)) EX' (wh hN EL' (by rfl)))), (by have hc := gvF hP hG (zeb G [(1, lvS Z1), (1, lvS y4)] (by simp) (by simp [h1, h2])); exact FGc 15 [0, 1, 2, 3, 4, 5, 6, 7, 8, 9, 10, 11, 12, 13, 14] [16, 17]), FV 16 [0, 1, 2, 3, 4, 5, 6, 7, 8, 9, 10, 11, 12, 13, 14, 15] [17], FV 17 [0, 1, 2, 3, 4, 5, 6, 7, 8, 9, 10, 11, 12, 13, 14, 15, 16] [], trivial⟩ ?_
   refine WDF [0] [24, 26, 27, 66, 68, 69] [(0, 184, _), (1, 185, _), (2, 186, _), (3, 187, _), (4, 188, _), (5, 189, _), (6, 190, _), (7, 191, _), (8, 192, _), (9, 193, _), (10, 194, _), (11, 195, _), (12, 196, _), (13, 197, _), (14, 198, _), (15, 199, _), (16, 200, _), (17, 201, _), (18, 202, _), (19, 203, _), (20, 204, _), (21, 205, _), (22, 206, _), (23, 207, _), (24, 208, _), (25, 209, _), (26, 210, _), (27, 211, _), (28, 212, _), (29, 213, _), (30, 214, _), (31, 215, _), (32, 216, _), (33, 217, _), (34, 218, .dat (iD 0)), (35, 219, _), (36, 220, _), (37, 0, .dat (bD true))] [] ⟨FV 0 [] [1, 2, 3, 4, 5, 6, 7, 8, 9, 10, 11, 12, 13, 14, 15, 16, 17, 18, 19, 20, 21, 22, 23, 24, 25, 26, 27, 28, 29, 30, 31, 32, 33, 34, 35, 36, 37], FV 1 [0] [2, 3, 4, 5, 6, 7, 8, 9, 10, 11, 12, 13, 14, 15, 16, 17, 18, 19, 20, 21, 22, 23, 24, 25, 26, 27, 28, 29, 30, 31, 32, 33, 34, 35, 36, 37], FG 2 [0, 1] [3, 4, 5, 6, 7, 8, 9, 10, 11, 12, 13, 14, 15, 16, 17, 18, 19, 20, 21, 22, 23, 24, 25, 26, 27, 28, 29, 30, 31, 32, 33, 34, 35, 36, 37], FV 3 [0, 1, 2] [4, 5, 6, 7, 8, 9, 10, 11, 12, 13, 14, 15, 16, 17, 18, 19, 20, 21, 22, 23, 24, 25, 26, 27, 28, 29, 30, 31, 32, 33, 34, 35, 36, 37], FV 4 [0, 1, 2, 3] [5, 6, 7, 8, 9, 10, 11, 12, 13, 14, 15, 16, 17, 18, 19, 20, 21, 22, 23, 24, 25, 26, 27, 28, 29, 30, 31, 32, 33, 34, 35, 36, 37], FG 5 [0, 1, 2, 3, 4] [6, 7, 8, 9, 10, 11, 12, 13, 14, 15, 16, 17, 18, 19, 20, 21, 22, 23, 24, 25, 26, 27, 28, 29, 30, 31, 32, 33, 34, 35, 36, 37], FG 6 [0, 1, 2, 3, 4, 5] [7, 8, 9, 10, 11, 12, 13, 14, 15, 16, 17, 18, 19, 20, 21, 22, 23, 24, 25, 26, 27, 28, 29, 30, 31, 32, 33, 34, 35, 36, 37], FV 7 [0, 1, 2, 3, 4, 5, 6] [8, 9, 10, 11, 12, 13, 14, 15, 16, 17, 18, 19, 20, 21, 22, 23, 24, 25, 26, 27, 28, 29, 30, 31, 32, 33, 34, 35, 36, 37], FV 8 [0, 1, 2, 3, 4, 5, 6, 7] [9, 10, 11, 12, 13, 14, 15, 16, 17, 18, 19, 20, 21, 22, 23, 24, 25, 26, 27, 28, 29, 30, 31, 32, 33, 34, 35, 36, 37], FG 9 [0, 1, 2, 3, 4, 5, 6, 7, 8] [10, 11, 12, 13, 14, 15, 16, 17, 18, 19, 20, 21, 22, 23, 24, 25, 26, 27, 28, 29, 30, 31, 32, 33, 34, 35, 36, 37], FG 10 [0, 1, 2, 3, 4, 5, 6, 7, 8, 9] [11, 12, 13, 14, 15, 16, 17, 18, 19, 20, 21, 22, 23, 24, 25, 26, 27, 28, 29, 30, 31, 32, 33, 34, 35, 36, 37], FV 11 [0, 1, 2, 3, 4, 5, 6, 7, 8, 9, 10] [12, 13, 14, 15, 16, 17, 18, 19, 20, 21, 22, 23, 24, 25, 26, 27, 28, 29, 30, 31, 32, 33, 34, 35, 36, 37], FV 12 [0, 1, 2, 3, 4, 5, 6, 7, 8, 9, 10, 11] [13, 14, 15, 16, 17, 18, 19, 20, 21, 22, 23, 24, 25, 26, 27, 28, 29, 30, 31, 32, 33, 34, 35, 36, 37], FG 13 [0, 1, 2, 3, 4, 5, 6, 7, 8, 9, 10, 11, 12] [14, 15, 16, 17, 18, 19, 20, 21, 22, 23, 24, 25, 26, 27, 28, 29, 30, 31, 32, 33, 34, 35, 36, 37], FG 14 [0, 1, 2, 3, 4, 5, 6, 7, 8, 9, 10, 11, 12, 13] [15, 16, 17, 18, 19, 20, 21, 22, 23, 24, 25, 26, 27, 28, 29, 30, 31, 32, 33, 34, 35, 36, 37], FV 15 [0, 1, 2, 3, 4, 5, 6, 7, 8, 9, 10, 11, 12, 13, 14] [16, 17, 18, 19, 20, 21, 22, 23, 24, 25, 26, 27, 28, 29, 30, 31, 32, 33, 34, 35, 36, 37], FV 16 [0, 1, 2, 3, 4, 5, 6, 7, 8, 9, 10, 11, 12, 13, 14, 15] [17, 18, 19, 20, 21, 22, 23, 24, 25, 26, 27, 28, 29, 30, 31, 32, 33, 34, 35, 36, 37], FG 17 [0, 1, 2, 3, 4, 5, 6, 7, 8, 9, 10, 11, 12, 13, 14, 15, 16] [18, 19, 20, 21, 22, 23, 24, 25, 26, 27, 28, 29, 30, 31, 32, 33, 34, 35, 36, 37], FG 18 [0, 1, 2, 3, 4, 5, 6, 7, 8, 9, 10, 11, 12, 13, 14, 15, 16, 17] [19, 20, 21, 22, 23, 24, 25, 26, 27, 28, 29, 30, 31, 32, 33, 34, 35, 36, 37], FV 19 [0, 1, 2, 3, 4, 5, 6, 7, 8, 9, 10, 11, 12, 13, 14, 15, 16, 17, 18] [20, 21, 22, 23, 24, 25, 26, 27, 28, 29, 30, 31, 32, 33, 34, 35, 36, 37], FV 20 [0, 1, 2, 3, 4, 5, 6, 7, 8, 9, 10, 11, 12, 13, 14, 15, 16, 17, 18, 19] [21, 22, 23, 24, 25, 26, 27, 28, 29, 30, 31, 32, 33, 34, 35, 36, 37], FG 21 [0, 1, 2, 3, 4, 5, 6, 7, 8, 9, 10, 11, 12, 13, 14, 15, 16, 17, 18, 19, 20] [22, 23, 24, 25, 26, 27, 28, 29, 30, 31, 32, 33, 34, 35, 36, 37], FG 22 [0, 1, 2, 3, 4, 5, 6, 7, 8, 9, 10, 11, 12, 13, 14, 15, 16, 17, 18, 19, 20, 21] [23, 24, 25, 26, 27, 28, 29, 30, 31, 32, 33, 34, 35, 36, 37], FV 23 [0, 1, 2, 3, 4, 5, 6, 7, 8, 9, 10, 11, 12, 13, 14, 15, 16, 17, 18, 19, 20, 21, 22] [24, 25, 26, 27, 28, 29, 30, 31, 32, 33, 34, 35, 36, 37], FV 24 [0, 1, 2, 3, 4, 5, 6, 7, 8, 9, 10, 11, 12, 13, 14, 15, 16, 17, 18, 19, 20, 21, 22, 23] [25, 26, 27, 28, 29, 30, 31, 32, 33, 34, 35, 36, 37], FG 25 [0, 1, 2, 3, 4, 5, 6, 7, 8, 9, 10, 11, 12, 13, 14, 15, 16, 17, 18, 19, 20, 21, 22, 23, 24] [26, 27, 28, 29, 30, 31, 32, 33, 34, 35, 36, 37], FG 26 [0, 1, 2, 3, 4, 5, 6, 7, 8, 9, 10, 11, 12, 13, 14, 15, 16, 17, 18, 19, 20, 21, 22, 23, 24, 25] [27, 28, 29, 30, 31, 32, 33, 34, 35, 36, 37], FV 27 [0, 1, 2, 3, 4, 5, 6, 7, 8, 9, 10, 11, 12, 13, 14, 15, 16, 17, 18, 19, 20, 21, 22, 23, 24, 25, 26] [28, 29, 30, 31, 32, 33, 34, 35, 36, 37], FV 28 [0, 1, 2, 3, 4, 5, 6, 7, 8, 9, 10, 11, 12, 13, 14, 15, 16, 17, 18, 19, 20, 21, 22, 23, 24, 25, 26, 27] [29, 30, 31, 32, 33, 34, 35, 36, 37], FG 29 [0, 1, 2, 3, 4, 5, 6, 7, 8, 9, 10, 11, 12, 13, 14, 15, 16, 17, 18, 19, 20, 21, 22, 23, 24, 25, 26, 27, 28] [30, 34, 35, 36, 37], FG 30 [0, 1, 2, 3, 4, 5, 6, 7, 8, 9, 10, 11, 12, 13, 14, 15, 16, 17, 18, 19, 20, 21, 22, 23, 24, 25, 26, 27, 28, 29] [34, 35, 36, 37], FG 31 [0, 1, 2, 3, 4, 5, 6, 7, 8, 9, 10, 11, 12, 13, 14, 15, 16, 17, 18, 19, 20, 21, 22, 23, 24, 25, 26, 27, 28] [32, 33, 34, 35, 36, 37], FG 32 [0, 1, 2, 3, 4, 5, 6, 7, 8, 9, 10, 11, 12, 13, 14, 15, 16, 17, 18, 19, 20, 21, 22, 23, 24, 25, 26, 27, 28, 31] [33, 34, 35, 36, 37], FG 33 [0, 1, 2, 3, 4, 5, 6, 7, 8, 9, 10, 11, 12, 13, 14, 15, 16, 17, 18, 19, 20, 21, 22, 23, 24, 25, 26, 27, 28, 31, 32] [34, 35, 36, 37], (by have hc := gvF hP hG (zeo G g1); exact FGc 34 [0, 1, 2, 3, 4, 5, 6, 7, 8, 9, 10, 11, 12, 13, 14, 15, 16, 17, 18, 19, 20, 21, 22, 23, 24, 25, 26, 27, 28, 29, 30, 31, 32, 33] [35, 36, 37]), FG 35 [0, 1, 2, 3, 4, 5, 6, 7, 8, 9, 10, 11, 12, 13, 14, 15, 16, 17, 18, 19, 20, 21, 22, 23, 24, 25, 26, 27, 28, 29, 30, 31, 32, 33, 34] [36, 37], FV 36 [0, 1, 2, 3, 4, 5, 6, 7, 8, 9, 10, 11, 12, 13, 14, 15, 16, 17, 18, 19, 20, 21, 22, 23, 24, 25, 26, 27, 28, 29, 30, 31, 32, 33, 34, 35] [37], FV 37 [0, 1, 2, 3, 4, 5, 6, 7, 8, 9, 10, 11, 12, 13, 14, 15, 16, 17, 18, 19, 20, 21, 22, 23, 24, 25, 26, 27, 28, 29, 30, 31, 32, 33, 34, 35, 36] [], trivial⟩ ?_
   apply z9
   exact E0
theorem z30 {L : List EventM} {n : NameM} (h : 0 ≤ vc L n) : ∃ k : Nat, vc L n = (k : Int) ∧ k < L.length ∧ zx L n = some (L.getD k default) := by
 have hq : L.findIdx (Qk n) < L.length := by
  unfold vc kc at h
  split at h
  ·assumption
  ·omega
 refine ⟨L.findIdx (Qk n), ?_, hq, ?_⟩
 ·unfold vc kc; rw [if_pos hq]
 ·unfold zx
  rw [List.find?_eq_some_iff_getElem]
  refine ⟨?_, L.findIdx (Qk n), hq, (Z9 hq).symm, fun j hj => ?_⟩
  ·rw [Z9 hq]; exact List.findIdx_getElem
  ·have := List.not_of_lt_findIdx hj
   simpa using this
theorem zj8 {L : List EventM} {n : NameM} (h : ¬ 0 ≤ vc L n) : zx L n = none := by
 unfold vc at h
 rw [kd] at h
 unfold zx
 rw [List.find?_eq_none]
 intro x hx hp
 exact h (List.any_eq_true.2 ⟨x, hx, hp⟩)
theorem ze3 (L : List EventM) (n : NameM) : (zx L n).isSome = decide (0 ≤ vc L n) := by
 by_cases h : 0 ≤ vc L n
 ·obtain ⟨k, _, _, h3⟩ := z30 h
  rw [h3]; simp [h]
 ·rw [zj8 h]; simp [h]
def Xj (p : Nat) (L : List EventM) (c : EventM) : Bool := decide ((zq p L c).2.2 = 0) && !(zq p L c).2.1
section
variable {p : Nat} {L : List EventM} {c : EventM}
theorem zrv (h : qn c ≠ 0) : (zq p L c).2.2 = qn c ∧ Xj p L c = false := by
 have hv : zq p L c = (L, false, qn c) := by unfold zq; rw [if_pos h]
 unfold Xj
 rw [hv]
 simp [h]
theorem zyk (h : qn c = 0) (h2 : (p : Int) ≤ c.By) : (zq p L c).2.2 = 1 ∧ Xj p L c = false := by
 have hv : zq p L c = (L, false, 1) := by unfold zq; rw [if_neg (by simp [h]), if_pos h2]
 unfold Xj
 rw [hv]
 simp
theorem zv3 (h : qn c = 0) (h2 : ¬ (p : Int) ≤ c.By) {e : EventM} (h3 : zx L (evName c) = some e) (h4 : x4 e c = true) : (zq p L c).2.2 = 0 ∧ Xj p L c = true := by
 have hv : zq p L c = (L, false, 0) := by unfold zq; rw [if_neg (by simp [h]), if_neg h2, if_pos (by simp [h3])]; simp [h3, h4]
 unfold Xj
 rw [hv]
 simp
theorem zru (h : qn c = 0) (h2 : ¬ (p : Int) ≤ c.By) {e : EventM} (h3 : zx L (evName c) = some e) (h4 : ¬ x4 e c = true) : (zq p L c).2.2 = 7 ∧ Xj p L c = false := by
 have hv : zq p L c = (L, false, 7) := by unfold zq; rw [if_neg (by simp [h]), if_neg h2, if_pos (by simp [h3])]; simp [h3, h4]
 unfold Xj
 rw [hv]
 simp
theorem zk8 (h : qn c = 0) (h2 : ¬ (p : Int) ≤ c.By) (h3 : zx L (evName c) = none) (h4 : kh L c = true) : (zq p L c).2.2 = 10 ∧ Xj p L c = false := by
 have hv : zq p L c = (L, false, 10) := by unfold zq; rw [if_neg (by simp [h]), if_neg h2, if_neg (by simp [h3]), if_pos h4]
 unfold Xj
 rw [hv]
 simp
theorem zv2 (h : qn c = 0) (h2 : ¬ (p : Int) ≤ c.By) (h3 : zx L (evName c) = none) (h4 : kh L c = false) (h5 : wv L c = true) : (zq p L c).2.2 = 5 ∧ Xj p L c = false := by
 have hv : zq p L c = (L, false, 5) := by unfold zq; rw [if_neg (by simp [h]), if_neg h2, if_neg (by simp [h3]), if_neg (by simp [h4]), if_pos h5]
 unfold Xj
 rw [hv]
 simp
theorem zxh (h : qn c = 0) (h2 : ¬ (p : Int) ≤ c.By) (h3 : zx L (evName c) = none) (h4 : kh L c = false) (h5 : wv L c = false) : (zq p L c).2.2 = 0 ∧ Xj p L c = false := by
 have hv := (Qw (p := p)).2 ⟨h, by omega, h3, h4, h5⟩
 unfold Xj
 rw [hv]
 simp
theorem zq6 (h : ¬ c.Seq = ((qg L c.By).length : Int)) : kh L c = true := by
 unfold kh
 rw [qi]
 simp [h]
theorem zq5 {i : Nat} (hi : i < c.Refs.length) (h : vc L (c.Refs.getD i default) < 0) : kh L c = true := by
 unfold kh
 rw [Bool.or_eq_true]
 right
 rw [List.any_eq_true]
 refine ⟨c.Refs.getD i default, ?_, ?_⟩
 ·rw [List.getD_eq_getElem?_getD, List.getElem?_eq_getElem hi, Option.getD_some]; exact List.getElem_mem hi
 ·rw [ze3, decide_eq_false (by omega)]; rfl
theorem zq4 (hs : c.Seq = ((qg L c.By).length : Int)) (h : ∀ j, j < c.Refs.length → 0 ≤ vc L (c.Refs.getD j default)) : kh L c = false := by
 rw [z3a, qi]
 refine ⟨hs, fun n hn => ?_⟩
 obtain ⟨i, hi, rfl⟩ := List.getElem_of_mem hn
 have := h i hi
 rw [List.getD_eq_getElem?_getD, List.getElem?_eq_getElem hi, Option.getD_some] at this
 rw [ze3]; simp [this]
def ji (L : List EventM) (c : EventM) : Bool := decide (0 < c.Seq) && wq L c ⟨c.By, c.Seq - 1⟩
theorem zpf : wv L c = (ji L c || z42 (wq L c) c.Refs c.Refs.length) := by
 unfold wv ji z42
 rw [List.take_length, Bool.or_comm]
theorem zl9 (hT : TakenL p L) (hs : c.Seq = ((qg L c.By).length : Int)) (h0 : 0 < (qg L c.By).length) : ji L c = decide (c.Tick ≤ ((qg L c.By).getD ((qg L c.By).length - 1) default).Tick) := by
 have hc := z2f hT c.By (by rw [qi]; exact h0)
 have hcc := congrArg Int.ofNat (qi L c.By)
 simp only [Int.ofNat_eq_natCast] at hcc
 rw [show (qx L c.By : Int) - 1 = c.Seq - 1 by omega] at hc
 have hp : decide (0 < c.Seq) = true := by rw [decide_eq_true_eq]; omega
 unfold ji wq
 rw [hp, Bool.true_and, hc, Z9 (by omega)]
theorem zpe (hs : c.Seq = ((qg L c.By).length : Int)) (h0 : ¬ 0 < (qg L c.By).length) : ji L c = false := by
 have hp : decide (0 < c.Seq) = false := by rw [decide_eq_false_iff_not]; omega
 unfold ji
 rw [hp, Bool.false_and]
theorem zpg {k : Nat} {n : NameM} (h : zx L n = some (L.getD k default)) : wq L c n = decide (c.Tick ≤ (L.getD k default).Tick) := by
 unfold wq
 rw [h, Option.getD_some]
end
set_option maxRecDepth 100000 in
set_option maxHeartbeats 2000000 in
theorem zcm (G) (e : EventM) (h : OkEv e) : zl Tryz.prog G 145 [zf e] [bD (!z07 e && !z0e e)] := by
 have hoz := z68 h.op
 have hnb := h.nbroader
 have hnp := h.nposts
 have o1 := zqe e.Kind
 have o2 := zcc e.Kind
 have o3 := zyd e.Kind
 have o4 := zf2 e.Kind
 have o5 := zye e.Kind
 skip
 skip
 refine GI [] [] [] Tryz.func145 Tryz.ntmps145 fun F hP hG hN hR hA => ?_
 have hE := And.intro @Tryz.results145 (And.intro @zbv (@Xz))
 refine WS [1] [1] ?_
 refine WS [1, 3] [1] ?_
 apply z3
 apply zm [1, 3, 43] [1]
 ·refine RN ?_
  refine CG (zr6 G e.Op zOp hoz) ?_
  refine CG (zfp G e.Term zs4 (by omega)) ?_
  exact SC
 refine WI ?_ ?_ <;> intro hb
 ·have hv : (!z07 e && !z0e e) = false := by unfold z07; grind
  have hE := And.intro hE hv
  refine WS [2] [] ?_
  apply z9
  apply za
  refine EN ?_
  all_goals try trivial
  all_goals grind
 ·have h2 : z07 e = false := by unfold z07; grind
  apply z6
  apply z5
  apply z3
  refine WS [1, 67] [1] ?_
  refine WI ?_ ?_ <;> intro hb
  ·have hv : (!z07 e && !z0e e) = false := by unfold z0e qm; grind
   have hE := And.intro hE hv
   refine WS [2] [] ?_
   apply z9
   apply za
   refine EN ?_
   all_goals try trivial
   all_goals grind
  ·have hv : (!z07 e && !z0e e) = ((ofM e.Kind).n || e.N == 0) := by unfold z0e qm; grind
   have hE := And.intro hE (And.intro hv o5)
   apply z6
   apply z5
   refine WS [2] [] ?_
   apply z9
   refine EN ?_
   all_goals try trivial
   all_goals grind
set_option maxRecDepth 100000 in
set_option maxHeartbeats 2000000 in
theorem zmh (G) (e : EventM) (h : OkEv e) : zl Tryz.prog G 113 [zf e] [iD (qn e)] := by
 have hnr := h.nrefs
 have hnp := h.nposts
 have hnb := h.nbroader
 have hol := h.op.all
 have o1 := zqe e.Kind
 have o2 := zcc e.Kind
 skip
 skip
 refine GI [] [] [] Tryz.func113 Tryz.ntmps113 fun F hP hG hN hR hA => ?_
 have hE := And.intro @Tryz.results113 (And.intro @z0j (And.intro @zbv (@Xz)))
 refine WS [1] [1] ?_
 apply z3
 apply zm [1, 35] [1]
 ·refine RN ?_
  refine CG (zi8 G e.Op h.op) ?_
  exact SC
 refine WI ?_ ?_ <;> intro hb
 ·have hv := zbd (e := e) (by unfold z36; grind)
  have hE := And.intro hE hv
  refine WS [2] [] ?_
  apply z9
  apply za
  exact E0
 ·have h0 : z36 e = false := by unfold z36; grind
  apply z6
  apply z5
  apply z3
  apply zm [1, 74] [1]
  ·refine RN ?_
   refine CU (X7 G e) ?_
   refine CU (z3q G (evName e)) ?_
   refine CG (zcm G e h) ?_
   exact SC
  refine WI ?_ ?_ <;> intro hb
  ·have hv := z1s h0 (by unfold z26 wa; grind)
   have hE := And.intro hE hv
   refine WS [2] [] ?_
   apply z9
   apply za
   exact E0
  ·have h1 : z26 e = false := by unfold z26 wa; grind
   have h3 : wa e.N 1048576 = true := by unfold wa; grind
   have h2 : z07 e = false ∧ z0e e = false := by grind
   have h123 := And.intro h1 (And.intro h2.1 (And.intro h2.2 h3))
   apply z6
   apply z5
   apply z3
   refine WS [1, 3] [1] ?_
   apply z7
   refine WL (ι := {i : Nat // i ≤ e.Refs.length ∧ ∀ j, j < i → j4 e j = false}) [1] [1] (fun ⟨i, hic⟩ => [(3, .dat (iD i))]) (fun ⟨i, hic⟩ => []) (fun ⟨i, hic⟩ => e.Refs.length - i) (⟨0, by omega, Ze⟩) ?_
   rintro ⟨i, hic⟩
   refine LA ?_
   obtain ⟨hi, hall⟩ := id hic
   have hi1 : (if (i : Int) - 1 < 0 then 0 else (i : Int) - 1).toNat = i - 1 := by split <;> omega
   have hE := And.intro hE hi1
   apply z3
   refine WS [1, 3, 79] [1] ?_
   refine WI ?_ ?_ <;> intro hb
   ·apply z6
    apply z5
    apply z3
    apply z7
    apply w9 [1, 3, 118] [1] [0, 1, 2, 3, 4, 5, 6, 7, 8, 9, 10, 11, 12, 13, 14, 15, 16, 17, 18, 19, 20, 21, 22, 23, 24, 25, 26, 27, 28, 29, 30, 31, 32, 33, 34, 35, 36] []
    ·rw [hP]; kernel_rfl
    ·exact hR
    ·kernel_rfl
    ·(repeat (apply PickL.cons; exact rfl)); exact PickL.nil _
    ·refine RN ?_
     refine CU (z3q G (e.Refs.getD i default)) ?_
     refine CG (X7 G e) ?_
     refine CG (zfi G (e.Refs.getD (i - 1) default) (e.Refs.getD i default)) ?_
     exact SC
    refine WI ?_ ?_ <;> intro hb
    ·have hv := zbe h0 h123 (i := i) (by omega) (by unfold j4 zz; grind)
     have hE := And.intro hE hv
     refine WS [2] [] ?_
     apply z9
     apply zd
     apply za
     apply zu
     apply zd
     apply za
     exact E0
    ·have hnb1 : j4 e i = false := by unfold j4 zz; grind
     apply z6
     apply zh
     apply z5
     refine WQ [1, 3] [1] ?_
     refine WN (⟨i + 1, by omega, xf hic.2 hnb1⟩)
   ·apply zj
    apply zc
    obtain rfl : i = e.Refs.length := by omega
    apply zb
    apply zn
    apply z5
    refine WS [1, 4] [1, 4] ?_
    apply z3
    apply zm [1, 166] [1]
    ·refine RN ?_
     refine CG (z89 G e.Term.Name (by have := h.name; omega)) ?_
     refine CG (z89 G e.Term.See (by have := h.see; omega)) ?_
     refine CG (zb4 G e.Term.Broader (by omega) (fun s hs => by have := h.broader s hs; omega)) ?_
     exact SC
    refine WI ?_ ?_ <;> intro hb
    ·have hv := zka h0 h123 hall (by unfold z8y wa; grind)
     have hE := And.intro hE hv
     refine WS [2] [] ?_
     apply z9
     apply za
     exact E0
    ·have h5 : z8y e = false := by unfold z8y wa; grind
     apply z6
     apply z5
     apply z3
     refine WS [1, 5] [1] ?_
     apply z7
     refine WL (ι := {i : Nat // i ≤ e.Posts.length ∧ ∀ j, j < i → jg e j = false}) [1] [1] (fun ⟨i, hic⟩ => [(5, .dat (iD i))]) (fun ⟨i, hic⟩ => []) (fun ⟨i, hic⟩ => e.Posts.length - i) (⟨0, by omega, Ze⟩) ?_
     rintro ⟨i, hic⟩
     refine LA ?_
     obtain ⟨hi, hallp⟩ := id hic
     apply z3
     refine WS [1, 5, 171] [1] ?_
     refine WI ?_ ?_ <;> intro hb
     ·have hp := zt h.posts (i := i) (by omega)
      apply z6
      apply z5
      apply z3
      apply z7
      refine WS [1, 5, 6] [1, 6] ?_
      apply zm [1, 5, 201] [1]
      ·refine RN ?_
       refine CG (zb4 G (e.Posts.getD i default).Path (by omega) (fun s hs => by have := hp.2.2 s hs; omega)) ?_
       exact SC
      refine WI ?_ ?_ <;> intro hb
      ·have hv := z8p h0 h123 hall h5 (i := i) (by omega) (by unfold jg qm; grind)
       have hE := And.intro hE hv
       refine WS [2] [] ?_
       apply z9
       apply zd
       apply za
       apply zu
       apply zd
       apply za
       exact E0
      ·have hnb1 : jg e i = false := by unfold jg qm; grind
       apply z6
       apply zh
       apply z5
       refine WQ [1, 5] [1] ?_
       refine WN (⟨i + 1, by omega, xf hic.2 hnb1⟩)
     ·apply zj
      apply zc
      obtain rfl : i = e.Posts.length := by omega
      have hv := zbc h0 h123 hall h5 hallp
      have hE := And.intro hE hv
      apply zb
      apply zn
      apply z5
      refine WS [2] [] ?_
      apply z9
      exact E0
def zhb (L : List EventM) (c : EventM) : Bool := decide (0 ≤ vc L (evName c)) && x4 (L.getD (vc L (evName c)).toNat default) c
set_option maxRecDepth 100000 in
set_option maxHeartbeats 4000000 in
theorem zuc (G) (p : Nat) (hp : p ≤ 1000) (L : List EventM) (hT : TakenL p L) (hL : ∀ e ∈ L, OkEv e) (hn : L.length ≤ 1000) (c : EventM) (hce : OkEv c) : zl Tryz.prog G 66 [va p L, zf c] [iD (zq p L c).2.2, bD (Xj p L c)] := by
 have hnr := hce.nrefs
 skip
 refine GI [] [] [] Tryz.func66 Tryz.ntmps66 fun F hP hG hN hR hA => ?_
 have hE := @Tryz.results66
 refine WS [2, 3] [2, 3] ?_
 refine vp 2 hR.2.2.2 rfl rfl ?_
 refine vp 3 hR.2.2.2 rfl rfl ?_
 simp (disch := omega) only [avA, zk, zo, seval, hE]
 have hc := gvF hP hG (zmh G c hce)
 refine WSc [2, 3, 6] [2, 3] ?_
 apply z3
 refine WS [2, 3, 6, 15] [2, 3] ?_
 refine WI ?_ ?_ <;> intro hb
 ·obtain ⟨v1, v2⟩ := zrv (p := p) (L := L) (c := c) (by simpa using hb)
  have hE := And.intro hE (And.intro v1 v2)
  refine WS [4, 5] [] ?_
  apply z9
  apply za
  exact E0
 ·have hv0 : qn c = 0 := by simpa using hb
  apply z6
  apply z5
  apply z3
  refine WS [2, 3, 21] [2, 3] ?_
  refine WI ?_ ?_ <;> intro hb
  ·obtain ⟨v1, v2⟩ := zyk (p := p) (L := L) (c := c) hv0 (by simpa using hb)
   have hE := And.intro hE (And.intro v1 v2)
   refine WS [4, 5] [] ?_
   apply z9
   apply za
   exact E0
  ·have hbp : ¬ (p : Int) ≤ c.By := by simpa using hb
   apply z6
   apply z5
   have hc := gvF hP hG (zfg G L (evName c) hn)
   refine WSc [2, 3, 7] [2, 3] ?_
   apply z3
   refine v7 (.of [(2, .rp (va p L) 0), (3, .rp (zf c) 0), (7, .dat (iD (vc L (evName c)))), (40, .dat (bD (zhb L c)))] []) ?_ ?_
   ·by_cases h0 : 0 ≤ vc L (evName c)
    ·obtain ⟨k, hk1, hk2, hk3⟩ := z30 h0
     have hok := zt hL hk2
     have hbb : zhb L c = x4 (L.getD k default) c := by unfold zhb; rw [hk1]; simp
     have hE := And.intro hE (And.intro hk1 hbb)
     refine z1u [2, 3, 7, 40] [2, 3] [(0, 30, _), (1, 31, .dat (bD true)), (2, 32, .dat (bD true)), (3, 33, _), (4, 34, _), (5, 35, .dat (iD (k : Int))), (6, 36, _), (7, 37, _), (8, 38, _), (9, 39, .dat (bD (x4 (L.getD k default) c))), (10, 40, .dat (bD (x4 (L.getD k default) c)))] [] ⟨FV 0 [] [1, 2, 3, 4, 5, 6, 7, 8, 9, 10], FV 1 [0] [2, 3, 4, 5, 6, 7, 8, 9, 10], FV 2 [0, 1] [3, 4, 5, 6, 7, 8, 9, 10], FG 3 [0, 1, 2] [4, 6, 7, 9, 10], FG 4 [0, 1, 2, 3] [6, 7, 9, 10], FG 5 [0, 1, 2] [6, 7, 9, 10], FG 6 [0, 1, 2, 3, 4, 5] [7, 9, 10], FG 7 [0, 1, 2, 3, 4, 5, 6] [9, 10], FG 8 [0, 1, 2] [9, 10], (by have hc := gvF hP hG (zk1 G (L.getD k default) c hok); exact FGc 9 [0, 1, 2, 3, 4, 5, 6, 7, 8] [10]), FV 10 [0, 1, 2, 3, 4, 5, 6, 7, 8, 9] [], trivial⟩ ?_
     exact ML
    ·have hd0 : decide (0 ≤ vc L (evName c)) = false := by simpa using h0
     have hbb : zhb L c = false := by unfold zhb; rw [hd0]; rfl
     have hE := And.intro hE (And.intro hd0 hbb)
     refine z1u [2, 3, 7, 40] [2, 3] [(0, 30, _), (1, 31, .dat (bD false)), (2, 32, .dat (bD false)), (3, 33, .cond false .junk), (4, 34, .cond false .junk), (5, 35, .cond false .junk), (6, 36, .cond false .junk), (7, 37, .cond false .junk), (8, 38, .cond false .junk), (9, 39, .cond false (.dat (bD false))), (10, 40, .dat (bD false))] [] ⟨FV 0 [] [1, 2, 3, 4, 5, 6, 7, 8, 9, 10], FV 1 [0] [2, 3, 4, 5, 6, 7, 8, 9, 10], FV 2 [0, 1] [3, 4, 5, 6, 7, 8, 9, 10], FO 3 [0, 1, 2] [4, 6, 7, 9, 10], FO 4 [0, 1, 2, 3] [6, 7, 9, 10], FO 5 [0, 1, 2] [6, 7, 9, 10], FO 6 [0, 1, 2, 3, 4, 5] [7, 9, 10], FO 7 [0, 1, 2, 3, 4, 5, 6] [9, 10], FO 8 [0, 1, 2] [9, 10], FO 9 [0, 1, 2, 3, 4, 5, 6, 7, 8] [10], FV 10 [0, 1, 2, 3, 4, 5, 6, 7, 8, 9] [], trivial⟩ ?_
     exact ML
   refine WI ?_ ?_ <;> intro hb
   ·have hq : 0 ≤ vc L (evName c) ∧ x4 (L.getD (vc L (evName c)).toNat default) c = true := by unfold zhb at hb; simpa using hb
    obtain ⟨k, hk1, hk2, hk3⟩ := z30 hq.1
    obtain ⟨v1, v2⟩ := zv3 (p := p) hv0 hbp hk3 (by have := hq.2; rw [hk1] at this; exact this)
    have hE := And.intro hE (And.intro v1 v2)
    refine WS [4, 5] [] ?_
    apply z9
    apply za
    exact E0
   ·have hnq : ¬ (0 ≤ vc L (evName c) ∧ x4 (L.getD (vc L (evName c)).toNat default) c = true) := by unfold zhb at hb; simpa using hb
    apply z6
    apply z5
    apply z3
    refine WS [2, 3, 42] [2, 3] ?_
    refine WI ?_ ?_ <;> intro hb
    ·have hq : 0 ≤ vc L (evName c) := by simpa using hb
     obtain ⟨k, hk1, hk2, hk3⟩ := z30 hq
     obtain ⟨v1, v2⟩ := zru (p := p) hv0 hbp hk3 (fun h => hnq ⟨hq, by rw [hk1]; exact h⟩)
     have hE := And.intro hE (And.intro v1 v2)
     refine WS [4, 5] [] ?_
     apply z9
     apply za
     exact E0
    ·have hfn := zj8 (L := L) (n := evName c) (by simpa using hb)
     apply z6
     apply z5
     have hc := gvF hP hG (z4x G p L (by omega) c.By)
     refine WSc [2, 3, 8] [2, 3] ?_
     have hrl := zfa L c.By
     have hrb : ∀ e ∈ qg L c.By, OkEv e := fun e he => hL e (List.mem_filter.1 he).1
     apply z3
     refine WS [2, 3, 8, 51] [2, 3] ?_
     refine WI ?_ ?_ <;> intro hb
     ·obtain ⟨v1, v2⟩ := zk8 (p := p) hv0 hbp hfn (zq6 (by simpa using hb))
      have hE := And.intro hE (And.intro v1 v2)
      refine WS [4, 5] [] ?_
      apply z9
      apply za
      exact E0
     ·have hsq : c.Seq = ((qg L c.By).length : Int) := by simpa using hb
      apply z6
      apply z5
      refine v7 (.of [(2, .rp (va p L) 0), (3, .rp (zf c) 0), (9, .dat (bD (ji L c)))] []) ?_ ?_
      ·by_cases h0 : 0 < (qg L c.By).length
       ·have hlt := zl9 hT hsq h0
        have hd0 : decide ((0 : Int) < ((qg L c.By).length : Int)) = true := decide_eq_true (by omega)
        have hs1 : c.Seq - 1 = (((qg L c.By).length - 1 : Nat) : Int) := by omega
        have hok := zt hrb (i := (qg L c.By).length - 1) (by omega)
        have hE := And.intro hE (And.intro hlt (And.intro hd0 hs1))
        refine z1u [2, 3, 9] [2, 3] [(0, 52, _), (1, 53, _), (2, 54, .dat (bD true)), (3, 55, .dat (bD true)), (4, 56, _), (5, 57, _), (6, 58, _), (7, 59, .dat (iD (((qg L c.By).length - 1 : Nat) : Int))), (8, 60, _), (9, 61, _), (10, 62, _), (11, 63, _), (12, 64, _), (13, 65, .dat (bD (ji L c))), (14, 66, .dat (bD (ji L c))), (15, 9, .dat (bD (ji L c)))] [] ⟨FV 0 [] [1, 2, 3, 4, 5, 6, 7, 8, 9, 10, 11, 12, 13, 14, 15], FV 1 [0] [2, 3, 4, 5, 6, 7, 8, 9, 10, 11, 12, 13, 14, 15], FV 2 [0, 1] [3, 4, 5, 6, 7, 8, 9, 10, 11, 12, 13, 14, 15], FV 3 [0, 1, 2] [4, 5, 6, 7, 8, 9, 10, 11, 12, 13, 14, 15], FG 4 [0, 1, 2, 3] [8, 9, 10, 13, 14, 15], FG 5 [0, 1, 2, 3] [6, 7, 8, 9, 10, 13, 14, 15], FG 6 [0, 1, 2, 3, 5] [7, 8, 9, 10, 13, 14, 15], FG 7 [0, 1, 2, 3, 5, 6] [8, 9, 10, 13, 14, 15], FG 8 [0, 1, 2, 3, 4, 5, 6, 7] [9, 10, 13, 14, 15], FG 9 [0, 1, 2, 3, 4, 5, 6, 7, 8] [10, 13, 14, 15], FG 10 [0, 1, 2, 3, 4, 5, 6, 7, 8, 9] [13, 14, 15], FG 11 [0, 1, 2, 3] [12, 13, 14, 15], FG 12 [0, 1, 2, 3, 11] [13, 14, 15], FG 13 [0, 1, 2, 3, 4, 5, 6, 7, 8, 9, 10, 11, 12] [14, 15], FV 14 [0, 1, 2, 3, 4, 5, 6, 7, 8, 9, 10, 11, 12, 13] [15], FV 15 [0, 1, 2, 3, 4, 5, 6, 7, 8, 9, 10, 11, 12, 13, 14] [], trivial⟩ ?_
        exact ML
       ·have hlt := zpe hsq h0
        have hd0 : decide ((0 : Int) < ((qg L c.By).length : Int)) = false := decide_eq_false (by omega)
        have hE := And.intro hE (And.intro hlt hd0)
        refine z1u [2, 3, 9] [2, 3] [(0, 52, _), (1, 53, _), (2, 54, .dat (bD false)), (3, 55, .dat (bD false)), (4, 56, .cond false .junk), (5, 57, .cond false .junk), (6, 58, .cond false .junk), (7, 59, .cond false .junk), (8, 60, .cond false .junk), (9, 61, .cond false .junk), (10, 62, .cond false .junk), (11, 63, .cond false .junk), (12, 64, .cond false .junk), (13, 65, .cond false (.dat (bD false))), (14, 66, .dat (bD (ji L c))), (15, 9, .dat (bD (ji L c)))] [] ⟨FV 0 [] [1, 2, 3, 4, 5, 6, 7, 8, 9, 10, 11, 12, 13, 14, 15], FV 1 [0] [2, 3, 4, 5, 6, 7, 8, 9, 10, 11, 12, 13, 14, 15], FV 2 [0, 1] [3, 4, 5, 6, 7, 8, 9, 10, 11, 12, 13, 14, 15], FV 3 [0, 1, 2] [4, 5, 6, 7, 8, 9, 10, 11, 12, 13, 14, 15], FO 4 [0, 1, 2, 3] [8, 9, 10, 13, 14, 15], FO 5 [0, 1, 2, 3] [6, 7, 8, 9, 10, 13, 14, 15], FO 6 [0, 1, 2, 3, 5] [7, 8, 9, 10, 13, 14, 15], FO 7 [0, 1, 2, 3, 5, 6] [8, 9, 10, 13, 14, 15], FO 8 [0, 1, 2, 3, 4, 5, 6, 7] [9, 10, 13, 14, 15], FO 9 [0, 1, 2, 3, 4, 5, 6, 7, 8] [10, 13, 14, 15], FO 10 [0, 1, 2, 3, 4, 5, 6, 7, 8, 9] [13, 14, 15], FO 11 [0, 1, 2, 3] [12, 13, 14, 15], FO 12 [0, 1, 2, 3, 11] [13, 14, 15], FO 13 [0, 1, 2, 3, 4, 5, 6, 7, 8, 9, 10, 11, 12] [14, 15], FV 14 [0, 1, 2, 3, 4, 5, 6, 7, 8, 9, 10, 11, 12, 13] [15], FV 15 [0, 1, 2, 3, 4, 5, 6, 7, 8, 9, 10, 11, 12, 13, 14] [], trivial⟩ ?_
        exact ML
      apply z3
      refine WS [2, 3, 9, 10] [2, 3] ?_
      apply z7
      have hz : (ji L c || z42 (wq L c) c.Refs 0) = ji L c := by rw [zkc, Bool.or_false]
      have hE := And.intro hE hz
      refine WL (ι := {i : Nat // i ≤ c.Refs.length ∧ ∀ j, j < i → 0 ≤ vc L (c.Refs.getD j default)}) [2, 3] [2, 3] (fun ⟨i, hif⟩ => [(10, .dat (iD i)), (9, .dat (bD (ji L c || z42 (wq L c) c.Refs i)))]) (fun ⟨i, hif⟩ => []) (fun ⟨i, hif⟩ => c.Refs.length - i) (⟨0, by omega, fun j hj => absurd hj (Nat.not_lt_zero j)⟩) ?_
      rintro ⟨i, hif⟩
      refine LA ?_
      obtain ⟨hi, hf⟩ := id hif
      apply z3
      refine WS [2, 3, 9, 10, 71] [2, 3] ?_
      refine WI ?_ ?_ <;> intro hb
      ·apply z6
       apply z5
       apply z3
       apply z7
       apply w9 [2, 3, 9, 10, 11] [2, 3] [0, 1, 2, 3, 4, 5, 6, 7, 8] []
       ·rw [hP]; kernel_rfl
       ·exact hR
       ·kernel_rfl
       ·(repeat (apply PickL.cons; exact rfl)); exact PickL.nil _
       ·refine RN ?_
        refine CU (zfg G L (c.Refs.getD i default) hn) ?_
        exact SC
       apply z3
       refine WS [2, 3, 9, 10, 11, 83] [2, 3] ?_
       refine WI ?_ ?_ <;> intro hb
       ·obtain ⟨v1, v2⟩ := zk8 (p := p) hv0 hbp hfn (zq5 (i := i) (by omega) (by simpa using hb))
        have hE := And.intro hE (And.intro v1 v2)
        refine WS [4, 5] [] ?_
        apply z9
        apply za
        apply zd
        apply za
        apply zu
        apply zd
        apply za
        exact E0
       ·have hfi : 0 ≤ vc L (c.Refs.getD i default) := by simpa using hb
        obtain ⟨k, hk1, hk2, hk3⟩ := z30 hfi
        have hok := zt hL hk2
        have hlr := zpg (c := c) hk3
        have hst : (ji L c || z42 (wq L c) c.Refs (i + 1)) = ((ji L c || z42 (wq L c) c.Refs i) || wq L c (c.Refs.getD i default)) := by rw [zkb _ _ (by omega), Bool.or_assoc]
        apply z6
        apply z5
        refine znf (.of [(2, .rp (va p L) 0), (3, .rp (zf c) 0), (9, .dat (bD (ji L c || z42 (wq L c) c.Refs (i + 1)))), (10, .dat (iD i))] []) ?_ (fun st' hle => ?_)
        ·cases hq : (ji L c || z42 (wq L c) c.Refs i)
         ·rw [hq, Bool.false_or] at hst
          have hE := And.intro hE (And.intro hst (And.intro hk1 hlr))
          refine z1u [2, 3, 9, 10] [2, 3] [(0, 84, _), (1, 85, _), (2, 86, _), (3, 87, _), (4, 88, .dat (iD (k : Int))), (5, 89, _), (6, 90, _), (7, 91, _), (8, 92, _), (9, 93, _), (10, 94, .dat (bD (decide (c.Tick ≤ (L.getD k default).Tick)))), (11, 95, .dat (bD (decide (c.Tick ≤ (L.getD k default).Tick)))), (12, 9, .dat (bD (decide (c.Tick ≤ (L.getD k default).Tick))))] [] ⟨FV 0 [] [1, 2, 3, 4, 5, 6, 7, 8, 9, 10, 11, 12], FV 1 [0] [2, 3, 4, 5, 6, 7, 8, 9, 10, 11, 12], FG 2 [0, 1] [3, 5, 6, 7, 10, 11, 12], FG 3 [0, 1, 2] [5, 6, 7, 10, 11, 12], FG 4 [0, 1] [5, 6, 7, 10, 11, 12], FG 5 [0, 1, 2, 3, 4] [6, 7, 10, 11, 12], FG 6 [0, 1, 2, 3, 4, 5] [7, 10, 11, 12], FG 7 [0, 1, 2, 3, 4, 5, 6] [10, 11, 12], FG 8 [0, 1] [9, 10, 11, 12], FG 9 [0, 1, 8] [10, 11, 12], FG 10 [0, 1, 2, 3, 4, 5, 6, 7, 8, 9] [11, 12], FV 11 [0, 1, 2, 3, 4, 5, 6, 7, 8, 9, 10] [12], FV 12 [0, 1, 2, 3, 4, 5, 6, 7, 8, 9, 10, 11] [], trivial⟩ ?_
          exact ML
         ·rw [hq, Bool.true_or] at hst
          have hE := And.intro hE (And.intro hst hk1)
          refine z1u [2, 3, 9, 10] [2, 3] [(0, 84, _), (1, 85, _), (2, 86, .cond false .junk), (3, 87, .cond false .junk), (4, 88, .cond false .junk), (5, 89, .cond false .junk), (6, 90, .cond false .junk), (7, 91, .cond false .junk), (8, 92, .cond false .junk), (9, 93, .cond false .junk), (10, 94, .cond false (.dat (bD false))), (11, 95, .dat (bD true)), (12, 9, .dat (bD true))] [] ⟨FV 0 [] [1, 2, 3, 4, 5, 6, 7, 8, 9, 10, 11, 12], FV 1 [0] [2, 3, 4, 5, 6, 7, 8, 9, 10, 11, 12], FO 2 [0, 1] [3, 5, 6, 7, 10, 11, 12], FO 3 [0, 1, 2] [5, 6, 7, 10, 11, 12], FO 4 [0, 1] [5, 6, 7, 10, 11, 12], FO 5 [0, 1, 2, 3, 4] [6, 7, 10, 11, 12], FO 6 [0, 1, 2, 3, 4, 5] [7, 10, 11, 12], FO 7 [0, 1, 2, 3, 4, 5, 6] [10, 11, 12], FO 8 [0, 1] [9, 10, 11, 12], FO 9 [0, 1, 8] [10, 11, 12], FO 10 [0, 1, 2, 3, 4, 5, 6, 7, 8, 9] [11, 12], FV 11 [0, 1, 2, 3, 4, 5, 6, 7, 8, 9, 10] [12], FV 12 [0, 1, 2, 3, 4, 5, 6, 7, 8, 9, 10, 11] [], trivial⟩ ?_
          exact ML
        apply zh
        apply z5
        refine AWp.le hle ?_
        refine WQ [2, 3, 9, 10] [2, 3] ?_
        refine WN (⟨i + 1, by omega, xf hif.2 (by omega)⟩)
      ·apply zj
       apply zc
       have hie : i = c.Refs.length := by omega
       subst hie
       have hna := zq4 hsq hf
       have hla := zpf (L := L) (c := c)
       apply zb
       apply zn
       apply z5
       apply z3
       refine WS [96] [] ?_
       refine WI ?_ ?_ <;> intro hb
       ·obtain ⟨v1, v2⟩ := zv2 (p := p) hv0 hbp hfn hna (by rw [hla]; simpa using hb)
        have hE := And.intro hE (And.intro v1 v2)
        refine WS [4, 5] [] ?_
        apply z9
        apply za
        exact E0
       ·obtain ⟨v1, v2⟩ := zxh (p := p) hv0 hbp hfn hna (by rw [hla]; simpa using hb)
        have hE := And.intro hE (And.intro v1 v2)
        apply z6
        apply z5
        refine WS [4, 5] [] ?_
        apply z9
        exact E0
theorem zb9 {p : Nat} {L : List EventM} {c : EventM} (h : (zq p L c).2.2 ≠ 0) : zq p L c = (L, false, (zq p L c).2.2) := by
 unfold zq at h ⊢
 (repeat' split) <;> simp_all
theorem zms {p : Nat} {L : List EventM} {c : EventM} (h : (zq p L c).2.2 = 0) (h2 : Xj p L c = true) : zq p L c = (L, false, 0) := by
 unfold Xj at h2
 unfold zq at h h2 ⊢
 (repeat' split) <;> simp_all
theorem zfx {p : Nat} {L : List EventM} {c : EventM} (h : (zq p L c).2.2 = 0) (h2 : Xj p L c = false) : zq p L c = (L ++ [c], true, 0) := by
 unfold Xj at h2
 unfold zq at h h2 ⊢
 (repeat' split) <;> simp_all
def zip (p : Nat) (L l : List EventM) (i : Nat) (M : List EventM) (n : Nat) : Prop := zd4 p L l i M n ∧ TakenL p M
set_option maxRecDepth 100000 in
set_option maxHeartbeats 4000000 in
theorem zrb (G) (p : Nat) (hp : p ≤ 1000) (L l : List EventM) (hT : TakenL p L) (hL : ∀ e ∈ L, OkEv e) (hl : ∀ e ∈ l, OkEv e) (hn : L.length + l.length ≤ 900) : zl Tryz.prog G 27 [va p L, zr l] [va p (xe p L l 0).1, iD (xe p L l 0).2.1, iD (xe p L l 0).2.2] := by
 skip
 refine GI [33, 36, 42] [] [] Tryz.func27 Tryz.ntmps27 fun F hP hG hN hR hA => ?_
 have hE := @Tryz.results27
 refine WS [1, 2, 4] [2, 4, 33, 36, 42] ?_
 refine WS [1, 2, 4, 7] [2, 4, 33, 36, 42] ?_
 apply z3
 refine WS [1, 2, 4, 7, 8] [2, 4, 33, 36, 42] ?_
 apply z7
 refine WL (ι := {x : Nat × List EventM × Nat // zip p L l x.1 x.2.1 x.2.2}) [1, 2, 4] [4, 33, 36, 41, 42] (fun ⟨⟨i, M, n⟩, hx⟩ => [(8, .dat (iD i)), (7, .dat (iD n))]) (fun ⟨⟨i, M, n⟩, hx⟩ => [(2, ⟨2, [.dat (va p M)]⟩)]) (fun ⟨⟨i, M, n⟩, hx⟩ => l.length - i) (⟨⟨0, L, 0⟩, ⟨⟨Nat.zero_le _, by simp, hL, by simp, Nat.zero_le _⟩, hT⟩⟩) ?_
 rintro ⟨⟨i, M, n⟩, hx⟩
 refine LA ?_
 have hx2 : zip p L l i M n := hx
 obtain ⟨⟨hi, htk, hM, hMn, hni⟩, hTM⟩ := hx2
 apply z3
 refine WS [1, 2, 4, 7, 8, 14] [2, 4, 33, 36, 41, 42] ?_
 refine WI ?_ ?_ <;> intro hb
 ·have hce := zt hl (i := i) (by omega)
  rw [z1f (by omega), xe] at htk
  apply z6
  apply z5
  apply z3
  apply z7
  apply w9 [1, 2, 4, 7, 8, 9, 10] [2, 4, 33, 36, 41, 42] [0, 1, 2, 3, 4, 5, 6, 7, 8, 9, 10] []
  ·rw [hP]; kernel_rfl
  ·exact hR
  ·kernel_rfl
  ·(repeat (apply PickL.cons; exact rfl)); exact PickL.nil _
  ·refine RN ?_
   refine CU (zuc G p hp M hTM hM (by omega) (l.getD i default) hce) ?_
   exact SC
  apply z3
  refine WS [1, 2, 4, 7, 8, 9, 10, 27] [2, 4, 33, 36, 41, 42] ?_
  refine WI ?_ ?_ <;> intro hb
  ·have he : (zq p M (l.getD i default)).2.2 ≠ 0 := by simpa using hb
   rw [if_pos he, zb9 he] at htk
   have hE := And.intro hE htk
   refine WS [4, 5, 6] [4, 33, 36, 41, 42] ?_
   apply z9
   apply za
   apply zd
   apply za
   apply zu
   apply zd
   apply za
   exact E0
  ·have he : (zq p M (l.getD i default)).2.2 = 0 := by simpa using hb
   rw [if_neg (by simpa using he)] at htk
   apply z6
   apply z5
   refine WS [1, 2, 4, 7, 8, 32] [2, 4, 33, 36, 41, 42] ?_
   refine WI ?_ ?_ <;> intro hb
   ·have hv := zfx he (by simpa using hb)
    rw [hv] at htk
    simp only [if_true] at htk
    have hnx : zip p L l (i + 1) (M ++ [l.getD i default]) (n + 1) := ⟨⟨by omega, htk, fun e he => by
     rcases List.mem_append.1 he with h | h
     ·exact hM e h
     ·rw [List.mem_singleton.1 h]; exact hce, by rw [List.length_append, List.length_singleton]; omega, by omega⟩, .snoc hTM hv⟩
    refine WDF [1, 2, 4, 7, 8] [2, 4, 33, 36, 41, 42] [(0, 33, .osl 33 32 0 0), (1, 34, .ptr 2 2 0 1), (2, 35, .dat (zr M)), (3, 36, .osl 36 32 0 M.length), (4, 37, .dat (zr l)), (5, 38, .dat (iD i)), (6, 39, .rp (zf (l.getD i default)) 0), (7, 40, .dat (zf (l.getD i default))), (8, 41, .dat (.sl [zf (l.getD i default)])), (9, 42, .osl 42 32 0 (M.length + 1)), (10, 43, .ptr 2 2 0 1)] [(11, 2, some ⟨2, [.agg [.dat (iD p), .osl 42 32 0 (M.length + 1)]]⟩), (9, 42, some ⟨32, (M.map zf).map .dat ++ [.dat (zf (l.getD i default))]⟩), (9, 36, none), (3, 36, some ⟨32, (M.map zf).map .dat⟩), (3, 33, none), (0, 33, some ⟨32, []⟩)] ⟨FNd 0 5 [] [3, 9, 10, 11], FV 1 [] [2, 3, 9, 10, 11], FV 2 [1] [3, 9, 10, 11], FAa 3 3 4 [0, 1, 2] [9, 10, 11], FV 4 [] [6, 7, 8, 9, 10, 11], FV 5 [] [6, 7, 8, 9, 10, 11], FV 6 [4, 5] [7, 8, 9, 10, 11], FV 7 [4, 5, 6] [8, 9, 10, 11], FV 8 [4, 5, 6, 7] [9, 10, 11], FAa 9 1 2 [0, 1, 2, 3, 4, 5, 6, 7, 8] [10, 11], FV 10 [0, 1, 2, 3, 4, 5, 6, 7, 8, 9] [11], FS 0 [0, 1, 2, 3, 4, 5, 6, 7, 8, 9, 10] [], trivial⟩ ?_
    refine vp (ds := (M ++ [l.getD i default]).map zf) 42 hR.2.2.2 rfl (by have e := datE_map ((M ++ [l.getD i default]).map zf); simpa only [List.map_append, List.map_cons, List.map_nil] using e) ?_
    have htkM : List.take (M.length + 1) (List.map zf M ++ [zf (l.getD i default)]) = List.map zf M ++ [zf (l.getD i default)] := List.take_of_length_le (by simp)
    simp (disch := omega) only [avA, zk, zo, seval, htkM]
    refine zit (ds := [iD p, zr (M ++ [l.getD i default])]) 2 rfl (by simp [Zy, Dat.isAgg]) ?_
    refine WQ [1, 2, 4, 7, 8] [2, 4, 33, 36, 41, 42] ?_
    apply zh
    apply z5
    refine WQ [1, 2, 4, 7, 8] [2, 4, 33, 36, 41, 42] ?_
    refine WN (⟨⟨i + 1, M ++ [l.getD i default], n + 1⟩, hnx⟩)
   ·have hv := zms he (by simpa using hb)
    rw [hv] at htk
    simp only [Bool.false_eq_true, if_false] at htk
    have hnx : zip p L l (i + 1) M n := ⟨⟨by omega, htk, hM, by omega, by omega⟩, hTM⟩
    apply z6
    apply zh
    apply z5
    refine WQ [1, 2, 4, 7, 8] [2, 4, 33, 36, 41, 42] ?_
    refine WN (⟨⟨i + 1, M, n⟩, hnx⟩)
 ·apply zj
  apply zc
  have hie : i = l.length := by omega
  rw [List.drop_eq_nil_of_le (by omega), xe] at htk
  have hE := And.intro hE htk
  apply zb
  apply zn
  apply z5
  refine WS [4, 5, 6] [4, 33, 36, 41, 42] ?_
  apply z9
  exact E0
theorem zqt {p : Nat} {L : List EventM} {c : EventM} (hb : ¬ kp p c = true) : xi p L c = if (xe p L [wb L p c] 0).2.2 ≠ 0 then (L, default, (xe p L [wb L p c] 0).2.2) else ((xe p L [wb L p c] 0).1, wb L p c, 0) := by
 have h : (xe p L [wb L p c] 0).2.2 = (zq p L (wb L p c)).2.2 ∧ (xe p L [wb L p c] 0).1 = (zq p L (wb L p c)).1 := by
  rw [xe]
  split
  ·exact ⟨rfl, rfl⟩
  ·rename_i h
   rw [xe]
   exact ⟨(by simpa using h : (zq p L (wb L p c)).2.2 = 0).symm, rfl⟩
 unfold xi
 rw [if_neg hb, h.1, h.2]
 by_cases he : (zq p L (wb L p c)).2.2 ≠ 0
 ·rw [if_pos he, if_pos he, zb9 he]
 ·rw [if_neg he, if_neg he]
theorem zfz {p : Nat} {L : List EventM} (h : TakenL p L) : 0 ≤ rclN L L.length ∧ rclN L L.length ≤ 1048576 := by
 refine ⟨(zcg L L.length).1, ?_⟩
 rcases zi3 L L.length with h1 | ⟨k, hk, h1⟩
 ·omega
 ·rw [← h1, Z9 hk]
  exact (zbf (z17 h _ (List.getElem_mem hk)).1).2.2.2.2.2
set_option maxRecDepth 100000 in
set_option maxHeartbeats 4000000 in
theorem z81 (G) (p : Nat) (hp : p ≤ 1000) (L : List EventM) (hT : TakenL p L) (hL : ∀ e ∈ L, OkEv e) (hn : L.length ≤ 800) (c : EventM) (hce : OkEv c) : zl Tryz.prog G 10 [va p L, zf c] [va p (xi p L c).1, zf (xi p L c).2.1, iD (xi p L c).2.2] := by
 have hck := zny hT
 have hrc := zfz hT
 have hnx := zjo (p := p) (L := L) hce (by omega) (by rw [hck]; omega)
 skip
 refine GI [] [] [] Tryz.func10 Tryz.ntmps10 fun F hP hG hN hR hA => ?_
 have hE := @Tryz.results10
 refine WS [2, 3, 4, 5] [2, 3, 4, 5] ?_
 apply z3
 refine vp 2 hR.2.2.2 rfl rfl ?_
 simp (disch := omega) only [avA, zk, zo, seval, hE]
 refine v7 (.of [(2, .rp (va p L) 0), (3, .ptr 3 32 0 0), (4, .ptr 4 2 0 0), (5, .ptr 5 32 0 0), (19, .dat (bD (kp p c)))] [(3, ⟨32, [.dat (zf c)]⟩), (4, ⟨2, [.agg [.dat (iD 0), .nils]]⟩), (5, ⟨32, [zg6]⟩)]) ?_ ?_
 ·by_cases h0 : c.By < 0
  ·have hd0 : decide (c.By < 0) = true := by simpa using h0
   have hbb : kp p c = true := by unfold kp; rw [hd0]; rfl
   have hE := And.intro hE (And.intro hd0 hbb)
   refine Zk [2, 3, 4, 5, 19] [2, 3, 4, 5] [(0, 10, _), (1, 11, _), (2, 12, .dat (bD true)), (3, 13, .dat (bD true)), (4, 14, .cond false .junk), (5, 15, .cond false .junk), (6, 16, .cond false .junk), (7, 17, .cond false .junk), (8, 18, .cond false (.dat (bD false))), (9, 19, .dat (bD true))] [] ⟨FV 0 [] [1, 2, 3, 4, 5, 6, 7, 8, 9], FV 1 [0] [2, 3, 4, 5, 6, 7, 8, 9], FV 2 [0, 1] [3, 4, 5, 6, 7, 8, 9], FV 3 [0, 1, 2] [4, 5, 6, 7, 8, 9], FO 4 [0, 1, 2, 3] [5, 8, 9], FO 5 [0, 1, 2, 3, 4] [8, 9], FO 6 [0, 1, 2, 3] [7, 8, 9], FO 7 [0, 1, 2, 3, 6] [8, 9], FO 8 [0, 1, 2, 3, 4, 5, 6, 7] [9], FV 9 [0, 1, 2, 3, 4, 5, 6, 7, 8] [], trivial⟩ ?_
   exact ML
  ·have hd0 : decide (c.By < 0) = false := by simpa using h0
   have hbb : kp p c = decide ((p : Int) ≤ c.By) := by unfold kp; rw [hd0]; rfl
   have hE := And.intro hE (And.intro hd0 hbb)
   refine Zk [2, 3, 4, 5, 19] [2, 3, 4, 5] [(0, 10, _), (1, 11, _), (2, 12, .dat (bD false)), (3, 13, .dat (bD false)), (4, 14, _), (5, 15, _), (6, 16, _), (7, 17, _), (8, 18, .dat (bD (decide ((p : Int) ≤ c.By)))), (9, 19, .dat (bD (decide ((p : Int) ≤ c.By))))] [] ⟨FV 0 [] [1, 2, 3, 4, 5, 6, 7, 8, 9], FV 1 [0] [2, 3, 4, 5, 6, 7, 8, 9], FV 2 [0, 1] [3, 4, 5, 6, 7, 8, 9], FV 3 [0, 1, 2] [4, 5, 6, 7, 8, 9], FG 4 [0, 1, 2, 3] [5, 8, 9], FG 5 [0, 1, 2, 3, 4] [8, 9], FG 6 [0, 1, 2, 3] [7, 8, 9], FG 7 [0, 1, 2, 3, 6] [8, 9], FG 8 [0, 1, 2, 3, 4, 5, 6, 7] [9], FV 9 [0, 1, 2, 3, 4, 5, 6, 7, 8] [], trivial⟩ ?_
   exact ML
 refine WI ?_ ?_ <;> intro hb
 ·have hv : xi p L c = (L, default, 1) := by unfold xi; rw [if_pos hb]
  have hE := And.intro hE hv
  refine WS [4, 5, 6] [4, 5] ?_
  apply z9
  apply za
  refine EN ?_
  all_goals try trivial
  all_goals first | exact ⟨_, rfl, rfl⟩ | exact .inl rfl | exact .inr ⟨_, rfl, rfl⟩
 ·have hnb : ¬ kp p c = true := by simpa using hb
  have hv := zqt (L := L) hnb
  have hcn := congrArg Int.ofNat (qi L c.By)
  simp only [Int.ofNat_eq_natCast] at hcn
  have hnd : wb L p c = { c with Seq := ((qg L c.By).length : Int), Tick := rclN L L.length + 1 } := by unfold wb; rw [hcn, hck]
  rw [hnd] at hv hnx
  apply z6
  apply z5
  have hc := gvF hP hG (z4x G p L (by omega) c.By)
  refine WSc [2, 3, 4, 5] [2, 3, 4, 5] ?_
  have hc := gvF hP hG (zls G p L (by omega))
  refine WSc [2, 3, 4, 5] [2, 3, 4, 5] ?_
  have hc := gvF hP hG (zrb G p hp L [{ c with Seq := ((qg L c.By).length : Int), Tick := rclN L L.length + 1 }] hT hL (by simp [hnx]) (by simp; omega))
  refine WSc [2, 3, 4, 5, 7, 9] [2, 3, 4, 5, 7] ?_
  apply z3
  refine WS [2, 3, 4, 5, 7, 9, 41] [2, 3, 4, 5, 7] ?_
  refine WI ?_ ?_ <;> intro hb
  ·rw [if_pos (by simpa using hb)] at hv
   have hE := And.intro hE hv
   refine WS [4, 5, 6] [4, 5] ?_
   apply z9
   apply za
   refine EN ?_
   all_goals try trivial
   all_goals first | exact ⟨_, rfl, rfl⟩ | exact .inl rfl | exact .inr ⟨_, rfl, rfl⟩
  ·rw [if_neg (by simpa using hb)] at hv
   have hE := And.intro hE hv
   apply z6
   apply z5
   refine WDF [4, 5, 6] [4, 5] [(0, 45, .dat (va p (xe p L [{ c with Seq := ((qg L c.By).length : Int), Tick := rclN L L.length + 1 }] 0).1)), (1, 46, .dat (zf { c with Seq := ((qg L c.By).length : Int), Tick := rclN L L.length + 1 })), (4, 6, _)] [(3, 5, some ⟨32, [.dat (zf { c with Seq := ((qg L c.By).length : Int), Tick := rclN L L.length + 1 })]⟩), (2, 4, some ⟨2, [.dat (va p (xe p L [{ c with Seq := ((qg L c.By).length : Int), Tick := rclN L L.length + 1 }] 0).1)]⟩)] ⟨FV 0 [] [2, 3, 4], FV 1 [] [3, 4], FS 1 [0] [3, 4], FS 0 [0, 1, 2] [4], FV 2 [0, 1, 2, 3] [], trivial⟩ ?_
   apply z9
   refine EN ?_
   all_goals try trivial
   all_goals first | exact ⟨_, rfl, rfl⟩ | exact .inl rfl | exact .inr ⟨_, rfl, rfl⟩
theorem za9 (l : List Int) (a : Int) (i : Nat) : (yv l a i).length = i := by simp [yv]
theorem zhl (l : List Int) (a : Int) : yv l a 0 = [] := rfl
theorem zhj (l : List Int) (a : Int) (i : Nat) : yv l a (i + 1) = yv l a i ++ [wordM (atM l (a + (i : Int)) 64)] := by simp [yv, List.range_succ]
theorem zhk (l : List Int) (a : Int) (i : Nat) : (yv l a i).take i = yv l a i := List.take_of_length_le (by rw [za9]; exact Nat.le_refl _)
theorem yz {n c m : Int} (hn : 0 ≤ n ∧ n ≤ m) (hc : 0 < c) : 0 ≤ n.tdiv c ∧ n.tdiv c ≤ m := by
 rw [Int.tdiv_eq_ediv_of_nonneg hn.1]
 exact ⟨Int.ediv_nonneg hn.1 (Int.le_of_lt hc), Int.le_trans (Int.ediv_le_self _ hn.1) hn.2⟩
theorem z8m {n c : Int} (hn : 0 ≤ n) (hc : 0 < c) : 0 ≤ n.tmod c ∧ n.tmod c < c := ⟨Int.tmod_nonneg _ hn, Int.tmod_lt_of_pos _ hc⟩
theorem z3y {n : Int} (hn : 0 ≤ n ∧ n ≤ 1000000000000000) : IntKind.i64.wrap n = n := IntWalk.i64_in _ (by omega)
theorem z70 (G) (n : Int) (hn : 0 ≤ n ∧ n ≤ 1000000) : zl Tryz.prog G 92 [iD n] [idD (idM n)] := by
 have w4 := z3y (n := n.tdiv 4) (by have := yz (c := 4) hn (by omega); omega)
 have w32 := z3y (n := n.tdiv 32) (by have := yz (c := 32) hn (by omega); omega)
 skip
 skip
 refine GI [] [] [] Tryz.func92 Tryz.ntmps92 fun F hP hG hN hR hA => ?_
 have hE := And.intro @Tryz.results92 (And.intro @idM.eq_1 (And.intro @w4 (@w32)))
 refine WS [0, 2] [2] ?_
 refine WS [2] [2] ?_
 apply z9
 exact E0
theorem z60 (G) (l : List Int) (a m : Int) (hl : ∀ n ∈ l, I64 n) (ha : 0 ≤ a ∧ a ≤ 1000) (hm : m ≤ 1000) : zl Tryz.prog G 91 [isD l, iD a, iD m] [ssD (yv l a m.toNat)] := by
 skip
 skip
 refine GI [] [] [] Tryz.func91 Tryz.ntmps91 fun F hP hG hN hR hA => ?_
 have hE := And.intro @Tryz.results91 (And.intro @za9 (And.intro @zhl (And.intro @zhk (@Nat.min_self))))
 refine WS [0, 1, 2] [] ?_
 refine WS [0, 1, 2, 7] [22] ?_
 apply z3
 refine WS [0, 1, 2, 7, 8] [22] ?_
 apply z7
 refine x7 22 1 (by omega) ?_
 refine xx 7 22 1 rfl rfl ?_
 refine WL (ι := {i : Nat // i ≤ m.toNat}) [0, 1, 2] [21] (fun ⟨i, hi⟩ => [(7, .osl 22 1 0 i), (8, .dat (iD i))]) (fun ⟨i, hi⟩ => [(22, ⟨1, ((yv l a i).map Dat.str).map .dat⟩)]) (fun ⟨i, hi⟩ => m.toNat - i) (⟨0, by omega⟩) ?_
 rintro ⟨i, hi⟩
 refine LA ?_
 have hat := x6 (l := l) (i := a + (i : Int)) (m := 64) (by omega)
 apply z3
 refine WS [0, 1, 2, 7, 8, 11] [21, 22] ?_
 refine WI ?_ ?_ <;> intro hb
 ·apply z6
  apply z5
  apply z3
  apply z7
  apply js [0, 1, 2, 7, 8] [21, 22]
  ·refine RN ?_
   refine CU (Z3 G l (a + (i : Int)) 64 hl (by omega) (by unfold I64; omega)) ?_
   refine CU (z69 G (atM l (a + (i : Int)) 64) (by unfold I64; omega)) ?_
   exact SC
  apply zh
  apply z5
  have hs := zhj l a i
  have hE := And.intro hE hs
  refine WQ [0, 1, 2, 7, 8] [21, 22] ?_
  refine WN (⟨i + 1, by omega⟩)
 ·apply zj
  apply zc
  have hend : i = m.toNat := by omega
  subst hend
  apply zb
  apply zn
  apply z5
  refine WS [6] [21, 22] ?_
  apply z9
  exact E0
set_option maxRecDepth 100000 in
set_option maxHeartbeats 2000000 in
theorem zyf (G) (l : List Int) (a : Int) (hl : ∀ n ∈ l, I64 n) (ha : 0 ≤ a ∧ a ≤ 900) : zl Tryz.prog G 90 [isD l, iD a] [opD (opM l a)] := by
 have hr : 0 ≤ opN l a ∧ opN l a ≤ 65536 := by have := x6 (l := l) (i := a) (m := 65536) (by omega); unfold opN; omega
 have q := fun c (hc : 0 < c) => z3y (n := (opN l a).tdiv c) (by have := yz (c := c) hr hc; omega)
 have q2 := q 2 (by omega)
 have q3 := q 3 (by omega)
 have q4 := q 4 (by omega)
 have q5 := q 5 (by omega)
 have q7 := q 7 (by omega)
 have q8 := q 8 (by omega)
 have q10 := q 10 (by omega)
 have q16 := q 16 (by omega)
 have q100 := q 100 (by omega)
 have t10 := yz (c := 10) hr (by omega)
 have t7 := yz (c := 7) hr (by omega)
 have t5 := yz (c := 5) hr (by omega)
 have t3 := z8m (n := (opN l a).tdiv 3) (c := 3) (yz hr (by omega)).1 (by omega)
 have hn : atM l a 65536 = opN l a := rfl
 skip
 skip
 skip
 refine GI [39, 58] [] [] Tryz.func90 Tryz.ntmps90 fun F hP hG hN hR hA => ?_
 have hE := And.intro @Tryz.results90 (And.intro (And.intro hn (And.intro q2 (And.intro q3 (And.intro q4 (And.intro q5 (And.intro q7 (And.intro q8 (And.intro q10 (And.intro q16 q100))))))))) (And.intro @opM.eq_1 (@idM.eq_1)))
 refine WS [0, 1, 4] [4, 39, 58] ?_
 have hc := gvF hP hG (Z3 G l a 65536 hl (by omega) (by unfold I64; omega))
 refine WSc [0, 1, 4, 5] [4, 39, 58] ?_
 apply zm [0, 1, 4, 5, 6] [4, 6, 39, 58]
 ·refine RN ?_
  refine CU (z70 G ((opN l a).tdiv 10) (by omega)) ?_
  refine CU (z69 G ((opN l a).tdiv 7) (by unfold I64; omega)) ?_
  exact SC
 apply z3
 refine WS [0, 1, 4, 5, 6, 24] [4, 6, 39, 58] ?_
 refine WI ?_ ?_ <;> intro hb
 ·have hs : opT l a = yv l (a + 1) (((opN l a).tdiv 3).tmod 3).toNat ∧ opP l a = [((opN l a).tmod 2, ((opN l a).tdiv 2).tmod 3)] := by unfold opT opP; rw [if_pos hb, if_pos hb]; exact ⟨rfl, rfl⟩
  have hE := And.intro hE hs
  have hc := gvF hP hG (z60 G l (a + 1) (((opN l a).tdiv 3).tmod 3) hl (by omega) (by omega))
  refine WSc [4, 5, 6] [4, 6, 39, 58] ?_
  refine WQ [4, 5, 6] [4, 6, 39, 58] ?_
  apply z5
  apply z3
  refine WS [4, 5, 6, 43] [4, 6, 39, 58] ?_
  refine WI ?_ ?_ <;> intro hb
  ·have hs2 : opS l a = ⟨((opN l a).tdiv 4).tmod 2, ((opN l a).tdiv 8).tmod 3, ((opN l a).tdiv 16).tmod 4⟩ ∧ opR l a = [idM ((opN l a).tdiv 5)] := by unfold opS opR; rw [if_pos hb, if_pos hb]; exact ⟨rfl, rfl⟩
   have hE := And.intro hE hs2
   refine WS [4, 5, 6] [4, 6, 39, 58] ?_
   have hc := gvF hP hG (z70 G ((opN l a).tdiv 5) (by omega))
   refine WQc [4, 6] [4, 6, 39, 58] ?_
   apply z5
   refine WS [4] [4, 39, 58] ?_
   apply z9
   exact E0
  ·have hs2 : opS l a = ⟨0, 0, 0⟩ ∧ opR l a = [] := by unfold opS opR; rw [if_neg hb, if_neg hb]; exact ⟨rfl, rfl⟩
   have hE := And.intro hE hs2
   apply z6
   apply z5
   refine WS [4] [4, 39, 58] ?_
   apply z9
   exact E0
 ·have hs : opT l a = [] ∧ opP l a = [] := by unfold opT opP; rw [if_neg hb, if_neg hb]; exact ⟨rfl, rfl⟩
  have hE := And.intro hE hs
  apply z6
  apply z5
  apply z3
  refine WS [4, 5, 6, 43] [4, 6, 39, 58] ?_
  refine WI ?_ ?_ <;> intro hb
  ·have hs2 : opS l a = ⟨((opN l a).tdiv 4).tmod 2, ((opN l a).tdiv 8).tmod 3, ((opN l a).tdiv 16).tmod 4⟩ ∧ opR l a = [idM ((opN l a).tdiv 5)] := by unfold opS opR; rw [if_pos hb, if_pos hb]; exact ⟨rfl, rfl⟩
   have hE := And.intro hE hs2
   refine WS [4, 5, 6] [4, 6, 39, 58] ?_
   have hc := gvF hP hG (z70 G ((opN l a).tdiv 5) (by omega))
   refine WQc [4, 6] [4, 6, 39, 58] ?_
   apply z5
   refine WS [4] [4, 39, 58] ?_
   apply z9
   exact E0
  ·have hs2 : opS l a = ⟨0, 0, 0⟩ ∧ opR l a = [] := by unfold opS opR; rw [if_neg hb, if_neg hb]; exact ⟨rfl, rfl⟩
   have hE := And.intro hE hs2
   apply z6
   apply z5
   refine WS [4] [4, 39, 58] ?_
   apply z9
   exact E0
theorem z7s (l : List Int) (i : Nat) : (yc l i).length = i := by simp [yc]
theorem zf9 (l : List Int) : yc l 0 = [] := rfl
theorem z5l (l : List Int) (i : Nat) : yc l (i + 1) = yc l i ++ [postG l i] := by simp [yc, List.range_succ]
theorem zf8 (l : List Int) (i : Nat) : (yc l i).take i = yc l i := List.take_of_length_le (by rw [z7s]; exact Nat.le_refl _)
set_option maxRecDepth 100000 in
set_option maxHeartbeats 2000000 in
theorem zol (G) (l : List Int) (hl : ∀ n ∈ l, I64 n) : zl Tryz.prog G 47 [isD l] [zf (evG l)] := by
 have hk : atM l 3 7 = z0t l := rfl
 have hn11 : atM l 11 4096 = qy l := rfl
 have a0 := x6 (l := l) (i := 0) (m := 6) (by omega)
 have a1 := x6 (l := l) (i := 1) (m := 64) (by omega)
 have a2 := x6 (l := l) (i := 2) (m := 1048577) (by omega)
 have a3 := x6 (l := l) (i := 3) (m := 7) (by omega)
 have a4 := x6 (l := l) (i := 4) (m := 64) (by omega)
 have rn : 0 ≤ qy l ∧ qy l ≤ 4096 := by have := x6 (l := l) (i := 11) (m := 4096) (by omega); unfold qy; omega
 have q := fun c (hc : 0 < c) => z3y (n := (qy l).tdiv c) (by have := yz (c := c) rn hc; omega)
 have q3 := q 3 (by omega)
 have q5 := q 5 (by omega)
 have q12 := q 12 (by omega)
 have t5 := yz (c := 5) rn (by omega)
 have t12 := z8m (n := (qy l).tdiv 12) (c := 3) (yz rn (by omega)).1 (by omega)
 have t4 := z8m (n := qy l) (c := 4) rn.1 (by omega)
 skip
 skip
 skip
 refine GI [113] [] [] Tryz.func47 Tryz.ntmps47 fun F hP hG hN hR hA => ?_
 have hE := And.intro @Tryz.results47 (And.intro (And.intro q3 (And.intro q5 q12)) (And.intro @z7s (And.intro @zf9 (And.intro @zf8 (And.intro @hk (And.intro @hn11 (And.intro @z0j (And.intro @refsG.eq_1 (@Nat.min_self)))))))))
 refine WS [0, 2] [2, 45, 113, 7] ?_
 apply zm [0, 2, 3] [2, 3, 45, 113, 7]
 ·refine RN ?_
  refine CU (Z3 G l 0 6 hl (by omega) (by unfold I64; omega)) ?_
  refine CU (Z3 G l 1 64 hl (by omega) (by unfold I64; omega)) ?_
  refine CU (Z3 G l 2 1048577 hl (by omega) (by unfold I64; omega)) ?_
  refine CU (Z3 G l 3 7 hl (by omega) (by unfold I64; omega)) ?_
  exact SC
 have hc := gvF hP hG (Z3 G l 4 64 hl (by omega) (by unfold I64; omega))
 refine WSc [0, 2, 3, 4] [2, 3, 45, 113, 7] ?_
 apply z3
 refine WS [0, 2, 3, 4, 5] [2, 3, 45, 113, 7] ?_
 apply z7
 refine x7 45 2 (by omega) ?_
 refine zbp 3 45 2 4 rfl rfl rfl rfl ?_
 refine WL (ι := {i : Nat // i ≤ 6}) [0, 2, 3, 4] [2, 44, 112, 113, 7] (fun ⟨i, hi⟩ => [(5, .dat (iD i))]) (fun ⟨i, hi⟩ => [(3, ⟨32, [.agg [.dat (iD (atM l 0 6)), .dat (iD (atM l 1 64)), .dat (iD (atM l 2 1048577)), .dat (iD (z0t l)), .osl 45 2 0 (refsG l i).length, .dat (iD 0), .dat (iD 0), .dat (iD 0), .dat (iD 0), .dat (iD 0), .dat (iD 0), .dat (iD 0), .dat (iD 0), .dat (iD 0), .dat (iD 0), .dat (iD 0), .dat (iD 0), .dat (iD 0), .dat (sD ⟨#[]⟩), .nils, .nils, .nils, .dat (sD ⟨#[]⟩), .dat (iD 0), .dat (iD 0), .dat (sD ⟨#[]⟩), .nils, .dat (iD 0), .dat (iD 0), .dat (iD 0), .nils, .dat (iD 0)]]⟩), (45, ⟨2, ((refsG l i).map xz).map .dat⟩)]) (fun ⟨i, hi⟩ => 6 - i) (⟨0, by omega⟩) ?_
 rintro ⟨i, hi⟩
 refine LA ?_
 have hrl := z4y l i
 apply z3
 refine WS [0, 2, 3, 4, 5, 21] [2, 3, 44, 45, 113, 7] ?_
 refine WI ?_ ?_ <;> intro hb
 ·apply z6
  apply z5
  apply z3
  apply z7
  have hc := gvF hP hG (Z3 G l (5 + (i : Int)) 64 hl (by omega) (by unfold I64; omega))
  refine WSc [0, 2, 3, 4, 5, 6] [2, 3, 6, 44, 45, 113, 7] ?_
  apply w9 [0, 2, 3, 4, 5, 6, 40] [2, 3, 6, 44, 45, 113, 7] [0, 1, 2, 3, 4, 5, 6, 7, 8, 9, 10] []
  ·rw [hP]; kernel_rfl
  ·exact hR
  ·kernel_rfl
  ·(repeat (apply PickL.cons; exact rfl)); exact PickL.nil _
  ·refine RN ?_
   (repeat' refine And.intro ?_ ?_) <;> try exact SD
   refine CallGC.use (by simp only [qp, qd, zy, xm, qs, wx, xh, xp, xl, ww, xn, xq, xy, avA, zk, zo, seval, ↓List.forall_mem_cons, Op.operands, hE, xj, evI.eq_1, evName.eq_1, List.length_map.{0,0}] <;> rfl) (fun hg => ⟨by first | trivial | (simp only [gdAll, AV.gd, avA, seval]; (repeat' apply And.intro) <;> first | trivial | rfl | exact hg) | simp_all [gdAll], gvF hP hG (X7 G (evI l i))⟩) ?_
   try simp (maxSteps := 2000000) (disch := omega) only [wo, avA, zk, zo, seval, ↓List.forall_mem_cons, Op.operands, hA, tiA, hE]
   exact SC
  refine WI ?_ ?_ <;> intro hb
  ·have hr1 : refsG l (i + 1) = refsG l i ++ [nmG l i] := by rw [refsG, if_pos (show zut (atM l 4 64) i = 1 ∧ ((i : Int) = atM l 0 6 → ¬ atM l (5 + (i : Int)) 64 = atM l 1 64) from hb)]
   refine WQ [0, 2, 3, 4, 5] [2, 3, 44, 45, 113, 7] ?_
   apply zh
   apply z5
   have hE := And.intro hE (And.intro hr1 (nmG.eq_1 l i))
   refine WQ [0, 2, 3, 4, 5] [2, 3, 44, 45, 113, 7] ?_
   refine WN (⟨i + 1, by omega⟩)
  ·have hr1 : refsG l (i + 1) = refsG l i := by rw [refsG, if_neg (by have e1 : (evName (evI l i)).By = atM l 0 6 := rfl; have e2 : (evName (evI l i)).Seq = atM l 1 64 := rfl; (try rw [e1, e2] at hb); unfold zut; intro hh; grind), List.append_nil]
   apply z6
   apply zh
   apply z5
   have hE := And.intro hE (And.intro hr1 (nmG.eq_1 l i))
   refine WQ [0, 2, 3, 4, 5] [2, 3, 44, 45, 113, 7] ?_
   refine WN (⟨i + 1, by omega⟩)
 ·apply zj
  apply zc
  have hend : i = 6 := by omega
  subst hend
  apply zb
  apply zn
  apply z5
  refine vp 45 hR.2.2.2 rfl (datE_map _) ?_
  have hc := gvF hP hG (Z3 G l 11 4096 hl (by omega) (by unfold I64; omega))
  refine WSc [0, 2, 3, 7] [2, 3, 44, 45, 113, 7] ?_
  apply z3
  refine WS [0, 2, 3, 7, 50] [2, 3, 44, 45, 113, 7] ?_
  apply z7
  refine WS [0, 2, 3, 7, 50, 51] [2, 3, 44, 45, 113, 7] ?_
  refine WI ?_ ?_ <;> intro hb
  ·have hv : evG l = { evI l 6 with Op := opM l 12 } := by unfold evG; rw [if_pos hb]
   have hE := And.intro hE hv
   have hc := gvF hP hG (zyf G l 12 hl (by omega))
   refine WQc [2, 3] [2, 3, 44, 45, 113, 7] ?_
   apply zh
   apply z5
   refine WS [2] [2, 44, 45, 112, 113, 7] ?_
   apply z9
   refine EN ?_
   all_goals try trivial
   all_goals first
    | rfl
    | (have hv : evG l = evI l 6 := by unfold evG; rw [if_neg (by omega), if_neg (by omega), if_neg (by omega), if_neg (by omega)]
       rw [hv]; rfl)
    | (have hv : evG l = { evI l 6 with ID := idM (qy l), N := atM l 12 1048577 } := by unfold evG; rw [if_neg (by omega), if_neg (by omega), if_neg (by omega), if_pos (by omega)]
       rw [hv]; rfl)
  ·have hk0 := hb
   refine WS [0, 2, 3, 7, 50, 56] [2, 3, 44, 45, 113, 7] ?_
   refine WI ?_ ?_ <;> intro hb
   ·have hv : evG l = { evI l 6 with Term := zbb l } := by unfold evG; rw [if_neg hk0, if_pos hb]
    have hE := And.intro hE hv
    apply zm [2, 3, 7] [2, 3, 44, 45, 113, 7]
    ·refine RN ?_
     refine CU (z69 G (qy l) (by unfold I64; omega)) ?_
     refine CU (z60 G l 12 (((qy l).tdiv 12).tmod 3) hl (by omega) (by omega)) ?_
     exact SC
    refine WS [2, 3, 7, 74] [2, 3, 44, 45, 113, 7] ?_
    refine WI ?_ ?_ <;> intro hb
    ·have ht : zbb l = { Name := wordM (qy l), Kind := (qy l).tmod 3, Lang := ((qy l).tdiv 3).tmod 4, See := wordM ((qy l).tdiv 5), Broader := yv l 12 (((qy l).tdiv 12).tmod 3).toNat } := by unfold zbb; rw [if_pos hb]
     have hE := And.intro hE ht
     have hc := gvF hP hG (z69 G ((qy l).tdiv 5) (by unfold I64; omega))
     refine WQc [2, 3] [2, 3, 44, 45, 113, 7] ?_
     apply zh
     apply z5
     refine WS [2] [2, 44, 45, 112, 113, 7] ?_
     apply z9
     refine EN ?_
     all_goals try trivial
     all_goals first
      | rfl
      | (have hv : evG l = evI l 6 := by unfold evG; rw [if_neg (by omega), if_neg (by omega), if_neg (by omega), if_neg (by omega)]
         rw [hv]; rfl)
      | (have hv : evG l = { evI l 6 with ID := idM (qy l), N := atM l 12 1048577 } := by unfold evG; rw [if_neg (by omega), if_neg (by omega), if_neg (by omega), if_pos (by omega)]
         rw [hv]; rfl)
    ·have ht : zbb l = { Name := wordM (qy l), Kind := (qy l).tmod 3, Lang := ((qy l).tdiv 3).tmod 4, See := ⟨#[]⟩, Broader := yv l 12 (((qy l).tdiv 12).tmod 3).toNat } := by unfold zbb; rw [if_neg hb]
     have hE := And.intro hE ht
     apply z6
     apply zh
     apply z5
     refine WS [2] [2, 44, 45, 112, 113, 7] ?_
     apply z9
     refine EN ?_
     all_goals try trivial
     all_goals first
      | rfl
      | (have hv : evG l = evI l 6 := by unfold evG; rw [if_neg (by omega), if_neg (by omega), if_neg (by omega), if_neg (by omega)]
         rw [hv]; rfl)
      | (have hv : evG l = { evI l 6 with ID := idM (qy l), N := atM l 12 1048577 } := by unfold evG; rw [if_neg (by omega), if_neg (by omega), if_neg (by omega), if_pos (by omega)]
         rw [hv]; rfl)
   ·have hk2 := hb
    apply z3
    refine WS [0, 2, 3, 7, 50, 80] [2, 3, 44, 45, 113, 7] ?_
    refine WI ?_ ?_ <;> intro hb
    ·apply z6
     apply z5
     refine zbo (by first | exact rfl | (simp only [z2y, z7p, Zw, z0i]; simp [*])) ?_
     have hc := gvF hP hG (z70 G (qy l) (by omega))
     refine WSc [0, 2, 3, 7] [2, 3, 44, 45, 113, 7] ?_
     refine WS [0, 2, 3, 7, 8] [2, 3, 44, 45, 113, 7] ?_
     apply z7
     have hv : evG l = { evI l 6 with ID := idM (qy l), Posts := yc l ((qy l).tmod 4).toNat } := by unfold evG; rw [if_neg hk0, if_neg hk2, if_pos (by omega)]
     have hE := And.intro hE hv
     refine x7 7 5 (by omega) ?_
     refine zbp 3 7 5 30 rfl rfl rfl rfl ?_
     refine WL (ι := {j : Nat // j ≤ ((qy l).tmod 4).toNat}) [0, 2, 3, 7] [2, 44, 45, 112, 113] (fun ⟨j, hj⟩ => [(8, .dat (iD j))]) (fun ⟨j, hj⟩ => [(3, ⟨32, [.agg [.dat (iD (atM l 0 6)), .dat (iD (atM l 1 64)), .dat (iD (atM l 2 1048577)), .dat (iD (z0t l)), .dat (Qn (refsG l 6)), .dat (iD 0), .dat (iD 0), .dat (iD 0), .dat (iD 0), .dat (iD 0), .dat (iD 0), .dat (iD 0), .dat (iD 0), .dat (iD 0), .dat (iD 0), .dat (iD 0), .dat (iD 0), .dat (iD 0), .dat (sD ⟨#[]⟩), .nils, .nils, .nils, .dat (sD ⟨#[]⟩), .dat (iD 0), .dat (iD 0), .dat (sD ⟨#[]⟩), .nils, .dat (iD (idM (qy l)).By), .dat (iD (idM (qy l)).Seq), .dat (iD (idM (qy l)).K), .osl 7 5 0 j, .dat (iD 0)]]⟩), (7, ⟨5, ((yc l j).map z3i).map .dat⟩)]) (fun ⟨j, hj⟩ => ((qy l).tmod 4).toNat - j) (⟨0, by omega⟩) ?_
     rintro ⟨j, hj⟩
     refine LA ?_
     have ja := x6 (l := l) (i := 30 + (j : Int)) (m := 4) (by omega)
     apply z3
     refine WS [0, 2, 3, 7, 8, 89] [2, 3, 44, 45, 112, 113, 7] ?_
     refine WI ?_ ?_ <;> intro hb
     ·apply z6
      apply z5
      apply z3
      apply z7
      apply z43 [0, 2, 3, 7, 8] [2, 3, 44, 45, 112, 113, 7] [0, 1, 2, 3, 4, 5, 6, 7, 8, 9, 10, 11, 12, 13, 14, 15, 16, 17, 18, 19, 20, 21, 22, 23] [113]
      ·rw [hP]; kernel_rfl
      ·exact hR
      ·kernel_rfl
      ·(repeat (apply PickL.cons; exact rfl)); exact PickL.nil _
      ·refine RN ?_
       refine CU (Z3 G l (30 + (j : Int)) 4 hl (by omega) (by unfold I64; omega)) ?_
       refine CU (z60 G l (12 + 4 * (j : Int)) (1 + atM l (30 + (j : Int)) 4) hl (by omega) (by omega)) ?_
       exact SC
      apply zh
      apply z5
      refine j1 113 7 (by omega) (by omega) ?_
      have hps := z5l l j
      have hE := And.intro hE (And.intro hps (postG.eq_1 l j))
      refine WQ [0, 2, 3, 7, 8] [2, 3, 44, 45, 112, 113, 7] ?_
      refine WN (⟨j + 1, by omega⟩)
     ·apply zj
      apply zc
      have hend : j = ((qy l).tmod 4).toNat := by omega
      subst hend
      apply zb
      apply zn
      apply zh
      apply z5
      refine WS [2] [2, 44, 45, 112, 113, 7] ?_
      apply z9
      refine EN ?_
      all_goals try trivial
      all_goals first
       | rfl
       | (have hv : evG l = evI l 6 := by unfold evG; rw [if_neg (by omega), if_neg (by omega), if_neg (by omega), if_neg (by omega)]
          rw [hv]; rfl)
       | (have hv : evG l = { evI l 6 with ID := idM (qy l), N := atM l 12 1048577 } := by unfold evG; rw [if_neg (by omega), if_neg (by omega), if_neg (by omega), if_pos (by omega)]
          rw [hv]; rfl)
    ·refine WQ [0, 2, 3, 7, 50, 80] [2, 3, 44, 45, 113, 7] ?_
     apply z5
     refine WI ?_ ?_ <;> intro hb
     ·have hc := gvF hP hG (z70 G (qy l) (by omega))
      refine WSc [0, 2, 3, 7] [2, 3, 44, 45, 113, 7] ?_
      refine WS [0, 2, 3, 7, 8] [2, 3, 44, 45, 113, 7] ?_
      apply z7
      have hv : evG l = { evI l 6 with ID := idM (qy l), Posts := yc l ((qy l).tmod 4).toNat } := by unfold evG; rw [if_neg hk0, if_neg hk2, if_pos (by omega)]
      have hE := And.intro hE hv
      refine x7 7 5 (by omega) ?_
      refine zbp 3 7 5 30 rfl rfl rfl rfl ?_
      refine WL (ι := {j : Nat // j ≤ ((qy l).tmod 4).toNat}) [0, 2, 3, 7] [2, 44, 45, 112, 113] (fun ⟨j, hj⟩ => [(8, .dat (iD j))]) (fun ⟨j, hj⟩ => [(3, ⟨32, [.agg [.dat (iD (atM l 0 6)), .dat (iD (atM l 1 64)), .dat (iD (atM l 2 1048577)), .dat (iD (z0t l)), .dat (Qn (refsG l 6)), .dat (iD 0), .dat (iD 0), .dat (iD 0), .dat (iD 0), .dat (iD 0), .dat (iD 0), .dat (iD 0), .dat (iD 0), .dat (iD 0), .dat (iD 0), .dat (iD 0), .dat (iD 0), .dat (iD 0), .dat (sD ⟨#[]⟩), .nils, .nils, .nils, .dat (sD ⟨#[]⟩), .dat (iD 0), .dat (iD 0), .dat (sD ⟨#[]⟩), .nils, .dat (iD (idM (qy l)).By), .dat (iD (idM (qy l)).Seq), .dat (iD (idM (qy l)).K), .osl 7 5 0 j, .dat (iD 0)]]⟩), (7, ⟨5, ((yc l j).map z3i).map .dat⟩)]) (fun ⟨j, hj⟩ => ((qy l).tmod 4).toNat - j) (⟨0, by omega⟩) ?_
      rintro ⟨j, hj⟩
      refine LA ?_
      have ja := x6 (l := l) (i := 30 + (j : Int)) (m := 4) (by omega)
      apply z3
      refine WS [0, 2, 3, 7, 8, 89] [2, 3, 44, 45, 112, 113, 7] ?_
      refine WI ?_ ?_ <;> intro hb
      ·apply z6
       apply z5
       apply z3
       apply z7
       apply z43 [0, 2, 3, 7, 8] [2, 3, 44, 45, 112, 113, 7] [0, 1, 2, 3, 4, 5, 6, 7, 8, 9, 10, 11, 12, 13, 14, 15, 16, 17, 18, 19, 20, 21, 22, 23] [113]
       ·rw [hP]; kernel_rfl
       ·exact hR
       ·kernel_rfl
       ·(repeat (apply PickL.cons; exact rfl)); exact PickL.nil _
       ·refine RN ?_
        refine CU (Z3 G l (30 + (j : Int)) 4 hl (by omega) (by unfold I64; omega)) ?_
        refine CU (z60 G l (12 + 4 * (j : Int)) (1 + atM l (30 + (j : Int)) 4) hl (by omega) (by omega)) ?_
        exact SC
       apply zh
       apply z5
       refine j1 113 7 (by omega) (by omega) ?_
       have hps := z5l l j
       have hE := And.intro hE (And.intro hps (postG.eq_1 l j))
       refine WQ [0, 2, 3, 7, 8] [2, 3, 44, 45, 112, 113, 7] ?_
       refine WN (⟨j + 1, by omega⟩)
      ·apply zj
       apply zc
       have hend : j = ((qy l).tmod 4).toNat := by omega
       subst hend
       apply zb
       apply zn
       apply zh
       apply z5
       refine WS [2] [2, 44, 45, 112, 113, 7] ?_
       apply z9
       refine EN ?_
       all_goals try trivial
       all_goals first
        | rfl
        | (have hv : evG l = evI l 6 := by unfold evG; rw [if_neg (by omega), if_neg (by omega), if_neg (by omega), if_neg (by omega)]
           rw [hv]; rfl)
        | (have hv : evG l = { evI l 6 with ID := idM (qy l), N := atM l 12 1048577 } := by unfold evG; rw [if_neg (by omega), if_neg (by omega), if_neg (by omega), if_pos (by omega)]
           rw [hv]; rfl)
     ·apply z3
      refine WS [0, 2, 3, 7, 50, 115] [2, 3, 44, 45, 113, 7] ?_
      refine WI ?_ ?_ <;> intro hb
      ·apply z6
       apply z5
       refine zbo (by first | exact rfl | (simp only [z2y, z7p, Zw, z0i]; simp [*])) ?_
       have hc := gvF hP hG (z70 G (qy l) (by omega))
       refine WSc [0, 2, 3] [2, 3, 44, 45, 113, 7] ?_
       have hc := gvF hP hG (Z3 G l 12 1048577 hl (by omega) (by unfold I64; omega))
       refine WQc [2, 3] [2, 3, 44, 45, 113, 7] ?_
       apply zh
       apply z5
       refine WS [2] [2, 44, 45, 112, 113, 7] ?_
       apply z9
       refine EN ?_
       all_goals try trivial
       all_goals first
        | rfl
        | (have hv : evG l = evI l 6 := by unfold evG; rw [if_neg (by omega), if_neg (by omega), if_neg (by omega), if_neg (by omega)]
           rw [hv]; rfl)
        | (have hv : evG l = { evI l 6 with ID := idM (qy l), N := atM l 12 1048577 } := by unfold evG; rw [if_neg (by omega), if_neg (by omega), if_neg (by omega), if_pos (by omega)]
           rw [hv]; rfl)
      ·refine WQ [0, 2, 3, 7, 115] [2, 3, 44, 45, 113, 7] ?_
       apply z5
       refine WI ?_ ?_ <;> intro hb
       ·have hc := gvF hP hG (z70 G (qy l) (by omega))
        refine WSc [0, 2, 3] [2, 3, 44, 45, 113, 7] ?_
        have hc := gvF hP hG (Z3 G l 12 1048577 hl (by omega) (by unfold I64; omega))
        refine WQc [2, 3] [2, 3, 44, 45, 113, 7] ?_
        apply zh
        apply z5
        refine WS [2] [2, 44, 45, 112, 113, 7] ?_
        apply z9
        refine EN ?_
        all_goals try trivial
        all_goals first
         | rfl
         | (have hv : evG l = evI l 6 := by unfold evG; rw [if_neg (by omega), if_neg (by omega), if_neg (by omega), if_neg (by omega)]
            rw [hv]; rfl)
         | (have hv : evG l = { evI l 6 with ID := idM (qy l), N := atM l 12 1048577 } := by unfold evG; rw [if_neg (by omega), if_neg (by omega), if_neg (by omega), if_pos (by omega)]
            rw [hv]; rfl)
       ·apply z6
        apply zh
        apply z5
        refine WS [2] [2, 44, 45, 112, 113, 7] ?_
        apply z9
        refine EN ?_
        all_goals try trivial
        all_goals first
         | rfl
         | (have hv : evG l = evI l 6 := by unfold evG; rw [if_neg (by omega), if_neg (by omega), if_neg (by omega), if_neg (by omega)]
            rw [hv]; rfl)
         | (have hv : evG l = { evI l 6 with ID := idM (qy l), N := atM l 12 1048577 } := by unfold evG; rw [if_neg (by omega), if_neg (by omega), if_neg (by omega), if_pos (by omega)]
            rw [hv]; rfl)
def z0w (b : Int) (s : List NameM × Int) (e : EventM) : List NameM × Int := (s.1 ++ (if s.2.tmod 2 = 1 then [⟨b, e.Seq⟩] else []), s.2.tdiv 2 + s.2.tmod 2 * 7919)
def Zd (b most : Int) : List EventM → List NameM × Int → List NameM × Int
 | [], s => s
 | e :: C, s => if (s.1.length : Int) < most then Zd b most C (z0w b s e) else s
theorem zhx {b most : Int} {C : List EventM} {s : List NameM × Int} {i : Nat} (h : ¬ (i < C.length ∧ (s.1.length : Int) < most)) : Zd b most (C.drop i) s = s := by
 by_cases hi : i < C.length
 ·rw [z1f hi, Zd, if_neg (fun hq => h ⟨hi, hq⟩)]
 ·rw [List.drop_eq_nil_of_le (by omega), Zd]
theorem zqb {b most : Int} {C : List EventM} {s : List NameM × Int} {i : Nat} (hi : i < C.length) (h : (s.1.length : Int) < most) : Zd b most (C.drop i) s = Zd b most (C.drop (i + 1)) (z0w b s (C.getD i default)) := by
 rw [z1f hi, Zd, if_pos h]
def zga (most : Int) (s : List NameM × Int) : Prop := 0 ≤ s.2 ∧ s.2 ≤ 16000 ∧ (s.1.length : Int) ≤ most ∧ ∀ n ∈ s.1, I64 n.By ∧ I64 n.Seq
theorem zqa {x : Int} (h0 : 0 ≤ x) (h1 : x ≤ 16000) : 0 ≤ x.tmod 2 ∧ x.tmod 2 < 2 ∧ 0 ≤ x.tdiv 2 ∧ x.tdiv 2 ≤ 8000 := by
 refine ⟨Int.tmod_nonneg _ h0, Int.tmod_lt_of_pos _ (by omega), ?_, ?_⟩ <;> rw [Int.tdiv_eq_ediv_of_nonneg h0] <;> omega
theorem zad {b most : Int} {s : List NameM × Int} {e : EventM} (h : zga most s) (hl : (s.1.length : Int) < most) (hb : I64 b) (he : I64 e.Seq) : zga most (z0w b s e) := by
 obtain ⟨h0, h1, h2, h3⟩ := h
 obtain ⟨b1, b2, b3, b4⟩ := zqa h0 h1
 unfold z0w zga
 dsimp only
 refine ⟨by omega, by omega, ?_, ?_⟩
 ·rw [List.length_append]; split <;> simp <;> omega
 ·intro n hn
  rcases List.mem_append.1 hn with hn | hn
  ·exact h3 n hn
  ·split at hn
   ·rw [List.mem_singleton.1 hn]; exact ⟨hb, he⟩
   ·cases hn
theorem zf1 {b most : Int} (hb : I64 b) : ∀ {C : List EventM} {s : List NameM × Int}, (∀ e ∈ C, I64 e.Seq) → zga most s → zga most (Zd b most C s)
 | [], _, _, h => by rw [Zd]; exact h
 | e :: C, s, hC, h => by
  rw [Zd]
  split
  ·rename_i hl
   exact zf1 hb (fun x hx => hC x (List.mem_cons_of_mem _ hx)) (zad h hl hb (hC e List.mem_cons_self))
  ·exact h
def nmB (L : List EventM) (most bits : Int) : Nat → List NameM × Int
 | 0 => ([], bits)
 | b + 1 => Zd (b : Int) most (qg L (b : Int)) (nmB L most bits b)
theorem zhw {L : List EventM} {most bits : Int} (hL : ∀ e ∈ L, OkEv e) (h0 : 0 ≤ bits) (h1 : bits ≤ 16000) (hm : 0 ≤ most) : ∀ n : Nat, n ≤ 1001 → zga most (nmB L most bits n)
 | 0, _ => ⟨h0, h1, hm, fun n hn => by cases hn⟩
 | n + 1, hn => by
  rw [nmB]
  exact zf1 (by unfold I64; omega) (fun e he => (hL e (List.mem_filter.1 he).1).seq) (zhw hL h0 h1 hm n (by omega))
def z7i (p : Nat) (L : List EventM) (bits most : Int) : List NameM := (nmB L most bits p).1
theorem zq9 (L : List EventM) (most bits : Int) : nmB L most bits 0 = ([], bits) := rfl
def zio (b most : Int) (C : List EventM) (s0 : List NameM × Int) (i : Nat) (s : List NameM × Int) : Prop := i ≤ C.length ∧ Zd b most C s0 = Zd b most (C.drop i) s ∧ zga most s
def zf0 (C : List EventM) (most : Int) (i : Nat) (s : List NameM × Int) : Bool := decide ((i : Int) < C.length) && decide ((s.1.length : Int) < most)
set_option maxRecDepth 100000 in
set_option maxHeartbeats 4000000 in
theorem zq3 (G) (p : Nat) (hp : p ≤ 1000) (L : List EventM) (hL : ∀ e ∈ L, OkEv e) (hn : L.length ≤ 1000) (bits most : Int) (h0 : 0 ≤ bits) (h1 : bits ≤ 16000) (hm : 0 ≤ most) (hm2 : most ≤ 100) : zl Tryz.prog G 48 [va p L, iD bits, iD most] [Qn (z7i p L bits most)] := by
 skip
 refine GI [44] [] [] Tryz.func48 Tryz.ntmps48 fun F hP hG hN hR hA => ?_
 have hE := @Tryz.results48
 refine WS [1, 2, 3] [3] ?_
 refine vp 3 hR.2.2.2 rfl rfl ?_
 simp (disch := omega) only [avA, zk, zo, seval, hE]
 refine WS [1, 2, 3, 7] [3, 44] ?_
 apply z3
 refine WS [1, 2, 3, 7, 8] [3, 44] ?_
 apply z7
 refine x7 44 2 (by omega) ?_
 refine xx 7 44 2 rfl rfl ?_
 have hE := And.intro hE (zq9 L most bits)
 refine WL (ι := {b : Nat // b ≤ p}) [2, 3] [3, 43] (fun ⟨b, hb⟩ => [(7, .osl 44 2 0 (nmB L most bits b).1.length), (1, .dat (iD (nmB L most bits b).2)), (8, .dat (iD b))]) (fun ⟨b, hb⟩ => [(44, ⟨2, ((nmB L most bits b).1.map xz).map .dat⟩)]) (fun ⟨b, hb⟩ => p - b) (⟨0, by omega⟩) ?_
 rintro ⟨b, hb⟩
 refine LA ?_
 have hs0 := zhw hL h0 h1 hm
 have hsu : nmB L most bits (b + 1) = Zd (b : Int) most (qg L (b : Int)) (nmB L most bits b) := rfl
 apply z3
 refine WS [1, 2, 3, 7, 8, 14] [3, 43, 44] ?_
 refine WI ?_ ?_ <;> intro hb
 ·apply z6
  apply z5
  apply z3
  apply z7
  have hc := gvF hP hG (z4x G p L (by omega) (b : Int))
  refine WSc [1, 2, 3, 7, 8, 9] [3, 43, 44] ?_
  have hs1 := hs0 b (by omega)
  have hcl := zfa L (b : Int)
  have hco : ∀ e ∈ qg L (b : Int), OkEv e := fun e he => hL e (List.mem_filter.1 he).1
  generalize nmB L most bits b = s0 at *
  generalize qg L (b : Int) = C at *
  refine WS [1, 2, 3, 7, 8, 9, 10] [3, 43, 44] ?_
  apply z7
  refine WL (ι := {x : Nat × (List NameM × Int) // zio b most C s0 x.1 x.2}) [2, 3, 8, 9] [3, 43] (fun ⟨⟨i, s⟩, hx⟩ => [(7, .osl 44 2 0 s.1.length), (1, .dat (iD s.2)), (10, .dat (iD i))]) (fun ⟨⟨i, s⟩, hx⟩ => [(44, ⟨2, (s.1.map xz).map .dat⟩)]) (fun ⟨⟨i, s⟩, hx⟩ => C.length - i) (⟨⟨0, s0⟩, ⟨Nat.zero_le _, by simp, hs1⟩⟩) ?_
  rintro ⟨⟨i, s⟩, hx⟩
  refine LA ?_
  have hx2 : zio b most C s0 i s := hx
  obtain ⟨hi, hrun, hok⟩ := hx2
  obtain ⟨k0, k1, k2, k3⟩ := id hok
  obtain ⟨b1, b2, b3, b4⟩ := zqa k0 k1
  apply z3
  refine v7 (.of [(2, .dat (iD most)), (3, .rp (va p L) 0), (7, .osl 44 2 0 s.1.length), (8, .dat (iD b)), (1, .dat (iD s.2)), (9, .dat (zr C)), (10, .dat (iD i)), (29, .dat (bD (zf0 C most i s)))] [(44, ⟨2, (s.1.map xz).map .dat⟩)]) ?_ ?_
  ·by_cases hq : (i : Int) < C.length
   ·have hd0 : decide ((i : Int) < C.length) = true := decide_eq_true hq
    have hbb : zf0 C most i s = decide ((s.1.length : Int) < most) := by unfold zf0; rw [hd0]; rfl
    have hE := And.intro hE (And.intro hd0 hbb)
    refine Zk [1, 2, 3, 7, 8, 9, 10, 29] [3, 43, 44] [(0, 20, _), (1, 21, _), (2, 22, _), (3, 23, .dat (bD true)), (4, 24, .dat (bD true)), (5, 25, _), (6, 26, _), (7, 27, _), (8, 28, .dat (bD (decide ((s.1.length : Int) < most)))), (9, 29, .dat (bD (decide ((s.1.length : Int) < most))))] [] ⟨FV 0 [] [3, 4, 5, 6, 7, 8, 9], FV 1 [] [2, 3, 4, 5, 6, 7, 8, 9], FV 2 [1] [3, 4, 5, 6, 7, 8, 9], FV 3 [0, 1, 2] [4, 5, 6, 7, 8, 9], FV 4 [0, 1, 2, 3] [5, 6, 7, 8, 9], FG 5 [0, 1, 2, 3, 4] [6, 8, 9], FG 6 [0, 1, 2, 3, 4, 5] [8, 9], FG 7 [0, 1, 2, 3, 4] [8, 9], FG 8 [0, 1, 2, 3, 4, 5, 6, 7] [9], FV 9 [0, 1, 2, 3, 4, 5, 6, 7, 8] [], trivial⟩ ?_
    exact ML
   ·have hd0 : decide ((i : Int) < C.length) = false := decide_eq_false hq
    have hbb : zf0 C most i s = false := by unfold zf0; rw [hd0]; rfl
    have hE := And.intro hE (And.intro hd0 hbb)
    refine Zk [1, 2, 3, 7, 8, 9, 10, 29] [3, 43, 44] [(0, 20, _), (1, 21, _), (2, 22, _), (3, 23, .dat (bD false)), (4, 24, .dat (bD false)), (5, 25, .cond false .junk), (6, 26, .cond false .junk), (7, 27, .cond false .junk), (8, 28, .cond false (.dat (bD false))), (9, 29, .dat (bD false))] [] ⟨FV 0 [] [3, 4, 5, 6, 7, 8, 9], FV 1 [] [2, 3, 4, 5, 6, 7, 8, 9], FV 2 [1] [3, 4, 5, 6, 7, 8, 9], FV 3 [0, 1, 2] [4, 5, 6, 7, 8, 9], FV 4 [0, 1, 2, 3] [5, 6, 7, 8, 9], FO 5 [0, 1, 2, 3, 4] [6, 8, 9], FO 6 [0, 1, 2, 3, 4, 5] [8, 9], FO 7 [0, 1, 2, 3, 4] [8, 9], FO 8 [0, 1, 2, 3, 4, 5, 6, 7] [9], FV 9 [0, 1, 2, 3, 4, 5, 6, 7, 8] [], trivial⟩ ?_
    exact ML
  refine WI ?_ ?_ <;> intro hb
  ·have hgo : i < C.length ∧ (s.1.length : Int) < most := by unfold zf0 at hb; rw [Bool.and_eq_true, decide_eq_true_eq, decide_eq_true_eq] at hb; exact ⟨by omega, hb.2⟩
   obtain ⟨hi2, hl2⟩ := hgo
   have hce := zt hco (i := i) hi2
   have hbi : I64 (b : Int) := by unfold I64; omega
   have hnx2 := zad hok hl2 hbi hce.seq
   rw [zqb hi2 hl2] at hrun
   apply z6
   apply z5
   apply z3
   apply z7
   apply z3
   refine WS [1, 2, 3, 7, 8, 9, 10, 34] [3, 43, 44] ?_
   refine WI ?_ ?_ <;> intro hb
   ·have hst : z0w b s (C.getD i default) = (s.1 ++ [⟨(b : Int), (C.getD i default).Seq⟩], s.2.tdiv 2 + s.2.tmod 2 * 7919) := by unfold z0w; rw [if_pos hb]
    rw [hst] at hrun hnx2
    have hnx : zio b most C s0 (i + 1) (s.1 ++ [⟨(b : Int), (C.getD i default).Seq⟩], s.2.tdiv 2 + s.2.tmod 2 * 7919) := ⟨by omega, hrun, hnx2⟩
    have htk : List.take s.1.length (s.1.map xz) = s.1.map xz := List.take_of_length_le (by simp)
    have hE := And.intro hE htk
    refine WQ [1, 2, 3, 7, 8, 9, 10] [3, 43, 44] ?_
    apply z5
    refine WQ [1, 2, 3, 7, 8, 9, 10] [3, 43, 44] ?_
    apply zh
    apply z5
    refine WQ [1, 2, 3, 7, 8, 9, 10] [3, 43, 44] ?_
    refine WN (⟨⟨i + 1, (s.1 ++ [⟨(b : Int), (C.getD i default).Seq⟩], s.2.tdiv 2 + s.2.tmod 2 * 7919)⟩, hnx⟩)
   ·have hst : z0w b s (C.getD i default) = (s.1, s.2.tdiv 2 + s.2.tmod 2 * 7919) := by unfold z0w; rw [if_neg hb, List.append_nil]
    rw [hst] at hrun hnx2
    have hnx : zio b most C s0 (i + 1) (s.1, s.2.tdiv 2 + s.2.tmod 2 * 7919) := ⟨by omega, hrun, hnx2⟩
    apply z6
    apply z5
    refine WQ [1, 2, 3, 7, 8, 9, 10] [3, 43, 44] ?_
    apply zh
    apply z5
    refine WQ [1, 2, 3, 7, 8, 9, 10] [3, 43, 44] ?_
    refine WN (⟨⟨i + 1, (s.1, s.2.tdiv 2 + s.2.tmod 2 * 7919)⟩, hnx⟩)
  ·have hgo : ¬ (i < C.length ∧ (s.1.length : Int) < most) := by
    rintro ⟨a1, a2⟩
    have : zf0 C most i s = true := by
     unfold zf0
     rw [Bool.and_eq_true, decide_eq_true_eq, decide_eq_true_eq]
     exact ⟨by omega, a2⟩
    rw [hb] at this
    cases this
   rw [zhx hgo] at hrun
   apply zj
   apply zc
   have hfin : nmB L most bits (b + 1) = s := by rw [hsu, hrun]
   have hE := And.intro hE hfin
   apply zb
   apply zn
   apply zh
   apply z5
   refine WQ [1, 2, 3, 7, 8] [3, 43, 44] ?_
   refine WN (⟨b + 1, by omega⟩)
 ·apply zj
  apply zc
  have hend : b = p := by omega
  subst hend
  have hE := And.intro hE (show z7i b L bits most = (nmB L most bits b).1 from rfl)
  apply zb
  apply zn
  apply z5
  refine vp 44 hR.2.2.2 rfl (datE_map _) ?_
  have htk : List.take (nmB L most bits b).1.length ((nmB L most bits b).1.map xz) = (nmB L most bits b).1.map xz := List.take_of_length_le (by simp)
  have hE := And.intro hE htk
  refine WS [6] [43, 44] ?_
  apply z9
  exact E0
def kq (x y : Int) (i : Nat) : List Int := [0, 0, 0, x, 0, 0, 0, 0, 0, 0, 0, y] ++ (List.range i).map fun k : Nat => x.tdiv ((k : Int) + 2) + y.tdiv (2 * (k : Int) + 1)
theorem zgx (x y : Int) : kq x y 0 = [0, 0, 0, x, 0, 0, 0, 0, 0, 0, 0, y] := by simp [kq]
theorem z9j (x y : Int) (i : Nat) : (kq x y i).length = 12 + i := by simp [kq]; omega
theorem zgw (x y : Int) (i : Nat) : kq x y (i + 1) = kq x y i ++ [x.tdiv ((i : Int) + 2) + y.tdiv (2 * (i : Int) + 1)] := by simp [kq, List.range_succ]
theorem Qy {x k : Int} (h : 0 ≤ x) (hk : 0 < k) : 0 ≤ x.tdiv k ∧ x.tdiv k ≤ x := by
 rw [Int.tdiv_eq_ediv_of_nonneg h]
 exact ⟨Int.ediv_nonneg h (by omega), Int.ediv_le_self _ h⟩
theorem zkn {x y : Int} (hx : 0 ≤ x ∧ x < 1048576) (hy : 0 ≤ y ∧ y < 1048576) (i : Nat) : ∀ n ∈ kq x y i, I64 n := by
 intro n hn
 rcases List.mem_append.1 hn with hn | hn
 ·simp only [List.mem_cons, List.not_mem_nil, or_false] at hn
  rcases hn with rfl | rfl | rfl | rfl | rfl | rfl | rfl | rfl | rfl | rfl | rfl | rfl <;> (unfold I64; omega)
 ·obtain ⟨k, _, rfl⟩ := List.mem_map.1 hn
  have h1 := Qy (k := (k : Int) + 2) hx.1 (by omega)
  have h2 := Qy (k := 2 * (k : Int) + 1) hy.1 (by omega)
  unfold I64
  omega
def zvh (p : Nat) (L : List EventM) (b x y : Int) : EventM := { evG (kq x y 22) with By := b, Seq := 0, Tick := 0, Refs := z7i p L (1 + y.tmod 4096) ((x.tdiv 7).tmod 4) }
def v8 (p : Nat) (L : List EventM) (b n m : Int) : EventM := zvh p L b (yh n 1048576) (yh m 1048576)
theorem zsr {p : Nat} {L : List EventM} {b x y : Int} (hp : p ≤ 1000) (hL : ∀ e ∈ L, OkEv e) (hb : I64 b) (hx : 0 ≤ x ∧ x < 1048576) (hy : 0 ≤ y ∧ y < 1048576) : SmEv 0 (zvh p L b x y) := by
 have h := zwl (kq x y 22)
 have y1 := Int.tmod_nonneg 4096 hy.1
 have y2 := Int.tmod_lt_of_pos y (b := 4096) (by omega)
 have x0 := (Qy (k := 7) hx.1 (by omega)).1
 have x1 := Int.tmod_nonneg 4 x0
 have x2 := Int.tmod_lt_of_pos (x.tdiv 7) (b := 4) (by omega)
 have hn := zhw (L := L) (most := (x.tdiv 7).tmod 4) (bits := 1 + y.tmod 4096) hL (by omega) (by omega) x1 p (by omega)
 exact { h with by_ := hb, seq := z93, tick := z93, refs := hn.2.2.2, nrefs := by have := hn.2.2.1; show (z7i p L _ _).length ≤ _; unfold z7i; omega }
theorem Qd {p : Nat} {L : List EventM} {b n m : Int} (hp : p ≤ 1000) (hL : ∀ e ∈ L, OkEv e) (hb : I64 b) : SmEv 0 (v8 p L b n m) := zsr hp hL hb (wd (by omega)) (wd (by omega))
theorem zxc {e : EventM} (h : SmEv 1 e) : jf e := ⟨zb6 h (by omega), by have := zxd h (by omega); omega⟩
set_option maxRecDepth 100000 in
set_option maxHeartbeats 4000000 in
theorem z28 (G) (p : Nat) (hp : p ≤ 1000) (L : List EventM) (hL : ∀ e ∈ L, OkEv e) (hn : L.length ≤ 1000) (b n m : Int) (hi : I64 n) (hm : I64 m) : zl Tryz.prog G 11 [va p L, iD b, iD n, iD m] [zf (v8 p L b n m)] := by
 have hx := wd (n := n) (m := 1048576) (by omega)
 have hy := wd (n := m) (m := 1048576) (by omega)
 have hxo := z19 G n 1048576 hi (by omega) (by unfold I64; omega)
 have hyo := z19 G m 1048576 hm (by omega) (by unfold I64; omega)
 unfold v8
 generalize yh n 1048576 = x at *
 generalize yh m 1048576 = y at *
 have y1 := Int.tmod_nonneg 4096 hy.1
 have y2 := Int.tmod_lt_of_pos y (b := 4096) (by omega)
 have x0 := (Qy (k := 7) hx.1 (by omega)).1
 have x3 := (Qy (k := 7) hx.1 (by omega)).2
 have x1 := Int.tmod_nonneg 4 x0
 have x2 := Int.tmod_lt_of_pos (x.tdiv 7) (b := 4) (by omega)
 skip
 refine GI [20, 37] [] [] Tryz.func11 Tryz.ntmps11 fun F hP hG hN hR hA => ?_
 have hE := @Tryz.results11
 refine WS [1, 2, 3, 4, 8] [4, 8] ?_
 refine vp 4 hR.2.2.2 rfl rfl ?_
 simp (disch := omega) only [avA, zk, zo, seval, hE]
 have hc := gvF hP hG (hxo)
 refine WSc [1, 3, 4, 8, 9] [4, 8] ?_
 have hc := gvF hP hG (hyo)
 refine WSc [1, 4, 8, 9, 10] [4, 8] ?_
 refine WS [1, 4, 8, 9, 10, 11] [4, 8, 20, 37] ?_
 apply z3
 refine WS [1, 4, 8, 9, 10, 11, 12] [4, 8, 20, 37] ?_
 apply z7
 have hE := And.intro hE (zgx x y)
 refine WL (ι := {i : Nat // i ≤ 22}) [1, 4, 8, 9, 10] [4, 8, 36, 37] (fun ⟨i, hi⟩ => [(11, .osl 20 1 0 (12 + i)), (12, .dat (iD i))]) (fun ⟨i, hi⟩ => [(20, ⟨1, ((kq x y i).map iD).map .dat⟩)]) (fun ⟨i, hi⟩ => 22 - i) (⟨0, by omega⟩) ?_
 rintro ⟨i, hi⟩
 refine LA ?_
 apply z3
 refine WS [1, 4, 8, 9, 10, 11, 12, 22] [4, 8, 20, 36, 37] ?_
 refine WI ?_ ?_ <;> intro hb
 ·have hd1 := Qy (k := (i : Int) + 2) hx.1 (by omega)
  have hd2 := Qy (k := 2 * (i : Int) + 1) hy.1 (by omega)
  have hcl := z9j x y i
  have htk : List.take (12 + i) ((kq x y i).map iD) = (kq x y i).map iD := List.take_of_length_le (by rw [List.length_map, hcl]; exact Nat.le_refl _)
  have hE := And.intro hE (And.intro hcl htk)
  apply z6
  apply z5
  apply z3
  apply z7
  refine WDQ [1, 4, 8, 9, 10, 11, 12] [4, 8, 20, 36, 37] [0, 1, 2, 3, 4, 5, 6, 7, 8, 9, 10, 11, 12, 13] [37] ?_
  apply zh
  apply z5
  refine j1 37 20 (by omega) (by omega) ?_
  have hE := And.intro hE (zgw x y i)
  refine WQ [1, 4, 8, 9, 10, 11, 12] [4, 8, 20, 36, 37] ?_
  refine WN (⟨i + 1, by omega⟩)
 ·apply zj
  apply zc
  have hend : i = 22 := by omega
  subst hend
  apply zb
  apply zn
  apply z5
  refine vp 20 hR.2.2.2 rfl (datE_map _) ?_
  have htk : List.take 34 ((kq x y 22).map iD) = (kq x y 22).map iD := List.take_of_length_le (by rw [List.length_map, z9j]; exact Nat.le_refl _)
  have hE := And.intro hE htk
  simp (disch := omega) only [avA, zk, zo, seval, hE]
  have hc := gvF hP hG (zol G (kq x y 22) (zkn hx hy 22))
  refine WSc [1, 4, 8, 9, 10, 13] [4, 8, 13] ?_
  refine WS [4, 8, 9, 10, 13] [4, 8, 13] ?_
  refine WS [4, 8, 9, 10, 13] [4, 8, 13] ?_
  refine WS [4, 8, 9, 10, 13] [4, 8, 13] ?_
  have hc := gvF hP hG (zq3 G p hp L hL hn (1 + y.tmod 4096) ((x.tdiv 7).tmod 4) (by omega) (by omega) (by omega) (by omega))
  refine WSc [8, 13] [8, 13] ?_
  refine WS [8] [8] ?_
  apply z9
  exact E0
theorem zme (G) (l : List Int) (m : Nat) (hm : m ≤ 1000000) : zl Tryz.prog G 9 [isD l, iD m] [isD (l.take (min l.length m))] := by
 have hmin : (if (m : Int) < (l.length : Int) then (m : Int) else (l.length : Int)).toNat = min l.length m := by split <;> omega
 skip
 skip
 refine GI [] [] [] Tryz.func9 Tryz.ntmps9 fun F hP hG hN hR hA => ?_
 have hE := And.intro @Tryz.results9 (And.intro @hmin (And.intro @Nat.min_self (@Nat.min_assoc)))
 refine WS [0, 1] [] ?_
 refine WS [0, 1, 5] [] ?_
 refine WS [4] [13] ?_
 apply z9
 refine EN ?_
 all_goals try trivial
 all_goals (refine .inl ?_; congr 1; omega)
theorem zlh {p : Nat} {L : List EventM} (h : TakenL p L) (b : Int) : zx L ⟨b, (qx L b : Int)⟩ = none := by
 rw [Zx]
 intro x hx hn
 have hb : x.By = b ∧ x.Seq = (qx L b : Int) := by
  unfold evName at hn
  rwa [NameM.mk.injEq] at hn
 obtain ⟨k, hk, rfl⟩ := List.getElem_of_mem (Zc.2 ⟨hx, hb.1⟩)
 have := (z1r h b k hk).2
 rw [qi] at hb
 omega
theorem zrs {p : Nat} {L : List EventM} {c : EventM} (h : zx L (evName c) = none) (h2 : (zq p L c).2.2 = 0) : zq p L c = (L ++ [c], true, 0) := by
 unfold zq at h2 ⊢
 (repeat' split) <;> simp_all
theorem zlg (p : Nat) (L : List EventM) (c : EventM) : evName (wb L p c) = ⟨c.By, (qx L c.By : Int)⟩ := rfl
theorem zle {p : Nat} {L : List EventM} {c : EventM} (hT : TakenL p L) (h : (xi p L c).2.2 = 0) : kp p c = false ∧ zq p L (wb L p c) = (L ++ [wb L p c], true, 0) ∧ xi p L c = (L ++ [wb L p c], wb L p c, 0) := by
 unfold xi at h ⊢
 split at h
 ·cases h
 ·rename_i hb
  rw [if_neg hb]
  split at h
  ·rename_i he; exact absurd h he
  ·rename_i he
   have he : (zq p L (wb L p c)).2.2 = 0 := by simpa using he
   have hn := zrs (by rw [zlg]; exact zlh hT _) he
   rw [if_neg (by simpa using he), hn]
   exact ⟨by simpa using hb, rfl, rfl⟩
def vx (p : Nat) (L : List EventM) (c : EventM) : List EventM := if (xi p L c).2.2 = 0 then (xi p L c).1 else L
theorem Qf {p : Nat} {L : List EventM} (hT : TakenL p L) (c : EventM) : vx p L c = L ∨ (vx p L c = L ++ [wb L p c] ∧ zq p L (wb L p c) = (L ++ [wb L p c], true, 0)) := by
 unfold vx
 split
 ·rename_i h
  obtain ⟨_, h2, h3⟩ := zle hT h
  right
  rw [h3]
  exact ⟨rfl, h2⟩
 ·exact .inl rfl
theorem zh9 {p : Nat} {L : List EventM} (hT : TakenL p L) (c : EventM) : TakenL p (vx p L c) := by
 rcases Qf hT c with h | ⟨h, h2⟩
 ·rw [h]; exact hT
 ·rw [h]; exact .snoc hT h2
theorem zop {p : Nat} {L : List EventM} (hT : TakenL p L) (c : EventM) : ∀ e ∈ vx p L c, e ∈ L ∨ e = wb L p c := by
 intro e he
 rcases Qf hT c with h | ⟨h, h2⟩
 ·rw [h] at he; exact .inl he
 ·rw [h] at he
  rcases List.mem_append.1 he with he | he
  ·exact .inl he
  ·exact .inr (List.mem_singleton.1 he)
theorem zoo {p : Nat} {L : List EventM} (hT : TakenL p L) (c : EventM) : (vx p L c).length ≤ L.length + 1 := by
 rcases Qf hT c with h | ⟨h, h2⟩ <;> rw [h] <;> simp
def vg (p : Nat) (l : List Int) : Nat → List EventM
 | 0 => []
 | i + 1 => vx p (vg p l i) (v8 p (vg p l i) (atM l (3 * (i : Int)) p) (l.getD (3 * i + 1) default) (l.getD (3 * i + 2) default))
theorem ze8 (p : Nat) (l : List Int) : vg p l 0 = [] := rfl
def kG (l : List Int) : Nat := min 10 (l.length / 3)
def zha (p : Nat) (l : List Int) : List EventM := vg p l (kG l)
theorem zp7 {l : List Int} {i : Nat} : i < kG l ↔ 3 * i + 2 < l.length ∧ i < 10 := by
 unfold kG
 omega
theorem zuv {k p : Nat} {L : List EventM} {c : EventM} (hT : TakenL p L) (hl : L.length ≤ 100000) (h : SmEv k c) : SmEv k (wb L p c) := by
 have hc := Z6 L c.By
 have hk := zfz hT
 rw [← zny hT] at hk
 exact { h with seq := (by show I64 (qx L c.By : Int); unfold I64; omega), tick := (by show I64 (clkN L p + 1); unfold I64; omega) }
structure GrL (p : Nat) (L : List EventM) : Prop where
 taken : TakenL p L
 sm : ∀ e ∈ L, SmEv 1 e
theorem GrL.ok {p : Nat} {L : List EventM} (h : GrL p L) : ∀ e ∈ L, OkEv e := fun e he => zb6 (h.sm e he) (by omega)
theorem GrL.big {p : Nat} {L : List EventM} (h : GrL p L) : ∀ e ∈ L, jf e := fun e he => zxc (h.sm e he)
theorem GrL.grow {p : Nat} {L : List EventM} {c : EventM} (h : GrL p L) (hl : L.length ≤ 100000) (hc : SmEv 1 c) : GrL p (vx p L c) where
 taken := zh9 h.taken c
 sm := fun e he => by
  rcases zop h.taken c e he with h1 | rfl
  ·exact h.sm e h1
  ·exact zuv h.taken hl hc
theorem znd (l : List Int) (i : Int) {p : Nat} (hp : 0 < p) (hp2 : p ≤ 1000) : I64 (atM l i p) := by
 have := x6 (l := l) (i := i) (m := (p : Int)) (by omega)
 unfold I64
 omega
theorem z1i {p : Nat} (hp : 0 < p) (hp2 : p ≤ 1000) (l : List Int) : ∀ i, i ≤ 10 → GrL p (vg p l i) ∧ (vg p l i).length ≤ i
 | 0, _ => ⟨⟨.nil, fun e he => by cases he⟩, Nat.le_refl _⟩
 | i + 1, hi => by
  obtain ⟨h1, h2⟩ := z1i hp hp2 l i (by omega)
  have hc := Qd (n := l.getD (3 * i + 1) default) (m := l.getD (3 * i + 2) default) hp2 h1.ok (znd l (3 * (i : Int)) hp hp2)
  rw [vg]
  refine ⟨h1.grow (by omega) (zvn hc), ?_⟩
  have := zoo h1.taken (v8 p (vg p l i) (atM l (3 * (i : Int)) p) (l.getD (3 * i + 1) default) (l.getD (3 * i + 2) default))
  omega
set_option maxRecDepth 100000 in
set_option maxHeartbeats 4000000 in
theorem zoq (G) (p : Nat) (hp : 0 < p) (hp2 : p ≤ 1000) (l : List Int) (hl : ∀ n ∈ l, I64 n) : zl Tryz.prog G 8 [iD p, isD l] [va p (zha p l)] := by
 have hk10 : kG l ≤ 10 := by unfold kG; omega
 have hpi : I64 (p : Int) := by unfold I64; omega
 skip
 refine GI [] [] [] Tryz.func8 Tryz.ntmps8 fun F hP hG hN hR hA => ?_
 have hE := @Tryz.results8
 refine WS [0, 1, 4] [4] ?_
 refine WS [0, 1, 4, 5] [4, 5] ?_
 apply z3
 refine WS [0, 1, 4, 5, 6] [4, 5] ?_
 apply z7
 refine zit (ds := [iD p, zr []]) 5 rfl rfl ?_
 have hE := And.intro hE (ze8 p l)
 refine WL (ι := {i : Nat // i ≤ kG l}) [0, 1, 4, 5] [4] (fun ⟨i, hi⟩ => [(6, .dat (iD i))]) (fun ⟨i, hi⟩ => [(5, ⟨2, [.dat (va p (vg p l i))]⟩)]) (fun ⟨i, hi⟩ => kG l - i) (⟨0, by omega⟩) ?_
 rintro ⟨i, hi⟩
 refine LA ?_
 have hgr := z1i hp hp2 l i (by omega)
 have hsu : vg p l (i + 1) = vx p (vg p l i) (v8 p (vg p l i) (atM l (3 * (i : Int)) p) (l.getD (3 * i + 1) default) (l.getD (3 * i + 2) default)) := rfl
 obtain ⟨hg1, hg2⟩ := hgr
 apply z3
 refine v7 (.of [(0, .dat (iD p)), (1, .dat (isD l)), (4, .ptr 4 2 0 0), (5, .ptr 5 2 0 0), (6, .dat (iD i)), (21, .dat (bD (decide ((i : Int) < kG l))))] [(4, ⟨2, [.agg [.dat (iD 0), .nils]]⟩), (5, ⟨2, [.dat (va p (vg p l i))]⟩)]) ?_ ?_
 ·by_cases hq : 3 * (i : Int) + 2 < l.length
  ·have hd0 : decide (3 * (i : Int) + 2 < l.length) = true := decide_eq_true hq
   have hbb : decide ((i : Int) < kG l) = decide ((i : Int) < 10) := by
    have := zp7 (l := l) (i := i)
    by_cases h10 : (i : Int) < 10
    ·rw [decide_eq_true h10, decide_eq_true (by omega)]
    ·rw [decide_eq_false h10, decide_eq_false (by omega)]
   have hE := And.intro hE (And.intro hd0 hbb)
   refine Zk [0, 1, 4, 5, 6, 21] [4, 5] [(0, 12, _), (1, 13, _), (2, 14, _), (3, 15, _), (4, 16, _), (5, 17, .dat (bD true)), (6, 18, .dat (bD true)), (7, 19, _), (8, 20, .dat (bD (decide ((i : Int) < 10)))), (9, 21, .dat (bD (decide ((i : Int) < 10))))] [] ⟨FV 0 [] [1, 2, 5, 6, 7, 8, 9], FV 1 [0] [2, 5, 6, 7, 8, 9], FV 2 [0, 1] [5, 6, 7, 8, 9], FV 3 [] [4, 5, 6, 7, 8, 9], FV 4 [3] [5, 6, 7, 8, 9], FV 5 [0, 1, 2, 3, 4] [6, 7, 8, 9], FV 6 [0, 1, 2, 3, 4, 5] [7, 8, 9], FG 7 [0, 1, 2, 3, 4, 5, 6] [8, 9], FG 8 [0, 1, 2, 3, 4, 5, 6, 7] [9], FV 9 [0, 1, 2, 3, 4, 5, 6, 7, 8] [], trivial⟩ ?_
   exact ML
  ·have hd0 : decide (3 * (i : Int) + 2 < l.length) = false := decide_eq_false hq
   have hbb : decide ((i : Int) < kG l) = false := by
    have := zp7 (l := l) (i := i)
    rw [decide_eq_false (by omega)]
   have hE := And.intro hE (And.intro hd0 hbb)
   refine Zk [0, 1, 4, 5, 6, 21] [4, 5] [(0, 12, _), (1, 13, _), (2, 14, _), (3, 15, _), (4, 16, _), (5, 17, .dat (bD false)), (6, 18, .dat (bD false)), (7, 19, .cond false .junk), (8, 20, .cond false (.dat (bD false))), (9, 21, .dat (bD false))] [] ⟨FV 0 [] [1, 2, 5, 6, 7, 8, 9], FV 1 [0] [2, 5, 6, 7, 8, 9], FV 2 [0, 1] [5, 6, 7, 8, 9], FV 3 [] [4, 5, 6, 7, 8, 9], FV 4 [3] [5, 6, 7, 8, 9], FV 5 [0, 1, 2, 3, 4] [6, 7, 8, 9], FV 6 [0, 1, 2, 3, 4, 5] [7, 8, 9], FO 7 [0, 1, 2, 3, 4, 5, 6] [8, 9], FO 8 [0, 1, 2, 3, 4, 5, 6, 7] [9], FV 9 [0, 1, 2, 3, 4, 5, 6, 7, 8] [], trivial⟩ ?_
   exact ML
 refine WI ?_ ?_ <;> intro hb
 ·have hk := zp7.1 (show i < kG l by omega)
  have n1 := zt hl (i := 3 * i + 1) (by omega)
  have n2 := zt hl (i := 3 * i + 2) (by omega)
  have hsm := Qd (n := l.getD (3 * i + 1) default) (m := l.getD (3 * i + 2) default) hp2 hg1.ok (znd l (3 * (i : Int)) hp hp2)
  have hco := z28 G p hp2 (vg p l i) hg1.ok (by omega) (atM l (3 * (i : Int)) p) (l.getD (3 * i + 1) default) (l.getD (3 * i + 2) default) n1 n2
  generalize v8 p (vg p l i) (atM l (3 * (i : Int)) p) (l.getD (3 * i + 1) default) (l.getD (3 * i + 2) default) = c at *
  generalize vg p l i = M at *
  have hmk := z81 G p hp2 M hg1.taken hg1.ok (by omega) c (zb6 hsm (by omega))
  have e1 : 3 * (i : Int) + 1 = ((3 * i + 1 : Nat) : Int) := by omega
  have e2 : 3 * (i : Int) + 2 = ((3 * i + 2 : Nat) : Int) := by omega
  have hE := And.intro hE (And.intro e1 e2)
  apply z6
  apply z5
  apply z3
  apply z7
  refine WDF [0, 1, 4, 5, 6, 7, 9] [4, 5, 7] [(0, 25, .dat (va p M)), (1, 26, .dat (va p M)), (2, 27, _), (3, 28, _), (4, 29, _), (5, 30, _), (6, 31, .dat (iD (atM l (3 * (i : Int)) p))), (7, 32, _), (8, 33, _), (9, 34, _), (10, 35, .dat (iD ((3 * i + 1 : Nat) : Int))), (11, 36, _), (12, 37, .dat (iD (l.getD (3 * i + 1) default))), (13, 38, _), (14, 39, _), (15, 40, _), (16, 41, .dat (iD ((3 * i + 2 : Nat) : Int))), (17, 42, _), (18, 43, .dat (iD (l.getD (3 * i + 2) default))), (19, 44, .dat (zf c)), (20, 45, .tup [.dat (va p (xi p M c).1), .dat (zf (xi p M c).2.1), .dat (iD (xi p M c).2.2)]), (21, 24, _), (22, 46, _), (23, 47, _), (24, 48, _), (25, 7, .ptr 7 2 0 0), (26, 8, .ptr 8 32 0 0), (29, 9, _)] [(28, 8, some ⟨32, [.dat (zf (xi p M c).2.1)]⟩), (27, 7, some ⟨2, [.dat (va p (xi p M c).1)]⟩), (26, 8, some ⟨32, [zg6]⟩), (25, 7, some ⟨2, [.agg [.dat (iD 0), .nils]]⟩)] ⟨FV 0 [] [20, 21, 22, 23, 24, 27, 28, 29], FV 1 [] [19, 20, 21, 22, 23, 24, 27, 28, 29], FV 2 [] [6, 19, 20, 21, 22, 23, 24, 27, 28, 29], FV 3 [] [4, 6, 19, 20, 21, 22, 23, 24, 27, 28, 29], FV 4 [3] [6, 19, 20, 21, 22, 23, 24, 27, 28, 29], FV 5 [] [6, 19, 20, 21, 22, 23, 24, 27, 28, 29], (by have hc := gvF hP hG (Z3 G l (3 * (i : Int)) p hl (by omega) hpi); exact FVc 6 [2, 3, 4, 5] [19, 20, 21, 22, 23, 24, 27, 28, 29]), FV 7 [] [11, 12, 19, 20, 21, 22, 23, 24, 27, 28, 29], FV 8 [] [9, 10, 11, 12, 19, 20, 21, 22, 23, 24, 27, 28, 29], FV 9 [8] [10, 11, 12, 19, 20, 21, 22, 23, 24, 27, 28, 29], FV 10 [8, 9] [11, 12, 19, 20, 21, 22, 23, 24, 27, 28, 29], FV 11 [7, 8, 9, 10] [12, 19, 20, 21, 22, 23, 24, 27, 28, 29], FV 12 [7, 8, 9, 10, 11] [19, 20, 21, 22, 23, 24, 27, 28, 29], FV 13 [] [17, 18, 19, 20, 21, 22, 23, 24, 27, 28, 29], FV 14 [] [15, 16, 17, 18, 19, 20, 21, 22, 23, 24, 27, 28, 29], FV 15 [14] [16, 17, 18, 19, 20, 21, 22, 23, 24, 27, 28, 29], FV 16 [14, 15] [17, 18, 19, 20, 21, 22, 23, 24, 27, 28, 29], FV 17 [13, 14, 15, 16] [18, 19, 20, 21, 22, 23, 24, 27, 28, 29], FV 18 [13, 14, 15, 16, 17] [19, 20, 21, 22, 23, 24, 27, 28, 29], (by have hc := gvF hP hG (hco); exact FVc 19 [1, 2, 3, 4, 5, 6, 7, 8, 9, 10, 11, 12, 13, 14, 15, 16, 17, 18] [20, 21, 22, 23, 24, 27, 28, 29]), (by have hc := gvF hP hG (hmk); exact FVc 20 [0, 1, 2, 3, 4, 5, 6, 7, 8, 9, 10, 11, 12, 13, 14, 15, 16, 17, 18, 19] [21, 22, 23, 24, 27, 28, 29]), FV 21 [0, 1, 2, 3, 4, 5, 6, 7, 8, 9, 10, 11, 12, 13, 14, 15, 16, 17, 18, 19, 20] [22, 23, 24, 27, 28, 29], FV 22 [0, 1, 2, 3, 4, 5, 6, 7, 8, 9, 10, 11, 12, 13, 14, 15, 16, 17, 18, 19, 20, 21] [27, 28, 29], FV 23 [0, 1, 2, 3, 4, 5, 6, 7, 8, 9, 10, 11, 12, 13, 14, 15, 16, 17, 18, 19, 20, 21] [28, 29], FV 24 [0, 1, 2, 3, 4, 5, 6, 7, 8, 9, 10, 11, 12, 13, 14, 15, 16, 17, 18, 19, 20, 21] [29], FNd 25 3 [] [27, 28, 29], FNd 26 2 [] [27, 28, 29], FS 1 [0, 1, 2, 3, 4, 5, 6, 7, 8, 9, 10, 11, 12, 13, 14, 15, 16, 17, 18, 19, 20, 21, 22, 25, 26] [28, 29], FS 0 [0, 1, 2, 3, 4, 5, 6, 7, 8, 9, 10, 11, 12, 13, 14, 15, 16, 17, 18, 19, 20, 21, 22, 23, 25, 26, 27] [29], FV 27 [0, 1, 2, 3, 4, 5, 6, 7, 8, 9, 10, 11, 12, 13, 14, 15, 16, 17, 18, 19, 20, 21, 22, 23, 24, 25, 26, 27, 28] [], trivial⟩ ?_
  refine WS [0, 1, 4, 5, 6, 7, 50] [4, 5, 7] ?_
  refine WI ?_ ?_ <;> intro hb
  ·have hv : vx p M c = (xi p M c).1 := by unfold vx; rw [if_pos hb]
   have hE := And.intro hE (And.intro hsu hv)
   refine WQ [0, 1, 4, 5, 6] [4, 5] ?_
   apply zh
   apply z5
   refine WQ [0, 1, 4, 5, 6] [4, 5] ?_
   refine WN (⟨i + 1, by omega⟩)
  ·have hv : vx p M c = M := by unfold vx; rw [if_neg hb]
   have hE := And.intro hE (And.intro hsu hv)
   apply z6
   apply zh
   apply z5
   refine WQ [0, 1, 4, 5, 6] [4, 5] ?_
   refine WN (⟨i + 1, by omega⟩)
 ·apply zj
  apply zc
  have hend : i = kG l := by omega
  subst hend
  have hE := And.intro hE (show zha p l = vg p l (kG l) from rfl)
  apply zb
  apply zn
  apply z5
  refine WS [4] [4] ?_
  apply z9
  exact E0
theorem z56 {p : Nat} : ∀ (l L : List EventM) (n : Nat), TakenL p (L ++ l) → xe p L l n = (L ++ l, n + l.length, 0)
 | [], L, n, _ => by rw [xe, List.append_nil, List.length_nil, Nat.add_zero]
 | c :: l, L, n, h => by
  have h' : TakenL p ((L ++ [c]) ++ l) := by rw [List.append_assoc]; exact h
  have h1 := z2p h' (L ++ [c]).length
  rw [List.take_left] at h1
  have h2 := (zba h1).2
  rw [xe, h2, if_neg (by simp), if_pos rfl, z56 l (L ++ [c]) (n + 1) h', List.append_assoc, List.length_cons]
  simp only [List.cons_append, List.nil_append]
  congr 2
  omega
theorem zmx {p : Nat} {l : List EventM} (h : TakenL p l) : xe p [] l 0 = (l, l.length, 0) := by
 have := z56 l [] 0 h
 rw [this, List.nil_append, Nat.zero_add]
theorem zmw {p : Nat} {L L' : List EventM} {c : EventM} (hT : TakenL p L) (hT' : TakenL p L') (hsub : ∀ x ∈ L, x ∈ L') (hr : qg L' c.By = qg L c.By) (h : zq p L c = (L ++ [c], true, 0)) : zq p L' c = (L' ++ [c], true, 0) := by
 obtain ⟨h1, h2, h3, h4, h5⟩ := Qw.1 h
 obtain ⟨h6, h7⟩ := z3a.1 h4
 have hfind : ∀ {n e}, zx L n = some e → zx L' n = some e := fun {n e} hf => by
  obtain ⟨a, b⟩ := z9x hf
  have := ze2 (ko hT') (hsub e a)
  rwa [b] at this
 refine Qw.2 ⟨h1, h2, ?_, ?_, ?_⟩
 ·rw [Zx]
  intro x hx hn
  have hb : x.By = c.By := by
   unfold evName at hn
   rw [NameM.mk.injEq] at hn
   exact hn.1
  have hm : x ∈ qg L' c.By := Zc.2 ⟨hx, hb⟩
  rw [hr] at hm
  exact Zx.1 h3 x (Zc.1 hm).1 hn
 ·rw [z3a]
  refine ⟨by rw [h6, qi, qi, hr], fun n hn => ?_⟩
  have := h7 n hn
  cases hf : zx L n with
  | none => rw [hf] at this; cases this
  | some e => rw [hfind hf]; rfl
 ·unfold wv at h5 ⊢
  rw [Bool.or_eq_false_iff] at h5 ⊢
  obtain ⟨h8, h9⟩ := h5
  constructor
  ·rw [List.any_eq_false] at h8 ⊢
   intro n hn
   have q := h8 n hn
   have := h7 n hn
   cases hf : zx L n with
   | none => rw [hf] at this; cases this
   | some e =>
    unfold wq at q ⊢
    rw [hf] at q
    rw [hfind hf]
    exact q
  ·by_cases hs : 0 < c.Seq
   ·rw [decide_eq_true hs, Bool.true_and] at h9 ⊢
    rw [qi] at h6
    have hf := Xh hT c.By (k := (qg L c.By).length - 1) (by omega)
    rw [show (((qg L c.By).length - 1 : Nat) : Int) = c.Seq - 1 by omega] at hf
    unfold wq at h9 ⊢
    rw [hf] at h9
    rw [hfind hf]
    exact h9
   ·rw [decide_eq_false hs, Bool.false_and]
theorem Q7 {X : List EventM} {a b : Int} (h : ∀ x ∈ X, x.By = a) (hab : a ≠ b) : qg X b = [] := by
 unfold qg
 rw [List.filter_eq_nil_iff]
 intro x hx
 have := h x hx
 simp only [decide_eq_true_eq]
 omega
theorem z5g {p : Nat} {P X Y : List EventM} {a b : Int} (hX : TakenL p (P ++ X)) (hY : TakenL p (P ++ Y)) (ha : ∀ x ∈ X, x.By = a) (hb : ∀ y ∈ Y, y.By = b) (hab : a ≠ b) : TakenL p (P ++ X ++ Y) := by
 have key : ∀ k, k ≤ Y.length → TakenL p (P ++ X ++ Y.take k) := by
  intro k
  induction k with
  | zero => intro _; rw [List.take_zero, List.append_nil]; exact hX
  | succ k ih =>
   intro hk
   have h1 := ih (by omega)
   have h2 := z2p hY (P.length + (k + 1))
   rw [List.take_length_add_append] at h2
   have hs := yn Y (i := k) (by omega)
   rw [hs] at h2 ⊢
   rw [← List.append_assoc] at h2 ⊢
   have h3 := zba h2
   have hyk := hb (Y.getD k default) (by rw [Z9 (by omega)]; exact List.getElem_mem _)
   refine .snoc h1 (zmw h3.1 h1 ?_ ?_ h3.2)
   ·intro x hx
    rcases List.mem_append.1 hx with h | h
    ·exact List.mem_append.2 (.inl (List.mem_append.2 (.inl h)))
    ·exact List.mem_append.2 (.inr h)
   ·rw [hyk, j2, j2, j2, Q7 ha hab, List.append_nil]
 have := key Y.length (Nat.le_refl _)
 rwa [List.take_length] at this
def zbk (L : List EventM) : Prop := L.Pairwise fun x y => x.Tick < y.Tick
theorem zed {p : Nat} {L : List EventM} (hT : TakenL p L) (h : zbk L) (c : EventM) : zbk (vx p L c) := by
 rcases Qf hT c with h1 | ⟨h1, _⟩
 ·rw [h1]; exact h
 ·rw [h1]
  unfold zbk
  rw [List.pairwise_append]
  refine ⟨h, by simp, fun x hx y hy => ?_⟩
  rw [List.mem_singleton.1 hy]
  have := zua hx
  rw [← zny hT] at this
  show x.Tick < clkN L p + 1
  omega
theorem z48 {p : Nat} {L : List EventM} (hT : TakenL p L) {c : EventM} (hc : c ∈ L) : c.Seq < (qx L c.By : Int) ∧ 0 ≤ c.Seq := by
 have hm : c ∈ qg L c.By := Zc.2 ⟨hc, rfl⟩
 obtain ⟨k, hk, he⟩ := List.getElem_of_mem hm
 have := (z1r hT c.By k hk).2
 rw [he] at this
 rw [qi]
 omega
theorem Qg {L : List EventM} {p i : Nat} (hi : i < p) : (qf L p).getD i default = ((qx L (i : Int) : Int), z00 (xd L (i : Int) (qx L (i : Int)))) := by
 unfold qf
 rw [List.getD_eq_getElem?_getD]
 simp [hi]
theorem z31 {L : List EventM} {p : Nat} (hl : L.length ≤ 64) : (qf L p).any z08 = false := by
 rw [List.any_eq_false]
 intro x hx
 obtain ⟨b, _, rfl⟩ := List.mem_map.1 hx
 have := Z6 L (b : Int)
 unfold z08
 simp
 omega
theorem z8r {p : Nat} {P X Y : List EventM} {a b : Int} (hX : TakenL p (P ++ X)) (hY : TakenL p (P ++ Y)) (ha : ∀ x ∈ X, x.By = a) (hb : ∀ y ∈ Y, y.By = b) (hab : a ≠ b) (hi : zbk (P ++ Y)) (hl : (P ++ X).length ≤ 64) : je p (P ++ Y) (qf (P ++ X) p) = (Y, 0) := by
 have hbad : (List.range p).any (z04 (P ++ Y) (qf (P ++ X) p)) = false := by
  rw [List.any_eq_false]
  intro i hir
  have hip := List.mem_range.1 hir
  unfold z04
  rw [Qg hip]
  by_cases hc : ((qx (P ++ X) (i : Int) : Int)) ≤ qx (P ++ Y) (i : Int)
  ·have h1 : xd (P ++ Y) (i : Int) (qx (P ++ X) (i : Int)) = xd (P ++ X) (i : Int) (qx (P ++ X) (i : Int)) := by
    rw [z47 hX, z6i hY _ (by rw [← qi]; omega), qi]
    rw [qi, qi] at hc
    rw [j2, j2] at hc ⊢
    by_cases hia : a = (i : Int)
    ·have hyn : qg Y (i : Int) = [] := Q7 hb (by omega)
     rw [hyn, List.append_nil] at hc ⊢
     rw [List.length_append] at hc
     have hxn : qg X (i : Int) = [] := List.length_eq_zero_iff.1 (by omega)
     rw [hxn, List.append_nil, List.take_length]
    ·have hxn : qg X (i : Int) = [] := Q7 ha hia
     rw [hxn, List.append_nil, List.take_left]
   rw [Int.toNat_natCast, h1]
   simp
  ·rw [decide_eq_false hc, Bool.false_and]
   simp
 unfold je
 rw [if_neg (by simp [wt]), if_neg (by rw [z31 hl]; simp), if_neg (by rw [hbad]; simp), z8c hY, zrj hi]
 unfold vn
 rw [List.filter_append]
 have h1 : P.filter (fun c => !wg (qf (P ++ X) p) c) = [] := by
  rw [List.filter_eq_nil_iff]
  intro c hc
  have hm : c ∈ P ++ X := List.mem_append.2 (.inl hc)
  obtain ⟨b1, b2⟩ := Qx hX c hm
  have := (z48 hX hm).1
  unfold wg
  rw [Qg (by omega), Int.toNat_of_nonneg b1]
  simp [this]
 have h2 : Y.filter (fun c => !wg (qf (P ++ X) p) c) = Y := by
  rw [List.filter_eq_self]
  intro c hc
  have hm : c ∈ P ++ Y := List.mem_append.2 (.inr hc)
  obtain ⟨b1, b2⟩ := Qx hY c hm
  have hcb := hb c hc
  have hge : (qx (P ++ X) c.By : Int) ≤ c.Seq := by
   rw [qi, j2, Q7 ha (by omega), List.append_nil]
   apply Int.not_lt.1
   intro hlt
   have hs0 := (z48 hY hm).2
   have hk : c.Seq.toNat < (qg P c.By).length := by omega
   have htp := z2p hY P.length
   rw [List.take_left] at htp
   have hq := z1r htp c.By c.Seq.toNat hk
   have hmem := (Zc.1 (List.getElem_mem hk)).1
   have hn := ko hY
   rw [List.pairwise_append] at hn
   refine hn.2.2 _ hmem c hc ?_
   unfold evName
   rw [hq.1, hq.2, Int.toNat_of_nonneg hs0]
  unfold wg
  rw [Qg (by omega), Int.toNat_of_nonneg b1]
  simp
  omega
 rw [h1, h2, List.nil_append]
theorem zbg {p : Nat} {L : List EventM} (hT : TakenL p L) (hl : L.length ≤ 64) : je p L (qf L p) = ([], 0) := by
 have hbad : (List.range p).any (z04 L (qf L p)) = false := by
  rw [List.any_eq_false]
  intro i hir
  have hip := List.mem_range.1 hir
  unfold z04
  rw [Qg hip, Int.toNat_natCast]
  simp
 unfold je
 rw [if_neg (by simp [wt]), if_neg (by rw [z31 hl]; simp), if_neg (by rw [hbad]; simp), z8c hT]
 unfold vn
 have h1 : (qv L).filter (fun c => !wg (qf L p) c) = [] := by
  rw [List.filter_eq_nil_iff]
  intro c hc
  have hm : c ∈ L := (j7 L).subset hc
  obtain ⟨b1, b2⟩ := Qx hT c hm
  have := (z48 hT hm).1
  unfold wg
  rw [Qg (by omega), Int.toNat_of_nonneg b1]
  simp [this]
 rw [h1]
theorem zev {p : Nat} {P X Y : List EventM} {a b : Int} (h1 : TakenL p (P ++ X ++ Y)) (h2 : TakenL p (P ++ Y ++ X)) (ha : ∀ x ∈ X, x.By = a) (hb : ∀ y ∈ Y, y.By = b) (hab : a ≠ b) : qf (P ++ X ++ Y) p = qf (P ++ Y ++ X) p := by
 rw [zjc h1, zjc h2]
 unfold zx0
 refine List.map_congr_left fun i _ => ?_
 have : qg (P ++ X ++ Y) (i : Int) = qg (P ++ Y ++ X) (i : Int) := by
  rw [j2, j2, j2, j2]
  by_cases hia : a = (i : Int)
  ·rw [Q7 hb (by omega)]; simp
  ·rw [Q7 ha hia]; simp
 rw [this]
theorem zhs {p : Nat} {P X Y : List EventM} (h1 : TakenL p (P ++ X ++ Y)) : qv (P ++ Y ++ X) = qv (P ++ X ++ Y) :=
 z5p (by rw [List.append_assoc, List.append_assoc]; exact List.Perm.append_left _ List.perm_append_comm) (ko h1)
def mgN (b : Int) (P : List EventM) (m : List Int) : Nat → List EventM
 | 0 => P
 | i + 1 => vx 3 (mgN b P m i) (v8 3 (mgN b P m i) b (m.getD (2 * i) default) (m.getD (2 * i + 1) default))
theorem z7g (b : Int) (P : List EventM) (m : List Int) : mgN b P m 0 = P := rfl
def kMg (l : List Int) : Nat := min 4 (l.length / 2)
theorem z4k {l : List Int} {i : Nat} : i < kMg l ↔ 2 * i + 1 < l.length ∧ i < 4 := by
 unfold kMg
 omega
theorem zp9 (l : List Int) : kMg l ≤ 4 := by unfold kMg; omega
theorem zhu {b : Int} (hb : I64 b) {P : List EventM} (hP : GrL 3 P) (hi : zbk P) (hl : P.length ≤ 10) (m : List Int) : ∀ i, i ≤ 4 → GrL 3 (mgN b P m i) ∧ zbk (mgN b P m i) ∧ ∃ X, mgN b P m i = P ++ X ∧ X.length ≤ i ∧ ∀ x ∈ X, x.By = b
 | 0, _ => ⟨hP, hi, [], by rw [z7g, List.append_nil], Nat.le_refl _, fun x hx => by cases hx⟩
 | i + 1, h => by
  obtain ⟨h1, h2, X, h3, h4, h5⟩ := zhu hb hP hi hl m i (by omega)
  have hlen : (mgN b P m i).length ≤ 100000 := by rw [h3, List.length_append]; omega
  have hc := Qd (p := 3) (L := mgN b P m i) (b := b) (n := m.getD (2 * i) default) (m := m.getD (2 * i + 1) default) (by omega) h1.ok hb
  rw [mgN]
  refine ⟨h1.grow hlen (zvn hc), zed h1.taken h2 _, ?_⟩
  rcases Qf h1.taken (v8 3 (mgN b P m i) b (m.getD (2 * i) default) (m.getD (2 * i + 1) default)) with h6 | ⟨h6, _⟩
  ·rw [h6]; exact ⟨X, h3, by omega, h5⟩
  ·rw [h6, h3]
   refine ⟨X ++ [wb (P ++ X) 3 (v8 3 (P ++ X) b (m.getD (2 * i) default) (m.getD (2 * i + 1) default))], by rw [List.append_assoc], by simp; omega, fun x hx => ?_⟩
   rcases List.mem_append.1 hx with hx | hx
   ·exact h5 x hx
   ·rw [List.mem_singleton.1 hx]; rfl
theorem z6w {p : Nat} (hp : 0 < p) (hp2 : p ≤ 1000) (l : List Int) : ∀ i, i ≤ 10 → zbk (vg p l i)
 | 0, _ => .nil
 | i + 1, h => zed (z1i hp hp2 l i (by omega)).1.taken (z6w hp hp2 l i (by omega)) _
theorem ze1 (G) (n : Nat) (h1 : 1 ≤ n) (h6 : n ≤ 6) (l : List EventM) (hl : ∀ e ∈ l, OkEv e) (hn : l.length ≤ 100000) (hT : TakenL n l) : GivesX Tryz.prog G 12 [.dat (iD n), .dat (zr l)] [] [.ptr 14 2 0 0] [(14, ⟨2, [.agg [.osl 11 1 0 n, .mp 12]]⟩), (11, ⟨1, ((qz n l).map iD).map .dat⟩), (12, ⟨0, [.tup [], .dat (.sl (z0l l)), .dat (.sl (l.map zf))]⟩)] := by
 have ht := zmx hT
 have := zh7 G n h1 h6 l hl hn (by rw [ht])
 rwa [ht] at this
theorem zv1 (G) (p : Nat) (hp : p ≤ 1000) (L l : List EventM) (hL : ∀ e ∈ L, OkEv e) (hl : ∀ e ∈ l, OkEv e) (hn : L.length + l.length ≤ 100000) (hT : TakenL p (L ++ l)) : GivesX Tryz.prog G 15 [.ptr 1000 2 0 0, .dat (zr l)] (arO p L) [.dat (iD l.length), .dat (iD 0)] (arO p (L ++ l)) := by
 have := Xa G p hp L l hL hl hn
 rw [z56 l L 0 hT, Nat.zero_add] at this
 exact this
theorem zcy (G) (g1 : G.lookup 1 = some (wsD kH)) (p : Nat) (hp : p ≤ 1000) (L : List EventM) (hT : TakenL p L) (hL : ∀ e ∈ L, jf e) (h20 : L.length < 20) (h : List (Int × List Int)) (hh : ∀ x ∈ h, x.2.length = 16) (hhl : h.length ≤ 1000) (w : List EventM) (hw : je p L h = (w, 0)) : GivesX Tryz.prog G 13 [.ptr 1000 2 0 0, .dat (wz h)] (arO p L) [.dat (zr w), .dat (iD 0)] (arO p L) := by
 have := zg4 G g1 p hp L hL (by omega) (by rw [z9w hT]; exact h20) (fun e he => Qx hT e ((z2b hT).subset he)) h hh hhl
 rwa [hw] at this
theorem zk6 (G) (L l C : List EventM) (hL : ∀ e ∈ L, OkEv e) (hl : ∀ e ∈ l, OkEv e) (hT : TakenL 3 C) (hC : C = L ++ l) (hn : C.length ≤ 12) : GivesX Tryz.prog G 15 [.ptr 1000 2 0 0, .dat (zr l)] (arO 3 L) [.dat (iD l.length), .dat (iD 0)] (arO 3 C) := by
 subst hC
 rw [List.length_append] at hn
 exact zv1 G 3 (by omega) L l hL hl (by omega) hT
theorem zom (G) (C D : List EventM) (hD : GrL 3 D) (h20 : D.length < 20) (hs : qv D = qv C) : GivesX Tryz.prog G 17 [.ptr 1000 2 0 0] (arO 3 D) [.dat (zr (qv C))] (arO 3 D) := by
 rw [← hs]
 exact z2z G 3 (by omega) D hD.taken hD.big h20
theorem zpj (G) (g1 : G.lookup 1 = some (wsD kH)) (C D : List EventM) (hD : GrL 3 D) (h20 : D.length < 20) (hh : qf C 3 = qf D 3) : GivesX Tryz.prog G 20 [.ptr 1000 2 0 0] (arO 3 D) [.dat (wz (qf C 3))] (arO 3 D) := by
 rw [hh]
 exact z2g G g1 3 (by omega) D hD.big (by omega)
theorem zeu {P A B X Y : List EventM} (hA : GrL 3 A) (hB : GrL 3 B) (iA : zbk A) (iB : zbk B) (eA : A = P ++ X) (eB : B = P ++ Y) (lP : P.length ≤ 4) (lX : X.length ≤ 4) (lY : Y.length ≤ 4) (bX : ∀ x ∈ X, x.By = 0) (bY : ∀ y ∈ Y, y.By = 1) :
  ∃ C D, C = A ++ Y ∧ D = B ++ X ∧ GrL 3 C ∧ GrL 3 D ∧ C.length ≤ 12 ∧ D.length ≤ 12 ∧ je 3 B (qf A 3) = (Y, 0) ∧ je 3 A (qf B 3) = (X, 0) ∧ je 3 D (qf C 3) = ([], 0) ∧ je 3 C (qf D 3) = ([], 0) ∧ qf C 3 = qf D 3 ∧ qv D = qv C ∧ A.length = P.length + X.length ∧ B.length = P.length + Y.length ∧ B.drop P.length = Y ∧ (∀ e ∈ X, OkEv e) ∧ ∀ e ∈ Y, OkEv e := by
 subst eA
 subst eB
 have h1 := z5g hA.taken hB.taken bX bY (by omega)
 have h2 := z5g hB.taken hA.taken bY bX (by omega)
 have hh := zev h1 h2 bX bY (by omega)
 have l1 : (P ++ X ++ Y).length ≤ 12 := by simp only [List.length_append]; omega
 have l2 : (P ++ Y ++ X).length ≤ 12 := by simp only [List.length_append]; omega
 have w1 := zbg h1 (by omega)
 have w2 := zbg h2 (by omega)
 refine ⟨P ++ X ++ Y, P ++ Y ++ X, rfl, rfl, ⟨h1, fun e he => ?_⟩, ⟨h2, fun e he => ?_⟩, l1, l2, z8r hA.taken hB.taken bX bY (by omega) iB (by simp only [List.length_append]; omega), z8r hB.taken hA.taken bY bX (by omega) iA (by simp only [List.length_append]; omega), ?_, ?_, hh, zhs h1, List.length_append, List.length_append, List.drop_left, fun e he => hA.ok e (List.mem_append.2 (.inr he)), fun e he => hB.ok e (List.mem_append.2 (.inr he))⟩
 ·rcases List.mem_append.1 he with h | h
  ·exact hA.sm e h
  ·exact hB.sm e (List.mem_append.2 (.inr h))
 ·rcases List.mem_append.1 he with h | h
  ·exact hB.sm e h
  ·exact hA.sm e (List.mem_append.2 (.inr h))
 ·rw [hh]; exact w2
 ·rw [← hh]; exact w1
set_option maxRecDepth 100000 in
set_option maxHeartbeats 8000000 in
theorem zht (G) (g1 : G.lookup 1 = some (wsD kH)) (l m n : List Int) (hl : ∀ x ∈ l, I64 x) (hm : ∀ x ∈ m, I64 x) (hn : ∀ x ∈ n, I64 x) : zl Tryz.prog G 3 [isD l, isD m, isD n] [bD true] := by
 have hlt : ∀ x ∈ l.take (min l.length 12), I64 x := fun x hx => hl x (List.mem_of_mem_take hx)
 have hkl : kG (l.take (min l.length 12)) ≤ 4 := by unfold kG; rw [List.length_take]; omega
 have hgo := zoq G 3 (by omega) (by omega) (l.take (min l.length 12)) hlt
 have hgr := z1i (p := 3) (by omega) (by omega) (l.take (min l.length 12)) (kG (l.take (min l.length 12))) (by omega)
 have hgi := z6w (p := 3) (by omega) (by omega) (l.take (min l.length 12)) (kG (l.take (min l.length 12))) (by omega)
 obtain ⟨hg1, hg2⟩ := hgr
 have hP4 : (vg 3 (l.take (min l.length 12)) (kG (l.take (min l.length 12)))).length ≤ 4 := by omega
 unfold zha at hgo
 generalize vg 3 (l.take (min l.length 12)) (kG (l.take (min l.length 12))) = P at *
 have hmok := zhu (b := 0) z93 hg1 hgi (by omega) m
 have hnok := zhu (b := 1) (by unfold I64; omega) hg1 hgi (by omega) n
 have hkm := zp9 m
 have hkn := zp9 n
 skip
 skip
 skip
 refine GI [181, 184, 191] [109, 112, 122, 123, 129, 130, 136, 142, 195, 196, 202, 203] [] Tryz.func3 Tryz.ntmps3 fun F hP hG hN hR hA => ?_
 have hE := And.intro @Tryz.results3 (And.intro @z7t (And.intro @Xt (And.intro @jl (@Zm))))
 refine WS [0, 1, 2] [20, 21, 22, 24, 25, 26] ?_
 apply zm [1, 2, 7] [7, 20, 21, 22, 24, 25, 26]
 ·refine RN ?_
  refine CU (zme G l 12 (by omega)) ?_
  refine CU (hgo) ?_
  exact SC
 refine WS [1, 2, 7, 8] [7, 8, 20, 21, 22, 24, 25, 26] ?_
 refine WS [1, 2, 7, 8, 9] [7, 8, 9, 20, 21, 22, 24, 25, 26] ?_
 apply z3
 refine WS [1, 2, 7, 8, 9, 10] [7, 8, 9, 20, 21, 22, 24, 25, 26] ?_
 apply z7
 have hE := And.intro hE (z7g 0 P m)
 refine WL (ι := {i : Nat // i ≤ kMg m}) [1, 2, 7, 8, 9] [7, 9, 20, 21, 22, 24, 25, 26] (fun ⟨i, hi⟩ => [(10, .dat (iD i))]) (fun ⟨i, hi⟩ => [(8, ⟨2, [.dat (va 3 (mgN 0 P m i))]⟩)]) (fun ⟨i, hi⟩ => kMg m - i) (⟨0, by omega⟩) ?_
 rintro ⟨i, hi⟩
 refine LA ?_
 obtain ⟨hg3, hg4, X0, hX1, hX2, hX3⟩ := hmok i (by omega)
 have hM8 : (mgN 0 P m i).length ≤ 8 := by rw [hX1, List.length_append]; omega
 have hsu : mgN 0 P m (i + 1) = vx 3 (mgN 0 P m i) (v8 3 (mgN 0 P m i) 0 (m.getD (2 * i) default) (m.getD (2 * i + 1) default)) := rfl
 apply z3
 refine v7 (.of [(1, .dat (isD m)), (2, .dat (isD n)), (7, .ptr 7 2 0 0), (8, .ptr 8 2 0 0), (9, .ptr 9 2 0 0), (10, .dat (iD i)), (48, .dat (bD (decide ((i : Int) < kMg m))))] [(7, ⟨2, [.dat (va 3 P)]⟩), (8, ⟨2, [.dat (va 3 (mgN 0 P m i))]⟩), (9, ⟨2, [.dat (va 3 P)]⟩)]) ?_ ?_
 ·by_cases hq : 2 * (i : Int) + 1 < m.length
  ·have hd0 : decide (2 * (i : Int) + 1 < m.length) = true := decide_eq_true hq
   have hbb : decide ((i : Int) < kMg m) = decide ((i : Int) < 4) := by
    have := z4k (l := m) (i := i)
    by_cases h10 : (i : Int) < 4
    ·rw [decide_eq_true h10, decide_eq_true (by omega)]
    ·rw [decide_eq_false h10, decide_eq_false (by omega)]
   have hE := And.intro hE (And.intro hd0 hbb)
   refine Zk [1, 2, 7, 8, 9, 10, 48] [7, 8, 9, 20, 21, 22, 24, 25, 26] [(0, 39, _), (1, 40, _), (2, 41, _), (3, 42, _), (4, 43, _), (5, 44, .dat (bD true)), (6, 45, .dat (bD true)), (7, 46, _), (8, 47, .dat (bD (decide ((i : Int) < 4)))), (9, 48, .dat (bD (decide ((i : Int) < 4))))] [] ⟨FV 0 [] [1, 2, 5, 6, 7, 8, 9], FV 1 [0] [2, 5, 6, 7, 8, 9], FV 2 [0, 1] [5, 6, 7, 8, 9], FV 3 [] [4, 5, 6, 7, 8, 9], FV 4 [3] [5, 6, 7, 8, 9], FV 5 [0, 1, 2, 3, 4] [6, 7, 8, 9], FV 6 [0, 1, 2, 3, 4, 5] [7, 8, 9], FG 7 [0, 1, 2, 3, 4, 5, 6] [8, 9], FG 8 [0, 1, 2, 3, 4, 5, 6, 7] [9], FV 9 [0, 1, 2, 3, 4, 5, 6, 7, 8] [], trivial⟩ ?_
   exact ML
  ·have hd0 : decide (2 * (i : Int) + 1 < m.length) = false := decide_eq_false hq
   have hbb : decide ((i : Int) < kMg m) = false := by
    have := z4k (l := m) (i := i)
    rw [decide_eq_false (by omega)]
   have hE := And.intro hE (And.intro hd0 hbb)
   refine Zk [1, 2, 7, 8, 9, 10, 48] [7, 8, 9, 20, 21, 22, 24, 25, 26] [(0, 39, _), (1, 40, _), (2, 41, _), (3, 42, _), (4, 43, _), (5, 44, .dat (bD false)), (6, 45, .dat (bD false)), (7, 46, .cond false .junk), (8, 47, .cond false (.dat (bD false))), (9, 48, .dat (bD false))] [] ⟨FV 0 [] [1, 2, 5, 6, 7, 8, 9], FV 1 [0] [2, 5, 6, 7, 8, 9], FV 2 [0, 1] [5, 6, 7, 8, 9], FV 3 [] [4, 5, 6, 7, 8, 9], FV 4 [3] [5, 6, 7, 8, 9], FV 5 [0, 1, 2, 3, 4] [6, 7, 8, 9], FV 6 [0, 1, 2, 3, 4, 5] [7, 8, 9], FO 7 [0, 1, 2, 3, 4, 5, 6] [8, 9], FO 8 [0, 1, 2, 3, 4, 5, 6, 7] [9], FV 9 [0, 1, 2, 3, 4, 5, 6, 7, 8] [], trivial⟩ ?_
   exact ML
 refine WI ?_ ?_ <;> intro hb
 ·have hk := z4k.1 (show i < kMg m by omega)
  have n1 := zt hm (i := 2 * i) (by omega)
  have n2 := zt hm (i := 2 * i + 1) (by omega)
  have hsm := Qd (p := 3) (n := m.getD (2 * i) default) (m := m.getD (2 * i + 1) default) (by omega) hg3.ok z93
  have hco := z28 G 3 (by omega) (mgN 0 P m i) hg3.ok (by omega) 0 (m.getD (2 * i) default) (m.getD (2 * i + 1) default) n1 n2
  generalize v8 3 (mgN 0 P m i) 0 (m.getD (2 * i) default) (m.getD (2 * i + 1) default) = c at *
  clear hX1
  generalize mgN 0 P m i = M at *
  have hmk := z81 G 3 (by omega) M hg3.taken hg3.ok (by omega) c (zb6 (k := 0) hsm (by omega))
  have e1 : 2 * (i : Int) = ((2 * i : Nat) : Int) := by omega
  have e2 : ((2 * i : Nat) : Int) + 1 = ((2 * i + 1 : Nat) : Int) := by omega
  have hE := And.intro hE (And.intro e1 e2)
  apply z6
  apply z5
  apply z3
  apply z7
  refine WDF [1, 2, 7, 8, 9, 10, 11, 13] [7, 8, 9, 11, 20, 21, 22, 24, 25, 26] [(0, 52, .dat (va 3 M)), (1, 53, .dat (va 3 M)), (2, 54, _), (3, 55, _), (4, 56, .dat (iD ((2 * i : Nat) : Int))), (5, 57, _), (6, 58, .dat (iD (m.getD (2 * i) default))), (7, 59, _), (8, 60, _), (9, 61, .dat (iD ((2 * i : Nat) : Int))), (10, 62, .dat (iD ((2 * i + 1 : Nat) : Int))), (11, 63, _), (12, 64, .dat (iD (m.getD (2 * i + 1) default))), (13, 65, .dat (zf c)), (14, 66, .tup [.dat (va 3 (xi 3 M c).1), .dat (zf (xi 3 M c).2.1), .dat (iD (xi 3 M c).2.2)]), (15, 51, _), (16, 67, _), (17, 68, _), (18, 69, _), (19, 11, .ptr 11 2 0 0), (20, 12, .ptr 12 32 0 0), (23, 13, _)] [(22, 12, some ⟨32, [.dat (zf (xi 3 M c).2.1)]⟩), (21, 11, some ⟨2, [.dat (va 3 (xi 3 M c).1)]⟩), (20, 12, some ⟨32, [zg6]⟩), (19, 11, some ⟨2, [.agg [.dat (iD 0), .nils]]⟩)] ⟨FV 0 [] [14, 15, 16, 17, 18, 21, 22, 23], FV 1 [] [13, 14, 15, 16, 17, 18, 21, 22, 23], FV 2 [] [5, 6, 13, 14, 15, 16, 17, 18, 21, 22, 23], FV 3 [] [4, 5, 6, 13, 14, 15, 16, 17, 18, 21, 22, 23], FV 4 [3] [5, 6, 13, 14, 15, 16, 17, 18, 21, 22, 23], FV 5 [2, 3, 4] [6, 13, 14, 15, 16, 17, 18, 21, 22, 23], FV 6 [2, 3, 4, 5] [13, 14, 15, 16, 17, 18, 21, 22, 23], FV 7 [] [11, 12, 13, 14, 15, 16, 17, 18, 21, 22, 23], FV 8 [] [9, 10, 11, 12, 13, 14, 15, 16, 17, 18, 21, 22, 23], FV 9 [8] [10, 11, 12, 13, 14, 15, 16, 17, 18, 21, 22, 23], FV 10 [8, 9] [11, 12, 13, 14, 15, 16, 17, 18, 21, 22, 23], FV 11 [7, 8, 9, 10] [12, 13, 14, 15, 16, 17, 18, 21, 22, 23], FV 12 [7, 8, 9, 10, 11] [13, 14, 15, 16, 17, 18, 21, 22, 23], (by have hc := gvF hP hG (hco); exact FVc 13 [1, 2, 3, 4, 5, 6, 7, 8, 9, 10, 11, 12] [14, 15, 16, 17, 18, 21, 22, 23]), (by have hc := gvF hP hG (hmk); exact FVc 14 [0, 1, 2, 3, 4, 5, 6, 7, 8, 9, 10, 11, 12, 13] [15, 16, 17, 18, 21, 22, 23]), FV 15 [0, 1, 2, 3, 4, 5, 6, 7, 8, 9, 10, 11, 12, 13, 14] [16, 17, 18, 21, 22, 23], FV 16 [0, 1, 2, 3, 4, 5, 6, 7, 8, 9, 10, 11, 12, 13, 14, 15] [21, 22, 23], FV 17 [0, 1, 2, 3, 4, 5, 6, 7, 8, 9, 10, 11, 12, 13, 14, 15] [22, 23], FV 18 [0, 1, 2, 3, 4, 5, 6, 7, 8, 9, 10, 11, 12, 13, 14, 15] [23], FNd 19 3 [] [21, 22, 23], FNd 20 2 [] [21, 22, 23], FS 1 [0, 1, 2, 3, 4, 5, 6, 7, 8, 9, 10, 11, 12, 13, 14, 15, 16, 19, 20] [22, 23], FS 0 [0, 1, 2, 3, 4, 5, 6, 7, 8, 9, 10, 11, 12, 13, 14, 15, 16, 17, 19, 20, 21] [23], FV 21 [0, 1, 2, 3, 4, 5, 6, 7, 8, 9, 10, 11, 12, 13, 14, 15, 16, 17, 18, 19, 20, 21, 22] [], trivial⟩ ?_
  refine WS [1, 2, 7, 8, 9, 10, 11, 71] [7, 8, 9, 11, 20, 21, 22, 24, 25, 26] ?_
  refine WI ?_ ?_ <;> intro hb
  ·have hv : vx 3 M c = (xi 3 M c).1 := by unfold vx; rw [if_pos hb]
   have hE := And.intro hE (And.intro hsu hv)
   refine WQ [1, 2, 7, 8, 9, 10] [7, 8, 9, 20, 21, 22, 24, 25, 26] ?_
   apply zh
   apply z5
   refine WQ [1, 2, 7, 8, 9, 10] [7, 8, 9, 20, 21, 22, 24, 25, 26] ?_
   refine WN (⟨i + 1, by omega⟩)
  ·have hv : vx 3 M c = M := by unfold vx; rw [if_neg hb]
   have hE := And.intro hE (And.intro hsu hv)
   apply z6
   apply zh
   apply z5
   refine WQ [1, 2, 7, 8, 9, 10] [7, 8, 9, 20, 21, 22, 24, 25, 26] ?_
   refine WN (⟨i + 1, by omega⟩)
 ·apply zj
  apply zc
  have hend : i = kMg m := by omega
  subst hend
  obtain ⟨ha1, ha2, X, ha3, ha4, ha5⟩ := hmok (kMg m) hkm
  generalize mgN 0 P m (kMg m) = A at *
  apply zb
  apply zn
  apply z5
  apply z3
  refine WS [2, 7, 8, 9, 14] [7, 8, 9, 20, 21, 22, 24, 25, 26] ?_
  apply z7
  have hE := And.intro hE (z7g 1 P n)
  refine WL (ι := {i : Nat // i ≤ kMg n}) [2, 7, 8, 9] [7, 8, 20, 21, 22, 24, 25, 26] (fun ⟨i, hi⟩ => [(14, .dat (iD i))]) (fun ⟨i, hi⟩ => [(9, ⟨2, [.dat (va 3 (mgN 1 P n i))]⟩)]) (fun ⟨i, hi⟩ => kMg n - i) (⟨0, by omega⟩) ?_
  rintro ⟨i, hi⟩
  refine LA ?_
  obtain ⟨hg3, hg4, X0, hX1, hX2, hX3⟩ := hnok i (by omega)
  have hM8 : (mgN 1 P n i).length ≤ 8 := by rw [hX1, List.length_append]; omega
  have hsu : mgN 1 P n (i + 1) = vx 3 (mgN 1 P n i) (v8 3 (mgN 1 P n i) 1 (n.getD (2 * i) default) (n.getD (2 * i + 1) default)) := rfl
  apply z3
  refine v7 (.of [(2, .dat (isD n)), (7, .ptr 7 2 0 0), (8, .ptr 8 2 0 0), (9, .ptr 9 2 0 0), (14, .dat (iD i)), (82, .dat (bD (decide ((i : Int) < kMg n))))] [(7, ⟨2, [.dat (va 3 P)]⟩), (8, ⟨2, [.dat (va 3 A)]⟩), (9, ⟨2, [.dat (va 3 (mgN 1 P n i))]⟩)]) ?_ ?_
  ·by_cases hq : 2 * (i : Int) + 1 < n.length
   ·have hd0 : decide (2 * (i : Int) + 1 < n.length) = true := decide_eq_true hq
    have hbb : decide ((i : Int) < kMg n) = decide ((i : Int) < 4) := by
     have := z4k (l := n) (i := i)
     by_cases h10 : (i : Int) < 4
     ·rw [decide_eq_true h10, decide_eq_true (by omega)]
     ·rw [decide_eq_false h10, decide_eq_false (by omega)]
    have hE := And.intro hE (And.intro hd0 hbb)
    refine Zk [2, 7, 8, 9, 14, 82] [7, 8, 9, 20, 21, 22, 24, 25, 26] [(0, 73, _), (1, 74, _), (2, 75, _), (3, 76, _), (4, 77, _), (5, 78, .dat (bD true)), (6, 79, .dat (bD true)), (7, 80, _), (8, 81, .dat (bD (decide ((i : Int) < 4)))), (9, 82, .dat (bD (decide ((i : Int) < 4))))] [] ⟨FV 0 [] [1, 2, 5, 6, 7, 8, 9], FV 1 [0] [2, 5, 6, 7, 8, 9], FV 2 [0, 1] [5, 6, 7, 8, 9], FV 3 [] [4, 5, 6, 7, 8, 9], FV 4 [3] [5, 6, 7, 8, 9], FV 5 [0, 1, 2, 3, 4] [6, 7, 8, 9], FV 6 [0, 1, 2, 3, 4, 5] [7, 8, 9], FG 7 [0, 1, 2, 3, 4, 5, 6] [8, 9], FG 8 [0, 1, 2, 3, 4, 5, 6, 7] [9], FV 9 [0, 1, 2, 3, 4, 5, 6, 7, 8] [], trivial⟩ ?_
    exact ML
   ·have hd0 : decide (2 * (i : Int) + 1 < n.length) = false := decide_eq_false hq
    have hbb : decide ((i : Int) < kMg n) = false := by
     have := z4k (l := n) (i := i)
     rw [decide_eq_false (by omega)]
    have hE := And.intro hE (And.intro hd0 hbb)
    refine Zk [2, 7, 8, 9, 14, 82] [7, 8, 9, 20, 21, 22, 24, 25, 26] [(0, 73, _), (1, 74, _), (2, 75, _), (3, 76, _), (4, 77, _), (5, 78, .dat (bD false)), (6, 79, .dat (bD false)), (7, 80, .cond false .junk), (8, 81, .cond false (.dat (bD false))), (9, 82, .dat (bD false))] [] ⟨FV 0 [] [1, 2, 5, 6, 7, 8, 9], FV 1 [0] [2, 5, 6, 7, 8, 9], FV 2 [0, 1] [5, 6, 7, 8, 9], FV 3 [] [4, 5, 6, 7, 8, 9], FV 4 [3] [5, 6, 7, 8, 9], FV 5 [0, 1, 2, 3, 4] [6, 7, 8, 9], FV 6 [0, 1, 2, 3, 4, 5] [7, 8, 9], FO 7 [0, 1, 2, 3, 4, 5, 6] [8, 9], FO 8 [0, 1, 2, 3, 4, 5, 6, 7] [9], FV 9 [0, 1, 2, 3, 4, 5, 6, 7, 8] [], trivial⟩ ?_
    exact ML
  refine WI ?_ ?_ <;> intro hb
  ·have hk := z4k.1 (show i < kMg n by omega)
   have n1 := zt hn (i := 2 * i) (by omega)
   have n2 := zt hn (i := 2 * i + 1) (by omega)
   have hsm := Qd (p := 3) (b := 1) (n := n.getD (2 * i) default) (m := n.getD (2 * i + 1) default) (by omega) hg3.ok (by unfold I64; omega)
   have hco := z28 G 3 (by omega) (mgN 1 P n i) hg3.ok (by omega) 1 (n.getD (2 * i) default) (n.getD (2 * i + 1) default) n1 n2
   generalize v8 3 (mgN 1 P n i) 1 (n.getD (2 * i) default) (n.getD (2 * i + 1) default) = c at *
   clear hX1
   generalize mgN 1 P n i = M at *
   have hmk := z81 G 3 (by omega) M hg3.taken hg3.ok (by omega) c (zb6 (k := 0) hsm (by omega))
   have e1 : 2 * (i : Int) = ((2 * i : Nat) : Int) := by omega
   have e2 : ((2 * i : Nat) : Int) + 1 = ((2 * i + 1 : Nat) : Int) := by omega
   have hE := And.intro hE (And.intro e1 e2)
   apply z6
   apply z5
   apply z3
   apply z7
   refine WDF [2, 7, 8, 9, 14, 15, 17] [7, 8, 9, 15, 20, 21, 22, 24, 25, 26] [(0, 86, .dat (va 3 M)), (1, 87, .dat (va 3 M)), (2, 88, _), (3, 89, _), (4, 90, .dat (iD ((2 * i : Nat) : Int))), (5, 91, _), (6, 92, .dat (iD (n.getD (2 * i) default))), (7, 93, _), (8, 94, _), (9, 95, .dat (iD ((2 * i : Nat) : Int))), (10, 96, .dat (iD ((2 * i + 1 : Nat) : Int))), (11, 97, _), (12, 98, .dat (iD (n.getD (2 * i + 1) default))), (13, 99, .dat (zf c)), (14, 100, .tup [.dat (va 3 (xi 3 M c).1), .dat (zf (xi 3 M c).2.1), .dat (iD (xi 3 M c).2.2)]), (15, 85, _), (16, 101, _), (17, 102, _), (18, 103, _), (19, 15, .ptr 15 2 0 0), (20, 16, .ptr 16 32 0 0), (23, 17, _)] [(22, 16, some ⟨32, [.dat (zf (xi 3 M c).2.1)]⟩), (21, 15, some ⟨2, [.dat (va 3 (xi 3 M c).1)]⟩), (20, 16, some ⟨32, [zg6]⟩), (19, 15, some ⟨2, [.agg [.dat (iD 0), .nils]]⟩)] ⟨FV 0 [] [14, 15, 16, 17, 18, 21, 22, 23], FV 1 [] [13, 14, 15, 16, 17, 18, 21, 22, 23], FV 2 [] [5, 6, 13, 14, 15, 16, 17, 18, 21, 22, 23], FV 3 [] [4, 5, 6, 13, 14, 15, 16, 17, 18, 21, 22, 23], FV 4 [3] [5, 6, 13, 14, 15, 16, 17, 18, 21, 22, 23], FV 5 [2, 3, 4] [6, 13, 14, 15, 16, 17, 18, 21, 22, 23], FV 6 [2, 3, 4, 5] [13, 14, 15, 16, 17, 18, 21, 22, 23], FV 7 [] [11, 12, 13, 14, 15, 16, 17, 18, 21, 22, 23], FV 8 [] [9, 10, 11, 12, 13, 14, 15, 16, 17, 18, 21, 22, 23], FV 9 [8] [10, 11, 12, 13, 14, 15, 16, 17, 18, 21, 22, 23], FV 10 [8, 9] [11, 12, 13, 14, 15, 16, 17, 18, 21, 22, 23], FV 11 [7, 8, 9, 10] [12, 13, 14, 15, 16, 17, 18, 21, 22, 23], FV 12 [7, 8, 9, 10, 11] [13, 14, 15, 16, 17, 18, 21, 22, 23], (by have hc := gvF hP hG (hco); exact FVc 13 [1, 2, 3, 4, 5, 6, 7, 8, 9, 10, 11, 12] [14, 15, 16, 17, 18, 21, 22, 23]), (by have hc := gvF hP hG (hmk); exact FVc 14 [0, 1, 2, 3, 4, 5, 6, 7, 8, 9, 10, 11, 12, 13] [15, 16, 17, 18, 21, 22, 23]), FV 15 [0, 1, 2, 3, 4, 5, 6, 7, 8, 9, 10, 11, 12, 13, 14] [16, 17, 18, 21, 22, 23], FV 16 [0, 1, 2, 3, 4, 5, 6, 7, 8, 9, 10, 11, 12, 13, 14, 15] [21, 22, 23], FV 17 [0, 1, 2, 3, 4, 5, 6, 7, 8, 9, 10, 11, 12, 13, 14, 15] [22, 23], FV 18 [0, 1, 2, 3, 4, 5, 6, 7, 8, 9, 10, 11, 12, 13, 14, 15] [23], FNd 19 3 [] [21, 22, 23], FNd 20 2 [] [21, 22, 23], FS 1 [0, 1, 2, 3, 4, 5, 6, 7, 8, 9, 10, 11, 12, 13, 14, 15, 16, 19, 20] [22, 23], FS 0 [0, 1, 2, 3, 4, 5, 6, 7, 8, 9, 10, 11, 12, 13, 14, 15, 16, 17, 19, 20, 21] [23], FV 21 [0, 1, 2, 3, 4, 5, 6, 7, 8, 9, 10, 11, 12, 13, 14, 15, 16, 17, 18, 19, 20, 21, 22] [], trivial⟩ ?_
   refine WS [2, 7, 8, 9, 14, 15, 105] [7, 8, 9, 15, 20, 21, 22, 24, 25, 26] ?_
   refine WI ?_ ?_ <;> intro hb
   ·have hv : vx 3 M c = (xi 3 M c).1 := by unfold vx; rw [if_pos hb]
    have hE := And.intro hE (And.intro hsu hv)
    refine WQ [2, 7, 8, 9, 14] [7, 8, 9, 20, 21, 22, 24, 25, 26] ?_
    apply zh
    apply z5
    refine WQ [2, 7, 8, 9, 14] [7, 8, 9, 20, 21, 22, 24, 25, 26] ?_
    refine WN (⟨i + 1, by omega⟩)
   ·have hv : vx 3 M c = M := by unfold vx; rw [if_neg hb]
    have hE := And.intro hE (And.intro hsu hv)
    apply z6
    apply zh
    apply z5
    refine WQ [2, 7, 8, 9, 14] [7, 8, 9, 20, 21, 22, 24, 25, 26] ?_
    refine WN (⟨i + 1, by omega⟩)
  ·apply zj
   apply zc
   have hend : i = kMg n := by omega
   subst hend
   obtain ⟨hb1, hb2, Y, hb3, hb4, hb5⟩ := hnok (kMg n) hkn
   generalize mgN 1 P n (kMg n) = B at *
   have hmf := zeu ha1 hb1 ha2 hb2 ha3 hb3 hP4 (by omega) (by omega) ha5 hb5
   obtain ⟨C, W, hC, hD, hc1, hd1, hc2, hd2, w1, w2, w3, w4, hhh, hss, hlA, hlB, hdr, hoX, hoY⟩ := hmf
   clear ha3 hb3 hmok hnok
   apply zb
   apply zn
   apply z5
   refine vp 7 hR.2.2.2 rfl rfl ?_
   refine vp 8 hR.2.2.2 rfl rfl ?_
   refine vp 9 hR.2.2.2 rfl rfl ?_
   simp (disch := omega) only [avA, zk, zo, seval, hE]
   apply zm [7, 8, 9, 18] [7, 8, 9, 20, 21, 22, 24, 25, 26]
   ·refine RN ?_
    refine CX (fun i => if i = 14 then 20 else if i = 11 then 21 else 22) [14, 11, 12] (ze1 G 3 (by omega) (by omega) A ha1.ok (by omega) ha1.taken) ?_
    exact SC
   apply zm [7, 8, 9, 18, 19] [7, 8, 9, 20, 21, 22, 24, 25, 26]
   ·refine RN ?_
    refine CX (fun i => if i = 14 then 24 else if i = 11 then 25 else 26) [14, 11, 12] (ze1 G 3 (by omega) (by omega) B hb1.ok (by omega) hb1.taken) ?_
    exact SC
   apply z3
   refine WS [7, 8, 9, 18, 19, 118] [7, 8, 9, 20, 21, 22, 24, 25, 26] ?_
   refine WI ?_ ?_ <;> intro hb
   ·exact absurd hb (by simp)
   ·apply z6
    apply z5
    apply zm [7, 8, 9, 18, 19, 20, 21] [7, 8, 9, 20, 21, 22, 24, 25, 26]
    ·refine RN ?_
     refine CX (fun i => if i = 1000 then 20 else if i = 1001 then 21 else 22) [] (Q3 G g1 3 (by omega) A ha1.big (by omega)) ?_
     refine CX (fun i => if i = 1000 then 24 else if i = 1001 then 25 else 26) [] (zcy G g1 3 (by omega) B hb1.taken hb1.big (by omega) (qf A 3) (Q2 A 3) (by rw [wt]; omega) Y w1) ?_
     exact SC
    apply zm [7, 8, 9, 18, 19, 20, 21, 22, 23] [7, 8, 9, 20, 21, 22, 24, 25, 26]
    ·refine RN ?_
     refine CX (fun i => if i = 1000 then 24 else if i = 1001 then 25 else 26) [] (Q3 G g1 3 (by omega) B hb1.big (by omega)) ?_
     refine CX (fun i => if i = 1000 then 20 else if i = 1001 then 21 else 22) [] (zcy G g1 3 (by omega) A ha1.taken ha1.big (by omega) (qf B 3) (Q2 B 3) (by rw [wt]; omega) X w2) ?_
     exact SC
    apply zm [7, 8, 9, 18, 19, 21, 22, 23, 24, 25] [7, 8, 9, 20, 21, 22, 24, 25, 26]
    ·refine RN ?_
     refine CX (fun i => if i = 1000 then 20 else if i = 1001 then 21 else 22) [] (zk6 G A Y C ha1.ok hoY hc1.taken hC hc2) ?_
     exact SC
    apply zm [7, 8, 9, 18, 19, 21, 23, 24, 25, 26, 27] [7, 8, 9, 20, 21, 22, 24, 25, 26]
    ·refine RN ?_
     refine CX (fun i => if i = 1000 then 24 else if i = 1001 then 25 else 26) [] (zk6 G B X W hb1.ok hoX hd1.taken hD hd2) ?_
     exact SC
    apply z3
    have hE := And.intro hE (And.intro (show (B.length : Int) - P.length = Y.length by omega) (show (A.length : Int) - P.length = X.length by omega))
    refine WS [7, 8, 9, 18, 19, 180] [7, 8, 9, 20, 21, 22, 24, 25, 26] ?_
    refine WI ?_ ?_ <;> intro hb
    ·exact absurd hb (by simp)
    ·apply z6
     apply z5
     refine WDF [18, 19, 28] [181, 184, 191, 20, 21, 22, 24, 25, 26] [(0, 181, .osl 181 32 0 0), (1, 182, .rp (va 3 A) 1), (2, 183, .dat (zr A)), (3, 184, .osl 184 32 0 A.length), (4, 185, .rp (va 3 B) 1), (5, 186, .dat (zr B)), (6, 187, .rp (va 3 P) 1), (7, 188, .dat (zr P)), (8, 189, .dat (iD P.length)), (9, 190, .dat (zr Y)), (10, 191, .osl 191 32 0 (A.length + Y.length)), (11, 28, _)] [(10, 191, some ⟨32, (A.map zf).map .dat ++ (Y.map zf).map .dat⟩), (10, 184, none), (3, 184, some ⟨32, (A.map zf).map .dat⟩), (3, 181, none), (0, 181, some ⟨32, []⟩)] ⟨FNd 0 4 [] [3, 10, 11], FV 1 [] [2, 3, 10, 11], FV 2 [1] [3, 10, 11], FAa 3 2 3 [0, 1, 2] [10, 11], FV 4 [] [5, 9, 10, 11], FV 5 [4] [9, 10, 11], FV 6 [] [7, 8, 9, 10, 11], FV 7 [6] [8, 9, 10, 11], FV 8 [6, 7] [9, 10, 11], FV 9 [4, 5, 6, 7, 8] [10, 11], FAa 10 0 1 [0, 1, 2, 3, 4, 5, 6, 7, 8, 9] [11], FV 11 [0, 1, 2, 3, 4, 5, 6, 7, 8, 9, 10] [], trivial⟩ ?_
     refine vp (ds := C.map zf) 191 hR.2.2.2 rfl (by have e := datE_map (C.map zf); rw [hC] at e ⊢; simpa only [List.map_append] using e) ?_
     have htk : List.take (A.length + Y.length) (C.map zf) = C.map zf := List.take_of_length_le (by rw [List.length_map, hC, List.length_append]; exact Nat.le_refl _)
     have hle : A.length + Y.length ≤ C.length := by rw [hC, List.length_append]; exact Nat.le_refl _
     simp (disch := omega) only [avA, zk, zo, seval, htk, if_pos hle]
     apply zm [18, 19, 28, 29, 30] [181, 184, 191, 20, 21, 22, 24, 25, 26]
     ·refine RN ?_
      refine CX (fun i => if i = 1000 then 20 else if i = 1001 then 21 else 22) [] (Q3 G g1 3 (by omega) C hc1.big (by omega)) ?_
      refine CX (fun i => if i = 1000 then 24 else if i = 1001 then 25 else 26) [] (zcy G g1 3 (by omega) W hd1.taken hd1.big (by omega) (qf C 3) (Q2 C 3) (by rw [wt]; omega) [] w3) ?_
      exact SC
     apply zm [18, 19, 28, 29, 30, 31, 32] [181, 184, 191, 20, 21, 22, 24, 25, 26]
     ·refine RN ?_
      refine CX (fun i => if i = 1000 then 24 else if i = 1001 then 25 else 26) [] (Q3 G g1 3 (by omega) W hd1.big (by omega)) ?_
      refine CX (fun i => if i = 1000 then 20 else if i = 1001 then 21 else 22) [] (zcy G g1 3 (by omega) C hc1.taken hc1.big (by omega) (qf W 3) (Q2 W 3) (by rw [wt]; omega) [] w4) ?_
      exact SC
     refine WSF [29, 30, 31, 32, 33] [20, 21, 22, 24, 25, 26] [(0, 206, _), (1, 207, .dat (zr (qv C))), (2, 208, _), (3, 209, .dat (zr (qv C))), (4, 210, .dat (bD true)), (5, 211, .dat (bD true)), (6, 212, _), (7, 213, .dat (zr (qv C))), (8, 214, _), (9, 215, .dat (zr (qv C))), (10, 216, .dat (bD true)), (11, 217, .dat (bD true)), (12, 218, .dat (bD true)), (13, 219, _), (14, 220, .dat (wz (qf C 3))), (15, 221, _), (16, 222, .dat (wz (qf C 3))), (17, 223, .dat (bD true)), (18, 224, .dat (bD true)), (19, 33, .dat (bD true))] [] ⟨FV 0 [] [1, 3, 4, 5, 6, 7, 8, 9, 10, 11, 12, 13, 14, 15, 16, 17, 18, 19], (FVs 1 [0] [3, 4, 5, 6, 7, 8, 9, 10, 11, 12, 13, 14, 15, 16, 17, 18, 19] (fun D hA1 hA2 => by simp only [qt, NoD] at hA1 hA2; exact xk (m := fun i => if i = 1000 then 20 else if i = 1001 then 21 else 22) rfl rfl (by rw [hN]; omega) EV' (z0r hP hG (z2z G 3 (by omega) C hc1.taken hc1.big (by omega))) EX' (wh hN EL' (by rfl)))), FV 2 [] [3, 4, 5, 6, 7, 8, 9, 10, 11, 12, 13, 14, 15, 16, 17, 18, 19], (FVs 3 [0, 1, 2] [4, 5, 6, 7, 8, 9, 10, 11, 12, 13, 14, 15, 16, 17, 18, 19] (fun D hA1 hA2 => by simp only [qt, NoD] at hA1 hA2; exact xk (m := fun i => if i = 1000 then 24 else if i = 1001 then 25 else 26) rfl rfl (by rw [hN]; omega) EV' (z0r hP hG (zom G C W hd1 (by omega) hss)) EX' (wh hN EL' (by rfl)))), (by have hc := gvF hP hG (Q1 G (qv C) (by rw [zb7]; omega) (z8b hc1.ok)); exact FVc 4 [0, 1, 2, 3] [5, 6, 7, 8, 9, 10, 11, 12, 13, 14, 15, 16, 17, 18, 19]), FV 5 [0, 1, 2, 3, 4] [6, 7, 8, 9, 10, 11, 12, 13, 14, 15, 16, 17, 18, 19], FG 6 [0, 1, 2, 3, 4, 5] [7, 9, 10, 11, 12, 13, 14, 15, 16, 17, 18, 19], (FGs 7 [0, 1, 2, 3, 4, 5, 6] [9, 10, 11, 12, 13, 14, 15, 16, 17, 18, 19] (fun D hA1 hA2 => by simp only [qt, NoD] at hA1 hA2; exact xk (m := fun i => if i = 1000 then 20 else if i = 1001 then 21 else 22) rfl rfl (by rw [hN]; omega) EV' (z0r hP hG (z2z G 3 (by omega) C hc1.taken hc1.big (by omega))) EX' (wh hN EL' (by rfl)))), FG 8 [0, 1, 2, 3, 4, 5] [9, 10, 11, 12, 13, 14, 15, 16, 17, 18, 19], (by have hc := gvF hP hG (zr9 G C (by omega)); exact FGc 9 [0, 1, 2, 3, 4, 5, 6, 7, 8] [10, 11, 12, 13, 14, 15, 16, 17, 18, 19]), (by have hc := gvF hP hG (Q1 G (qv C) (by rw [zb7]; omega) (z8b hc1.ok)); exact FGc 10 [0, 1, 2, 3, 4, 5, 6, 7, 8, 9] [11, 12, 13, 14, 15, 16, 17, 18, 19]), FV 11 [0, 1, 2, 3, 4, 5, 6, 7, 8, 9, 10] [12, 13, 14, 15, 16, 17, 18, 19], FV 12 [0, 1, 2, 3, 4, 5, 6, 7, 8, 9, 10, 11] [13, 14, 15, 16, 17, 18, 19], FG 13 [0, 1, 2, 3, 4, 5, 6, 7, 8, 9, 10, 11, 12] [14, 16, 17, 18, 19], (FGs 14 [0, 1, 2, 3, 4, 5, 6, 7, 8, 9, 10, 11, 12, 13] [16, 17, 18, 19] (fun D hA1 hA2 => by simp only [qt, NoD] at hA1 hA2; exact xk (m := fun i => if i = 1000 then 20 else if i = 1001 then 21 else 22) rfl rfl (by rw [hN]; omega) EV' (z0r hP hG (z2g G g1 3 (by omega) C hc1.big (by omega))) EX' (wh hN EL' (by rfl)))), FG 15 [0, 1, 2, 3, 4, 5, 6, 7, 8, 9, 10, 11, 12] [16, 17, 18, 19], (FGs 16 [0, 1, 2, 3, 4, 5, 6, 7, 8, 9, 10, 11, 12, 13, 14, 15] [17, 18, 19] (fun D hA1 hA2 => by simp only [qt, NoD] at hA1 hA2; exact xk (m := fun i => if i = 1000 then 24 else if i = 1001 then 25 else 26) rfl rfl (by rw [hN]; omega) EV' (z0r hP hG (zpj G g1 C W hd1 (by omega) hhh)) EX' (wh hN EL' (by rfl)))), (by have hc := gvF hP hG (zeb G (qf C 3) (by rw [wt]; omega) (Q2 C 3)); exact FGc 17 [0, 1, 2, 3, 4, 5, 6, 7, 8, 9, 10, 11, 12, 13, 14, 15, 16] [18, 19]), FV 18 [0, 1, 2, 3, 4, 5, 6, 7, 8, 9, 10, 11, 12, 13, 14, 15, 16, 17] [19], FV 19 [0, 1, 2, 3, 4, 5, 6, 7, 8, 9, 10, 11, 12, 13, 14, 15, 16, 17, 18] [], trivial⟩ ?_
     refine WSF [6] [20, 21, 22, 24, 25, 26] [(0, 225, _), (1, 226, _), (2, 227, _), (3, 228, _), (4, 229, _), (5, 230, _), (6, 231, _), (7, 232, _), (8, 233, _), (9, 234, _), (10, 235, _), (11, 236, _), (12, 237, _), (13, 238, _), (14, 239, _), (15, 240, _), (16, 241, _), (17, 242, _), (18, 243, _), (19, 244, _), (20, 245, .dat (bD true)), (21, 246, _), (22, 6, .dat (bD true))] [] ⟨FV 0 [] [1, 2, 3, 4, 5, 6, 7, 8, 9, 10, 11, 12, 13, 14, 15, 16, 17, 18, 19, 20, 21, 22], FV 1 [0] [2, 3, 4, 5, 6, 7, 8, 9, 10, 11, 12, 13, 14, 15, 16, 17, 18, 19, 20, 21, 22], FG 2 [0, 1] [3, 4, 5, 6, 7, 8, 9, 10, 11, 12, 13, 14, 15, 16, 17, 18, 19, 20, 21, 22], FG 3 [0, 1, 2] [4, 5, 6, 7, 8, 9, 10, 11, 12, 13, 14, 15, 16, 17, 18, 19, 20, 21, 22], FG 4 [0, 1, 2, 3] [5, 6, 7, 8, 9, 10, 11, 12, 13, 14, 15, 16, 17, 18, 19, 20, 21, 22], FV 5 [0, 1, 2, 3, 4] [6, 7, 8, 9, 10, 11, 12, 13, 14, 15, 16, 17, 18, 19, 20, 21, 22], FV 6 [0, 1, 2, 3, 4, 5] [7, 8, 9, 10, 11, 12, 13, 14, 15, 16, 17, 18, 19, 20, 21, 22], FG 7 [0, 1, 2, 3, 4, 5, 6] [8, 9, 10, 11, 12, 13, 14, 15, 16, 17, 18, 19, 20, 21, 22], FG 8 [0, 1, 2, 3, 4, 5, 6, 7] [9, 10, 11, 12, 13, 14, 15, 16, 17, 18, 19, 20, 21, 22], FG 9 [0, 1, 2, 3, 4, 5, 6, 7, 8] [10, 11, 12, 13, 14, 15, 16, 17, 18, 19, 20, 21, 22], FV 10 [0, 1, 2, 3, 4, 5, 6, 7, 8, 9] [11, 12, 13, 14, 15, 16, 17, 18, 19, 20, 21, 22], FV 11 [0, 1, 2, 3, 4, 5, 6, 7, 8, 9, 10] [12, 13, 14, 15, 16, 17, 18, 19, 20, 21, 22], FG 12 [0, 1, 2, 3, 4, 5, 6, 7, 8, 9, 10, 11] [13, 14, 15, 16, 17, 18, 19, 20, 21, 22], FG 13 [0, 1, 2, 3, 4, 5, 6, 7, 8, 9, 10, 11, 12] [14, 15, 16, 17, 18, 19, 20, 21, 22], FV 14 [0, 1, 2, 3, 4, 5, 6, 7, 8, 9, 10, 11, 12, 13] [15, 16, 17, 18, 19, 20, 21, 22], FV 15 [0, 1, 2, 3, 4, 5, 6, 7, 8, 9, 10, 11, 12, 13, 14] [16, 17, 18, 19, 20, 21, 22], FG 16 [0, 1, 2, 3, 4, 5, 6, 7, 8, 9, 10, 11, 12, 13, 14, 15] [17, 18, 19, 20, 21, 22], FG 17 [0, 1, 2, 3, 4, 5, 6, 7, 8, 9, 10, 11, 12, 13, 14, 15, 16] [18, 19, 20, 21, 22], FV 18 [0, 1, 2, 3, 4, 5, 6, 7, 8, 9, 10, 11, 12, 13, 14, 15, 16, 17] [19, 20, 21, 22], FV 19 [0, 1, 2, 3, 4, 5, 6, 7, 8, 9, 10, 11, 12, 13, 14, 15, 16, 17, 18] [20, 21, 22], (by have hc := gvF hP hG (zpk G g1); exact FGc 20 [0, 1, 2, 3, 4, 5, 6, 7, 8, 9, 10, 11, 12, 13, 14, 15, 16, 17, 18, 19] [21, 22]), FV 21 [0, 1, 2, 3, 4, 5, 6, 7, 8, 9, 10, 11, 12, 13, 14, 15, 16, 17, 18, 19, 20] [22], FV 22 [0, 1, 2, 3, 4, 5, 6, 7, 8, 9, 10, 11, 12, 13, 14, 15, 16, 17, 18, 19, 20, 21] [], trivial⟩ ?_
     apply z9
     exact E0
end Go.Proofs.YtkeopokhnfpgpaaGreatDoor

