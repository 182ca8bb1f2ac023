/- A part of the proof. -/
import Derived.Test.YtkeopokhnfpgpaaGreatDoorHP44
import Derived.Test.YtkeopokhnfpgpaaGreatDoorHP42
import Derived.Test.YtkeopokhnfpgpaaGreatDoorHP43
import Derived.Test.YtkeopokhnfpgpaaGreatDoorHAv50
set_option linter.all false
namespace Go.Proofs.YtkeopokhnfpgpaaGreatDoor
open Go.Av
inductive TakenL (p : Nat) : List EventM → Prop
 | nil : TakenL p []
 | snoc {L : List EventM} {c : EventM} : TakenL p L → zr p L c = (L ++ [c], true, 0) → TakenL p (L ++ [c])
theorem zi9 {e : EventM} (h : qn e = 0) : ym (evName e) = true ∧ wa e.Tick 1048576 = true ∧ ∀ i, i < e.Refs.length → j4 e i = false := by
 unfold qn at h
 split at h
 ·cases h
 split at h
 ·cases h
 rename_i h2
 split at h
 ·cases h
 rename_i h3
 simp only [not_or] at h2
 have h2 := h2.1
 unfold z1z at h2
 simp only [Bool.or_eq_true, Bool.not_eq_true', not_or, Bool.not_eq_false] at h2
 refine ⟨h2.1.1, h2.1.2, fun i hi => ?_⟩
 cases hq : j4 e i
 ·rfl
 ·exact absurd ⟨i, hi, hq⟩ h3
theorem z4w {e : EventM} (h : qn e = 0) : 0 ≤ e.By ∧ e.By < 6 ∧ 0 ≤ e.Seq ∧ e.Seq ≤ 63 ∧ 0 ≤ e.Tick ∧ e.Tick ≤ 1048576 := by
 obtain ⟨h1, h2, _⟩ := zi9 h
 unfold ym evName at h1
 unfold wa at h2
 simp only [Bool.and_eq_true, decide_eq_true_eq] at h1 h2
 omega
theorem Zx {p : Nat} {L : List EventM} {c : EventM} : zr p L c = (L ++ [c], true, 0) ↔ qn c = 0 ∧ c.By < p ∧ qb L (evName c) = none ∧ ko L c = false ∧ wu L c = false := by
 unfold zr
 constructor
 ·intro h
  (repeat' split at h) <;> simp_all
 ·rintro ⟨h1, h2, h3, h4, h5⟩
  rw [if_neg (by simp [h1]), if_neg (by omega), if_neg (by simp [h3]), if_neg (by simp [h4]), if_neg (by simp [h5])]
theorem zms {p : Nat} {L : List EventM} {c : EventM} (h : TakenL p (L ++ [c])) : TakenL p L ∧ zr p L c = (L ++ [c], true, 0) := by
 generalize ht : L ++ [c] = t at h
 cases h with
 | nil => simp at ht
 | snoc h1 h2 =>
  obtain ⟨rfl, he⟩ := List.append_inj' ht rfl
  simp only [List.cons.injEq, and_true] at he
  subst he
  exact ⟨h1, h2⟩
theorem zi7 {p : Nat} {L : List EventM} (h : TakenL p L) : ∀ k, TakenL p (L.take k) := by
 induction h with
 | nil => intro k; simpa using TakenL.nil
 | @snoc s e h1 h2 ih =>
  intro k
  by_cases hk : k ≤ s.length
  ·rw [List.take_append_of_le_length hk]; exact ih k
  ·rw [List.take_of_length_le (by simp; omega)]; exact .snoc h1 h2
theorem z43 {L : List EventM} {n : NameM} : qb L n = none ↔ ∀ x ∈ L, evName x ≠ n := by
 unfold qb
 rw [List.find?_eq_none]
 refine forall_congr' fun x => forall_congr' fun _ => ?_
 unfold jk
 constructor
 ·intro h hq; exact h (by rw [hq]; exact ki _)
 ·intro h hq; exact h (Z7 hq)
theorem z42 {L : List EventM} {n : NameM} {e : EventM} (h : qb L n = some e) : e ∈ L ∧ evName e = n := by
 unfold qb at h
 exact ⟨List.mem_of_find?_eq_some h, Z7 (by have := List.find?_some h; exact this)⟩
theorem ku {p : Nat} {L : List EventM} (h : TakenL p L) : ∀ x ∈ L, qn x = 0 ∧ x.By < p := by
 induction h with
 | nil => intro x hx; cases hx
 | @snoc s e h1 h2 ih =>
  intro x hx
  rcases List.mem_append.1 hx with hx | hx
  ·exact ih x hx
  ·obtain rfl := List.mem_singleton.1 hx
   obtain ⟨a, b, _⟩ := Zx.1 h2
   exact ⟨a, b⟩
theorem z8a {p : Nat} {L : List EventM} (h : TakenL p L) : ∀ x ∈ L, 0 ≤ x.By ∧ x.By < p := fun x hx => ⟨(z4w (ku h x hx).1).1, (ku h x hx).2⟩
theorem Z8 {p : Nat} {L : List EventM} (h : TakenL p L) : L.Pairwise fun x y => evName x ≠ evName y := by
 induction h with
 | nil => exact .nil
 | @snoc s e h1 h2 ih =>
  rw [List.pairwise_append]
  refine ⟨ih, by simp, fun x hx y hy => ?_⟩
  obtain rfl := List.mem_singleton.1 hy
  exact z43.1 (Zx.1 h2).2.2.1 x hx
theorem wi (L : List EventM) (b : Int) : xh L b = (qt L b).length := by
 unfold xh qt
 rw [List.countP_eq_length_filter]
 congr 1
theorem z5t {L : List EventM} {c : EventM} : ko L c = false ↔ c.Seq = (xh L c.By : Int) ∧ ∀ n ∈ c.Refs, (qb L n).isSome = true := by
 unfold ko
 rw [Bool.or_eq_false_iff, bne_eq_false_iff_eq, List.any_eq_false]
 simp only [Bool.not_eq_true', Bool.not_eq_false]
theorem zjj (L M : List EventM) (b : Int) : qt (L ++ M) b = qt L b ++ qt M b := List.filter_append ..
theorem zjk (c : EventM) (b : Int) : qt [c] b = if c.By = b then [c] else [] := by
 unfold qt
 by_cases h : c.By = b <;> simp [h]
theorem z1j {p : Nat} {L : List EventM} (h : TakenL p L) (b : Int) : ∀ k (hk : k < (qt L b).length), ((qt L b)[k]).By = b ∧ ((qt L b)[k]).Seq = (k : Int) := by
 induction h with
 | nil => intro k hk; simp [qt] at hk
 | @snoc s e h1 h2 ih =>
  intro k hk
  have hs := (z5t.1 (Zx.1 h2).2.2.2.1).1
  simp only [zjj, zjk] at hk ⊢
  by_cases hb : e.By = b
  ·simp only [hb, if_true, List.length_append, List.length_singleton] at hk
   rw [List.getElem_append]
   split
   ·rename_i hlt; exact ih k hlt
   ·rename_i hlt
    have : k = (qt s b).length := by omega
    subst this
    simp only [hb, if_true, Nat.sub_self, List.getElem_singleton]
    rw [hs, hb, wi]
    exact ⟨trivial, rfl⟩
  ·simp only [hb, if_false, List.append_nil] at hk ⊢
   exact ih k hk
theorem z1e {L : List EventM} {x : EventM} {b : Int} : x ∈ qt L b ↔ x ∈ L ∧ x.By = b := by
 unfold qt; simp
theorem z4j {L : List EventM} (h : L.Pairwise fun x y => evName x ≠ evName y) {x y : EventM} (hx : x ∈ L) (hy : y ∈ L) (hn : evName x = evName y) : x = y := by
 obtain ⟨i, hi, rfl⟩ := List.getElem_of_mem hx
 obtain ⟨j, hj, rfl⟩ := List.getElem_of_mem hy
 rcases Nat.lt_trichotomy i j with h1 | h1 | h1
 ·exact absurd hn (List.pairwise_iff_getElem.1 h i j hi hj h1)
 ·subst h1; rfl
 ·exact absurd hn.symm (List.pairwise_iff_getElem.1 h j i hj hi h1)
theorem zok {L : List EventM} (h : L.Pairwise fun x y => evName x ≠ evName y) {x : EventM} (hx : x ∈ L) : qb L (evName x) = some x := by
 cases hf : qb L (evName x) with
 | none => exact absurd rfl (z43.1 hf x hx)
 | some e =>
  obtain ⟨h1, h2⟩ := z42 hf
  rw [z4j h h1 hx h2]
theorem z24 {p : Nat} {L : List EventM} (h : TakenL p L) (b : Int) {k : Nat} (hk : k < (qt L b).length) : qb L ⟨b, (k : Int)⟩ = some ((qt L b)[k]) := by
 obtain ⟨h1, h2⟩ := z1j h b k hk
 have hm : (qt L b)[k] ∈ L := (z1e.1 (List.getElem_mem hk)).1
 have := zok (Z8 h) hm
 unfold evName at this
 rw [h1, h2] at this
 exact this
theorem zg4 {p : Nat} {L : List EventM} (h : TakenL p L) (b : Int) {n : Nat} (hn : n ≤ (qt L b).length) : xz L b n = (qt L b).take n := by
 apply List.ext_getElem (by simp [w7]; omega)
 intro i h1 h2
 simp only [xz, List.getElem_map, List.getElem_range, List.getElem_take]
 rw [z24 h b (by rw [w7] at h1; omega), Option.getD_some]
theorem zk8 {p : Nat} {L : List EventM} (h : TakenL p L) (b : Int) : xz L b (xh L b) = qt L b := by
 rw [zg4 h b (by rw [wi]; exact Nat.le_refl _), wi, List.take_length]
theorem zt6 {p : Nat} {L : List EventM} (h : TakenL p L) (n : Nat) : qg L n = (List.range n).flatMap fun b : Nat => qt L (b : Int) := by
 unfold qg
 congr 1
 funext b
 exact zk8 h _
theorem z9o (L : List EventM) : ∀ n : Nat, ((List.range n).flatMap fun b : Nat => qt L (b : Int)).Perm (L.filter fun e => decide (0 ≤ e.By ∧ e.By < (n : Int)))
 | 0 => by
  have : L.filter (fun e => decide (0 ≤ e.By ∧ e.By < ((0 : Nat) : Int))) = [] := by
   rw [List.filter_eq_nil_iff]; intro x _; simp only [decide_eq_true_eq]; omega
  rw [this]; exact .nil
 | n + 1 => by
  have ih := z9o L n
  rw [List.range_succ, List.flatMap_append, List.flatMap_singleton]
  refine (ih.append_right _).trans ?_
  unfold qt
  have h1 : (L.filter fun e => decide (0 ≤ e.By ∧ e.By < ((n : Nat) : Int))) = (L.filter fun e => decide (0 ≤ e.By ∧ e.By < ((n + 1 : Nat) : Int))).filter fun e => !decide (e.By = (n : Int)) := by
   rw [List.filter_filter]
   refine List.filter_congr fun x _ => ?_
   rw [Bool.eq_iff_iff]
   simp only [decide_eq_true_eq, Bool.and_eq_true, Bool.not_eq_true', decide_eq_false_iff_not]
   omega
  have h2 : (L.filter fun e => decide (e.By = (n : Int))) = (L.filter fun e => decide (0 ≤ e.By ∧ e.By < ((n + 1 : Nat) : Int))).filter fun e => decide (e.By = (n : Int)) := by
   rw [List.filter_filter]
   refine List.filter_congr fun x _ => ?_
   rw [Bool.eq_iff_iff]
   simp only [decide_eq_true_eq, Bool.and_eq_true]
   omega
  rw [h1, h2]
  exact List.perm_append_comm.trans (List.filter_append_perm _ _)
theorem z6k {p : Nat} {L : List EventM} (h : TakenL p L) : (qg L p).Perm L := by
 rw [zt6 h]
 refine (z9o L p).trans ?_
 rw [List.filter_eq_self.2]
 intro x hx
 exact decide_eq_true (z8a h x hx)
theorem zkq {p : Nat} {L : List EventM} (h : TakenL p L) : (qg L p).length = L.length := (z6k h).length_eq
theorem z5f {l m : List EventM} (h : l.Perm m) (hm : m.Pairwise fun x y => evName x ≠ evName y) : qv l = qv m := by
 refine List.Perm.eq_of_pairwise (le := leE) ?_ (Q5 l) (Q5 m) (((va l).trans h).trans (va m).symm)
 intro a b ha hb h1 h2
 refine z4j hm (((va l).trans h).subset ha) ((va m).subset hb) ?_
 exact z2l h2 h1
theorem zrm {p : Nat} {L : List EventM} (h : TakenL p L) : qv (qg L p) = qv L := z5f (z6k h) (Z8 h)
theorem z8b {p : Nat} {L : List EventM} (h : TakenL p L) (b : Int) : (qt L b).Pairwise fun x y => x.Tick < y.Tick := by
 induction h with
 | nil => exact .nil
 | @snoc s e h1 h2 ih =>
  obtain ⟨hv, hp, hf, hn, hl⟩ := Zx.1 h2
  have hs := (z5t.1 hn).1
  rw [zjj, zjk]
  by_cases hb : e.By = b
  ·rw [if_pos hb, List.pairwise_append]
   refine ⟨ih, by simp, fun x hx y hy => ?_⟩
   obtain rfl := List.mem_singleton.1 hy
   rw [hb, wi] at hs
   unfold wu at hl
   rw [Bool.or_eq_false_iff] at hl
   have hl := hl.2
   obtain ⟨k, hk, rfl⟩ := List.getElem_of_mem hx
   have hz : decide (0 < y.Seq) = true := by rw [decide_eq_true_eq]; omega
   rw [hz, Bool.true_and] at hl
   unfold ws at hl
   rw [decide_eq_false_iff_not] at hl
   have hfc := z24 h1 b (k := (qt s b).length - 1) (by omega)
   rw [show (((qt s b).length - 1 : Nat) : Int) = y.Seq - 1 by omega] at hfc
   rw [hb, hfc, Option.getD_some] at hl
   by_cases hq : k = (qt s b).length - 1
   ·subst hq; omega
   ·have := List.pairwise_iff_getElem.1 ih k ((qt s b).length - 1) hk (by omega) (by omega)
    omega
  ·rw [if_neg hb, List.append_nil]; exact ih
theorem z29 {p : Nat} {L : List EventM} (h : TakenL p L) (b : Int) (hc : 0 < xh L b) : (qb L ⟨b, (xh L b : Int) - 1⟩).getD default = (qt L b)[(qt L b).length - 1]'(by rw [wi] at hc; omega) := by
 have hcc := wi L b
 have := z24 h b (k := (qt L b).length - 1) (by omega)
 rw [show (((qt L b).length - 1 : Nat) : Int) = (xh L b : Int) - 1 by omega] at this
 rw [this, Option.getD_some]
theorem znu {p : Nat} {L : List EventM} (h : TakenL p L) : ∀ n : Nat, 0 ≤ clkN L n ∧ ∀ x ∈ L, 0 ≤ x.By → x.By < (n : Int) → x.Tick ≤ clkN L n
 | 0 => ⟨Int.le_refl 0, fun x _ h1 h2 => by omega⟩
 | n + 1 => by
  obtain ⟨h0, ih⟩ := znu h n
  rw [clkN]
  constructor
  ·split
   ·split <;> omega
   ·exact h0
  intro x hx hb hn
  by_cases hq : x.By < (n : Int)
  ·have := ih x hx hb hq
   split
   ·split <;> omega
   ·exact this
  ·have hbn : x.By = (n : Int) := by omega
   have hm : x ∈ qt L (n : Int) := z1e.2 ⟨hx, hbn⟩
   obtain ⟨k, hk, rfl⟩ := List.getElem_of_mem hm
   have hc : 0 < xh L (n : Int) := by rw [wi]; omega
   rw [if_pos hc, z29 h _ hc]
   have ht := z8b h (n : Int)
   have hle : ((qt L (n : Int))[k]).Tick ≤ ((qt L (n : Int))[(qt L (n : Int)).length - 1]'(by omega)).Tick := by
    by_cases hkl : k = (qt L (n : Int)).length - 1
    ·subst hkl; exact Int.le_refl _
    ·have := List.pairwise_iff_getElem.1 ht k ((qt L (n : Int)).length - 1) hk (by omega) (by omega)
     omega
   split <;> omega
theorem znv {p : Nat} {L : List EventM} (h : TakenL p L) : ∀ n : Nat, clkN L n = 0 ∨ ∃ x ∈ L, x.Tick = clkN L n
 | 0 => .inl rfl
 | n + 1 => by
  have ih := znv h n
  rw [clkN]
  split
  ·rename_i hc
   split
   ·right
    rw [z29 h _ hc]
    have hk : (qt L (n : Int)).length - 1 < (qt L (n : Int)).length := by rw [wi] at hc; omega
    exact ⟨_, (z1e.1 (List.getElem_mem hk)).1, rfl⟩
   ·exact ih
  ·exact ih
theorem zhm (L : List EventM) : ∀ n : Nat, 0 ≤ rclN L n ∧ ∀ k, k < n → (L.getD k default).Tick ≤ rclN L n
 | 0 => ⟨Int.le_refl 0, fun k hk => absurd hk (Nat.not_lt_zero k)⟩
 | n + 1 => by
  obtain ⟨h0, ih⟩ := zhm L n
  rw [rclN]
  constructor
  ·split <;> omega
  intro k hk
  by_cases hq : k = n
  ·subst hq; split <;> omega
  ·have := ih k (by omega)
   split <;> omega
theorem zhn (L : List EventM) : ∀ n : Nat, rclN L n = 0 ∨ ∃ k, k < n ∧ (L.getD k default).Tick = rclN L n
 | 0 => .inl rfl
 | n + 1 => by
  rw [rclN]
  split
  ·exact .inr ⟨n, Nat.lt_succ_self n, rfl⟩
  ·rcases zhn L n with h | ⟨k, hk, h⟩
   ·exact .inl h
   ·exact .inr ⟨k, by omega, h⟩
theorem zvf {p : Nat} {L : List EventM} (h : TakenL p L) : clkN L p = rclN L L.length := by
 obtain ⟨a0, a1⟩ := znu h p
 obtain ⟨b0, b1⟩ := zhm L L.length
 apply Int.le_antisymm
 ·rcases znv h p with h1 | ⟨x, hx, h1⟩
  ·omega
  ·obtain ⟨k, hk, rfl⟩ := List.getElem_of_mem hx
   have := b1 k hk
   rw [ji hk] at this
   omega
 ·rcases zhn L L.length with h1 | ⟨k, hk, h1⟩
  ·omega
  ·rw [ji hk] at h1
   have := a1 L[k] (List.getElem_mem hk) (z8a h _ (List.getElem_mem hk)).1 (z8a h _ (List.getElem_mem hk)).2
   omega
set_option maxRecDepth 100000 in
set_option maxHeartbeats 2000000 in
theorem zgm (G) (p : Nat) (hp : p ≤ 1000) (L : List EventM) (hL : ∀ e ∈ L, ju e) (hn : L.length ≤ 100000) (h20 : (qg L p).length < 20) : GivesX Tryz.prog G 17 [.ptr 1000 2 0 0] (arO p L) [.dat (zz (qv (qg L p)))] (arO p L) := by
 have hsl : (qv (qg L p)).length = (qg L p).length := Qe _ _
 skip
 skip
 skip
 refine GX [] [23] [] Tryz.func17 Tryz.ntmps17 fun F hP hG hN hR hA => ?_
 have hE := And.intro @Tryz.results17 (And.intro @z7l (And.intro @qz (And.intro @hsl (And.intro @Xm (And.intro @jn (And.intro @Zc (@w7)))))))
 refine WS [0] [33, 1000, 1001, 1002] ?_
 apply z3
 refine WS [0, 9] [33, 1000, 1001, 1002] ?_
 refine WI ?_ ?_ <;> intro hb
 ·exact absurd hb (by simp)
 ·apply z6
  apply z5
  refine WS [0, 3] [32, 33, 1000, 1001, 1002] ?_
  apply z3
  refine WS [0, 3, 13, 14, 15] [32, 33, 1000, 1001, 1002] ?_
  apply z7
  refine xd 33 32 (by omega) ?_
  refine xy 3 33 32 rfl rfl ?_
  refine WL (ι := {i : Nat // i ≤ p}) [0, 13, 14] [32, 1000, 1001, 1002] (fun ⟨i, hi⟩ => [(3, .osl 33 32 0 (qg L i).length), (15, .dat (iD i))]) (fun ⟨i, hi⟩ => [(33, ⟨32, ((qg L i).map zc).map .dat⟩)]) (fun ⟨i, hi⟩ => p - i) (⟨0, by omega⟩) ?_
  rintro ⟨i, hi⟩
  refine LA ?_
  refine WS [0, 3, 13, 14, 15, 16] [32, 33, 1000, 1001, 1002] ?_
  apply z3
  refine WI ?_ ?_ <;> intro hb
  ·have hcg := y8 (L := L) (i := i) (p := p) (by omega)
   have hrw := Qm (l := qw p L) (i := i) (by rw [qz]; omega)
   rw [hcg] at hrw
   have hcl := X6 L (i : Int)
   have hm1 := z6j L (show i + 1 ≤ p by omega)
   rw [Qd, List.length_append, w7] at hm1
   have hE := And.intro hE hrw
   apply z6
   apply z5
   apply z3
   apply z7
   refine WS [0, 3, 4, 5, 13, 14, 15] [32, 33, 1000, 1001, 1002] ?_
   apply zm [0, 3, 13, 14, 15, 23, 24, 25] [32, 33, 1000, 1001, 1002]
   ·refine RN ?_
    refine CX (fun i => i) [] (z15 G p L (i : Int) (xh L (i : Int)) (by omega)) ?_
    exact SC
   have hlc := w7 L (i : Int) (xh L (i : Int))
   have hbc := z12 hL (i : Int) (xh L (i : Int))
   have hevs := Qd L i
   have htkc := z09 L (i : Int) (xh L (i : Int))
   generalize xz L (i : Int) (xh L (i : Int)) = C at hlc hbc hevs htkc ⊢
   apply z7
   have hE := And.intro hE (zaq (qg L i) C)
   refine WL (ι := {k : Nat // k ≤ xh L (i : Int)}) [0, 13, 14, 15, 23, 24] [32, 1000, 1001, 1002] (fun ⟨k, hk⟩ => [(3, .osl 33 32 0 ((qg L i).length + k)), (25, .dat (iD k))]) (fun ⟨k, hk⟩ => [(33, ⟨32, ((z2f (qg L i) C k).map zc).map .dat⟩)]) (fun ⟨k, hk⟩ => xh L (i : Int) - k) (⟨0, by omega⟩) ?_
   rintro ⟨k, hk⟩
   refine LA ?_
   refine WS [0, 3, 13, 14, 15, 23, 24, 25, 26] [32, 33, 1000, 1001, 1002] ?_
   apply z3
   refine WI ?_ ?_ <;> intro hb
   ·have hok := zt hbc (i := k) (by omega)
    have hrl := z7w (A := qg L i) (C := C) (k := k) (by omega)
    have hrt := zap (A := qg L i) (C := C) (k := k) (by omega)
    have hrs := zao (A := qg L i) (C := C) (k := k) (by omega)
    have hE := And.intro hE (And.intro hrl hrt)
    apply z6
    apply z5
    apply z3
    apply z7
    refine WS [0, 3, 7, 13, 14, 15, 23, 24, 25] [7, 32, 33, 1000, 1001, 1002] ?_
    have hc := gvF hP hG (zc0 G (C.getD k default) hok.1)
    refine WQc [0, 3, 13, 14, 15, 23, 24, 25] [32, 33, 1000, 1001, 1002] ?_
    apply ze
    apply z5
    have hE := And.intro hE hrs
    refine WQ [0, 3, 13, 14, 15, 23, 24, 25] [32, 33, 1000, 1001, 1002] ?_
    refine WN (⟨k + 1, by omega⟩)
   ·apply zj
    apply zd
    have hend : k = xh L (i : Int) := by omega
    subst hend
    have hfull : z2f (qg L i) C (xh L (i : Int)) = qg L (i + 1) := by rw [hevs, z2f, htkc]
    have hll : (qg L (i + 1)).length = (qg L i).length + xh L (i : Int) := by rw [hevs, List.length_append, hlc]
    have hE := And.intro hE (And.intro hfull hll)
    apply zb
    apply zn
    apply ze
    apply z5
    refine WQ [0, 3, 13, 14, 15] [32, 33, 1000, 1001, 1002] ?_
    refine WN (⟨i + 1, by omega⟩)
  ·apply zj
   apply zd
   have hend : i = p := by omega
   subst hend
   apply zb
   apply zn
   apply z5
   refine X3 33 hR.2.2.2 rfl (datE_map _) rfl ?_
   have htk : List.take (qg L i).length ((qg L i).map zc) = (qg L i).map zc := List.take_of_length_le (by simp)
   simp (disch := omega) only [avA, zk, zo, seval, hE, htk]
   have hc := gvF hP hG (zjr G (qg L i) (by omega))
   refine WSc [2] [33, 1000, 1001, 1002] ?_
   apply z9
   exact E0
set_option maxRecDepth 100000 in
theorem zou (G) (l : List (Int × List Int)) (hl : l.length ≤ 1000) (hh : ∀ x ∈ l, x.2.length = 16) : zl Tryz.prog G 19 [y3 l, y3 l] [bD true] := by
 skip
 skip
 refine GI [] [] [] Tryz.func19 Tryz.ntmps19 fun F hP hG hN hR hA => ?_
 have hE := And.intro @Tryz.results19 (@z6g)
 refine WS [0, 1] [] ?_
 apply z3
 refine WS [0, 1, 10] [] ?_
 refine WI ?_ ?_ <;> intro hb
 ·exact absurd hb (by simp)
 ·apply z6
  apply z5
  apply z3
  refine WS [0, 1, 5] [] ?_
  apply z7
  refine WL (ι := {i : Nat // i ≤ l.length}) [0, 1] [] (fun ⟨i, hi⟩ => [(5, .dat (iD i))]) (fun ⟨i, hi⟩ => []) (fun ⟨i, hi⟩ => l.length - i) (⟨0, by omega⟩) ?_
  rintro ⟨i, hi⟩
  refine LA ?_
  apply z3
  refine WS [0, 1, 5, 14] [] ?_
  refine WI ?_ ?_ <;> intro hb
  ·have h16 := zt hh (i := i) (by omega)
   have hE := And.intro hE h16
   apply z6
   apply z5
   apply z3
   apply z7
   refine WDF [0, 1, 5, 25] [] [(0, 17, _), (1, 18, _), (2, 19, _), (3, 20, _), (4, 21, _), (5, 22, _), (6, 23, _), (7, 24, _), (8, 25, .dat (bD (!((l.getD i default).1 == (l.getD i default).1 && (l.getD i default).2 == (l.getD i default).2))))] [] ⟨FV 0 [] [2, 3, 8], FV 1 [] [2, 3, 8], FV 2 [0, 1] [3, 8], FV 3 [0, 1, 2] [8], FV 4 [] [6, 7, 8], FV 5 [] [6, 7, 8], FV 6 [4, 5] [7, 8], FV 7 [4, 5, 6] [8], (FVs 8 [0, 1, 2, 3, 4, 5, 6, 7] [] (fun D hA1 hA2 => by simp only [x8, NoD] at hA1 hA2; exact ztb (n := 16) rfl rfl (by rw [hN]; omega) (by rw [hP]; unfold zod; kernel_rfl) EV' EV' h16 h16)), trivial⟩ ?_
   refine WI ?_ ?_ <;> intro hb
   ·exact absurd hb (by simp)
   ·apply z6
    apply ze
    apply z5
    refine WQ [0, 1, 5] [] ?_
    refine WN (⟨i + 1, by omega⟩)
  ·apply zj
   apply zd
   have hend : i = l.length := by omega
   subst hend
   apply zb
   apply zn
   apply z5
   refine WS [4] [] ?_
   apply z9
   exact E0
theorem zm9 (e : EventM) : x7 e e = true := by
 unfold x7
 have h1 : ∀ l : List NameM, qf qa l l = true := fun l => xj rfl fun i _ => ki _
 have h2 : ∀ i : IdM, qp i i = true := fun i => by simp [qp]
 have h3 : ∀ s : ByteArray, qx s s = true := fun s => by simp [qx]
 have h4 : ∀ l : List ByteArray, qf qx l l = true := fun l => xj rfl fun i _ => h3 _
 have h5 : ∀ p : PostM, xg p p = true := fun p => by simp [xg, h2, h4]
 have h6 : ∀ l : List PostM, qf xg l l = true := fun l => xj rfl fun i _ => h5 _
 have h7 : ∀ t : TermM, je t t = true := fun t => by simp [je, h3, h4]
 have h8 : ∀ l : List (Int × Int), qf xw l l = true := fun l => xj rfl fun i _ => by simp [xw]
 have h9 : ∀ l : List IdM, qf qp l l = true := fun l => xj rfl fun i _ => h2 _
 have h10 : ∀ o : OpM, jq o o = true := fun o => by simp [jq, h2, h3, h4, h8, h9, z0v]
 simp [h1, h2, h6, h7, h10]
theorem zhx (l : List EventM) : qf x7 l l = true := xj rfl fun i _ => zm9 _
theorem Xr (G) (l : List EventM) (ha : l.length ≤ 1000) (h : ∀ e ∈ l, OkEv e) : zl Tryz.prog G 16 [zz l, zz l] [bD true] := by
 have := zhw G l l ha h
 rwa [zhx] at this
theorem zi1 {L : List EventM} {p : EventM → Prop} (h : ∀ e ∈ L, p e) : ∀ e ∈ qv L, p e := fun e he => h e ((va L).subset he)
theorem zmd (L : List EventM) : (qv L).length = L.length := (va L).length_eq
theorem zdo (G) (p : Nat) (hp : p ≤ 1000) (L : List EventM) (hT : TakenL p L) (hL : ∀ e ∈ L, ju e) (h20 : L.length < 20) : GivesX Tryz.prog G 17 [.ptr 1000 2 0 0] (arO p L) [.dat (zz (qv L))] (arO p L) := by
 have := zgm G p hp L hL (by omega) (by rw [zkq hT]; exact h20)
 rwa [zrm hT] at this
def zto : EventM := ⟨1, 0, 0, 1, [], z03, Xv, idZ, [], 0⟩
def ztp : EventM := ⟨0, 0, 0, 5, [⟨1, 0⟩], z03, Xv, idZ, [], 0⟩
def ztq : EventM := ⟨0, 0, 0, 5, [⟨1, 1⟩], z03, Xv, idZ, [], 0⟩
def y4 : EventM := ⟨1, 0, 1, 1, [], z03, Xv, idZ, [], 0⟩
def Qu : EventM := ⟨0, 0, 2, 5, [⟨1, 0⟩], z03, Xv, idZ, [], 0⟩
def ztr : EventM := ⟨1, 0, 9, 1, [], z03, Xv, idZ, [], 0⟩
def lvL : List EventM := [y4, Qu]
def lvS (e : EventM) : List Int := z0x [e]
def lvZ : List (Int × List Int) := [(0, List.replicate 16 0), (0, List.replicate 16 0)]
def lvH : List (Int × List Int) := [(1, lvS Qu), (1, lvS y4)]
theorem zy3 : ww 2 [] zto = ([y4], y4, 0) := by kernel_rfl
theorem zy4 : ww 2 [y4] ztp = (lvL, Qu, 0) := by kernel_rfl
theorem zy5 : ww 2 lvL ztq = (lvL, default, 10) := by kernel_rfl
theorem zyb : qk 2 [] [Qu, y4] 0 = ([], 0, 10) := by kernel_rfl
theorem zyc : qk 2 [] [y4, Qu] 0 = (lvL, 2, 0) := by kernel_rfl
theorem zyd : qk 2 lvL [ztr] 0 = (lvL, 0, 7) := by kernel_rfl
theorem zpv : TakenL 2 lvL := .snoc (L := [y4]) (.snoc (L := []) .nil (by kernel_rfl)) (by kernel_rfl)
theorem zts : qv lvL = lvL := by kernel_rfl
theorem zea : j5 lvL 2 = lvH := by kernel_rfl
theorem ztt : z0z 2 lvL lvZ = (lvL, 0) := by kernel_rfl
theorem zpm : Qc [y4] (1, lvS y4) 1 = 0 := by
 have h : zd7 [y4] (1, lvS y4) = false := by
  unfold zd7 lvS
  generalize z0x [y4] = s
  simp
 unfold Qc
 rw [if_neg (by decide +kernel), if_neg (by decide +kernel), if_neg (by rw [h]; simp)]
theorem zws : clkN lvL 2 = 2 := by kernel_rfl
theorem zec : I64 0 := by unfold I64; omega
theorem zy9 : OkOp z03 := okDef.op
theorem za0 (b s t k : Int) (r : List NameM) (h1 : 0 ≤ b ∧ b ≤ 9) (h2 : 0 ≤ s ∧ s ≤ 9) (h3 : 0 ≤ t ∧ t ≤ 9) (h4 : 0 ≤ k ∧ k ≤ 9) (h5 : ∀ x ∈ r, I64 x.By ∧ I64 x.Seq) (h6 : r.length ≤ 9) : OkEv ⟨b, s, t, k, r, z03, Xv, idZ, [], 0⟩ where
 by_ := xi (by show _ ≤ b; omega) (by show b ≤ _; omega)
 seq := xi (by show _ ≤ s; omega) (by show s ≤ _; omega)
 tick := xi (by show _ ≤ t; omega) (by show t ≤ _; omega)
 kind := xi (by show _ ≤ k; omega) (by show k ≤ _; omega)
 n := zec
 id := ⟨zec, zec, zec⟩
 tk := zec
 tl := zec
 refs := h5
 nrefs := by show r.length ≤ _; omega
 op := zy9
 name := by show (0 : Nat) ≤ _; omega
 see := by show (0 : Nat) ≤ _; omega
 broader := fun s hs => by cases hs
 nbroader := Nat.zero_le _
 posts := fun p hp => by cases hp
 nposts := Nat.zero_le _
theorem zy6 : OkEv zto := za0 _ _ _ _ _ (by omega) (by omega) (by omega) (by omega) (by simp) (by simp)
theorem zh8 (n : Int) (h : 0 ≤ n ∧ n ≤ 9) : ∀ x ∈ [(⟨1, n⟩ : NameM)], I64 x.By ∧ I64 x.Seq := fun x hx => by
 obtain rfl := List.mem_singleton.1 hx
 exact ⟨xi (by show _ ≤ (1 : Int); omega) (by show (1 : Int) ≤ _; omega), xi (by show _ ≤ n; omega) (by show n ≤ _; omega)⟩
theorem zy7 : OkEv ztp := za0 _ _ _ _ _ (by omega) (by omega) (by omega) (by omega) (zh8 0 (by omega)) (by simp)
theorem zy8 : OkEv ztq := za0 _ _ _ _ _ (by omega) (by omega) (by omega) (by omega) (zh8 1 (by omega)) (by simp)
theorem zj9 : OkEv y4 := za0 _ _ _ _ _ (by omega) (by omega) (by omega) (by omega) (by simp) (by simp)
theorem zpr : OkEv Qu := za0 _ _ _ _ _ (by omega) (by omega) (by omega) (by omega) (zh8 0 (by omega)) (by simp)
theorem zya : OkEv ztr := za0 _ _ _ _ _ (by omega) (by omega) (by omega) (by omega) (by simp) (by simp)
theorem zvk : ju y4 := ⟨zj9, by decide +kernel⟩
theorem zy2 : ju Qu := ⟨zpr, by decide +kernel⟩
theorem z75 : ∀ e ∈ lvL, ju e := fun e he => by
 simp only [lvL, List.mem_cons, List.not_mem_nil, or_false] at he
 rcases he with rfl | rfl
 ·exact zvk
 ·exact zy2
theorem zbt : ∀ e ∈ lvL, OkEv e := fun e he => (z75 e he).1
theorem zh9 (e : EventM) : (lvS e).length = 16 := Qr _ _
theorem zpo (G) : GivesX Tryz.prog G 35 [.ptr 1000 2 0 0, .dat (zc zto)] (arO 2 []) [.dat (zc y4), .dat (iD 0)] (arO 2 [y4]) := by
 have := z76 G 2 (by decide) [] (by simp) (by simp) zto zy6 (by decide +kernel)
 rwa [zy3] at this
theorem zpp (G) : GivesX Tryz.prog G 35 [.ptr 1000 2 0 0, .dat (zc ztp)] (arO 2 [y4]) [.dat (zc Qu), .dat (iD 0)] (arO 2 lvL) := by
 have := z76 G 2 (by decide) [y4] (fun e he => by obtain rfl := List.mem_singleton.1 he; exact zj9) (by simp) ztp zy7 (by decide +kernel)
 rwa [zy4] at this
theorem zpq (G) : GivesX Tryz.prog G 35 [.ptr 1000 2 0 0, .dat (zc ztq)] (arO 2 lvL) [.dat (zc default), .dat (iD 10)] (arO 2 lvL) := by
 have := z76 G 2 (by decide) lvL zbt (by decide) ztq zy8 (by decide +kernel)
 rwa [zy5] at this
theorem zeb (G) (g1 : G.lookup 1 = some (wsD kH)) : GivesX Tryz.prog G 14 [.ptr 1000 2 0 0] (arO 2 lvL) [.dat (y3 [(1, lvS Qu), (1, lvS y4)])] (arO 2 lvL) := by
 have := z9u G g1 2 (by decide) lvL z75 (by decide)
 rwa [zea] at this
theorem z30 (G) (g1 : G.lookup 1 = some (wsD kH)) : GivesX Tryz.prog G 20 [.ptr 1000 2 0 0] (arO 2 lvL) [.dat (y3 [(1, lvS Qu), (1, lvS y4)])] (arO 2 lvL) := by
 have := zh3 G g1 2 (by decide) lvL z75 (by decide)
 rwa [zea] at this
theorem zl7 (G) : GivesX Tryz.prog G 17 [.ptr 1000 2 0 0] (arO 2 lvL) [.dat (zz [y4, Qu])] (arO 2 lvL) := by
 have := zdo G 2 (by decide) lvL zpv z75 (by decide)
 rwa [zts] at this
theorem zha (G) (g1 : G.lookup 1 = some (wsD kH)) : GivesX Tryz.prog G 13 [.ptr 1000 2 0 0, .dat (y3 lvZ)] (arO 2 lvL) [.dat (zz [y4, Qu]), .dat (iD 0)] (arO 2 lvL) := by
 have := zs3 G g1 2 (by decide) lvL z75 (by decide) (by decide +kernel) (by decide +kernel) lvZ (by decide +kernel) (by decide +kernel)
 rwa [ztt] at this
theorem zps (G) : GivesX Tryz.prog G 15 [.ptr 1000 2 0 0, .dat (zz [Qu, y4])] (arO 2 []) [.dat (iD 0), .dat (iD 10)] (arO 2 []) := by
 have := z1k G 2 (by decide) [] [Qu, y4] (by simp) (by simp [zj9, zpr]) (by simp)
 rwa [zyb] at this
theorem zpt (G) : GivesX Tryz.prog G 15 [.ptr 1000 2 0 0, .dat (zz [y4, Qu])] (arO 2 []) [.dat (iD 2), .dat (iD 0)] (arO 2 lvL) := by
 have := z1k G 2 (by decide) [] [y4, Qu] (by simp) (by simp [zj9, zpr]) (by simp)
 rwa [zyc] at this
theorem zpu (G) : GivesX Tryz.prog G 15 [.ptr 1000 2 0 0, .dat (zz [ztr])] (arO 2 lvL) [.dat (iD 0), .dat (iD 7)] (arO 2 lvL) := by
 have := z1k G 2 (by decide) lvL [ztr] zbt (by simp [zya]) (by decide)
 rwa [zyd] at this
theorem zpn (G) : GivesX Tryz.prog G 43 [.ptr 1000 2 0 0] (arO 2 lvL) [.dat (iD 2)] (arO 2 lvL) := by
 have := z96 G 2 (by decide) lvL (by decide)
 rwa [zws] at this
theorem ze9 (G) (g1 : G.lookup 1 = some (wsD kH)) : zl Tryz.prog G 23 [zz [y4], Z1 (1, lvS y4), iD 1] [iD 0] := by
 have := zns G g1 [y4] (by simp [zvk]) (by simp) (1, lvS y4) (zh9 _) 1
 rwa [zpm] at this
set_option maxRecDepth 100000 in
set_option maxHeartbeats 4000000 in
theorem zpj (G) (g1 : G.lookup 1 = some (wsD kH)) : zl Tryz.prog G 21 [] [bD true] := by
 have h1 := zh9 y4
 have h2 := zh9 Qu
 skip
 skip
 skip
 refine GI [] [25, 37, 45, 53, 57, 59, 63, 67, 112, 118, 127] [] Tryz.func21 Tryz.ntmps21 fun F hP hG hN hR hA => ?_
 have hE := And.intro @Tryz.results21 (And.intro @z7l (And.intro @h1 (And.intro @h2 (And.intro @Xm (And.intro @jn (@Zc))))))
 refine WS [] [24, 26, 27, 66, 68, 69] ?_
 apply zm [1, 2] [24, 26, 27, 66, 68, 69]
 ·refine RN ?_
  refine CX (fun i => if i = 14 then 24 else if i = 11 then 26 else 27) [14, 11, 12] (zbw G 2 (by decide) (by decide)) ?_
  exact SC
 apply z3
 refine WS [1, 33] [24, 26, 27, 66, 68, 69] ?_
 refine WI ?_ ?_ <;> intro hb
 ·exact absurd hb (by simp)
 ·apply z6
  apply z5
  refine wp ?_
  apply wz
  ·(iterate 2 apply Seg.cons); exact Seg.nil _
  ·refine RK ?_
   exact SC
  refine zb9 36 rfl rfl ?_
  apply wg [1, 3, 4] [3, 24, 26, 27, 66, 68, 69]
  ·refine RN ?_
   refine CX (fun i => if i = 1000 then 24 else if i = 1001 then 26 else 27) [] (zpo G) ?_
   exact SC
  refine wp ?_
  apply wz
  ·(iterate 4 apply Seg.cons); exact Seg.nil _
  ·refine RK ?_
   exact SC
  refine zb9 44 rfl rfl ?_
  apply wg [1, 3, 4, 5, 6] [3, 5, 24, 26, 27, 66, 68, 69]
  ·refine RN ?_
   refine CX (fun i => if i = 1000 then 24 else if i = 1001 then 26 else 27) [] (zpp G) ?_
   exact SC
  refine wp ?_
  apply wz
  ·(iterate 4 apply Seg.cons); exact Seg.nil _
  ·refine RK ?_
   exact SC
  refine zb9 52 rfl rfl ?_
  apply wg [1, 3, 4, 5, 6, 8] [3, 5, 24, 26, 27, 66, 68, 69]
  ·refine RN ?_
   refine CX (fun i => if i = 1000 then 24 else if i = 1001 then 26 else 27) [] (zpq G) ?_
   exact SC
  apply zm [1, 3, 4, 5, 6, 8, 9] [3, 5, 24, 26, 27, 66, 68, 69]
  ·refine RN ?_
   refine CX (fun i => if i = 1000 then 24 else if i = 1001 then 26 else 27) [] (zeb G g1) ?_
   exact SC
  apply zm [1, 3, 4, 5, 6, 8, 9, 10] [3, 5, 24, 26, 27, 66, 68, 69]
  ·refine RN ?_
   refine CX (fun i => if i = 1000 then 24 else if i = 1001 then 26 else 27) [] (zl7 G) ?_
   exact SC
  refine wp ?_
  apply wz
  ·(iterate 2 apply Seg.cons); exact Seg.nil _
  ·refine RK ?_
   exact SC
  refine zvv 62 hR.2.2.2 rfl rfl ?_
  apply wg [1, 3, 4, 5, 6, 8, 9, 10, 11, 12] [3, 5, 24, 26, 27, 66, 68, 69]
  ·refine RN ?_
   refine CX (fun i => if i = 1000 then 24 else if i = 1001 then 26 else 27) [] (zha G g1) ?_
   exact SC
  apply zm [1, 3, 4, 5, 6, 8, 9, 10, 11, 12, 13, 14] [3, 5, 24, 26, 27, 66, 68, 69]
  ·refine RN ?_
   refine CX (fun i => if i = 14 then 66 else if i = 11 then 68 else 69) [14, 11, 12] (zbw G 2 (by decide) (by decide)) ?_
   exact SC
  apply z3
  refine WS [1, 3, 5, 9, 10, 11, 13, 106] [3, 5, 24, 26, 27, 66, 68, 69] ?_
  refine WI ?_ ?_ <;> intro hb
  ·exact absurd hb (by simp)
  ·apply z6
   apply z5
   apply zm [1, 3, 5, 9, 10, 11, 13, 15, 16] [3, 5, 24, 26, 27, 66, 68, 69]
   ·refine RN ?_
    refine CX (fun i => if i = 1000 then 66 else if i = 1001 then 68 else 69) [] (zps G) ?_
    exact SC
   apply zm [1, 3, 5, 9, 10, 11, 13, 15, 16, 17, 18] [3, 5, 24, 26, 27, 66, 68, 69]
   ·refine RN ?_
    refine CX (fun i => if i = 1000 then 66 else if i = 1001 then 68 else 69) [] (zpt G) ?_
    exact SC
   refine WS [1, 3, 5, 9, 10, 11, 13, 15, 16, 17, 18, 19] [3, 5, 19, 24, 26, 27, 66, 68, 69] ?_
   refine WS [1, 3, 5, 9, 10, 11, 13, 15, 16, 17, 18, 19] [3, 5, 19, 24, 26, 27, 66, 68, 69] ?_
   apply zm [1, 3, 5, 9, 10, 11, 13, 15, 16, 17, 18, 20, 21] [3, 5, 24, 26, 27, 66, 68, 69]
   ·refine RN ?_
    refine CX (fun i => if i = 1000 then 66 else if i = 1001 then 68 else 69) [] (zpu G) ?_
    exact SC
   refine WSF [1, 3, 5, 9, 10, 11, 13, 15, 16, 17, 18, 20, 21, 22] [3, 5, 24, 26, 27, 66, 68, 69] [(0, 130, _), (1, 131, _), (2, 132, _), (3, 133, _), (4, 134, _), (5, 135, _), (6, 136, _), (7, 137, _), (8, 138, _), (9, 139, _), (10, 140, _), (11, 141, _), (12, 142, _), (13, 143, _), (14, 144, _), (15, 145, _), (16, 146, _), (17, 147, _), (18, 148, _), (19, 149, _), (20, 150, _), (21, 151, _), (22, 152, _), (23, 153, _), (24, 154, _), (25, 155, _), (26, 156, _), (27, 157, _), (28, 158, _), (29, 159, _), (30, 160, _), (31, 161, _), (32, 162, _), (33, 163, _), (34, 164, .dat (iD 2)), (35, 165, _), (36, 166, _), (37, 22, .dat (bD true))] [] ⟨FV 0 [] [1, 2, 3, 4, 5, 6, 7, 8, 9, 10, 11, 12, 13, 14, 15, 16, 17, 18, 19, 20, 21, 22, 23, 24, 25, 26, 27, 28, 29, 30, 31, 32, 33, 34, 35, 36, 37], FV 1 [0] [2, 3, 4, 5, 6, 7, 8, 9, 10, 11, 12, 13, 14, 15, 16, 17, 18, 19, 20, 21, 22, 23, 24, 25, 26, 27, 28, 29, 30, 31, 32, 33, 34, 35, 36, 37], FV 2 [0, 1] [3, 4, 5, 6, 7, 8, 9, 10, 11, 12, 13, 14, 15, 16, 17, 18, 19, 20, 21, 22, 23, 24, 25, 26, 27, 28, 29, 30, 31, 32, 33, 34, 35, 36, 37], FV 3 [0, 1, 2] [4, 5, 6, 7, 8, 9, 10, 11, 12, 13, 14, 15, 16, 17, 18, 19, 20, 21, 22, 23, 24, 25, 26, 27, 28, 29, 30, 31, 32, 33, 34, 35, 36, 37], FG 4 [0, 1, 2, 3] [5, 6, 7, 8, 9, 10, 11, 12, 13, 14, 15, 16, 17, 18, 19, 20, 21, 22, 23, 24, 25, 26, 27, 28, 29, 30, 31, 32, 33, 34, 35, 36, 37], FG 5 [0, 1, 2, 3, 4] [6, 7, 8, 9, 10, 11, 12, 13, 14, 15, 16, 17, 18, 19, 20, 21, 22, 23, 24, 25, 26, 27, 28, 29, 30, 31, 32, 33, 34, 35, 36, 37], FG 6 [0, 1, 2, 3, 4, 5] [7, 8, 9, 10, 11, 12, 13, 14, 15, 16, 17, 18, 19, 20, 21, 22, 23, 24, 25, 26, 27, 28, 29, 30, 31, 32, 33, 34, 35, 36, 37], FV 7 [0, 1, 2, 3, 4, 5, 6] [8, 9, 10, 11, 12, 13, 14, 15, 16, 17, 18, 19, 20, 21, 22, 23, 24, 25, 26, 27, 28, 29, 30, 31, 32, 33, 34, 35, 36, 37], FV 8 [0, 1, 2, 3, 4, 5, 6, 7] [9, 10, 11, 12, 13, 14, 15, 16, 17, 18, 19, 20, 21, 22, 23, 24, 25, 26, 27, 28, 29, 30, 31, 32, 33, 34, 35, 36, 37], FG 9 [0, 1, 2, 3, 4, 5, 6, 7, 8] [10, 11, 12, 13, 14, 15, 16, 17, 18, 19, 20, 21, 22, 23, 24, 25, 26, 27, 28, 29, 30, 31, 32, 33, 34, 35, 36, 37], FG 10 [0, 1, 2, 3, 4, 5, 6, 7, 8, 9] [11, 12, 13, 14, 15, 16, 17, 18, 19, 20, 21, 22, 23, 24, 25, 26, 27, 28, 29, 30, 31, 32, 33, 34, 35, 36, 37], FG 11 [0, 1, 2, 3, 4, 5, 6, 7, 8, 9, 10] [12, 13, 14, 15, 16, 17, 18, 19, 20, 21, 22, 23, 24, 25, 26, 27, 28, 29, 30, 31, 32, 33, 34, 35, 36, 37], FV 12 [0, 1, 2, 3, 4, 5, 6, 7, 8, 9, 10, 11] [13, 14, 15, 16, 17, 18, 19, 20, 21, 22, 23, 24, 25, 26, 27, 28, 29, 30, 31, 32, 33, 34, 35, 36, 37], FV 13 [0, 1, 2, 3, 4, 5, 6, 7, 8, 9, 10, 11, 12] [14, 15, 16, 17, 18, 19, 20, 21, 22, 23, 24, 25, 26, 27, 28, 29, 30, 31, 32, 33, 34, 35, 36, 37], FG 14 [0, 1, 2, 3, 4, 5, 6, 7, 8, 9, 10, 11, 12, 13] [15, 16, 17, 18, 19, 20, 21, 22, 23, 24, 25, 26, 27, 28, 29, 30, 31, 32, 33, 34, 35, 36, 37], FG 15 [0, 1, 2, 3, 4, 5, 6, 7, 8, 9, 10, 11, 12, 13, 14] [16, 17, 18, 19, 20, 21, 22, 23, 24, 25, 26, 27, 28, 29, 30, 31, 32, 33, 34, 35, 36, 37], FG 16 [0, 1, 2, 3, 4, 5, 6, 7, 8, 9, 10, 11, 12, 13, 14, 15] [17, 18, 19, 20, 21, 22, 23, 24, 25, 26, 27, 28, 29, 30, 31, 32, 33, 34, 35, 36, 37], FV 17 [0, 1, 2, 3, 4, 5, 6, 7, 8, 9, 10, 11, 12, 13, 14, 15, 16] [18, 19, 20, 21, 22, 23, 24, 25, 26, 27, 28, 29, 30, 31, 32, 33, 34, 35, 36, 37], FV 18 [0, 1, 2, 3, 4, 5, 6, 7, 8, 9, 10, 11, 12, 13, 14, 15, 16, 17] [19, 20, 21, 22, 23, 24, 25, 26, 27, 28, 29, 30, 31, 32, 33, 34, 35, 36, 37], FG 19 [0, 1, 2, 3, 4, 5, 6, 7, 8, 9, 10, 11, 12, 13, 14, 15, 16, 17, 18] [20, 21, 22, 23, 24, 25, 26, 27, 28, 29, 30, 31, 32, 33, 34, 35, 36, 37], FG 20 [0, 1, 2, 3, 4, 5, 6, 7, 8, 9, 10, 11, 12, 13, 14, 15, 16, 17, 18, 19] [21, 22, 23, 24, 25, 26, 27, 28, 29, 30, 31, 32, 33, 34, 35, 36, 37], FG 21 [0, 1, 2, 3, 4, 5, 6, 7, 8, 9, 10, 11, 12, 13, 14, 15, 16, 17, 18, 19, 20] [22, 23, 24, 25, 26, 27, 28, 29, 30, 31, 32, 33, 34, 35, 36, 37], FG 22 [0, 1, 2, 3, 4, 5, 6, 7, 8, 9, 10, 11, 12, 13, 14, 15, 16, 17, 18, 19, 20, 21] [23, 24, 25, 26, 27, 28, 29, 30, 31, 32, 33, 34, 35, 36, 37], FG 23 [0, 1, 2, 3, 4, 5, 6, 7, 8, 9, 10, 11, 12, 13, 14, 15, 16, 17, 18, 19, 20, 21, 22] [24, 25, 26, 27, 28, 29, 30, 31, 32, 33, 34, 35, 36, 37], FV 24 [0, 1, 2, 3, 4, 5, 6, 7, 8, 9, 10, 11, 12, 13, 14, 15, 16, 17, 18, 19, 20, 21, 22, 23] [25, 26, 27, 28, 29, 30, 31, 32, 33, 34, 35, 36, 37], FV 25 [0, 1, 2, 3, 4, 5, 6, 7, 8, 9, 10, 11, 12, 13, 14, 15, 16, 17, 18, 19, 20, 21, 22, 23, 24] [26, 27, 28, 29, 30, 31, 32, 33, 34, 35, 36, 37], FG 26 [0, 1, 2, 3, 4, 5, 6, 7, 8, 9, 10, 11, 12, 13, 14, 15, 16, 17, 18, 19, 20, 21, 22, 23, 24, 25] [27, 28, 29, 30, 31, 32, 33, 34, 35, 36, 37], FG 27 [0, 1, 2, 3, 4, 5, 6, 7, 8, 9, 10, 11, 12, 13, 14, 15, 16, 17, 18, 19, 20, 21, 22, 23, 24, 25, 26] [28, 29, 30, 31, 32, 33, 34, 35, 36, 37], FG 28 [0, 1, 2, 3, 4, 5, 6, 7, 8, 9, 10, 11, 12, 13, 14, 15, 16, 17, 18, 19, 20, 21, 22, 23, 24, 25, 26, 27] [29, 30, 31, 32, 33, 34, 35, 36, 37], FG 29 [0, 1, 2, 3, 4, 5, 6, 7, 8, 9, 10, 11, 12, 13, 14, 15, 16, 17, 18, 19, 20, 21, 22, 23, 24, 25, 26, 27, 28] [30, 31, 32, 33, 34, 35, 36, 37], FG 30 [0, 1, 2, 3, 4, 5, 6, 7, 8, 9, 10, 11, 12, 13, 14, 15, 16, 17, 18, 19, 20, 21, 22, 23, 24, 25, 26, 27, 28, 29] [31, 32, 33, 34, 35, 36, 37], FV 31 [0, 1, 2, 3, 4, 5, 6, 7, 8, 9, 10, 11, 12, 13, 14, 15, 16, 17, 18, 19, 20, 21, 22, 23, 24, 25, 26, 27, 28, 29, 30] [32, 33, 34, 35, 36, 37], FV 32 [0, 1, 2, 3, 4, 5, 6, 7, 8, 9, 10, 11, 12, 13, 14, 15, 16, 17, 18, 19, 20, 21, 22, 23, 24, 25, 26, 27, 28, 29, 30, 31] [33, 34, 35, 36, 37], FG 33 [0, 1, 2, 3, 4, 5, 6, 7, 8, 9, 10, 11, 12, 13, 14, 15, 16, 17, 18, 19, 20, 21, 22, 23, 24, 25, 26, 27, 28, 29, 30, 31, 32] [34, 35, 36, 37], (FGs 34 [0, 1, 2, 3, 4, 5, 6, 7, 8, 9, 10, 11, 12, 13, 14, 15, 16, 17, 18, 19, 20, 21, 22, 23, 24, 25, 26, 27, 28, 29, 30, 31, 32, 33] [35, 36, 37] (fun D hA1 hA2 => by simp only [x8, NoD] at hA1 hA2; exact v9 (m := fun i => if i = 1000 then 24 else if i = 1001 then 26 else 27) rfl rfl (by rw [hN]; omega) EV' (z5k hP hG (zpn G)) EX' (vw hN EL' (by rfl)))), FG 35 [0, 1, 2, 3, 4, 5, 6, 7, 8, 9, 10, 11, 12, 13, 14, 15, 16, 17, 18, 19, 20, 21, 22, 23, 24, 25, 26, 27, 28, 29, 30, 31, 32, 33, 34] [36, 37], FV 36 [0, 1, 2, 3, 4, 5, 6, 7, 8, 9, 10, 11, 12, 13, 14, 15, 16, 17, 18, 19, 20, 21, 22, 23, 24, 25, 26, 27, 28, 29, 30, 31, 32, 33, 34, 35] [37], FV 37 [0, 1, 2, 3, 4, 5, 6, 7, 8, 9, 10, 11, 12, 13, 14, 15, 16, 17, 18, 19, 20, 21, 22, 23, 24, 25, 26, 27, 28, 29, 30, 31, 32, 33, 34, 35, 36] [], trivial⟩ ?_
   refine WSF [3, 9, 15, 16, 17, 18, 20, 21, 22, 23] [3, 24, 26, 27, 66, 68, 69] [(0, 167, _), (1, 168, _), (2, 169, _), (3, 170, _), (4, 171, .dat (bD true)), (5, 172, _), (6, 173, _), (7, 174, _), (8, 175, .dat (bD true)), (9, 176, _), (10, 177, _), (11, 178, _), (12, 179, .dat (y3 [(1, lvS Qu), (1, lvS y4)])), (13, 180, _), (14, 181, .dat (y3 [(1, lvS Qu), (1, lvS y4)])), (15, 182, .dat (bD true)), (16, 183, _), (17, 23, .dat (bD true))] [] ⟨FV 0 [] [4, 5, 6, 7, 8, 9, 10, 11, 12, 13, 14, 15, 16, 17], FV 1 [] [3, 4, 5, 6, 7, 8, 9, 10, 11, 12, 13, 14, 15, 16, 17], FV 2 [] [3, 4, 5, 6, 7, 8, 9, 10, 11, 12, 13, 14, 15, 16, 17], FV 3 [1, 2] [4, 5, 6, 7, 8, 9, 10, 11, 12, 13, 14, 15, 16, 17], (by have hc := gvF hP hG (Xr G [y4, Qu] (by decide) zbt); exact FVc 4 [0, 1, 2, 3] [5, 6, 7, 8, 9, 10, 11, 12, 13, 14, 15, 16, 17]), FV 5 [0, 1, 2, 3, 4] [6, 7, 8, 9, 10, 11, 12, 13, 14, 15, 16, 17], FG 6 [0, 1, 2, 3, 4, 5] [8, 9, 10, 11, 12, 13, 14, 15, 16, 17], FG 7 [0, 1, 2, 3, 4, 5] [8, 9, 10, 11, 12, 13, 14, 15, 16, 17], (by have hc := gvF hP hG (Xr G [y4, Qu] (by decide) zbt); exact FGc 8 [0, 1, 2, 3, 4, 5, 6, 7] [9, 10, 11, 12, 13, 14, 15, 16, 17]), FV 9 [0, 1, 2, 3, 4, 5, 6, 7, 8] [10, 11, 12, 13, 14, 15, 16, 17], FV 10 [0, 1, 2, 3, 4, 5, 6, 7, 8, 9] [11, 12, 13, 14, 15, 16, 17], FG 11 [0, 1, 2, 3, 4, 5, 6, 7, 8, 9, 10] [12, 14, 15, 16, 17], (FGs 12 [0, 1, 2, 3, 4, 5, 6, 7, 8, 9, 10, 11] [14, 15, 16, 17] (fun D hA1 hA2 => by simp only [x8, NoD] at hA1 hA2; exact v9 (m := fun i => if i = 1000 then 66 else if i = 1001 then 68 else 69) rfl rfl (by rw [hN]; omega) EV' (z5k hP hG (z30 G g1)) EX' (vw hN EL' (by rfl)))), FG 13 [0, 1, 2, 3, 4, 5, 6, 7, 8, 9, 10] [14, 15, 16, 17], (FGs 14 [0, 1, 2, 3, 4, 5, 6, 7, 8, 9, 10, 11, 12, 13] [15, 16, 17] (fun D hA1 hA2 => by simp only [x8, NoD] at hA1 hA2; exact v9 (m := fun i => if i = 1000 then 24 else if i = 1001 then 26 else 27) rfl rfl (by rw [hN]; omega) EV' (z5k hP hG (z30 G g1)) EX' (vw hN EL' (by rfl)))), (by have hc := gvF hP hG (zou G [(1, lvS Qu), (1, lvS y4)] (by simp) (by simp [h1, h2])); exact FGc 15 [0, 1, 2, 3, 4, 5, 6, 7, 8, 9, 10, 11, 12, 13, 14] [16, 17]), FV 16 [0, 1, 2, 3, 4, 5, 6, 7, 8, 9, 10, 11, 12, 13, 14, 15] [17], FV 17 [0, 1, 2, 3, 4, 5, 6, 7, 8, 9, 10, 11, 12, 13, 14, 15, 16] [], trivial⟩ ?_
   refine WDF [0] [24, 26, 27, 66, 68, 69] [(0, 184, _), (1, 185, _), (2, 186, _), (3, 187, _), (4, 188, _), (5, 189, _), (6, 190, _), (7, 191, _), (8, 192, _), (9, 193, _), (10, 194, _), (11, 195, _), (12, 196, _), (13, 197, _), (14, 198, _), (15, 199, _), (16, 200, _), (17, 201, _), (18, 202, _), (19, 203, _), (20, 204, _), (21, 205, _), (22, 206, _), (23, 207, _), (24, 208, _), (25, 209, _), (26, 210, _), (27, 211, _), (28, 212, _), (29, 213, _), (30, 214, _), (31, 215, _), (32, 216, _), (33, 217, _), (34, 218, .dat (iD 0)), (35, 219, _), (36, 220, _), (37, 0, .dat (bD true))] [] ⟨FV 0 [] [1, 2, 3, 4, 5, 6, 7, 8, 9, 10, 11, 12, 13, 14, 15, 16, 17, 18, 19, 20, 21, 22, 23, 24, 25, 26, 27, 28, 29, 30, 31, 32, 33, 34, 35, 36, 37], FV 1 [0] [2, 3, 4, 5, 6, 7, 8, 9, 10, 11, 12, 13, 14, 15, 16, 17, 18, 19, 20, 21, 22, 23, 24, 25, 26, 27, 28, 29, 30, 31, 32, 33, 34, 35, 36, 37], FG 2 [0, 1] [3, 4, 5, 6, 7, 8, 9, 10, 11, 12, 13, 14, 15, 16, 17, 18, 19, 20, 21, 22, 23, 24, 25, 26, 27, 28, 29, 30, 31, 32, 33, 34, 35, 36, 37], FV 3 [0, 1, 2] [4, 5, 6, 7, 8, 9, 10, 11, 12, 13, 14, 15, 16, 17, 18, 19, 20, 21, 22, 23, 24, 25, 26, 27, 28, 29, 30, 31, 32, 33, 34, 35, 36, 37], FV 4 [0, 1, 2, 3] [5, 6, 7, 8, 9, 10, 11, 12, 13, 14, 15, 16, 17, 18, 19, 20, 21, 22, 23, 24, 25, 26, 27, 28, 29, 30, 31, 32, 33, 34, 35, 36, 37], FG 5 [0, 1, 2, 3, 4] [6, 7, 8, 9, 10, 11, 12, 13, 14, 15, 16, 17, 18, 19, 20, 21, 22, 23, 24, 25, 26, 27, 28, 29, 30, 31, 32, 33, 34, 35, 36, 37], FG 6 [0, 1, 2, 3, 4, 5] [7, 8, 9, 10, 11, 12, 13, 14, 15, 16, 17, 18, 19, 20, 21, 22, 23, 24, 25, 26, 27, 28, 29, 30, 31, 32, 33, 34, 35, 36, 37], FV 7 [0, 1, 2, 3, 4, 5, 6] [8, 9, 10, 11, 12, 13, 14, 15, 16, 17, 18, 19, 20, 21, 22, 23, 24, 25, 26, 27, 28, 29, 30, 31, 32, 33, 34, 35, 36, 37], FV 8 [0, 1, 2, 3, 4, 5, 6, 7] [9, 10, 11, 12, 13, 14, 15, 16, 17, 18, 19, 20, 21, 22, 23, 24, 25, 26, 27, 28, 29, 30, 31, 32, 33, 34, 35, 36, 37], FG 9 [0, 1, 2, 3, 4, 5, 6, 7, 8] [10, 11, 12, 13, 14, 15, 16, 17, 18, 19, 20, 21, 22, 23, 24, 25, 26, 27, 28, 29, 30, 31, 32, 33, 34, 35, 36, 37], FG 10 [0, 1, 2, 3, 4, 5, 6, 7, 8, 9] [11, 12, 13, 14, 15, 16, 17, 18, 19, 20, 21, 22, 23, 24, 25, 26, 27, 28, 29, 30, 31, 32, 33, 34, 35, 36, 37], FV 11 [0, 1, 2, 3, 4, 5, 6, 7, 8, 9, 10] [12, 13, 14, 15, 16, 17, 18, 19, 20, 21, 22, 23, 24, 25, 26, 27, 28, 29, 30, 31, 32, 33, 34, 35, 36, 37], FV 12 [0, 1, 2, 3, 4, 5, 6, 7, 8, 9, 10, 11] [13, 14, 15, 16, 17, 18, 19, 20, 21, 22, 23, 24, 25, 26, 27, 28, 29, 30, 31, 32, 33, 34, 35, 36, 37], FG 13 [0, 1, 2, 3, 4, 5, 6, 7, 8, 9, 10, 11, 12] [14, 15, 16, 17, 18, 19, 20, 21, 22, 23, 24, 25, 26, 27, 28, 29, 30, 31, 32, 33, 34, 35, 36, 37], FG 14 [0, 1, 2, 3, 4, 5, 6, 7, 8, 9, 10, 11, 12, 13] [15, 16, 17, 18, 19, 20, 21, 22, 23, 24, 25, 26, 27, 28, 29, 30, 31, 32, 33, 34, 35, 36, 37], FV 15 [0, 1, 2, 3, 4, 5, 6, 7, 8, 9, 10, 11, 12, 13, 14] [16, 17, 18, 19, 20, 21, 22, 23, 24, 25, 26, 27, 28, 29, 30, 31, 32, 33, 34, 35, 36, 37], FV 16 [0, 1, 2, 3, 4, 5, 6, 7, 8, 9, 10, 11, 12, 13, 14, 15] [17, 18, 19, 20, 21, 22, 23, 24, 25, 26, 27, 28, 29, 30, 31, 32, 33, 34, 35, 36, 37], FG 17 [0, 1, 2, 3, 4, 5, 6, 7, 8, 9, 10, 11, 12, 13, 14, 15, 16] [18, 19, 20, 21, 22, 23, 24, 25, 26, 27, 28, 29, 30, 31, 32, 33, 34, 35, 36, 37], FG 18 [0, 1, 2, 3, 4, 5, 6, 7, 8, 9, 10, 11, 12, 13, 14, 15, 16, 17] [19, 20, 21, 22, 23, 24, 25, 26, 27, 28, 29, 30, 31, 32, 33, 34, 35, 36, 37], FV 19 [0, 1, 2, 3, 4, 5, 6, 7, 8, 9, 10, 11, 12, 13, 14, 15, 16, 17, 18] [20, 21, 22, 23, 24, 25, 26, 27, 28, 29, 30, 31, 32, 33, 34, 35, 36, 37], FV 20 [0, 1, 2, 3, 4, 5, 6, 7, 8, 9, 10, 11, 12, 13, 14, 15, 16, 17, 18, 19] [21, 22, 23, 24, 25, 26, 27, 28, 29, 30, 31, 32, 33, 34, 35, 36, 37], FG 21 [0, 1, 2, 3, 4, 5, 6, 7, 8, 9, 10, 11, 12, 13, 14, 15, 16, 17, 18, 19, 20] [22, 23, 24, 25, 26, 27, 28, 29, 30, 31, 32, 33, 34, 35, 36, 37], FG 22 [0, 1, 2, 3, 4, 5, 6, 7, 8, 9, 10, 11, 12, 13, 14, 15, 16, 17, 18, 19, 20, 21] [23, 24, 25, 26, 27, 28, 29, 30, 31, 32, 33, 34, 35, 36, 37], FV 23 [0, 1, 2, 3, 4, 5, 6, 7, 8, 9, 10, 11, 12, 13, 14, 15, 16, 17, 18, 19, 20, 21, 22] [24, 25, 26, 27, 28, 29, 30, 31, 32, 33, 34, 35, 36, 37], FV 24 [0, 1, 2, 3, 4, 5, 6, 7, 8, 9, 10, 11, 12, 13, 14, 15, 16, 17, 18, 19, 20, 21, 22, 23] [25, 26, 27, 28, 29, 30, 31, 32, 33, 34, 35, 36, 37], FG 25 [0, 1, 2, 3, 4, 5, 6, 7, 8, 9, 10, 11, 12, 13, 14, 15, 16, 17, 18, 19, 20, 21, 22, 23, 24] [26, 27, 28, 29, 30, 31, 32, 33, 34, 35, 36, 37], FG 26 [0, 1, 2, 3, 4, 5, 6, 7, 8, 9, 10, 11, 12, 13, 14, 15, 16, 17, 18, 19, 20, 21, 22, 23, 24, 25] [27, 28, 29, 30, 31, 32, 33, 34, 35, 36, 37], FV 27 [0, 1, 2, 3, 4, 5, 6, 7, 8, 9, 10, 11, 12, 13, 14, 15, 16, 17, 18, 19, 20, 21, 22, 23, 24, 25, 26] [28, 29, 30, 31, 32, 33, 34, 35, 36, 37], FV 28 [0, 1, 2, 3, 4, 5, 6, 7, 8, 9, 10, 11, 12, 13, 14, 15, 16, 17, 18, 19, 20, 21, 22, 23, 24, 25, 26, 27] [29, 30, 31, 32, 33, 34, 35, 36, 37], FG 29 [0, 1, 2, 3, 4, 5, 6, 7, 8, 9, 10, 11, 12, 13, 14, 15, 16, 17, 18, 19, 20, 21, 22, 23, 24, 25, 26, 27, 28] [30, 34, 35, 36, 37], FG 30 [0, 1, 2, 3, 4, 5, 6, 7, 8, 9, 10, 11, 12, 13, 14, 15, 16, 17, 18, 19, 20, 21, 22, 23, 24, 25, 26, 27, 28, 29] [34, 35, 36, 37], FG 31 [0, 1, 2, 3, 4, 5, 6, 7, 8, 9, 10, 11, 12, 13, 14, 15, 16, 17, 18, 19, 20, 21, 22, 23, 24, 25, 26, 27, 28] [32, 33, 34, 35, 36, 37], FG 32 [0, 1, 2, 3, 4, 5, 6, 7, 8, 9, 10, 11, 12, 13, 14, 15, 16, 17, 18, 19, 20, 21, 22, 23, 24, 25, 26, 27, 28, 31] [33, 34, 35, 36, 37], FG 33 [0, 1, 2, 3, 4, 5, 6, 7, 8, 9, 10, 11, 12, 13, 14, 15, 16, 17, 18, 19, 20, 21, 22, 23, 24, 25, 26, 27, 28, 31, 32] [34, 35, 36, 37], (by have hc := gvF hP hG (ze9 G g1); exact FGc 34 [0, 1, 2, 3, 4, 5, 6, 7, 8, 9, 10, 11, 12, 13, 14, 15, 16, 17, 18, 19, 20, 21, 22, 23, 24, 25, 26, 27, 28, 29, 30, 31, 32, 33] [35, 36, 37]), FG 35 [0, 1, 2, 3, 4, 5, 6, 7, 8, 9, 10, 11, 12, 13, 14, 15, 16, 17, 18, 19, 20, 21, 22, 23, 24, 25, 26, 27, 28, 29, 30, 31, 32, 33, 34] [36, 37], FV 36 [0, 1, 2, 3, 4, 5, 6, 7, 8, 9, 10, 11, 12, 13, 14, 15, 16, 17, 18, 19, 20, 21, 22, 23, 24, 25, 26, 27, 28, 29, 30, 31, 32, 33, 34, 35] [37], FV 37 [0, 1, 2, 3, 4, 5, 6, 7, 8, 9, 10, 11, 12, 13, 14, 15, 16, 17, 18, 19, 20, 21, 22, 23, 24, 25, 26, 27, 28, 29, 30, 31, 32, 33, 34, 35, 36] [], trivial⟩ ?_
   apply z9
   exact E0
theorem z19 {L : List EventM} {n : NameM} (h : 0 ≤ wc L n) : ∃ k : Nat, wc L n = (k : Int) ∧ k < L.length ∧ qb L n = some (L.getD k default) := by
 have hq : L.findIdx (jk n) < L.length := by
  unfold wc jy at h
  split at h
  ·assumption
  ·omega
 refine ⟨L.findIdx (jk n), ?_, hq, ?_⟩
 ·unfold wc jy; rw [if_pos hq]
 ·unfold qb
  rw [List.find?_eq_some_iff_getElem]
  refine ⟨?_, L.findIdx (jk n), hq, (ji hq).symm, fun j hj => ?_⟩
  ·rw [ji hq]; exact List.findIdx_getElem
  ·have := List.not_of_lt_findIdx hj
   simpa using this
theorem zit {L : List EventM} {n : NameM} (h : ¬ 0 ≤ wc L n) : qb L n = none := by
 unfold wc at h
 rw [jb] at h
 unfold qb
 rw [List.find?_eq_none]
 intro x hx hp
 exact h (List.any_eq_true.2 ⟨x, hx, hp⟩)
theorem zdp (L : List EventM) (n : NameM) : (qb L n).isSome = decide (0 ≤ wc L n) := by
 by_cases h : 0 ≤ wc L n
 ·obtain ⟨k, _, _, h3⟩ := z19 h
  rw [h3]; simp [h]
 ·rw [zit h]; simp [h]
def Xa (p : Nat) (L : List EventM) (c : EventM) : Bool := decide ((zr p L c).2.2 = 0) && !(zr p L c).2.1
section
variable {p : Nat} {L : List EventM} {c : EventM}
theorem zry (h : qn c ≠ 0) : (zr p L c).2.2 = qn c ∧ Xa p L c = false := by
 have hv : zr p L c = (L, false, qn c) := by unfold zr; rw [if_pos h]
 unfold Xa
 rw [hv]
 simp [h]
theorem zym (h : qn c = 0) (h2 : (p : Int) ≤ c.By) : (zr p L c).2.2 = 1 ∧ Xa p L c = false := by
 have hv : zr p L c = (L, false, 1) := by unfold zr; rw [if_neg (by simp [h]), if_pos h2]
 unfold Xa
 rw [hv]
 simp
theorem zv2 (h : qn c = 0) (h2 : ¬ (p : Int) ≤ c.By) {e : EventM} (h3 : qb L (evName c) = some e) (h4 : x7 e c = true) : (zr p L c).2.2 = 0 ∧ Xa p L c = true := by
 have hv : zr p L c = (L, false, 0) := by unfold zr; rw [if_neg (by simp [h]), if_neg h2, if_pos (by simp [h3])]; simp [h3, h4]
 unfold Xa
 rw [hv]
 simp
theorem zrx (h : qn c = 0) (h2 : ¬ (p : Int) ≤ c.By) {e : EventM} (h3 : qb L (evName c) = some e) (h4 : ¬ x7 e c = true) : (zr p L c).2.2 = 7 ∧ Xa p L c = false := by
 have hv : zr p L c = (L, false, 7) := by unfold zr; rw [if_neg (by simp [h]), if_neg h2, if_pos (by simp [h3])]; simp [h3, h4]
 unfold Xa
 rw [hv]
 simp
theorem zjw (h : qn c = 0) (h2 : ¬ (p : Int) ≤ c.By) (h3 : qb L (evName c) = none) (h4 : ko L c = true) : (zr p L c).2.2 = 10 ∧ Xa p L c = false := by
 have hv : zr p L c = (L, false, 10) := by unfold zr; rw [if_neg (by simp [h]), if_neg h2, if_neg (by simp [h3]), if_pos h4]
 unfold Xa
 rw [hv]
 simp
theorem zv1 (h : qn c = 0) (h2 : ¬ (p : Int) ≤ c.By) (h3 : qb L (evName c) = none) (h4 : ko L c = false) (h5 : wu L c = true) : (zr p L c).2.2 = 5 ∧ Xa p L c = false := by
 have hv : zr p L c = (L, false, 5) := by unfold zr; rw [if_neg (by simp [h]), if_neg h2, if_neg (by simp [h3]), if_neg (by simp [h4]), if_pos h5]
 unfold Xa
 rw [hv]
 simp
theorem zxi (h : qn c = 0) (h2 : ¬ (p : Int) ≤ c.By) (h3 : qb L (evName c) = none) (h4 : ko L c = false) (h5 : wu L c = false) : (zr p L c).2.2 = 0 ∧ Xa p L c = false := by
 have hv := (Zx (p := p)).2 ⟨h, by omega, h3, h4, h5⟩
 unfold Xa
 rw [hv]
 simp
theorem zq5 (h : ¬ c.Seq = ((qt L c.By).length : Int)) : ko L c = true := by
 unfold ko
 rw [wi]
 simp [h]
theorem zq4 {i : Nat} (hi : i < c.Refs.length) (h : wc L (c.Refs.getD i default) < 0) : ko L c = true := by
 unfold ko
 rw [Bool.or_eq_true]
 right
 rw [List.any_eq_true]
 refine ⟨c.Refs.getD i default, ?_, ?_⟩
 ·rw [List.getD_eq_getElem?_getD, List.getElem?_eq_getElem hi, Option.getD_some]; exact List.getElem_mem hi
 ·rw [zdp, decide_eq_false (by omega)]; rfl
theorem zq3 (hs : c.Seq = ((qt L c.By).length : Int)) (h : ∀ j, j < c.Refs.length → 0 ≤ wc L (c.Refs.getD j default)) : ko L c = false := by
 rw [z5t, wi]
 refine ⟨hs, fun n hn => ?_⟩
 obtain ⟨i, hi, rfl⟩ := List.getElem_of_mem hn
 have := h i hi
 rw [List.getD_eq_getElem?_getD, List.getElem?_eq_getElem hi, Option.getD_some] at this
 rw [zdp]; simp [this]
def jl (L : List EventM) (c : EventM) : Bool := decide (0 < c.Seq) && ws L c ⟨c.By, c.Seq - 1⟩
theorem zpf : wu L c = (jl L c || z3r (ws L c) c.Refs c.Refs.length) := by
 unfold wu jl z3r
 rw [List.take_length, Bool.or_comm]
theorem zl3 (hT : TakenL p L) (hs : c.Seq = ((qt L c.By).length : Int)) (h0 : 0 < (qt L c.By).length) : jl L c = decide (c.Tick ≤ ((qt L c.By).getD ((qt L c.By).length - 1) default).Tick) := by
 have hc := z29 hT c.By (by rw [wi]; exact h0)
 have hcc := congrArg Int.ofNat (wi L c.By)
 simp only [Int.ofNat_eq_natCast] at hcc
 rw [show (xh L c.By : Int) - 1 = c.Seq - 1 by omega] at hc
 have hp : decide (0 < c.Seq) = true := by rw [decide_eq_true_eq]; omega
 unfold jl ws
 rw [hp, Bool.true_and, hc, ji (by omega)]
theorem zpe (hs : c.Seq = ((qt L c.By).length : Int)) (h0 : ¬ 0 < (qt L c.By).length) : jl L c = false := by
 have hp : decide (0 < c.Seq) = false := by rw [decide_eq_false_iff_not]; omega
 unfold jl
 rw [hp, Bool.false_and]
theorem zpg {k : Nat} {n : NameM} (h : qb L n = some (L.getD k default)) : ws L c n = decide (c.Tick ≤ (L.getD k default).Tick) := by
 unfold ws
 rw [h, Option.getD_some]
end
set_option maxRecDepth 100000 in
set_option maxHeartbeats 2000000 in
theorem zc8 (G) (e : EventM) (h : OkEv e) : zl Tryz.prog G 145 [zc e] [bD (!Xz e && !z06 e)] := by
 have hoz := z60 h.op
 have hnb := h.nbroader
 have hnp := h.nposts
 have o1 := zqf e.Kind
 have o2 := zbz e.Kind
 have o3 := zye e.Kind
 have o4 := zem e.Kind
 have o5 := zyf e.Kind
 skip
 skip
 refine GI [] [] [] Tryz.func145 Tryz.ntmps145 fun F hP hG hN hR hA => ?_
 have hE := And.intro @Tryz.results145 (And.intro @zbj (@Xt))
 refine WS [1] [1] ?_
 refine WS [1, 3] [1] ?_
 apply z3
 apply zm [1, 3, 43] [1]
 ·refine RN ?_
  refine CG (zra G e.Op zOp hoz) ?_
  refine CG (zf8 G e.Term zs8 (by omega)) ?_
  exact SC
 refine WI ?_ ?_ <;> intro hb
 ·have hv : (!Xz e && !z06 e) = false := by unfold Xz; grind
  have hE := And.intro hE hv
  refine WS [2] [] ?_
  apply z9
  apply za
  refine EN ?_
  all_goals try trivial
  all_goals grind
 ·have h2 : Xz e = false := by unfold Xz; grind
  apply z6
  apply z5
  apply z3
  refine WS [1, 67] [1] ?_
  refine WI ?_ ?_ <;> intro hb
  ·have hv : (!Xz e && !z06 e) = false := by unfold z06 qp; grind
   have hE := And.intro hE hv
   refine WS [2] [] ?_
   apply z9
   apply za
   refine EN ?_
   all_goals try trivial
   all_goals grind
  ·have hv : (!Xz e && !z06 e) = ((ofM e.Kind).n || e.N == 0) := by unfold z06 qp; grind
   have hE := And.intro hE (And.intro hv o5)
   apply z6
   apply z5
   refine WS [2] [] ?_
   apply z9
   refine EN ?_
   all_goals try trivial
   all_goals grind
set_option maxRecDepth 100000 in
set_option maxHeartbeats 2000000 in
theorem zm8 (G) (e : EventM) (h : OkEv e) : zl Tryz.prog G 113 [zc e] [iD (qn e)] := by
 have hnr := h.nrefs
 have hnp := h.nposts
 have hnb := h.nbroader
 have hol := h.op.all
 have o1 := zqf e.Kind
 have o2 := zbz e.Kind
 skip
 skip
 refine GI [] [] [] Tryz.func113 Tryz.ntmps113 fun F hP hG hN hR hA => ?_
 have hE := And.intro @Tryz.results113 (And.intro @X7 (And.intro @zbj (@Xt)))
 refine WS [1] [1] ?_
 apply z3
 apply zm [1, 35] [1]
 ·refine RN ?_
  refine CG (zhs G e.Op h.op) ?_
  exact SC
 refine WI ?_ ?_ <;> intro hb
 ·have hv := zb3 (e := e) (by unfold z2x; grind)
  have hE := And.intro hE hv
  refine WS [2] [] ?_
  apply z9
  apply za
  exact E0
 ·have h0 : z2x e = false := by unfold z2x; grind
  apply z6
  apply z5
  apply z3
  apply zm [1, 74] [1]
  ·refine RN ?_
   refine CU (z3g G e) ?_
   refine CU (z3h G (evName e)) ?_
   refine CG (zc8 G e h) ?_
   exact SC
  refine WI ?_ ?_ <;> intro hb
  ·have hv := z1l h0 (by unfold z1z wa; grind)
   have hE := And.intro hE hv
   refine WS [2] [] ?_
   apply z9
   apply za
   exact E0
  ·have h1 : z1z e = false := by unfold z1z wa; grind
   have h3 : wa e.N 1048576 = true := by unfold wa; grind
   have h2 : Xz e = false ∧ z06 e = false := by grind
   have h123 := And.intro h1 (And.intro h2.1 (And.intro h2.2 h3))
   apply z6
   apply z5
   apply z3
   refine WS [1, 3] [1] ?_
   apply z7
   refine WL (ι := {i : Nat // i ≤ e.Refs.length ∧ ∀ j, j < i → j4 e j = false}) [1] [1] (fun ⟨i, hic⟩ => [(3, .dat (iD i))]) (fun ⟨i, hic⟩ => []) (fun ⟨i, hic⟩ => e.Refs.length - i) (⟨0, by omega, Qk⟩) ?_
   rintro ⟨i, hic⟩
   refine LA ?_
   obtain ⟨hi, hall⟩ := id hic
   have hi1 : (if (i : Int) - 1 < 0 then 0 else (i : Int) - 1).toNat = i - 1 := by split <;> omega
   have hE := And.intro hE hi1
   apply z3
   refine WS [1, 3, 79] [1] ?_
   refine WI ?_ ?_ <;> intro hb
   ·apply z6
    apply z5
    apply z3
    apply z7
    apply w6 [1, 3, 118] [1] [0, 1, 2, 3, 4, 5, 6, 7, 8, 9, 10, 11, 12, 13, 14, 15, 16, 17, 18, 19, 20, 21, 22, 23, 24, 25, 26, 27, 28, 29, 30, 31, 32, 33, 34, 35, 36] []
    ·rw [hP]; kernel_rfl
    ·exact hR
    ·kernel_rfl
    ·(repeat (apply PickL.cons; exact rfl)); exact PickL.nil _
    ·refine RN ?_
     refine CU (z3h G (e.Refs.getD i default)) ?_
     refine CG (z3g G e) ?_
     refine CG (zqv G (e.Refs.getD (i - 1) default) (e.Refs.getD i default)) ?_
     exact SC
    refine WI ?_ ?_ <;> intro hb
    ·have hv := zb4 h0 h123 (i := i) (by omega) (by unfold j4 qa; grind)
     have hE := And.intro hE hv
     refine WS [2] [] ?_
     apply z9
     apply zf
     apply za
     apply zw
     apply zf
     apply za
     exact E0
    ·have hnb1 : j4 e i = false := by unfold j4 qa; grind
     apply z6
     apply ze
     apply z5
     refine WQ [1, 3] [1] ?_
     refine WN (⟨i + 1, by omega, xa hic.2 hnb1⟩)
   ·apply zj
    apply zd
    obtain rfl : i = e.Refs.length := by omega
    apply zb
    apply zn
    apply z5
    refine WS [1, 4] [1, 4] ?_
    apply z3
    apply zm [1, 166] [1]
    ·refine RN ?_
     refine CG (z80 G e.Term.Name (by have := h.name; omega)) ?_
     refine CG (z80 G e.Term.See (by have := h.see; omega)) ?_
     refine CG (zat G e.Term.Broader (by omega) (fun s hs => by have := h.broader s hs; omega)) ?_
     exact SC
    refine WI ?_ ?_ <;> intro hb
    ·have hv := zjy h0 h123 hall (by unfold z8o wa; grind)
     have hE := And.intro hE hv
     refine WS [2] [] ?_
     apply z9
     apply za
     exact E0
    ·have h5 : z8o e = false := by unfold z8o wa; grind
     apply z6
     apply z5
     apply z3
     refine WS [1, 5] [1] ?_
     apply z7
     refine WL (ι := {i : Nat // i ≤ e.Posts.length ∧ ∀ j, j < i → jg e j = false}) [1] [1] (fun ⟨i, hic⟩ => [(5, .dat (iD i))]) (fun ⟨i, hic⟩ => []) (fun ⟨i, hic⟩ => e.Posts.length - i) (⟨0, by omega, Qk⟩) ?_
     rintro ⟨i, hic⟩
     refine LA ?_
     obtain ⟨hi, hallp⟩ := id hic
     apply z3
     refine WS [1, 5, 171] [1] ?_
     refine WI ?_ ?_ <;> intro hb
     ·have hp := zt h.posts (i := i) (by omega)
      apply z6
      apply z5
      apply z3
      apply z7
      refine WS [1, 5, 6] [1, 6] ?_
      apply zm [1, 5, 201] [1]
      ·refine RN ?_
       refine CG (zat G (e.Posts.getD i default).Path (by omega) (fun s hs => by have := hp.2.2 s hs; omega)) ?_
       exact SC
      refine WI ?_ ?_ <;> intro hb
      ·have hv := z8g h0 h123 hall h5 (i := i) (by omega) (by unfold jg qp; grind)
       have hE := And.intro hE hv
       refine WS [2] [] ?_
       apply z9
       apply zf
       apply za
       apply zw
       apply zf
       apply za
       exact E0
      ·have hnb1 : jg e i = false := by unfold jg qp; grind
       apply z6
       apply ze
       apply z5
       refine WQ [1, 5] [1] ?_
       refine WN (⟨i + 1, by omega, xa hic.2 hnb1⟩)
     ·apply zj
      apply zd
      obtain rfl : i = e.Posts.length := by omega
      have hv := zb2 h0 h123 hall h5 hallp
      have hE := And.intro hE hv
      apply zb
      apply zn
      apply z5
      refine WS [2] [] ?_
      apply z9
      exact E0
def zgv (L : List EventM) (c : EventM) : Bool := decide (0 ≤ wc L (evName c)) && x7 (L.getD (wc L (evName c)).toNat default) c
set_option maxRecDepth 100000 in
set_option maxHeartbeats 4000000 in
theorem zud (G) (p : Nat) (hp : p ≤ 1000) (L : List EventM) (hT : TakenL p L) (hL : ∀ e ∈ L, OkEv e) (hn : L.length ≤ 1000) (c : EventM) (hce : OkEv c) : zl Tryz.prog G 66 [j7 p L, zc c] [iD (zr p L c).2.2, bD (Xa p L c)] := by
 have hnr := hce.nrefs
 skip
 refine GI [] [] [] Tryz.func66 Tryz.ntmps66 fun F hP hG hN hR hA => ?_
 have hE := @Tryz.results66
 refine WS [2, 3] [2, 3] ?_
 refine v8 2 hR.2.2.2 rfl rfl ?_
 refine v8 3 hR.2.2.2 rfl rfl ?_
 simp (disch := omega) only [avA, zk, zo, seval, hE]
 have hc := gvF hP hG (zm8 G c hce)
 refine WSc [2, 3, 6] [2, 3] ?_
 apply z3
 refine WS [2, 3, 6, 15] [2, 3] ?_
 refine WI ?_ ?_ <;> intro hb
 ·obtain ⟨v1, v2⟩ := zry (p := p) (L := L) (c := c) (by simpa using hb)
  have hE := And.intro hE (And.intro v1 v2)
  refine WS [4, 5] [] ?_
  apply z9
  apply za
  exact E0
 ·have hv0 : qn c = 0 := by simpa using hb
  apply z6
  apply z5
  apply z3
  refine WS [2, 3, 21] [2, 3] ?_
  refine WI ?_ ?_ <;> intro hb
  ·obtain ⟨v1, v2⟩ := zym (p := p) (L := L) (c := c) hv0 (by simpa using hb)
   have hE := And.intro hE (And.intro v1 v2)
   refine WS [4, 5] [] ?_
   apply z9
   apply za
   exact E0
  ·have hbp : ¬ (p : Int) ≤ c.By := by simpa using hb
   apply z6
   apply z5
   have hc := gvF hP hG (zf0 G L (evName c) hn)
   refine WSc [2, 3, 7] [2, 3] ?_
   apply z3
   refine wv (.of [(2, .rp (j7 p L) 0), (3, .rp (zc c) 0), (7, .dat (iD (wc L (evName c)))), (40, .dat (bD (zgv L c)))] []) ?_ ?_
   ·by_cases h0 : 0 ≤ wc L (evName c)
    ·obtain ⟨k, hk1, hk2, hk3⟩ := z19 h0
     have hok := zt hL hk2
     have hbb : zgv L c = x7 (L.getD k default) c := by unfold zgv; rw [hk1]; simp
     have hE := And.intro hE (And.intro hk1 hbb)
     refine X2 [2, 3, 7, 40] [2, 3] [(0, 30, _), (1, 31, .dat (bD true)), (2, 32, .dat (bD true)), (3, 33, _), (4, 34, _), (5, 35, .dat (iD (k : Int))), (6, 36, _), (7, 37, _), (8, 38, _), (9, 39, .dat (bD (x7 (L.getD k default) c))), (10, 40, .dat (bD (x7 (L.getD k default) c)))] [] ⟨FV 0 [] [1, 2, 3, 4, 5, 6, 7, 8, 9, 10], FV 1 [0] [2, 3, 4, 5, 6, 7, 8, 9, 10], FV 2 [0, 1] [3, 4, 5, 6, 7, 8, 9, 10], FG 3 [0, 1, 2] [4, 6, 7, 9, 10], FG 4 [0, 1, 2, 3] [6, 7, 9, 10], FG 5 [0, 1, 2] [6, 7, 9, 10], FG 6 [0, 1, 2, 3, 4, 5] [7, 9, 10], FG 7 [0, 1, 2, 3, 4, 5, 6] [9, 10], FG 8 [0, 1, 2] [9, 10], (by have hc := gvF hP hG (zjq G (L.getD k default) c hok); exact FGc 9 [0, 1, 2, 3, 4, 5, 6, 7, 8] [10]), FV 10 [0, 1, 2, 3, 4, 5, 6, 7, 8, 9] [], trivial⟩ ?_
     exact ML
    ·have hd0 : decide (0 ≤ wc L (evName c)) = false := by simpa using h0
     have hbb : zgv L c = false := by unfold zgv; rw [hd0]; rfl
     have hE := And.intro hE (And.intro hd0 hbb)
     refine X2 [2, 3, 7, 40] [2, 3] [(0, 30, _), (1, 31, .dat (bD false)), (2, 32, .dat (bD false)), (3, 33, .cond false .junk), (4, 34, .cond false .junk), (5, 35, .cond false .junk), (6, 36, .cond false .junk), (7, 37, .cond false .junk), (8, 38, .cond false .junk), (9, 39, .cond false (.dat (bD false))), (10, 40, .dat (bD false))] [] ⟨FV 0 [] [1, 2, 3, 4, 5, 6, 7, 8, 9, 10], FV 1 [0] [2, 3, 4, 5, 6, 7, 8, 9, 10], FV 2 [0, 1] [3, 4, 5, 6, 7, 8, 9, 10], FO 3 [0, 1, 2] [4, 6, 7, 9, 10], FO 4 [0, 1, 2, 3] [6, 7, 9, 10], FO 5 [0, 1, 2] [6, 7, 9, 10], FO 6 [0, 1, 2, 3, 4, 5] [7, 9, 10], FO 7 [0, 1, 2, 3, 4, 5, 6] [9, 10], FO 8 [0, 1, 2] [9, 10], FO 9 [0, 1, 2, 3, 4, 5, 6, 7, 8] [10], FV 10 [0, 1, 2, 3, 4, 5, 6, 7, 8, 9] [], trivial⟩ ?_
     exact ML
   refine WI ?_ ?_ <;> intro hb
   ·have hq : 0 ≤ wc L (evName c) ∧ x7 (L.getD (wc L (evName c)).toNat default) c = true := by unfold zgv at hb; simpa using hb
    obtain ⟨k, hk1, hk2, hk3⟩ := z19 hq.1
    obtain ⟨v1, v2⟩ := zv2 (p := p) hv0 hbp hk3 (by have := hq.2; rw [hk1] at this; exact this)
    have hE := And.intro hE (And.intro v1 v2)
    refine WS [4, 5] [] ?_
    apply z9
    apply za
    exact E0
   ·have hnq : ¬ (0 ≤ wc L (evName c) ∧ x7 (L.getD (wc L (evName c)).toNat default) c = true) := by unfold zgv at hb; simpa using hb
    apply z6
    apply z5
    apply z3
    refine WS [2, 3, 42] [2, 3] ?_
    refine WI ?_ ?_ <;> intro hb
    ·have hq : 0 ≤ wc L (evName c) := by simpa using hb
     obtain ⟨k, hk1, hk2, hk3⟩ := z19 hq
     obtain ⟨v1, v2⟩ := zrx (p := p) hv0 hbp hk3 (fun h => hnq ⟨hq, by rw [hk1]; exact h⟩)
     have hE := And.intro hE (And.intro v1 v2)
     refine WS [4, 5] [] ?_
     apply z9
     apply za
     exact E0
    ·have hfn := zit (L := L) (n := evName c) (by simpa using hb)
     apply z6
     apply z5
     have hc := gvF hP hG (z1i G p L (by omega) c.By)
     refine WSc [2, 3, 8] [2, 3] ?_
     have hrl := z0p L c.By
     have hrb : ∀ e ∈ qt L c.By, OkEv e := fun e he => hL e (List.mem_filter.1 he).1
     apply z3
     refine WS [2, 3, 8, 51] [2, 3] ?_
     refine WI ?_ ?_ <;> intro hb
     ·obtain ⟨v1, v2⟩ := zjw (p := p) hv0 hbp hfn (zq5 (by simpa using hb))
      have hE := And.intro hE (And.intro v1 v2)
      refine WS [4, 5] [] ?_
      apply z9
      apply za
      exact E0
     ·have hsq : c.Seq = ((qt L c.By).length : Int) := by simpa using hb
      apply z6
      apply z5
      refine wv (.of [(2, .rp (j7 p L) 0), (3, .rp (zc c) 0), (9, .dat (bD (jl L c)))] []) ?_ ?_
      ·by_cases h0 : 0 < (qt L c.By).length
       ·have hlt := zl3 hT hsq h0
        have hd0 : decide ((0 : Int) < ((qt L c.By).length : Int)) = true := decide_eq_true (by omega)
        have hs1 : c.Seq - 1 = (((qt L c.By).length - 1 : Nat) : Int) := by omega
        have hok := zt hrb (i := (qt L c.By).length - 1) (by omega)
        have hE := And.intro hE (And.intro hlt (And.intro hd0 hs1))
        refine X2 [2, 3, 9] [2, 3] [(0, 52, _), (1, 53, _), (2, 54, .dat (bD true)), (3, 55, .dat (bD true)), (4, 56, _), (5, 57, _), (6, 58, _), (7, 59, .dat (iD (((qt L c.By).length - 1 : Nat) : Int))), (8, 60, _), (9, 61, _), (10, 62, _), (11, 63, _), (12, 64, _), (13, 65, .dat (bD (jl L c))), (14, 66, .dat (bD (jl L c))), (15, 9, .dat (bD (jl L c)))] [] ⟨FV 0 [] [1, 2, 3, 4, 5, 6, 7, 8, 9, 10, 11, 12, 13, 14, 15], FV 1 [0] [2, 3, 4, 5, 6, 7, 8, 9, 10, 11, 12, 13, 14, 15], FV 2 [0, 1] [3, 4, 5, 6, 7, 8, 9, 10, 11, 12, 13, 14, 15], FV 3 [0, 1, 2] [4, 5, 6, 7, 8, 9, 10, 11, 12, 13, 14, 15], FG 4 [0, 1, 2, 3] [8, 9, 10, 13, 14, 15], FG 5 [0, 1, 2, 3] [6, 7, 8, 9, 10, 13, 14, 15], FG 6 [0, 1, 2, 3, 5] [7, 8, 9, 10, 13, 14, 15], FG 7 [0, 1, 2, 3, 5, 6] [8, 9, 10, 13, 14, 15], FG 8 [0, 1, 2, 3, 4, 5, 6, 7] [9, 10, 13, 14, 15], FG 9 [0, 1, 2, 3, 4, 5, 6, 7, 8] [10, 13, 14, 15], FG 10 [0, 1, 2, 3, 4, 5, 6, 7, 8, 9] [13, 14, 15], FG 11 [0, 1, 2, 3] [12, 13, 14, 15], FG 12 [0, 1, 2, 3, 11] [13, 14, 15], FG 13 [0, 1, 2, 3, 4, 5, 6, 7, 8, 9, 10, 11, 12] [14, 15], FV 14 [0, 1, 2, 3, 4, 5, 6, 7, 8, 9, 10, 11, 12, 13] [15], FV 15 [0, 1, 2, 3, 4, 5, 6, 7, 8, 9, 10, 11, 12, 13, 14] [], trivial⟩ ?_
        exact ML
       ·have hlt := zpe hsq h0
        have hd0 : decide ((0 : Int) < ((qt L c.By).length : Int)) = false := decide_eq_false (by omega)
        have hE := And.intro hE (And.intro hlt hd0)
        refine X2 [2, 3, 9] [2, 3] [(0, 52, _), (1, 53, _), (2, 54, .dat (bD false)), (3, 55, .dat (bD false)), (4, 56, .cond false .junk), (5, 57, .cond false .junk), (6, 58, .cond false .junk), (7, 59, .cond false .junk), (8, 60, .cond false .junk), (9, 61, .cond false .junk), (10, 62, .cond false .junk), (11, 63, .cond false .junk), (12, 64, .cond false .junk), (13, 65, .cond false (.dat (bD false))), (14, 66, .dat (bD (jl L c))), (15, 9, .dat (bD (jl L c)))] [] ⟨FV 0 [] [1, 2, 3, 4, 5, 6, 7, 8, 9, 10, 11, 12, 13, 14, 15], FV 1 [0] [2, 3, 4, 5, 6, 7, 8, 9, 10, 11, 12, 13, 14, 15], FV 2 [0, 1] [3, 4, 5, 6, 7, 8, 9, 10, 11, 12, 13, 14, 15], FV 3 [0, 1, 2] [4, 5, 6, 7, 8, 9, 10, 11, 12, 13, 14, 15], FO 4 [0, 1, 2, 3] [8, 9, 10, 13, 14, 15], FO 5 [0, 1, 2, 3] [6, 7, 8, 9, 10, 13, 14, 15], FO 6 [0, 1, 2, 3, 5] [7, 8, 9, 10, 13, 14, 15], FO 7 [0, 1, 2, 3, 5, 6] [8, 9, 10, 13, 14, 15], FO 8 [0, 1, 2, 3, 4, 5, 6, 7] [9, 10, 13, 14, 15], FO 9 [0, 1, 2, 3, 4, 5, 6, 7, 8] [10, 13, 14, 15], FO 10 [0, 1, 2, 3, 4, 5, 6, 7, 8, 9] [13, 14, 15], FO 11 [0, 1, 2, 3] [12, 13, 14, 15], FO 12 [0, 1, 2, 3, 11] [13, 14, 15], FO 13 [0, 1, 2, 3, 4, 5, 6, 7, 8, 9, 10, 11, 12] [14, 15], FV 14 [0, 1, 2, 3, 4, 5, 6, 7, 8, 9, 10, 11, 12, 13] [15], FV 15 [0, 1, 2, 3, 4, 5, 6, 7, 8, 9, 10, 11, 12, 13, 14] [], trivial⟩ ?_
        exact ML
      apply z3
      refine WS [2, 3, 9, 10] [2, 3] ?_
      apply z7
      have hz : (jl L c || z3r (ws L c) c.Refs 0) = jl L c := by rw [zk0, Bool.or_false]
      have hE := And.intro hE hz
      refine WL (ι := {i : Nat // i ≤ c.Refs.length ∧ ∀ j, j < i → 0 ≤ wc L (c.Refs.getD j default)}) [2, 3] [2, 3] (fun ⟨i, hif⟩ => [(10, .dat (iD i)), (9, .dat (bD (jl L c || z3r (ws L c) c.Refs i)))]) (fun ⟨i, hif⟩ => []) (fun ⟨i, hif⟩ => c.Refs.length - i) (⟨0, by omega, fun j hj => absurd hj (Nat.not_lt_zero j)⟩) ?_
      rintro ⟨i, hif⟩
      refine LA ?_
      obtain ⟨hi, hf⟩ := id hif
      apply z3
      refine WS [2, 3, 9, 10, 71] [2, 3] ?_
      refine WI ?_ ?_ <;> intro hb
      ·apply z6
       apply z5
       apply z3
       apply z7
       apply w6 [2, 3, 9, 10, 11] [2, 3] [0, 1, 2, 3, 4, 5, 6, 7, 8] []
       ·rw [hP]; kernel_rfl
       ·exact hR
       ·kernel_rfl
       ·(repeat (apply PickL.cons; exact rfl)); exact PickL.nil _
       ·refine RN ?_
        refine CU (zf0 G L (c.Refs.getD i default) hn) ?_
        exact SC
       apply z3
       refine WS [2, 3, 9, 10, 11, 83] [2, 3] ?_
       refine WI ?_ ?_ <;> intro hb
       ·obtain ⟨v1, v2⟩ := zjw (p := p) hv0 hbp hfn (zq4 (i := i) (by omega) (by simpa using hb))
        have hE := And.intro hE (And.intro v1 v2)
        refine WS [4, 5] [] ?_
        apply z9
        apply za
        apply zf
        apply za
        apply zw
        apply zf
        apply za
        exact E0
       ·have hfi : 0 ≤ wc L (c.Refs.getD i default) := by simpa using hb
        obtain ⟨k, hk1, hk2, hk3⟩ := z19 hfi
        have hok := zt hL hk2
        have hlr := zpg (c := c) hk3
        have hst : (jl L c || z3r (ws L c) c.Refs (i + 1)) = ((jl L c || z3r (ws L c) c.Refs i) || ws L c (c.Refs.getD i default)) := by rw [zjz _ _ (by omega), Bool.or_assoc]
        apply z6
        apply z5
        refine znc (.of [(2, .rp (j7 p L) 0), (3, .rp (zc c) 0), (9, .dat (bD (jl L c || z3r (ws L c) c.Refs (i + 1)))), (10, .dat (iD i))] []) ?_ (fun st' hle => ?_)
        ·cases hq : (jl L c || z3r (ws L c) c.Refs i)
         ·rw [hq, Bool.false_or] at hst
          have hE := And.intro hE (And.intro hst (And.intro hk1 hlr))
          refine X2 [2, 3, 9, 10] [2, 3] [(0, 84, _), (1, 85, _), (2, 86, _), (3, 87, _), (4, 88, .dat (iD (k : Int))), (5, 89, _), (6, 90, _), (7, 91, _), (8, 92, _), (9, 93, _), (10, 94, .dat (bD (decide (c.Tick ≤ (L.getD k default).Tick)))), (11, 95, .dat (bD (decide (c.Tick ≤ (L.getD k default).Tick)))), (12, 9, .dat (bD (decide (c.Tick ≤ (L.getD k default).Tick))))] [] ⟨FV 0 [] [1, 2, 3, 4, 5, 6, 7, 8, 9, 10, 11, 12], FV 1 [0] [2, 3, 4, 5, 6, 7, 8, 9, 10, 11, 12], FG 2 [0, 1] [3, 5, 6, 7, 10, 11, 12], FG 3 [0, 1, 2] [5, 6, 7, 10, 11, 12], FG 4 [0, 1] [5, 6, 7, 10, 11, 12], FG 5 [0, 1, 2, 3, 4] [6, 7, 10, 11, 12], FG 6 [0, 1, 2, 3, 4, 5] [7, 10, 11, 12], FG 7 [0, 1, 2, 3, 4, 5, 6] [10, 11, 12], FG 8 [0, 1] [9, 10, 11, 12], FG 9 [0, 1, 8] [10, 11, 12], FG 10 [0, 1, 2, 3, 4, 5, 6, 7, 8, 9] [11, 12], FV 11 [0, 1, 2, 3, 4, 5, 6, 7, 8, 9, 10] [12], FV 12 [0, 1, 2, 3, 4, 5, 6, 7, 8, 9, 10, 11] [], trivial⟩ ?_
          exact ML
         ·rw [hq, Bool.true_or] at hst
          have hE := And.intro hE (And.intro hst hk1)
          refine X2 [2, 3, 9, 10] [2, 3] [(0, 84, _), (1, 85, _), (2, 86, .cond false .junk), (3, 87, .cond false .junk), (4, 88, .cond false .junk), (5, 89, .cond false .junk), (6, 90, .cond false .junk), (7, 91, .cond false .junk), (8, 92, .cond false .junk), (9, 93, .cond false .junk), (10, 94, .cond false (.dat (bD false))), (11, 95, .dat (bD true)), (12, 9, .dat (bD true))] [] ⟨FV 0 [] [1, 2, 3, 4, 5, 6, 7, 8, 9, 10, 11, 12], FV 1 [0] [2, 3, 4, 5, 6, 7, 8, 9, 10, 11, 12], FO 2 [0, 1] [3, 5, 6, 7, 10, 11, 12], FO 3 [0, 1, 2] [5, 6, 7, 10, 11, 12], FO 4 [0, 1] [5, 6, 7, 10, 11, 12], FO 5 [0, 1, 2, 3, 4] [6, 7, 10, 11, 12], FO 6 [0, 1, 2, 3, 4, 5] [7, 10, 11, 12], FO 7 [0, 1, 2, 3, 4, 5, 6] [10, 11, 12], FO 8 [0, 1] [9, 10, 11, 12], FO 9 [0, 1, 8] [10, 11, 12], FO 10 [0, 1, 2, 3, 4, 5, 6, 7, 8, 9] [11, 12], FV 11 [0, 1, 2, 3, 4, 5, 6, 7, 8, 9, 10] [12], FV 12 [0, 1, 2, 3, 4, 5, 6, 7, 8, 9, 10, 11] [], trivial⟩ ?_
          exact ML
        apply ze
        apply z5
        refine AWp.le hle ?_
        refine WQ [2, 3, 9, 10] [2, 3] ?_
        refine WN (⟨i + 1, by omega, xa hif.2 (by omega)⟩)
      ·apply zj
       apply zd
       have hie : i = c.Refs.length := by omega
       subst hie
       have hna := zq3 hsq hf
       have hla := zpf (L := L) (c := c)
       apply zb
       apply zn
       apply z5
       apply z3
       refine WS [96] [] ?_
       refine WI ?_ ?_ <;> intro hb
       ·obtain ⟨v1, v2⟩ := zv1 (p := p) hv0 hbp hfn hna (by rw [hla]; simpa using hb)
        have hE := And.intro hE (And.intro v1 v2)
        refine WS [4, 5] [] ?_
        apply z9
        apply za
        exact E0
       ·obtain ⟨v1, v2⟩ := zxi (p := p) hv0 hbp hfn hna (by rw [hla]; simpa using hb)
        have hE := And.intro hE (And.intro v1 v2)
        apply z6
        apply z5
        refine WS [4, 5] [] ?_
        apply z9
        exact E0
theorem zaz {p : Nat} {L : List EventM} {c : EventM} (h : (zr p L c).2.2 ≠ 0) : zr p L c = (L, false, (zr p L c).2.2) := by
 unfold zr at h ⊢
 (repeat' split) <;> simp_all
theorem zmo {p : Nat} {L : List EventM} {c : EventM} (h : (zr p L c).2.2 = 0) (h2 : Xa p L c = true) : zr p L c = (L, false, 0) := by
 unfold Xa at h2
 unfold zr at h h2 ⊢
 (repeat' split) <;> simp_all
theorem zfi {p : Nat} {L : List EventM} {c : EventM} (h : (zr p L c).2.2 = 0) (h2 : Xa p L c = false) : zr p L c = (L ++ [c], true, 0) := by
 unfold Xa at h2
 unfold zr at h h2 ⊢
 (repeat' split) <;> simp_all
def zib (p : Nat) (L l : List EventM) (i : Nat) (M : List EventM) (n : Nat) : Prop := zcr p L l i M n ∧ TakenL p M
set_option maxRecDepth 100000 in
set_option maxHeartbeats 4000000 in
theorem zf7 (G) (p : Nat) (hp : p ≤ 1000) (L l : List EventM) (hT : TakenL p L) (hL : ∀ e ∈ L, OkEv e) (hl : ∀ e ∈ l, OkEv e) (hn : L.length + l.length ≤ 900) : zl Tryz.prog G 27 [j7 p L, zz l] [j7 p (qk p L l 0).1, iD (qk p L l 0).2.1, iD (qk p L l 0).2.2] := by
 skip
 refine GI [33, 36, 42] [] [] Tryz.func27 Tryz.ntmps27 fun F hP hG hN hR hA => ?_
 have hE := @Tryz.results27
 refine WS [1, 2, 4] [2, 4, 33, 36, 42] ?_
 refine WS [1, 2, 4, 7] [2, 4, 33, 36, 42] ?_
 apply z3
 refine WS [1, 2, 4, 7, 8] [2, 4, 33, 36, 42] ?_
 apply z7
 refine WL (ι := {x : Nat × List EventM × Nat // zib p L l x.1 x.2.1 x.2.2}) [1, 2, 4] [4, 33, 36, 41, 42] (fun ⟨⟨i, M, n⟩, hx⟩ => [(8, .dat (iD i)), (7, .dat (iD n))]) (fun ⟨⟨i, M, n⟩, hx⟩ => [(2, ⟨2, [.dat (j7 p M)]⟩)]) (fun ⟨⟨i, M, n⟩, hx⟩ => l.length - i) (⟨⟨0, L, 0⟩, ⟨⟨Nat.zero_le _, by simp, hL, by simp, Nat.zero_le _⟩, hT⟩⟩) ?_
 rintro ⟨⟨i, M, n⟩, hx⟩
 refine LA ?_
 have hx2 : zib p L l i M n := hx
 obtain ⟨⟨hi, htk, hM, hMn, hni⟩, hTM⟩ := hx2
 apply z3
 refine WS [1, 2, 4, 7, 8, 14] [2, 4, 33, 36, 41, 42] ?_
 refine WI ?_ ?_ <;> intro hb
 ·have hce := zt hl (i := i) (by omega)
  rw [z16 (by omega), qk] at htk
  apply z6
  apply z5
  apply z3
  apply z7
  apply w6 [1, 2, 4, 7, 8, 9, 10] [2, 4, 33, 36, 41, 42] [0, 1, 2, 3, 4, 5, 6, 7, 8, 9, 10] []
  ·rw [hP]; kernel_rfl
  ·exact hR
  ·kernel_rfl
  ·(repeat (apply PickL.cons; exact rfl)); exact PickL.nil _
  ·refine RN ?_
   refine CU (zud G p hp M hTM hM (by omega) (l.getD i default) hce) ?_
   exact SC
  apply z3
  refine WS [1, 2, 4, 7, 8, 9, 10, 27] [2, 4, 33, 36, 41, 42] ?_
  refine WI ?_ ?_ <;> intro hb
  ·have he : (zr p M (l.getD i default)).2.2 ≠ 0 := by simpa using hb
   rw [if_pos he, zaz he] at htk
   have hE := And.intro hE htk
   refine WS [4, 5, 6] [4, 33, 36, 41, 42] ?_
   apply z9
   apply za
   apply zf
   apply za
   apply zw
   apply zf
   apply za
   exact E0
  ·have he : (zr p M (l.getD i default)).2.2 = 0 := by simpa using hb
   rw [if_neg (by simpa using he)] at htk
   apply z6
   apply z5
   refine WS [1, 2, 4, 7, 8, 32] [2, 4, 33, 36, 41, 42] ?_
   refine WI ?_ ?_ <;> intro hb
   ·have hv := zfi he (by simpa using hb)
    rw [hv] at htk
    simp only [if_true] at htk
    have hnx : zib p L l (i + 1) (M ++ [l.getD i default]) (n + 1) := ⟨⟨by omega, htk, fun e he => by
     rcases List.mem_append.1 he with h | h
     ·exact hM e h
     ·rw [List.mem_singleton.1 h]; exact hce, by rw [List.length_append, List.length_singleton]; omega, by omega⟩, .snoc hTM hv⟩
    refine WDF [1, 2, 4, 7, 8] [2, 4, 33, 36, 41, 42] [(0, 33, .osl 33 32 0 0), (1, 34, .ptr 2 2 0 1), (2, 35, .dat (zz M)), (3, 36, .osl 36 32 0 M.length), (4, 37, .dat (zz l)), (5, 38, .dat (iD i)), (6, 39, .rp (zc (l.getD i default)) 0), (7, 40, .dat (zc (l.getD i default))), (8, 41, .dat (.sl [zc (l.getD i default)])), (9, 42, .osl 42 32 0 (M.length + 1)), (10, 43, .ptr 2 2 0 1)] [(11, 2, some ⟨2, [.agg [.dat (iD p), .osl 42 32 0 (M.length + 1)]]⟩), (9, 42, some ⟨32, (M.map zc).map .dat ++ [.dat (zc (l.getD i default))]⟩), (9, 36, none), (3, 36, some ⟨32, (M.map zc).map .dat⟩), (3, 33, none), (0, 33, some ⟨32, []⟩)] ⟨FNd 0 5 [] [3, 9, 10, 11], FV 1 [] [2, 3, 9, 10, 11], FV 2 [1] [3, 9, 10, 11], FAa 3 3 4 [0, 1, 2] [9, 10, 11], FV 4 [] [6, 7, 8, 9, 10, 11], FV 5 [] [6, 7, 8, 9, 10, 11], FV 6 [4, 5] [7, 8, 9, 10, 11], FV 7 [4, 5, 6] [8, 9, 10, 11], FV 8 [4, 5, 6, 7] [9, 10, 11], FAa 9 1 2 [0, 1, 2, 3, 4, 5, 6, 7, 8] [10, 11], FV 10 [0, 1, 2, 3, 4, 5, 6, 7, 8, 9] [11], FS 0 [0, 1, 2, 3, 4, 5, 6, 7, 8, 9, 10] [], trivial⟩ ?_
    refine v8 (ds := (M ++ [l.getD i default]).map zc) 42 hR.2.2.2 rfl (by have e := datE_map ((M ++ [l.getD i default]).map zc); simpa only [List.map_append, List.map_cons, List.map_nil] using e) ?_
    have htkM : List.take (M.length + 1) (List.map zc M ++ [zc (l.getD i default)]) = List.map zc M ++ [zc (l.getD i default)] := List.take_of_length_le (by simp)
    simp (disch := omega) only [avA, zk, zo, seval, htkM]
    refine zbc (ds := [iD p, zz (M ++ [l.getD i default])]) 2 rfl (by simp [Z0, Dat.isAgg]) ?_
    refine WQ [1, 2, 4, 7, 8] [2, 4, 33, 36, 41, 42] ?_
    apply ze
    apply z5
    refine WQ [1, 2, 4, 7, 8] [2, 4, 33, 36, 41, 42] ?_
    refine WN (⟨⟨i + 1, M ++ [l.getD i default], n + 1⟩, hnx⟩)
   ·have hv := zmo he (by simpa using hb)
    rw [hv] at htk
    simp only [Bool.false_eq_true, if_false] at htk
    have hnx : zib p L l (i + 1) M n := ⟨⟨by omega, htk, hM, by omega, by omega⟩, hTM⟩
    apply z6
    apply ze
    apply z5
    refine WQ [1, 2, 4, 7, 8] [2, 4, 33, 36, 41, 42] ?_
    refine WN (⟨⟨i + 1, M, n⟩, hnx⟩)
 ·apply zj
  apply zd
  have hie : i = l.length := by omega
  rw [List.drop_eq_nil_of_le (by omega), qk] at htk
  have hE := And.intro hE htk
  apply zb
  apply zn
  apply z5
  refine WS [4, 5, 6] [4, 33, 36, 41, 42] ?_
  apply z9
  exact E0
theorem zqw {p : Nat} {L : List EventM} {c : EventM} (hb : ¬ kv p c = true) : ww p L c = if (qk p L [we L p c] 0).2.2 ≠ 0 then (L, default, (qk p L [we L p c] 0).2.2) else ((qk p L [we L p c] 0).1, we L p c, 0) := by
 have h : (qk p L [we L p c] 0).2.2 = (zr p L (we L p c)).2.2 ∧ (qk p L [we L p c] 0).1 = (zr p L (we L p c)).1 := by
  rw [qk]
  split
  ·exact ⟨rfl, rfl⟩
  ·rename_i h
   rw [qk]
   exact ⟨(by simpa using h : (zr p L (we L p c)).2.2 = 0).symm, rfl⟩
 unfold ww
 rw [if_neg hb, h.1, h.2]
 by_cases he : (zr p L (we L p c)).2.2 ≠ 0
 ·rw [if_pos he, if_pos he, zaz he]
 ·rw [if_neg he, if_neg he]
theorem z0y {p : Nat} {L : List EventM} (h : TakenL p L) : 0 ≤ rclN L L.length ∧ rclN L L.length ≤ 1048576 := by
 refine ⟨(zhm L L.length).1, ?_⟩
 rcases zhn L L.length with h1 | ⟨k, hk, h1⟩
 ·omega
 ·rw [← h1, ji hk]
  exact (z4w (ku h _ (List.getElem_mem hk)).1).2.2.2.2.2
set_option maxRecDepth 100000 in
set_option maxHeartbeats 4000000 in
theorem zqx (G) (p : Nat) (hp : p ≤ 1000) (L : List EventM) (hT : TakenL p L) (hL : ∀ e ∈ L, OkEv e) (hn : L.length ≤ 800) (c : EventM) (hce : OkEv c) : zl Tryz.prog G 10 [j7 p L, zc c] [j7 p (ww p L c).1, zc (ww p L c).2.1, iD (ww p L c).2.2] := by
 have hck := zvf hT
 have hrc := z0y hT
 have hnx := zjb (p := p) (L := L) hce (by omega) (by rw [hck]; omega)
 skip
 refine GI [] [] [] Tryz.func10 Tryz.ntmps10 fun F hP hG hN hR hA => ?_
 have hE := @Tryz.results10
 refine WS [2, 3, 4, 5] [2, 3, 4, 5] ?_
 apply z3
 refine v8 2 hR.2.2.2 rfl rfl ?_
 simp (disch := omega) only [avA, zk, zo, seval, hE]
 refine wv (.of [(2, .rp (j7 p L) 0), (3, .ptr 3 32 0 0), (4, .ptr 4 2 0 0), (5, .ptr 5 32 0 0), (19, .dat (bD (kv p c)))] [(3, ⟨32, [.dat (zc c)]⟩), (4, ⟨2, [.agg [.dat (iD 0), .nils]]⟩), (5, ⟨32, [zn1]⟩)]) ?_ ?_
 ·by_cases h0 : c.By < 0
  ·have hd0 : decide (c.By < 0) = true := by simpa using h0
   have hbb : kv p c = true := by unfold kv; rw [hd0]; rfl
   have hE := And.intro hE (And.intro hd0 hbb)
   refine Za [2, 3, 4, 5, 19] [2, 3, 4, 5] [(0, 10, _), (1, 11, _), (2, 12, .dat (bD true)), (3, 13, .dat (bD true)), (4, 14, .cond false .junk), (5, 15, .cond false .junk), (6, 16, .cond false .junk), (7, 17, .cond false .junk), (8, 18, .cond false (.dat (bD false))), (9, 19, .dat (bD true))] [] ⟨FV 0 [] [1, 2, 3, 4, 5, 6, 7, 8, 9], FV 1 [0] [2, 3, 4, 5, 6, 7, 8, 9], FV 2 [0, 1] [3, 4, 5, 6, 7, 8, 9], FV 3 [0, 1, 2] [4, 5, 6, 7, 8, 9], FO 4 [0, 1, 2, 3] [5, 8, 9], FO 5 [0, 1, 2, 3, 4] [8, 9], FO 6 [0, 1, 2, 3] [7, 8, 9], FO 7 [0, 1, 2, 3, 6] [8, 9], FO 8 [0, 1, 2, 3, 4, 5, 6, 7] [9], FV 9 [0, 1, 2, 3, 4, 5, 6, 7, 8] [], trivial⟩ ?_
   exact ML
  ·have hd0 : decide (c.By < 0) = false := by simpa using h0
   have hbb : kv p c = decide ((p : Int) ≤ c.By) := by unfold kv; rw [hd0]; rfl
   have hE := And.intro hE (And.intro hd0 hbb)
   refine Za [2, 3, 4, 5, 19] [2, 3, 4, 5] [(0, 10, _), (1, 11, _), (2, 12, .dat (bD false)), (3, 13, .dat (bD false)), (4, 14, _), (5, 15, _), (6, 16, _), (7, 17, _), (8, 18, .dat (bD (decide ((p : Int) ≤ c.By)))), (9, 19, .dat (bD (decide ((p : Int) ≤ c.By))))] [] ⟨FV 0 [] [1, 2, 3, 4, 5, 6, 7, 8, 9], FV 1 [0] [2, 3, 4, 5, 6, 7, 8, 9], FV 2 [0, 1] [3, 4, 5, 6, 7, 8, 9], FV 3 [0, 1, 2] [4, 5, 6, 7, 8, 9], FG 4 [0, 1, 2, 3] [5, 8, 9], FG 5 [0, 1, 2, 3, 4] [8, 9], FG 6 [0, 1, 2, 3] [7, 8, 9], FG 7 [0, 1, 2, 3, 6] [8, 9], FG 8 [0, 1, 2, 3, 4, 5, 6, 7] [9], FV 9 [0, 1, 2, 3, 4, 5, 6, 7, 8] [], trivial⟩ ?_
   exact ML
 refine WI ?_ ?_ <;> intro hb
 ·have hv : ww p L c = (L, default, 1) := by unfold ww; rw [if_pos hb]
  have hE := And.intro hE hv
  refine WS [4, 5, 6] [4, 5] ?_
  apply z9
  apply za
  refine EN ?_
  all_goals try trivial
  all_goals first | exact ⟨_, rfl, rfl⟩ | exact .inl rfl | exact .inr ⟨_, rfl, rfl⟩
 ·have hnb : ¬ kv p c = true := by simpa using hb
  have hv := zqw (L := L) hnb
  have hcn := congrArg Int.ofNat (wi L c.By)
  simp only [Int.ofNat_eq_natCast] at hcn
  have hnd : we L p c = { c with Seq := ((qt L c.By).length : Int), Tick := rclN L L.length + 1 } := by unfold we; rw [hcn, hck]
  rw [hnd] at hv hnx
  apply z6
  apply z5
  have hc := gvF hP hG (z1i G p L (by omega) c.By)
  refine WSc [2, 3, 4, 5] [2, 3, 4, 5] ?_
  have hc := gvF hP hG (z4m G p L (by omega))
  refine WSc [2, 3, 4, 5] [2, 3, 4, 5] ?_
  have hc := gvF hP hG (zf7 G p hp L [{ c with Seq := ((qt L c.By).length : Int), Tick := rclN L L.length + 1 }] hT hL (by simp [hnx]) (by simp; omega))
  refine WSc [2, 3, 4, 5, 7, 9] [2, 3, 4, 5, 7] ?_
  apply z3
  refine WS [2, 3, 4, 5, 7, 9, 41] [2, 3, 4, 5, 7] ?_
  refine WI ?_ ?_ <;> intro hb
  ·rw [if_pos (by simpa using hb)] at hv
   have hE := And.intro hE hv
   refine WS [4, 5, 6] [4, 5] ?_
   apply z9
   apply za
   refine EN ?_
   all_goals try trivial
   all_goals first | exact ⟨_, rfl, rfl⟩ | exact .inl rfl | exact .inr ⟨_, rfl, rfl⟩
  ·rw [if_neg (by simpa using hb)] at hv
   have hE := And.intro hE hv
   apply z6
   apply z5
   refine WDF [4, 5, 6] [4, 5] [(0, 45, .dat (j7 p (qk p L [{ c with Seq := ((qt L c.By).length : Int), Tick := rclN L L.length + 1 }] 0).1)), (1, 46, .dat (zc { c with Seq := ((qt L c.By).length : Int), Tick := rclN L L.length + 1 })), (4, 6, _)] [(3, 5, some ⟨32, [.dat (zc { c with Seq := ((qt L c.By).length : Int), Tick := rclN L L.length + 1 })]⟩), (2, 4, some ⟨2, [.dat (j7 p (qk p L [{ c with Seq := ((qt L c.By).length : Int), Tick := rclN L L.length + 1 }] 0).1)]⟩)] ⟨FV 0 [] [2, 3, 4], FV 1 [] [3, 4], FS 1 [0] [3, 4], FS 0 [0, 1, 2] [4], FV 2 [0, 1, 2, 3] [], trivial⟩ ?_
   apply z9
   refine EN ?_
   all_goals try trivial
   all_goals first | exact ⟨_, rfl, rfl⟩ | exact .inl rfl | exact .inr ⟨_, rfl, rfl⟩
theorem z9y (l : List Int) (a : Int) (i : Nat) : (yx l a i).length = i := by simp [yx]
theorem zh6 (l : List Int) (a : Int) : yx l a 0 = [] := rfl
theorem zh4 (l : List Int) (a : Int) (i : Nat) : yx l a (i + 1) = yx l a i ++ [wordM (atM l (a + (i : Int)) 64)] := by simp [yx, List.range_succ]
theorem zh5 (l : List Int) (a : Int) (i : Nat) : (yx l a i).take i = yx l a i := List.take_of_length_le (by rw [z9y]; exact Nat.le_refl _)
theorem j2 {n c m : Int} (hn : 0 ≤ n ∧ n ≤ m) (hc : 0 < c) : 0 ≤ n.tdiv c ∧ n.tdiv c ≤ m := by
 rw [Int.tdiv_eq_ediv_of_nonneg hn.1]
 exact ⟨Int.ediv_nonneg hn.1 (Int.le_of_lt hc), Int.le_trans (Int.ediv_le_self _ hn.1) hn.2⟩
theorem z8d {n c : Int} (hn : 0 ≤ n) (hc : 0 < c) : 0 ≤ n.tmod c ∧ n.tmod c < c := ⟨Int.tmod_nonneg _ hn, Int.tmod_lt_of_pos _ hc⟩
theorem z3n {n : Int} (hn : 0 ≤ n ∧ n ≤ 1000000000000000) : IntKind.i64.wrap n = n := IntWalk.i64_in _ (by omega)
theorem z6t (G) (n : Int) (hn : 0 ≤ n ∧ n ≤ 1000000) : zl Tryz.prog G 92 [iD n] [idD (idM n)] := by
 have w4 := z3n (n := n.tdiv 4) (by have := j2 (c := 4) hn (by omega); omega)
 have w32 := z3n (n := n.tdiv 32) (by have := j2 (c := 32) hn (by omega); omega)
 skip
 skip
 refine GI [] [] [] Tryz.func92 Tryz.ntmps92 fun F hP hG hN hR hA => ?_
 have hE := And.intro @Tryz.results92 (And.intro @idM.eq_1 (And.intro @w4 (@w32)))
 refine WS [0, 2] [2] ?_
 refine WS [2] [2] ?_
 apply z9
 exact E0
theorem z5r (G) (l : List Int) (a m : Int) (hl : ∀ n ∈ l, I64 n) (ha : 0 ≤ a ∧ a ≤ 1000) (hm : m ≤ 1000) : zl Tryz.prog G 91 [isD l, iD a, iD m] [ssD (yx l a m.toNat)] := by
 skip
 skip
 refine GI [] [] [] Tryz.func91 Tryz.ntmps91 fun F hP hG hN hR hA => ?_
 have hE := And.intro @Tryz.results91 (And.intro @z9y (And.intro @zh6 (And.intro @zh5 (@Nat.min_self))))
 refine WS [0, 1, 2] [] ?_
 refine WS [0, 1, 2, 7] [22] ?_
 apply z3
 refine WS [0, 1, 2, 7, 8] [22] ?_
 apply z7
 refine xd 22 1 (by omega) ?_
 refine xy 7 22 1 rfl rfl ?_
 refine WL (ι := {i : Nat // i ≤ m.toNat}) [0, 1, 2] [21] (fun ⟨i, hi⟩ => [(7, .osl 22 1 0 i), (8, .dat (iD i))]) (fun ⟨i, hi⟩ => [(22, ⟨1, ((yx l a i).map Dat.str).map .dat⟩)]) (fun ⟨i, hi⟩ => m.toNat - i) (⟨0, by omega⟩) ?_
 rintro ⟨i, hi⟩
 refine LA ?_
 have hat := xc (l := l) (i := a + (i : Int)) (m := 64) (by omega)
 apply z3
 refine WS [0, 1, 2, 7, 8, 11] [21, 22] ?_
 refine WI ?_ ?_ <;> intro hb
 ·apply z6
  apply z5
  apply z3
  apply z7
  apply yp [0, 1, 2, 7, 8] [21, 22]
  ·refine RN ?_
   refine CU (Qb G l (a + (i : Int)) 64 hl (by omega) (by unfold I64; omega)) ?_
   refine CU (Z9 G (atM l (a + (i : Int)) 64) (by unfold I64; omega)) ?_
   exact SC
  apply ze
  apply z5
  have hs := zh4 l a i
  have hE := And.intro hE hs
  refine WQ [0, 1, 2, 7, 8] [21, 22] ?_
  refine WN (⟨i + 1, by omega⟩)
 ·apply zj
  apply zd
  have hend : i = m.toNat := by omega
  subst hend
  apply zb
  apply zn
  apply z5
  refine WS [6] [21, 22] ?_
  apply z9
  exact E0
set_option maxRecDepth 100000 in
set_option maxHeartbeats 2000000 in
theorem zyg (G) (l : List Int) (a : Int) (hl : ∀ n ∈ l, I64 n) (ha : 0 ≤ a ∧ a ≤ 900) : zl Tryz.prog G 90 [isD l, iD a] [opD (opM l a)] := by
 have hr : 0 ≤ opN l a ∧ opN l a ≤ 65536 := by have := xc (l := l) (i := a) (m := 65536) (by omega); unfold opN; omega
 have q := fun c (hc : 0 < c) => z3n (n := (opN l a).tdiv c) (by have := j2 (c := c) hr hc; omega)
 have q2 := q 2 (by omega)
 have q3 := q 3 (by omega)
 have q4 := q 4 (by omega)
 have q5 := q 5 (by omega)
 have q7 := q 7 (by omega)
 have q8 := q 8 (by omega)
 have q10 := q 10 (by omega)
 have q16 := q 16 (by omega)
 have q100 := q 100 (by omega)
 have t10 := j2 (c := 10) hr (by omega)
 have t7 := j2 (c := 7) hr (by omega)
 have t5 := j2 (c := 5) hr (by omega)
 have t3 := z8d (n := (opN l a).tdiv 3) (c := 3) (j2 hr (by omega)).1 (by omega)
 have hn : atM l a 65536 = opN l a := rfl
 skip
 skip
 skip
 refine GI [39, 58] [] [] Tryz.func90 Tryz.ntmps90 fun F hP hG hN hR hA => ?_
 have hE := And.intro @Tryz.results90 (And.intro (And.intro hn (And.intro q2 (And.intro q3 (And.intro q4 (And.intro q5 (And.intro q7 (And.intro q8 (And.intro q10 (And.intro q16 q100))))))))) (And.intro @opM.eq_1 (@idM.eq_1)))
 refine WS [0, 1, 4] [4, 39, 58] ?_
 have hc := gvF hP hG (Qb G l a 65536 hl (by omega) (by unfold I64; omega))
 refine WSc [0, 1, 4, 5] [4, 39, 58] ?_
 apply zm [0, 1, 4, 5, 6] [4, 6, 39, 58]
 ·refine RN ?_
  refine CU (z6t G ((opN l a).tdiv 10) (by omega)) ?_
  refine CU (Z9 G ((opN l a).tdiv 7) (by unfold I64; omega)) ?_
  exact SC
 apply z3
 refine WS [0, 1, 4, 5, 6, 24] [4, 6, 39, 58] ?_
 refine WI ?_ ?_ <;> intro hb
 ·have hs : opT l a = yx l (a + 1) (((opN l a).tdiv 3).tmod 3).toNat ∧ opP l a = [((opN l a).tmod 2, ((opN l a).tdiv 2).tmod 3)] := by unfold opT opP; rw [if_pos hb, if_pos hb]; exact ⟨rfl, rfl⟩
  have hE := And.intro hE hs
  have hc := gvF hP hG (z5r G l (a + 1) (((opN l a).tdiv 3).tmod 3) hl (by omega) (by omega))
  refine WSc [4, 5, 6] [4, 6, 39, 58] ?_
  refine WQ [4, 5, 6] [4, 6, 39, 58] ?_
  apply z5
  apply z3
  refine WS [4, 5, 6, 43] [4, 6, 39, 58] ?_
  refine WI ?_ ?_ <;> intro hb
  ·have hs2 : opS l a = ⟨((opN l a).tdiv 4).tmod 2, ((opN l a).tdiv 8).tmod 3, ((opN l a).tdiv 16).tmod 4⟩ ∧ opR l a = [idM ((opN l a).tdiv 5)] := by unfold opS opR; rw [if_pos hb, if_pos hb]; exact ⟨rfl, rfl⟩
   have hE := And.intro hE hs2
   refine WS [4, 5, 6] [4, 6, 39, 58] ?_
   have hc := gvF hP hG (z6t G ((opN l a).tdiv 5) (by omega))
   refine WQc [4, 6] [4, 6, 39, 58] ?_
   apply z5
   refine WS [4] [4, 39, 58] ?_
   apply z9
   exact E0
  ·have hs2 : opS l a = ⟨0, 0, 0⟩ ∧ opR l a = [] := by unfold opS opR; rw [if_neg hb, if_neg hb]; exact ⟨rfl, rfl⟩
   have hE := And.intro hE hs2
   apply z6
   apply z5
   refine WS [4] [4, 39, 58] ?_
   apply z9
   exact E0
 ·have hs : opT l a = [] ∧ opP l a = [] := by unfold opT opP; rw [if_neg hb, if_neg hb]; exact ⟨rfl, rfl⟩
  have hE := And.intro hE hs
  apply z6
  apply z5
  apply z3
  refine WS [4, 5, 6, 43] [4, 6, 39, 58] ?_
  refine WI ?_ ?_ <;> intro hb
  ·have hs2 : opS l a = ⟨((opN l a).tdiv 4).tmod 2, ((opN l a).tdiv 8).tmod 3, ((opN l a).tdiv 16).tmod 4⟩ ∧ opR l a = [idM ((opN l a).tdiv 5)] := by unfold opS opR; rw [if_pos hb, if_pos hb]; exact ⟨rfl, rfl⟩
   have hE := And.intro hE hs2
   refine WS [4, 5, 6] [4, 6, 39, 58] ?_
   have hc := gvF hP hG (z6t G ((opN l a).tdiv 5) (by omega))
   refine WQc [4, 6] [4, 6, 39, 58] ?_
   apply z5
   refine WS [4] [4, 39, 58] ?_
   apply z9
   exact E0
  ·have hs2 : opS l a = ⟨0, 0, 0⟩ ∧ opR l a = [] := by unfold opS opR; rw [if_neg hb, if_neg hb]; exact ⟨rfl, rfl⟩
   have hE := And.intro hE hs2
   apply z6
   apply z5
   refine WS [4] [4, 39, 58] ?_
   apply z9
   exact E0
theorem z7k (l : List Int) (i : Nat) : (yd l i).length = i := by simp [yd]
theorem zeu (l : List Int) : yd l 0 = [] := rfl
theorem z5b (l : List Int) (i : Nat) : yd l (i + 1) = yd l i ++ [postG l i] := by simp [yd, List.range_succ]
theorem zet (l : List Int) (i : Nat) : (yd l i).take i = yd l i := List.take_of_length_le (by rw [z7k]; exact Nat.le_refl _)
set_option maxRecDepth 100000 in
set_option maxHeartbeats 2000000 in
theorem zoi (G) (l : List Int) (hl : ∀ n ∈ l, I64 n) : zl Tryz.prog G 47 [isD l] [zc (evG l)] := by
 have hk : atM l 3 7 = z0i l := rfl
 have hn11 : atM l 11 4096 = x6 l := rfl
 have a0 := xc (l := l) (i := 0) (m := 6) (by omega)
 have a1 := xc (l := l) (i := 1) (m := 64) (by omega)
 have a2 := xc (l := l) (i := 2) (m := 1048577) (by omega)
 have a3 := xc (l := l) (i := 3) (m := 7) (by omega)
 have a4 := xc (l := l) (i := 4) (m := 64) (by omega)
 have rn : 0 ≤ x6 l ∧ x6 l ≤ 4096 := by have := xc (l := l) (i := 11) (m := 4096) (by omega); unfold x6; omega
 have q := fun c (hc : 0 < c) => z3n (n := (x6 l).tdiv c) (by have := j2 (c := c) rn hc; omega)
 have q3 := q 3 (by omega)
 have q5 := q 5 (by omega)
 have q12 := q 12 (by omega)
 have t5 := j2 (c := 5) rn (by omega)
 have t12 := z8d (n := (x6 l).tdiv 12) (c := 3) (j2 rn (by omega)).1 (by omega)
 have t4 := z8d (n := x6 l) (c := 4) rn.1 (by omega)
 skip
 skip
 skip
 refine GI [113] [] [] Tryz.func47 Tryz.ntmps47 fun F hP hG hN hR hA => ?_
 have hE := And.intro @Tryz.results47 (And.intro (And.intro q3 (And.intro q5 q12)) (And.intro @z7k (And.intro @zeu (And.intro @zet (And.intro @hk (And.intro @hn11 (And.intro @X7 (And.intro @refsG.eq_1 (@Nat.min_self)))))))))
 refine WS [0, 2] [2, 45, 113, 7] ?_
 apply zm [0, 2, 3] [2, 3, 45, 113, 7]
 ·refine RN ?_
  refine CU (Qb G l 0 6 hl (by omega) (by unfold I64; omega)) ?_
  refine CU (Qb G l 1 64 hl (by omega) (by unfold I64; omega)) ?_
  refine CU (Qb G l 2 1048577 hl (by omega) (by unfold I64; omega)) ?_
  refine CU (Qb G l 3 7 hl (by omega) (by unfold I64; omega)) ?_
  exact SC
 have hc := gvF hP hG (Qb G l 4 64 hl (by omega) (by unfold I64; omega))
 refine WSc [0, 2, 3, 4] [2, 3, 45, 113, 7] ?_
 apply z3
 refine WS [0, 2, 3, 4, 5] [2, 3, 45, 113, 7] ?_
 apply z7
 refine xd 45 2 (by omega) ?_
 refine zbe 3 45 2 4 rfl rfl rfl rfl ?_
 refine WL (ι := {i : Nat // i ≤ 6}) [0, 2, 3, 4] [2, 44, 112, 113, 7] (fun ⟨i, hi⟩ => [(5, .dat (iD i))]) (fun ⟨i, hi⟩ => [(3, ⟨32, [.agg [.dat (iD (atM l 0 6)), .dat (iD (atM l 1 64)), .dat (iD (atM l 2 1048577)), .dat (iD (z0i l)), .osl 45 2 0 (refsG l i).length, .dat (iD 0), .dat (iD 0), .dat (iD 0), .dat (iD 0), .dat (iD 0), .dat (iD 0), .dat (iD 0), .dat (iD 0), .dat (iD 0), .dat (iD 0), .dat (iD 0), .dat (iD 0), .dat (iD 0), .dat (sD ⟨#[]⟩), .nils, .nils, .nils, .dat (sD ⟨#[]⟩), .dat (iD 0), .dat (iD 0), .dat (sD ⟨#[]⟩), .nils, .dat (iD 0), .dat (iD 0), .dat (iD 0), .nils, .dat (iD 0)]]⟩), (45, ⟨2, ((refsG l i).map zx).map .dat⟩)]) (fun ⟨i, hi⟩ => 6 - i) (⟨0, by omega⟩) ?_
 rintro ⟨i, hi⟩
 refine LA ?_
 have hrl := z4n l i
 apply z3
 refine WS [0, 2, 3, 4, 5, 21] [2, 3, 44, 45, 113, 7] ?_
 refine WI ?_ ?_ <;> intro hb
 ·apply z6
  apply z5
  apply z3
  apply z7
  have hc := gvF hP hG (Qb G l (5 + (i : Int)) 64 hl (by omega) (by unfold I64; omega))
  refine WSc [0, 2, 3, 4, 5, 6] [2, 3, 6, 44, 45, 113, 7] ?_
  apply w6 [0, 2, 3, 4, 5, 6, 40] [2, 3, 6, 44, 45, 113, 7] [0, 1, 2, 3, 4, 5, 6, 7, 8, 9, 10] []
  ·rw [hP]; kernel_rfl
  ·exact hR
  ·kernel_rfl
  ·(repeat (apply PickL.cons; exact rfl)); exact PickL.nil _
  ·refine RN ?_
   (repeat' refine And.intro ?_ ?_) <;> try exact SD
   refine CallGC.use (by simp only [qu, qh, q9, xn, qy, wy, xk, xq, xm, wx, xp, xr, w3, avA, zk, zo, seval, ↓List.forall_mem_cons, Op.operands, hE, xx, evI.eq_1, evName.eq_1, List.length_map.{0,0}] <;> rfl) (fun hg => ⟨by first | trivial | (simp only [gdAll, AV.gd, avA, seval]; (repeat' apply And.intro) <;> first | trivial | rfl | exact hg) | simp_all [gdAll], gvF hP hG (z3g G (evI l i))⟩) ?_
   try simp (maxSteps := 2000000) (disch := omega) only [wm, avA, zk, zo, seval, ↓List.forall_mem_cons, Op.operands, hA, tiA, hE]
   exact SC
  refine WI ?_ ?_ <;> intro hb
  ·have hr1 : refsG l (i + 1) = refsG l i ++ [nmG l i] := by rw [refsG, if_pos (show zuu (atM l 4 64) i = 1 ∧ ((i : Int) = atM l 0 6 → ¬ atM l (5 + (i : Int)) 64 = atM l 1 64) from hb)]
   refine WQ [0, 2, 3, 4, 5] [2, 3, 44, 45, 113, 7] ?_
   apply ze
   apply z5
   have hE := And.intro hE (And.intro hr1 (nmG.eq_1 l i))
   refine WQ [0, 2, 3, 4, 5] [2, 3, 44, 45, 113, 7] ?_
   refine WN (⟨i + 1, by omega⟩)
  ·have hr1 : refsG l (i + 1) = refsG l i := by rw [refsG, if_neg (by have e1 : (evName (evI l i)).By = atM l 0 6 := rfl; have e2 : (evName (evI l i)).Seq = atM l 1 64 := rfl; (try rw [e1, e2] at hb); unfold zuu; intro hh; grind), List.append_nil]
   apply z6
   apply ze
   apply z5
   have hE := And.intro hE (And.intro hr1 (nmG.eq_1 l i))
   refine WQ [0, 2, 3, 4, 5] [2, 3, 44, 45, 113, 7] ?_
   refine WN (⟨i + 1, by omega⟩)
 ·apply zj
  apply zd
  have hend : i = 6 := by omega
  subst hend
  apply zb
  apply zn
  apply z5
  refine v8 45 hR.2.2.2 rfl (datE_map _) ?_
  have hc := gvF hP hG (Qb G l 11 4096 hl (by omega) (by unfold I64; omega))
  refine WSc [0, 2, 3, 7] [2, 3, 44, 45, 113, 7] ?_
  apply z3
  refine WS [0, 2, 3, 7, 50] [2, 3, 44, 45, 113, 7] ?_
  apply z7
  refine WS [0, 2, 3, 7, 50, 51] [2, 3, 44, 45, 113, 7] ?_
  refine WI ?_ ?_ <;> intro hb
  ·have hv : evG l = { evI l 6 with Op := opM l 12 } := by unfold evG; rw [if_pos hb]
   have hE := And.intro hE hv
   have hc := gvF hP hG (zyg G l 12 hl (by omega))
   refine WQc [2, 3] [2, 3, 44, 45, 113, 7] ?_
   apply ze
   apply z5
   refine WS [2] [2, 44, 45, 112, 113, 7] ?_
   apply z9
   refine EN ?_
   all_goals try trivial
   all_goals first
    | rfl
    | (have hv : evG l = evI l 6 := by unfold evG; rw [if_neg (by omega), if_neg (by omega), if_neg (by omega), if_neg (by omega)]
       rw [hv]; rfl)
    | (have hv : evG l = { evI l 6 with ID := idM (x6 l), N := atM l 12 1048577 } := by unfold evG; rw [if_neg (by omega), if_neg (by omega), if_neg (by omega), if_pos (by omega)]
       rw [hv]; rfl)
  ·have hk0 := hb
   refine WS [0, 2, 3, 7, 50, 56] [2, 3, 44, 45, 113, 7] ?_
   refine WI ?_ ?_ <;> intro hb
   ·have hv : evG l = { evI l 6 with Term := zb1 l } := by unfold evG; rw [if_neg hk0, if_pos hb]
    have hE := And.intro hE hv
    apply zm [2, 3, 7] [2, 3, 44, 45, 113, 7]
    ·refine RN ?_
     refine CU (Z9 G (x6 l) (by unfold I64; omega)) ?_
     refine CU (z5r G l 12 (((x6 l).tdiv 12).tmod 3) hl (by omega) (by omega)) ?_
     exact SC
    refine WS [2, 3, 7, 74] [2, 3, 44, 45, 113, 7] ?_
    refine WI ?_ ?_ <;> intro hb
    ·have ht : zb1 l = { Name := wordM (x6 l), Kind := (x6 l).tmod 3, Lang := ((x6 l).tdiv 3).tmod 4, See := wordM ((x6 l).tdiv 5), Broader := yx l 12 (((x6 l).tdiv 12).tmod 3).toNat } := by unfold zb1; rw [if_pos hb]
     have hE := And.intro hE ht
     have hc := gvF hP hG (Z9 G ((x6 l).tdiv 5) (by unfold I64; omega))
     refine WQc [2, 3] [2, 3, 44, 45, 113, 7] ?_
     apply ze
     apply z5
     refine WS [2] [2, 44, 45, 112, 113, 7] ?_
     apply z9
     refine EN ?_
     all_goals try trivial
     all_goals first
      | rfl
      | (have hv : evG l = evI l 6 := by unfold evG; rw [if_neg (by omega), if_neg (by omega), if_neg (by omega), if_neg (by omega)]
         rw [hv]; rfl)
      | (have hv : evG l = { evI l 6 with ID := idM (x6 l), N := atM l 12 1048577 } := by unfold evG; rw [if_neg (by omega), if_neg (by omega), if_neg (by omega), if_pos (by omega)]
         rw [hv]; rfl)
    ·have ht : zb1 l = { Name := wordM (x6 l), Kind := (x6 l).tmod 3, Lang := ((x6 l).tdiv 3).tmod 4, See := ⟨#[]⟩, Broader := yx l 12 (((x6 l).tdiv 12).tmod 3).toNat } := by unfold zb1; rw [if_neg hb]
     have hE := And.intro hE ht
     apply z6
     apply ze
     apply z5
     refine WS [2] [2, 44, 45, 112, 113, 7] ?_
     apply z9
     refine EN ?_
     all_goals try trivial
     all_goals first
      | rfl
      | (have hv : evG l = evI l 6 := by unfold evG; rw [if_neg (by omega), if_neg (by omega), if_neg (by omega), if_neg (by omega)]
         rw [hv]; rfl)
      | (have hv : evG l = { evI l 6 with ID := idM (x6 l), N := atM l 12 1048577 } := by unfold evG; rw [if_neg (by omega), if_neg (by omega), if_neg (by omega), if_pos (by omega)]
         rw [hv]; rfl)
   ·have hk2 := hb
    apply z3
    refine WS [0, 2, 3, 7, 50, 80] [2, 3, 44, 45, 113, 7] ?_
    refine WI ?_ ?_ <;> intro hb
    ·apply z6
     apply z5
     refine zbd (by first | exact rfl | (simp only [z2s, z7h, Zm, z0a]; simp [*])) ?_
     have hc := gvF hP hG (z6t G (x6 l) (by omega))
     refine WSc [0, 2, 3, 7] [2, 3, 44, 45, 113, 7] ?_
     refine WS [0, 2, 3, 7, 8] [2, 3, 44, 45, 113, 7] ?_
     apply z7
     have hv : evG l = { evI l 6 with ID := idM (x6 l), Posts := yd l ((x6 l).tmod 4).toNat } := by unfold evG; rw [if_neg hk0, if_neg hk2, if_pos (by omega)]
     have hE := And.intro hE hv
     refine xd 7 5 (by omega) ?_
     refine zbe 3 7 5 30 rfl rfl rfl rfl ?_
     refine WL (ι := {j : Nat // j ≤ ((x6 l).tmod 4).toNat}) [0, 2, 3, 7] [2, 44, 45, 112, 113] (fun ⟨j, hj⟩ => [(8, .dat (iD j))]) (fun ⟨j, hj⟩ => [(3, ⟨32, [.agg [.dat (iD (atM l 0 6)), .dat (iD (atM l 1 64)), .dat (iD (atM l 2 1048577)), .dat (iD (z0i l)), .dat (qc (refsG l 6)), .dat (iD 0), .dat (iD 0), .dat (iD 0), .dat (iD 0), .dat (iD 0), .dat (iD 0), .dat (iD 0), .dat (iD 0), .dat (iD 0), .dat (iD 0), .dat (iD 0), .dat (iD 0), .dat (iD 0), .dat (sD ⟨#[]⟩), .nils, .nils, .nils, .dat (sD ⟨#[]⟩), .dat (iD 0), .dat (iD 0), .dat (sD ⟨#[]⟩), .nils, .dat (iD (idM (x6 l)).By), .dat (iD (idM (x6 l)).Seq), .dat (iD (idM (x6 l)).K), .osl 7 5 0 j, .dat (iD 0)]]⟩), (7, ⟨5, ((yd l j).map z39).map .dat⟩)]) (fun ⟨j, hj⟩ => ((x6 l).tmod 4).toNat - j) (⟨0, by omega⟩) ?_
     rintro ⟨j, hj⟩
     refine LA ?_
     have ja := xc (l := l) (i := 30 + (j : Int)) (m := 4) (by omega)
     apply z3
     refine WS [0, 2, 3, 7, 8, 89] [2, 3, 44, 45, 112, 113, 7] ?_
     refine WI ?_ ?_ <;> intro hb
     ·apply z6
      apply z5
      apply z3
      apply z7
      apply z05 [0, 2, 3, 7, 8] [2, 3, 44, 45, 112, 113, 7] [0, 1, 2, 3, 4, 5, 6, 7, 8, 9, 10, 11, 12, 13, 14, 15, 16, 17, 18, 19, 20, 21, 22, 23] [113]
      ·rw [hP]; kernel_rfl
      ·exact hR
      ·kernel_rfl
      ·(repeat (apply PickL.cons; exact rfl)); exact PickL.nil _
      ·refine RN ?_
       refine CU (Qb G l (30 + (j : Int)) 4 hl (by omega) (by unfold I64; omega)) ?_
       refine CU (z5r G l (12 + 4 * (j : Int)) (1 + atM l (30 + (j : Int)) 4) hl (by omega) (by omega)) ?_
       exact SC
      apply ze
      apply z5
      refine yj 113 7 (by omega) (by omega) ?_
      have hps := z5b l j
      have hE := And.intro hE (And.intro hps (postG.eq_1 l j))
      refine WQ [0, 2, 3, 7, 8] [2, 3, 44, 45, 112, 113, 7] ?_
      refine WN (⟨j + 1, by omega⟩)
     ·apply zj
      apply zd
      have hend : j = ((x6 l).tmod 4).toNat := by omega
      subst hend
      apply zb
      apply zn
      apply ze
      apply z5
      refine WS [2] [2, 44, 45, 112, 113, 7] ?_
      apply z9
      refine EN ?_
      all_goals try trivial
      all_goals first
       | rfl
       | (have hv : evG l = evI l 6 := by unfold evG; rw [if_neg (by omega), if_neg (by omega), if_neg (by omega), if_neg (by omega)]
          rw [hv]; rfl)
       | (have hv : evG l = { evI l 6 with ID := idM (x6 l), N := atM l 12 1048577 } := by unfold evG; rw [if_neg (by omega), if_neg (by omega), if_neg (by omega), if_pos (by omega)]
          rw [hv]; rfl)
    ·refine WQ [0, 2, 3, 7, 50, 80] [2, 3, 44, 45, 113, 7] ?_
     apply z5
     refine WI ?_ ?_ <;> intro hb
     ·have hc := gvF hP hG (z6t G (x6 l) (by omega))
      refine WSc [0, 2, 3, 7] [2, 3, 44, 45, 113, 7] ?_
      refine WS [0, 2, 3, 7, 8] [2, 3, 44, 45, 113, 7] ?_
      apply z7
      have hv : evG l = { evI l 6 with ID := idM (x6 l), Posts := yd l ((x6 l).tmod 4).toNat } := by unfold evG; rw [if_neg hk0, if_neg hk2, if_pos (by omega)]
      have hE := And.intro hE hv
      refine xd 7 5 (by omega) ?_
      refine zbe 3 7 5 30 rfl rfl rfl rfl ?_
      refine WL (ι := {j : Nat // j ≤ ((x6 l).tmod 4).toNat}) [0, 2, 3, 7] [2, 44, 45, 112, 113] (fun ⟨j, hj⟩ => [(8, .dat (iD j))]) (fun ⟨j, hj⟩ => [(3, ⟨32, [.agg [.dat (iD (atM l 0 6)), .dat (iD (atM l 1 64)), .dat (iD (atM l 2 1048577)), .dat (iD (z0i l)), .dat (qc (refsG l 6)), .dat (iD 0), .dat (iD 0), .dat (iD 0), .dat (iD 0), .dat (iD 0), .dat (iD 0), .dat (iD 0), .dat (iD 0), .dat (iD 0), .dat (iD 0), .dat (iD 0), .dat (iD 0), .dat (iD 0), .dat (sD ⟨#[]⟩), .nils, .nils, .nils, .dat (sD ⟨#[]⟩), .dat (iD 0), .dat (iD 0), .dat (sD ⟨#[]⟩), .nils, .dat (iD (idM (x6 l)).By), .dat (iD (idM (x6 l)).Seq), .dat (iD (idM (x6 l)).K), .osl 7 5 0 j, .dat (iD 0)]]⟩), (7, ⟨5, ((yd l j).map z39).map .dat⟩)]) (fun ⟨j, hj⟩ => ((x6 l).tmod 4).toNat - j) (⟨0, by omega⟩) ?_
      rintro ⟨j, hj⟩
      refine LA ?_
      have ja := xc (l := l) (i := 30 + (j : Int)) (m := 4) (by omega)
      apply z3
      refine WS [0, 2, 3, 7, 8, 89] [2, 3, 44, 45, 112, 113, 7] ?_
      refine WI ?_ ?_ <;> intro hb
      ·apply z6
       apply z5
       apply z3
       apply z7
       apply z05 [0, 2, 3, 7, 8] [2, 3, 44, 45, 112, 113, 7] [0, 1, 2, 3, 4, 5, 6, 7, 8, 9, 10, 11, 12, 13, 14, 15, 16, 17, 18, 19, 20, 21, 22, 23] [113]
       ·rw [hP]; kernel_rfl
       ·exact hR
       ·kernel_rfl
       ·(repeat (apply PickL.cons; exact rfl)); exact PickL.nil _
       ·refine RN ?_
        refine CU (Qb G l (30 + (j : Int)) 4 hl (by omega) (by unfold I64; omega)) ?_
        refine CU (z5r G l (12 + 4 * (j : Int)) (1 + atM l (30 + (j : Int)) 4) hl (by omega) (by omega)) ?_
        exact SC
       apply ze
       apply z5
       refine yj 113 7 (by omega) (by omega) ?_
       have hps := z5b l j
       have hE := And.intro hE (And.intro hps (postG.eq_1 l j))
       refine WQ [0, 2, 3, 7, 8] [2, 3, 44, 45, 112, 113, 7] ?_
       refine WN (⟨j + 1, by omega⟩)
      ·apply zj
       apply zd
       have hend : j = ((x6 l).tmod 4).toNat := by omega
       subst hend
       apply zb
       apply zn
       apply ze
       apply z5
       refine WS [2] [2, 44, 45, 112, 113, 7] ?_
       apply z9
       refine EN ?_
       all_goals try trivial
       all_goals first
        | rfl
        | (have hv : evG l = evI l 6 := by unfold evG; rw [if_neg (by omega), if_neg (by omega), if_neg (by omega), if_neg (by omega)]
           rw [hv]; rfl)
        | (have hv : evG l = { evI l 6 with ID := idM (x6 l), N := atM l 12 1048577 } := by unfold evG; rw [if_neg (by omega), if_neg (by omega), if_neg (by omega), if_pos (by omega)]
           rw [hv]; rfl)
     ·apply z3
      refine WS [0, 2, 3, 7, 50, 115] [2, 3, 44, 45, 113, 7] ?_
      refine WI ?_ ?_ <;> intro hb
      ·apply z6
       apply z5
       refine zbd (by first | exact rfl | (simp only [z2s, z7h, Zm, z0a]; simp [*])) ?_
       have hc := gvF hP hG (z6t G (x6 l) (by omega))
       refine WSc [0, 2, 3] [2, 3, 44, 45, 113, 7] ?_
       have hc := gvF hP hG (Qb G l 12 1048577 hl (by omega) (by unfold I64; omega))
       refine WQc [2, 3] [2, 3, 44, 45, 113, 7] ?_
       apply ze
       apply z5
       refine WS [2] [2, 44, 45, 112, 113, 7] ?_
       apply z9
       refine EN ?_
       all_goals try trivial
       all_goals first
        | rfl
        | (have hv : evG l = evI l 6 := by unfold evG; rw [if_neg (by omega), if_neg (by omega), if_neg (by omega), if_neg (by omega)]
           rw [hv]; rfl)
        | (have hv : evG l = { evI l 6 with ID := idM (x6 l), N := atM l 12 1048577 } := by unfold evG; rw [if_neg (by omega), if_neg (by omega), if_neg (by omega), if_pos (by omega)]
           rw [hv]; rfl)
      ·refine WQ [0, 2, 3, 7, 115] [2, 3, 44, 45, 113, 7] ?_
       apply z5
       refine WI ?_ ?_ <;> intro hb
       ·have hc := gvF hP hG (z6t G (x6 l) (by omega))
        refine WSc [0, 2, 3] [2, 3, 44, 45, 113, 7] ?_
        have hc := gvF hP hG (Qb G l 12 1048577 hl (by omega) (by unfold I64; omega))
        refine WQc [2, 3] [2, 3, 44, 45, 113, 7] ?_
        apply ze
        apply z5
        refine WS [2] [2, 44, 45, 112, 113, 7] ?_
        apply z9
        refine EN ?_
        all_goals try trivial
        all_goals first
         | rfl
         | (have hv : evG l = evI l 6 := by unfold evG; rw [if_neg (by omega), if_neg (by omega), if_neg (by omega), if_neg (by omega)]
            rw [hv]; rfl)
         | (have hv : evG l = { evI l 6 with ID := idM (x6 l), N := atM l 12 1048577 } := by unfold evG; rw [if_neg (by omega), if_neg (by omega), if_neg (by omega), if_pos (by omega)]
            rw [hv]; rfl)
       ·apply z6
        apply ze
        apply z5
        refine WS [2] [2, 44, 45, 112, 113, 7] ?_
        apply z9
        refine EN ?_
        all_goals try trivial
        all_goals first
         | rfl
         | (have hv : evG l = evI l 6 := by unfold evG; rw [if_neg (by omega), if_neg (by omega), if_neg (by omega), if_neg (by omega)]
            rw [hv]; rfl)
         | (have hv : evG l = { evI l 6 with ID := idM (x6 l), N := atM l 12 1048577 } := by unfold evG; rw [if_neg (by omega), if_neg (by omega), if_neg (by omega), if_pos (by omega)]
            rw [hv]; rfl)
def z0l (b : Int) (s : List NameM × Int) (e : EventM) : List NameM × Int := (s.1 ++ (if s.2.tmod 2 = 1 then [⟨b, e.Seq⟩] else []), s.2.tdiv 2 + s.2.tmod 2 * 7919)
def Z3 (b most : Int) : List EventM → List NameM × Int → List NameM × Int
 | [], s => s
 | e :: C, s => if (s.1.length : Int) < most then Z3 b most C (z0l b s e) else s
theorem zhg {b most : Int} {C : List EventM} {s : List NameM × Int} {i : Nat} (h : ¬ (i < C.length ∧ (s.1.length : Int) < most)) : Z3 b most (C.drop i) s = s := by
 by_cases hi : i < C.length
 ·rw [z16 hi, Z3, if_neg (fun hq => h ⟨hi, hq⟩)]
 ·rw [List.drop_eq_nil_of_le (by omega), Z3]
theorem zqa {b most : Int} {C : List EventM} {s : List NameM × Int} {i : Nat} (hi : i < C.length) (h : (s.1.length : Int) < most) : Z3 b most (C.drop i) s = Z3 b most (C.drop (i + 1)) (z0l b s (C.getD i default)) := by
 rw [z16 hi, Z3, if_pos h]
def zfs (most : Int) (s : List NameM × Int) : Prop := 0 ≤ s.2 ∧ s.2 ≤ 16000 ∧ (s.1.length : Int) ≤ most ∧ ∀ n ∈ s.1, I64 n.By ∧ I64 n.Seq
theorem zq9 {x : Int} (h0 : 0 ≤ x) (h1 : x ≤ 16000) : 0 ≤ x.tmod 2 ∧ x.tmod 2 < 2 ∧ 0 ≤ x.tdiv 2 ∧ x.tdiv 2 ≤ 8000 := by
 refine ⟨Int.tmod_nonneg _ h0, Int.tmod_lt_of_pos _ (by omega), ?_, ?_⟩ <;> rw [Int.tdiv_eq_ediv_of_nonneg h0] <;> omega
theorem za3 {b most : Int} {s : List NameM × Int} {e : EventM} (h : zfs most s) (hl : (s.1.length : Int) < most) (hb : I64 b) (he : I64 e.Seq) : zfs most (z0l b s e) := by
 obtain ⟨h0, h1, h2, h3⟩ := h
 obtain ⟨b1, b2, b3, b4⟩ := zq9 h0 h1
 unfold z0l zfs
 dsimp only
 refine ⟨by omega, by omega, ?_, ?_⟩
 ·rw [List.length_append]; split <;> simp <;> omega
 ·intro n hn
  rcases List.mem_append.1 hn with hn | hn
  ·exact h3 n hn
  ·split at hn
   ·rw [List.mem_singleton.1 hn]; exact ⟨hb, he⟩
   ·cases hn
theorem zel {b most : Int} (hb : I64 b) : ∀ {C : List EventM} {s : List NameM × Int}, (∀ e ∈ C, I64 e.Seq) → zfs most s → zfs most (Z3 b most C s)
 | [], _, _, h => by rw [Z3]; exact h
 | e :: C, s, hC, h => by
  rw [Z3]
  split
  ·rename_i hl
   exact zel hb (fun x hx => hC x (List.mem_cons_of_mem _ hx)) (za3 h hl hb (hC e List.mem_cons_self))
  ·exact h
def nmB (L : List EventM) (most bits : Int) : Nat → List NameM × Int
 | 0 => ([], bits)
 | b + 1 => Z3 (b : Int) most (qt L (b : Int)) (nmB L most bits b)
theorem zhf {L : List EventM} {most bits : Int} (hL : ∀ e ∈ L, OkEv e) (h0 : 0 ≤ bits) (h1 : bits ≤ 16000) (hm : 0 ≤ most) : ∀ n : Nat, n ≤ 1001 → zfs most (nmB L most bits n)
 | 0, _ => ⟨h0, h1, hm, fun n hn => by cases hn⟩
 | n + 1, hn => by
  rw [nmB]
  exact zel (by unfold I64; omega) (fun e he => (hL e (List.mem_filter.1 he).1).seq) (zhf hL h0 h1 hm n (by omega))
def z79 (p : Nat) (L : List EventM) (bits most : Int) : List NameM := (nmB L most bits p).1
theorem zq8 (L : List EventM) (most bits : Int) : nmB L most bits 0 = ([], bits) := rfl
def zia (b most : Int) (C : List EventM) (s0 : List NameM × Int) (i : Nat) (s : List NameM × Int) : Prop := i ≤ C.length ∧ Z3 b most C s0 = Z3 b most (C.drop i) s ∧ zfs most s
def zek (C : List EventM) (most : Int) (i : Nat) (s : List NameM × Int) : Bool := decide ((i : Int) < C.length) && decide ((s.1.length : Int) < most)
set_option maxRecDepth 100000 in
set_option maxHeartbeats 4000000 in
theorem zq2 (G) (p : Nat) (hp : p ≤ 1000) (L : List EventM) (hL : ∀ e ∈ L, OkEv e) (hn : L.length ≤ 1000) (bits most : Int) (h0 : 0 ≤ bits) (h1 : bits ≤ 16000) (hm : 0 ≤ most) (hm2 : most ≤ 100) : zl Tryz.prog G 48 [j7 p L, iD bits, iD most] [qc (z79 p L bits most)] := by
 skip
 refine GI [44] [] [] Tryz.func48 Tryz.ntmps48 fun F hP hG hN hR hA => ?_
 have hE := @Tryz.results48
 refine WS [1, 2, 3] [3] ?_
 refine v8 3 hR.2.2.2 rfl rfl ?_
 simp (disch := omega) only [avA, zk, zo, seval, hE]
 refine WS [1, 2, 3, 7] [3, 44] ?_
 apply z3
 refine WS [1, 2, 3, 7, 8] [3, 44] ?_
 apply z7
 refine xd 44 2 (by omega) ?_
 refine xy 7 44 2 rfl rfl ?_
 have hE := And.intro hE (zq8 L most bits)
 refine WL (ι := {b : Nat // b ≤ p}) [2, 3] [3, 43] (fun ⟨b, hb⟩ => [(7, .osl 44 2 0 (nmB L most bits b).1.length), (1, .dat (iD (nmB L most bits b).2)), (8, .dat (iD b))]) (fun ⟨b, hb⟩ => [(44, ⟨2, ((nmB L most bits b).1.map zx).map .dat⟩)]) (fun ⟨b, hb⟩ => p - b) (⟨0, by omega⟩) ?_
 rintro ⟨b, hb⟩
 refine LA ?_
 have hs0 := zhf hL h0 h1 hm
 have hsu : nmB L most bits (b + 1) = Z3 (b : Int) most (qt L (b : Int)) (nmB L most bits b) := rfl
 apply z3
 refine WS [1, 2, 3, 7, 8, 14] [3, 43, 44] ?_
 refine WI ?_ ?_ <;> intro hb
 ·apply z6
  apply z5
  apply z3
  apply z7
  have hc := gvF hP hG (z1i G p L (by omega) (b : Int))
  refine WSc [1, 2, 3, 7, 8, 9] [3, 43, 44] ?_
  have hs1 := hs0 b (by omega)
  have hcl := z0p L (b : Int)
  have hco : ∀ e ∈ qt L (b : Int), OkEv e := fun e he => hL e (List.mem_filter.1 he).1
  generalize nmB L most bits b = s0 at *
  generalize qt L (b : Int) = C at *
  refine WS [1, 2, 3, 7, 8, 9, 10] [3, 43, 44] ?_
  apply z7
  refine WL (ι := {x : Nat × (List NameM × Int) // zia b most C s0 x.1 x.2}) [2, 3, 8, 9] [3, 43] (fun ⟨⟨i, s⟩, hx⟩ => [(7, .osl 44 2 0 s.1.length), (1, .dat (iD s.2)), (10, .dat (iD i))]) (fun ⟨⟨i, s⟩, hx⟩ => [(44, ⟨2, (s.1.map zx).map .dat⟩)]) (fun ⟨⟨i, s⟩, hx⟩ => C.length - i) (⟨⟨0, s0⟩, ⟨Nat.zero_le _, by simp, hs1⟩⟩) ?_
  rintro ⟨⟨i, s⟩, hx⟩
  refine LA ?_
  have hx2 : zia b most C s0 i s := hx
  obtain ⟨hi, hrun, hok⟩ := hx2
  obtain ⟨k0, k1, k2, k3⟩ := id hok
  obtain ⟨b1, b2, b3, b4⟩ := zq9 k0 k1
  apply z3
  refine wv (.of [(2, .dat (iD most)), (3, .rp (j7 p L) 0), (7, .osl 44 2 0 s.1.length), (8, .dat (iD b)), (1, .dat (iD s.2)), (9, .dat (zz C)), (10, .dat (iD i)), (29, .dat (bD (zek C most i s)))] [(44, ⟨2, (s.1.map zx).map .dat⟩)]) ?_ ?_
  ·by_cases hq : (i : Int) < C.length
   ·have hd0 : decide ((i : Int) < C.length) = true := decide_eq_true hq
    have hbb : zek C most i s = decide ((s.1.length : Int) < most) := by unfold zek; rw [hd0]; rfl
    have hE := And.intro hE (And.intro hd0 hbb)
    refine Za [1, 2, 3, 7, 8, 9, 10, 29] [3, 43, 44] [(0, 20, _), (1, 21, _), (2, 22, _), (3, 23, .dat (bD true)), (4, 24, .dat (bD true)), (5, 25, _), (6, 26, _), (7, 27, _), (8, 28, .dat (bD (decide ((s.1.length : Int) < most)))), (9, 29, .dat (bD (decide ((s.1.length : Int) < most))))] [] ⟨FV 0 [] [3, 4, 5, 6, 7, 8, 9], FV 1 [] [2, 3, 4, 5, 6, 7, 8, 9], FV 2 [1] [3, 4, 5, 6, 7, 8, 9], FV 3 [0, 1, 2] [4, 5, 6, 7, 8, 9], FV 4 [0, 1, 2, 3] [5, 6, 7, 8, 9], FG 5 [0, 1, 2, 3, 4] [6, 8, 9], FG 6 [0, 1, 2, 3, 4, 5] [8, 9], FG 7 [0, 1, 2, 3, 4] [8, 9], FG 8 [0, 1, 2, 3, 4, 5, 6, 7] [9], FV 9 [0, 1, 2, 3, 4, 5, 6, 7, 8] [], trivial⟩ ?_
    exact ML
   ·have hd0 : decide ((i : Int) < C.length) = false := decide_eq_false hq
    have hbb : zek C most i s = false := by unfold zek; rw [hd0]; rfl
    have hE := And.intro hE (And.intro hd0 hbb)
    refine Za [1, 2, 3, 7, 8, 9, 10, 29] [3, 43, 44] [(0, 20, _), (1, 21, _), (2, 22, _), (3, 23, .dat (bD false)), (4, 24, .dat (bD false)), (5, 25, .cond false .junk), (6, 26, .cond false .junk), (7, 27, .cond false .junk), (8, 28, .cond false (.dat (bD false))), (9, 29, .dat (bD false))] [] ⟨FV 0 [] [3, 4, 5, 6, 7, 8, 9], FV 1 [] [2, 3, 4, 5, 6, 7, 8, 9], FV 2 [1] [3, 4, 5, 6, 7, 8, 9], FV 3 [0, 1, 2] [4, 5, 6, 7, 8, 9], FV 4 [0, 1, 2, 3] [5, 6, 7, 8, 9], FO 5 [0, 1, 2, 3, 4] [6, 8, 9], FO 6 [0, 1, 2, 3, 4, 5] [8, 9], FO 7 [0, 1, 2, 3, 4] [8, 9], FO 8 [0, 1, 2, 3, 4, 5, 6, 7] [9], FV 9 [0, 1, 2, 3, 4, 5, 6, 7, 8] [], trivial⟩ ?_
    exact ML
  refine WI ?_ ?_ <;> intro hb
  ·have hgo : i < C.length ∧ (s.1.length : Int) < most := by unfold zek at hb; rw [Bool.and_eq_true, decide_eq_true_eq, decide_eq_true_eq] at hb; exact ⟨by omega, hb.2⟩
   obtain ⟨hi2, hl2⟩ := hgo
   have hce := zt hco (i := i) hi2
   have hbi : I64 (b : Int) := by unfold I64; omega
   have hnx2 := za3 hok hl2 hbi hce.seq
   rw [zqa hi2 hl2] at hrun
   apply z6
   apply z5
   apply z3
   apply z7
   apply z3
   refine WS [1, 2, 3, 7, 8, 9, 10, 34] [3, 43, 44] ?_
   refine WI ?_ ?_ <;> intro hb
   ·have hst : z0l b s (C.getD i default) = (s.1 ++ [⟨(b : Int), (C.getD i default).Seq⟩], s.2.tdiv 2 + s.2.tmod 2 * 7919) := by unfold z0l; rw [if_pos hb]
    rw [hst] at hrun hnx2
    have hnx : zia b most C s0 (i + 1) (s.1 ++ [⟨(b : Int), (C.getD i default).Seq⟩], s.2.tdiv 2 + s.2.tmod 2 * 7919) := ⟨by omega, hrun, hnx2⟩
    have htk : List.take s.1.length (s.1.map zx) = s.1.map zx := List.take_of_length_le (by simp)
    have hE := And.intro hE htk
    refine WQ [1, 2, 3, 7, 8, 9, 10] [3, 43, 44] ?_
    apply z5
    refine WQ [1, 2, 3, 7, 8, 9, 10] [3, 43, 44] ?_
    apply ze
    apply z5
    refine WQ [1, 2, 3, 7, 8, 9, 10] [3, 43, 44] ?_
    refine WN (⟨⟨i + 1, (s.1 ++ [⟨(b : Int), (C.getD i default).Seq⟩], s.2.tdiv 2 + s.2.tmod 2 * 7919)⟩, hnx⟩)
   ·have hst : z0l b s (C.getD i default) = (s.1, s.2.tdiv 2 + s.2.tmod 2 * 7919) := by unfold z0l; rw [if_neg hb, List.append_nil]
    rw [hst] at hrun hnx2
    have hnx : zia b most C s0 (i + 1) (s.1, s.2.tdiv 2 + s.2.tmod 2 * 7919) := ⟨by omega, hrun, hnx2⟩
    apply z6
    apply z5
    refine WQ [1, 2, 3, 7, 8, 9, 10] [3, 43, 44] ?_
    apply ze
    apply z5
    refine WQ [1, 2, 3, 7, 8, 9, 10] [3, 43, 44] ?_
    refine WN (⟨⟨i + 1, (s.1, s.2.tdiv 2 + s.2.tmod 2 * 7919)⟩, hnx⟩)
  ·have hgo : ¬ (i < C.length ∧ (s.1.length : Int) < most) := by
    rintro ⟨a1, a2⟩
    have : zek C most i s = true := by
     unfold zek
     rw [Bool.and_eq_true, decide_eq_true_eq, decide_eq_true_eq]
     exact ⟨by omega, a2⟩
    rw [hb] at this
    cases this
   rw [zhg hgo] at hrun
   apply zj
   apply zd
   have hfin : nmB L most bits (b + 1) = s := by rw [hsu, hrun]
   have hE := And.intro hE hfin
   apply zb
   apply zn
   apply ze
   apply z5
   refine WQ [1, 2, 3, 7, 8] [3, 43, 44] ?_
   refine WN (⟨b + 1, by omega⟩)
 ·apply zj
  apply zd
  have hend : b = p := by omega
  subst hend
  have hE := And.intro hE (show z79 b L bits most = (nmB L most bits b).1 from rfl)
  apply zb
  apply zn
  apply z5
  refine v8 44 hR.2.2.2 rfl (datE_map _) ?_
  have htk : List.take (nmB L most bits b).1.length ((nmB L most bits b).1.map zx) = (nmB L most bits b).1.map zx := List.take_of_length_le (by simp)
  have hE := And.intro hE htk
  refine WS [6] [43, 44] ?_
  apply z9
  exact E0
def kw (x y : Int) (i : Nat) : List Int := [0, 0, 0, x, 0, 0, 0, 0, 0, 0, 0, y] ++ (List.range i).map fun k : Nat => x.tdiv ((k : Int) + 2) + y.tdiv (2 * (k : Int) + 1)
theorem zgf (x y : Int) : kw x y 0 = [0, 0, 0, x, 0, 0, 0, 0, 0, 0, 0, y] := by simp [kw]
theorem z98 (x y : Int) (i : Nat) : (kw x y i).length = 12 + i := by simp [kw]; omega
theorem zge (x y : Int) (i : Nat) : kw x y (i + 1) = kw x y i ++ [x.tdiv ((i : Int) + 2) + y.tdiv (2 * (i : Int) + 1)] := by simp [kw, List.range_succ]
theorem js {x k : Int} (h : 0 ≤ x) (hk : 0 < k) : 0 ≤ x.tdiv k ∧ x.tdiv k ≤ x := by
 rw [Int.tdiv_eq_ediv_of_nonneg h]
 exact ⟨Int.ediv_nonneg h (by omega), Int.ediv_le_self _ h⟩
theorem zkc {x y : Int} (hx : 0 ≤ x ∧ x < 1048576) (hy : 0 ≤ y ∧ y < 1048576) (i : Nat) : ∀ n ∈ kw x y i, I64 n := by
 intro n hn
 rcases List.mem_append.1 hn with hn | hn
 ·simp only [List.mem_cons, List.not_mem_nil, or_false] at hn
  rcases hn with rfl | rfl | rfl | rfl | rfl | rfl | rfl | rfl | rfl | rfl | rfl | rfl <;> (unfold I64; omega)
 ·obtain ⟨k, _, rfl⟩ := List.mem_map.1 hn
  have h1 := js (k := (k : Int) + 2) hx.1 (by omega)
  have h2 := js (k := 2 * (k : Int) + 1) hy.1 (by omega)
  unfold I64
  omega
def zvh (p : Nat) (L : List EventM) (b x y : Int) : EventM := { evG (kw x y 22) with By := b, Seq := 0, Tick := 0, Refs := z79 p L (1 + y.tmod 4096) ((x.tdiv 7).tmod 4) }
def yv (p : Nat) (L : List EventM) (b n m : Int) : EventM := zvh p L b (zp n 1048576) (zp m 1048576)
theorem zsu {p : Nat} {L : List EventM} {b x y : Int} (hp : p ≤ 1000) (hL : ∀ e ∈ L, OkEv e) (hb : I64 b) (hx : 0 ≤ x ∧ x < 1048576) (hy : 0 ≤ y ∧ y < 1048576) : SmEv 0 (zvh p L b x y) := by
 have h := zwl (kw x y 22)
 have y1 := Int.tmod_nonneg 4096 hy.1
 have y2 := Int.tmod_lt_of_pos y (b := 4096) (by omega)
 have x0 := (js (k := 7) hx.1 (by omega)).1
 have x1 := Int.tmod_nonneg 4 x0
 have x2 := Int.tmod_lt_of_pos (x.tdiv 7) (b := 4) (by omega)
 have hn := zhf (L := L) (most := (x.tdiv 7).tmod 4) (bits := 1 + y.tmod 4096) hL (by omega) (by omega) x1 p (by omega)
 exact { h with by_ := hb, seq := zec, tick := zec, refs := hn.2.2.2, nrefs := by have := hn.2.2.1; show (z79 p L _ _).length ≤ _; unfold z79; omega }
theorem z21 {p : Nat} {L : List EventM} {b n m : Int} (hp : p ≤ 1000) (hL : ∀ e ∈ L, OkEv e) (hb : I64 b) : SmEv 0 (yv p L b n m) := zsu hp hL hb (zu (by omega)) (zu (by omega))
theorem zxc {e : EventM} (h : SmEv 1 e) : ju e := ⟨zav h (by omega), by have := zxd h (by omega); omega⟩
set_option maxRecDepth 100000 in
set_option maxHeartbeats 4000000 in
theorem z6b (G) (p : Nat) (hp : p ≤ 1000) (L : List EventM) (hL : ∀ e ∈ L, OkEv e) (hn : L.length ≤ 1000) (b n m : Int) (hi : I64 n) (hm : I64 m) : zl Tryz.prog G 11 [j7 p L, iD b, iD n, iD m] [zc (yv p L b n m)] := by
 have hx := zu (n := n) (m := 1048576) (by omega)
 have hy := zu (n := m) (m := 1048576) (by omega)
 have hxo := wh G n 1048576 hi (by omega) (by unfold I64; omega)
 have hyo := wh G m 1048576 hm (by omega) (by unfold I64; omega)
 unfold yv
 generalize zp n 1048576 = x at *
 generalize zp m 1048576 = y at *
 have y1 := Int.tmod_nonneg 4096 hy.1
 have y2 := Int.tmod_lt_of_pos y (b := 4096) (by omega)
 have x0 := (js (k := 7) hx.1 (by omega)).1
 have x3 := (js (k := 7) hx.1 (by omega)).2
 have x1 := Int.tmod_nonneg 4 x0
 have x2 := Int.tmod_lt_of_pos (x.tdiv 7) (b := 4) (by omega)
 skip
 refine GI [20, 37] [] [] Tryz.func11 Tryz.ntmps11 fun F hP hG hN hR hA => ?_
 have hE := @Tryz.results11
 refine WS [1, 2, 3, 4, 8] [4, 8] ?_
 refine v8 4 hR.2.2.2 rfl rfl ?_
 simp (disch := omega) only [avA, zk, zo, seval, hE]
 have hc := gvF hP hG (hxo)
 refine WSc [1, 3, 4, 8, 9] [4, 8] ?_
 have hc := gvF hP hG (hyo)
 refine WSc [1, 4, 8, 9, 10] [4, 8] ?_
 refine WS [1, 4, 8, 9, 10, 11] [4, 8, 20, 37] ?_
 apply z3
 refine WS [1, 4, 8, 9, 10, 11, 12] [4, 8, 20, 37] ?_
 apply z7
 have hE := And.intro hE (zgf x y)
 refine WL (ι := {i : Nat // i ≤ 22}) [1, 4, 8, 9, 10] [4, 8, 36, 37] (fun ⟨i, hi⟩ => [(11, .osl 20 1 0 (12 + i)), (12, .dat (iD i))]) (fun ⟨i, hi⟩ => [(20, ⟨1, ((kw x y i).map iD).map .dat⟩)]) (fun ⟨i, hi⟩ => 22 - i) (⟨0, by omega⟩) ?_
 rintro ⟨i, hi⟩
 refine LA ?_
 apply z3
 refine WS [1, 4, 8, 9, 10, 11, 12, 22] [4, 8, 20, 36, 37] ?_
 refine WI ?_ ?_ <;> intro hb
 ·have hd1 := js (k := (i : Int) + 2) hx.1 (by omega)
  have hd2 := js (k := 2 * (i : Int) + 1) hy.1 (by omega)
  have hcl := z98 x y i
  have htk : List.take (12 + i) ((kw x y i).map iD) = (kw x y i).map iD := List.take_of_length_le (by rw [List.length_map, hcl]; exact Nat.le_refl _)
  have hE := And.intro hE (And.intro hcl htk)
  apply z6
  apply z5
  apply z3
  apply z7
  refine WDQ [1, 4, 8, 9, 10, 11, 12] [4, 8, 20, 36, 37] [0, 1, 2, 3, 4, 5, 6, 7, 8, 9, 10, 11, 12, 13] [37] ?_
  apply ze
  apply z5
  refine yj 37 20 (by omega) (by omega) ?_
  have hE := And.intro hE (zge x y i)
  refine WQ [1, 4, 8, 9, 10, 11, 12] [4, 8, 20, 36, 37] ?_
  refine WN (⟨i + 1, by omega⟩)
 ·apply zj
  apply zd
  have hend : i = 22 := by omega
  subst hend
  apply zb
  apply zn
  apply z5
  refine v8 20 hR.2.2.2 rfl (datE_map _) ?_
  have htk : List.take 34 ((kw x y 22).map iD) = (kw x y 22).map iD := List.take_of_length_le (by rw [List.length_map, z98]; exact Nat.le_refl _)
  have hE := And.intro hE htk
  simp (disch := omega) only [avA, zk, zo, seval, hE]
  have hc := gvF hP hG (zoi G (kw x y 22) (zkc hx hy 22))
  refine WSc [1, 4, 8, 9, 10, 13] [4, 8, 13] ?_
  refine WS [4, 8, 9, 10, 13] [4, 8, 13] ?_
  refine WS [4, 8, 9, 10, 13] [4, 8, 13] ?_
  refine WS [4, 8, 9, 10, 13] [4, 8, 13] ?_
  have hc := gvF hP hG (zq2 G p hp L hL hn (1 + y.tmod 4096) ((x.tdiv 7).tmod 4) (by omega) (by omega) (by omega) (by omega))
  refine WSc [8, 13] [8, 13] ?_
  refine WS [8] [8] ?_
  apply z9
  exact E0
theorem zlb {p : Nat} {L : List EventM} (h : TakenL p L) (b : Int) : qb L ⟨b, (xh L b : Int)⟩ = none := by
 rw [z43]
 intro x hx hn
 have hb : x.By = b ∧ x.Seq = (xh L b : Int) := by
  unfold evName at hn
  rwa [NameM.mk.injEq] at hn
 obtain ⟨k, hk, rfl⟩ := List.getElem_of_mem (z1e.2 ⟨hx, hb.1⟩)
 have := (z1j h b k hk).2
 rw [wi] at hb
 omega
theorem zrv {p : Nat} {L : List EventM} {c : EventM} (h : qb L (evName c) = none) (h2 : (zr p L c).2.2 = 0) : zr p L c = (L ++ [c], true, 0) := by
 unfold zr at h2 ⊢
 (repeat' split) <;> simp_all
theorem zla (p : Nat) (L : List EventM) (c : EventM) : evName (we L p c) = ⟨c.By, (xh L c.By : Int)⟩ := rfl
theorem zl8 {p : Nat} {L : List EventM} {c : EventM} (hT : TakenL p L) (h : (ww p L c).2.2 = 0) : kv p c = false ∧ zr p L (we L p c) = (L ++ [we L p c], true, 0) ∧ ww p L c = (L ++ [we L p c], we L p c, 0) := by
 unfold ww at h ⊢
 split at h
 ·cases h
 ·rename_i hb
  rw [if_neg hb]
  split at h
  ·rename_i he; exact absurd h he
  ·rename_i he
   have he : (zr p L (we L p c)).2.2 = 0 := by simpa using he
   have hn := zrv (by rw [zla]; exact zlb hT _) he
   rw [if_neg (by simpa using he), hn]
   exact ⟨by simpa using hb, rfl, rfl⟩
def Zn (p : Nat) (L : List EventM) (c : EventM) : List EventM := if (ww p L c).2.2 = 0 then (ww p L c).1 else L
theorem z26 {p : Nat} {L : List EventM} (hT : TakenL p L) (c : EventM) : Zn p L c = L ∨ (Zn p L c = L ++ [we L p c] ∧ zr p L (we L p c) = (L ++ [we L p c], true, 0)) := by
 unfold Zn
 split
 ·rename_i h
  obtain ⟨_, h2, h3⟩ := zl8 hT h
  right
  rw [h3]
  exact ⟨rfl, h2⟩
 ·exact .inl rfl
theorem zgt {p : Nat} {L : List EventM} (hT : TakenL p L) (c : EventM) : TakenL p (Zn p L c) := by
 rcases z26 hT c with h | ⟨h, h2⟩
 ·rw [h]; exact hT
 ·rw [h]; exact .snoc hT h2
theorem zon {p : Nat} {L : List EventM} (hT : TakenL p L) (c : EventM) : ∀ e ∈ Zn p L c, e ∈ L ∨ e = we L p c := by
 intro e he
 rcases z26 hT c with h | ⟨h, h2⟩
 ·rw [h] at he; exact .inl he
 ·rw [h] at he
  rcases List.mem_append.1 he with he | he
  ·exact .inl he
  ·exact .inr (List.mem_singleton.1 he)
theorem zom {p : Nat} {L : List EventM} (hT : TakenL p L) (c : EventM) : (Zn p L c).length ≤ L.length + 1 := by
 rcases z26 hT c with h | ⟨h, h2⟩ <;> rw [h] <;> simp
def vr (p : Nat) (l : List Int) : Nat → List EventM
 | 0 => []
 | i + 1 => Zn p (vr p l i) (yv p (vr p l i) (atM l (3 * (i : Int)) p) (l.getD (3 * i + 1) default) (l.getD (3 * i + 2) default))
theorem zdu (p : Nat) (l : List Int) : vr p l 0 = [] := rfl
def kG (l : List Int) : Nat := min 10 (l.length / 3)
def zgu (p : Nat) (l : List Int) : List EventM := vr p l (kG l)
theorem zp7 {l : List Int} {i : Nat} : i < kG l ↔ 3 * i + 2 < l.length ∧ i < 10 := by
 unfold kG
 omega
theorem zuw {k p : Nat} {L : List EventM} {c : EventM} (hT : TakenL p L) (hl : L.length ≤ 100000) (h : SmEv k c) : SmEv k (we L p c) := by
 have hc := X6 L c.By
 have hk := z0y hT
 rw [← zvf hT] at hk
 exact { h with seq := (by show I64 (xh L c.By : Int); unfold I64; omega), tick := (by show I64 (clkN L p + 1); unfold I64; omega) }
structure GrL (p : Nat) (L : List EventM) : Prop where
 taken : TakenL p L
 sm : ∀ e ∈ L, SmEv 1 e
theorem GrL.ok {p : Nat} {L : List EventM} (h : GrL p L) : ∀ e ∈ L, OkEv e := fun e he => zav (h.sm e he) (by omega)
theorem GrL.big {p : Nat} {L : List EventM} (h : GrL p L) : ∀ e ∈ L, ju e := fun e he => zxc (h.sm e he)
theorem GrL.grow {p : Nat} {L : List EventM} {c : EventM} (h : GrL p L) (hl : L.length ≤ 100000) (hc : SmEv 1 c) : GrL p (Zn p L c) where
 taken := zgt h.taken c
 sm := fun e he => by
  rcases zon h.taken c e he with h1 | rfl
  ·exact h.sm e h1
  ·exact zuw h.taken hl hc
theorem zbb (l : List Int) (i : Int) {p : Nat} (hp : 0 < p) (hp2 : p ≤ 1000) : I64 (atM l i p) := by
 have := xc (l := l) (i := i) (m := (p : Int)) (by omega)
 unfold I64
 omega
theorem z47 {p : Nat} (hp : 0 < p) (hp2 : p ≤ 1000) (l : List Int) : ∀ i, i ≤ 10 → GrL p (vr p l i) ∧ (vr p l i).length ≤ i
 | 0, _ => ⟨⟨.nil, fun e he => by cases he⟩, Nat.le_refl _⟩
 | i + 1, hi => by
  obtain ⟨h1, h2⟩ := z47 hp hp2 l i (by omega)
  have hc := z21 (n := l.getD (3 * i + 1) default) (m := l.getD (3 * i + 2) default) hp2 h1.ok (zbb l (3 * (i : Int)) hp hp2)
  rw [vr]
  refine ⟨h1.grow (by omega) (zrk hc), ?_⟩
  have := zom h1.taken (yv p (vr p l i) (atM l (3 * (i : Int)) p) (l.getD (3 * i + 1) default) (l.getD (3 * i + 2) default))
  omega
set_option maxRecDepth 100000 in
set_option maxHeartbeats 4000000 in
theorem zoo (G) (p : Nat) (hp : 0 < p) (hp2 : p ≤ 1000) (l : List Int) (hl : ∀ n ∈ l, I64 n) : zl Tryz.prog G 8 [iD p, isD l] [j7 p (zgu p l)] := by
 have hk10 : kG l ≤ 10 := by unfold kG; omega
 have hpi : I64 (p : Int) := by unfold I64; omega
 skip
 refine GI [] [] [] Tryz.func8 Tryz.ntmps8 fun F hP hG hN hR hA => ?_
 have hE := @Tryz.results8
 refine WS [0, 1, 4] [4] ?_
 refine WS [0, 1, 4, 5] [4, 5] ?_
 apply z3
 refine WS [0, 1, 4, 5, 6] [4, 5] ?_
 apply z7
 refine zbc (ds := [iD p, zz []]) 5 rfl rfl ?_
 have hE := And.intro hE (zdu p l)
 refine WL (ι := {i : Nat // i ≤ kG l}) [0, 1, 4, 5] [4] (fun ⟨i, hi⟩ => [(6, .dat (iD i))]) (fun ⟨i, hi⟩ => [(5, ⟨2, [.dat (j7 p (vr p l i))]⟩)]) (fun ⟨i, hi⟩ => kG l - i) (⟨0, by omega⟩) ?_
 rintro ⟨i, hi⟩
 refine LA ?_
 have hgr := z47 hp hp2 l i (by omega)
 have hsu : vr p l (i + 1) = Zn p (vr p l i) (yv p (vr p l i) (atM l (3 * (i : Int)) p) (l.getD (3 * i + 1) default) (l.getD (3 * i + 2) default)) := rfl
 obtain ⟨hg1, hg2⟩ := hgr
 apply z3
 refine wv (.of [(0, .dat (iD p)), (1, .dat (isD l)), (4, .ptr 4 2 0 0), (5, .ptr 5 2 0 0), (6, .dat (iD i)), (21, .dat (bD (decide ((i : Int) < kG l))))] [(4, ⟨2, [.agg [.dat (iD 0), .nils]]⟩), (5, ⟨2, [.dat (j7 p (vr p l i))]⟩)]) ?_ ?_
 ·by_cases hq : 3 * (i : Int) + 2 < l.length
  ·have hd0 : decide (3 * (i : Int) + 2 < l.length) = true := decide_eq_true hq
   have hbb : decide ((i : Int) < kG l) = decide ((i : Int) < 10) := by
    have := zp7 (l := l) (i := i)
    by_cases h10 : (i : Int) < 10
    ·rw [decide_eq_true h10, decide_eq_true (by omega)]
    ·rw [decide_eq_false h10, decide_eq_false (by omega)]
   have hE := And.intro hE (And.intro hd0 hbb)
   refine Za [0, 1, 4, 5, 6, 21] [4, 5] [(0, 12, _), (1, 13, _), (2, 14, _), (3, 15, _), (4, 16, _), (5, 17, .dat (bD true)), (6, 18, .dat (bD true)), (7, 19, _), (8, 20, .dat (bD (decide ((i : Int) < 10)))), (9, 21, .dat (bD (decide ((i : Int) < 10))))] [] ⟨FV 0 [] [1, 2, 5, 6, 7, 8, 9], FV 1 [0] [2, 5, 6, 7, 8, 9], FV 2 [0, 1] [5, 6, 7, 8, 9], FV 3 [] [4, 5, 6, 7, 8, 9], FV 4 [3] [5, 6, 7, 8, 9], FV 5 [0, 1, 2, 3, 4] [6, 7, 8, 9], FV 6 [0, 1, 2, 3, 4, 5] [7, 8, 9], FG 7 [0, 1, 2, 3, 4, 5, 6] [8, 9], FG 8 [0, 1, 2, 3, 4, 5, 6, 7] [9], FV 9 [0, 1, 2, 3, 4, 5, 6, 7, 8] [], trivial⟩ ?_
   exact ML
  ·have hd0 : decide (3 * (i : Int) + 2 < l.length) = false := decide_eq_false hq
   have hbb : decide ((i : Int) < kG l) = false := by
    have := zp7 (l := l) (i := i)
    rw [decide_eq_false (by omega)]
   have hE := And.intro hE (And.intro hd0 hbb)
   refine Za [0, 1, 4, 5, 6, 21] [4, 5] [(0, 12, _), (1, 13, _), (2, 14, _), (3, 15, _), (4, 16, _), (5, 17, .dat (bD false)), (6, 18, .dat (bD false)), (7, 19, .cond false .junk), (8, 20, .cond false (.dat (bD false))), (9, 21, .dat (bD false))] [] ⟨FV 0 [] [1, 2, 5, 6, 7, 8, 9], FV 1 [0] [2, 5, 6, 7, 8, 9], FV 2 [0, 1] [5, 6, 7, 8, 9], FV 3 [] [4, 5, 6, 7, 8, 9], FV 4 [3] [5, 6, 7, 8, 9], FV 5 [0, 1, 2, 3, 4] [6, 7, 8, 9], FV 6 [0, 1, 2, 3, 4, 5] [7, 8, 9], FO 7 [0, 1, 2, 3, 4, 5, 6] [8, 9], FO 8 [0, 1, 2, 3, 4, 5, 6, 7] [9], FV 9 [0, 1, 2, 3, 4, 5, 6, 7, 8] [], trivial⟩ ?_
   exact ML
 refine WI ?_ ?_ <;> intro hb
 ·have hk := zp7.1 (show i < kG l by omega)
  have n1 := zt hl (i := 3 * i + 1) (by omega)
  have n2 := zt hl (i := 3 * i + 2) (by omega)
  have hsm := z21 (n := l.getD (3 * i + 1) default) (m := l.getD (3 * i + 2) default) hp2 hg1.ok (zbb l (3 * (i : Int)) hp hp2)
  have hco := z6b G p hp2 (vr p l i) hg1.ok (by omega) (atM l (3 * (i : Int)) p) (l.getD (3 * i + 1) default) (l.getD (3 * i + 2) default) n1 n2
  generalize yv p (vr p l i) (atM l (3 * (i : Int)) p) (l.getD (3 * i + 1) default) (l.getD (3 * i + 2) default) = c at *
  generalize vr p l i = M at *
  have hmk := zqx G p hp2 M hg1.taken hg1.ok (by omega) c (zav hsm (by omega))
  have e1 : 3 * (i : Int) + 1 = ((3 * i + 1 : Nat) : Int) := by omega
  have e2 : 3 * (i : Int) + 2 = ((3 * i + 2 : Nat) : Int) := by omega
  have hE := And.intro hE (And.intro e1 e2)
  apply z6
  apply z5
  apply z3
  apply z7
  refine WDF [0, 1, 4, 5, 6, 7, 9] [4, 5, 7] [(0, 25, .dat (j7 p M)), (1, 26, .dat (j7 p M)), (2, 27, _), (3, 28, _), (4, 29, _), (5, 30, _), (6, 31, .dat (iD (atM l (3 * (i : Int)) p))), (7, 32, _), (8, 33, _), (9, 34, _), (10, 35, .dat (iD ((3 * i + 1 : Nat) : Int))), (11, 36, _), (12, 37, .dat (iD (l.getD (3 * i + 1) default))), (13, 38, _), (14, 39, _), (15, 40, _), (16, 41, .dat (iD ((3 * i + 2 : Nat) : Int))), (17, 42, _), (18, 43, .dat (iD (l.getD (3 * i + 2) default))), (19, 44, .dat (zc c)), (20, 45, .tup [.dat (j7 p (ww p M c).1), .dat (zc (ww p M c).2.1), .dat (iD (ww p M c).2.2)]), (21, 24, _), (22, 46, _), (23, 47, _), (24, 48, _), (25, 7, .ptr 7 2 0 0), (26, 8, .ptr 8 32 0 0), (29, 9, _)] [(28, 8, some ⟨32, [.dat (zc (ww p M c).2.1)]⟩), (27, 7, some ⟨2, [.dat (j7 p (ww p M c).1)]⟩), (26, 8, some ⟨32, [zn1]⟩), (25, 7, some ⟨2, [.agg [.dat (iD 0), .nils]]⟩)] ⟨FV 0 [] [20, 21, 22, 23, 24, 27, 28, 29], FV 1 [] [19, 20, 21, 22, 23, 24, 27, 28, 29], FV 2 [] [6, 19, 20, 21, 22, 23, 24, 27, 28, 29], FV 3 [] [4, 6, 19, 20, 21, 22, 23, 24, 27, 28, 29], FV 4 [3] [6, 19, 20, 21, 22, 23, 24, 27, 28, 29], FV 5 [] [6, 19, 20, 21, 22, 23, 24, 27, 28, 29], (by have hc := gvF hP hG (Qb G l (3 * (i : Int)) p hl (by omega) hpi); exact FVc 6 [2, 3, 4, 5] [19, 20, 21, 22, 23, 24, 27, 28, 29]), FV 7 [] [11, 12, 19, 20, 21, 22, 23, 24, 27, 28, 29], FV 8 [] [9, 10, 11, 12, 19, 20, 21, 22, 23, 24, 27, 28, 29], FV 9 [8] [10, 11, 12, 19, 20, 21, 22, 23, 24, 27, 28, 29], FV 10 [8, 9] [11, 12, 19, 20, 21, 22, 23, 24, 27, 28, 29], FV 11 [7, 8, 9, 10] [12, 19, 20, 21, 22, 23, 24, 27, 28, 29], FV 12 [7, 8, 9, 10, 11] [19, 20, 21, 22, 23, 24, 27, 28, 29], FV 13 [] [17, 18, 19, 20, 21, 22, 23, 24, 27, 28, 29], FV 14 [] [15, 16, 17, 18, 19, 20, 21, 22, 23, 24, 27, 28, 29], FV 15 [14] [16, 17, 18, 19, 20, 21, 22, 23, 24, 27, 28, 29], FV 16 [14, 15] [17, 18, 19, 20, 21, 22, 23, 24, 27, 28, 29], FV 17 [13, 14, 15, 16] [18, 19, 20, 21, 22, 23, 24, 27, 28, 29], FV 18 [13, 14, 15, 16, 17] [19, 20, 21, 22, 23, 24, 27, 28, 29], (by have hc := gvF hP hG (hco); exact FVc 19 [1, 2, 3, 4, 5, 6, 7, 8, 9, 10, 11, 12, 13, 14, 15, 16, 17, 18] [20, 21, 22, 23, 24, 27, 28, 29]), (by have hc := gvF hP hG (hmk); exact FVc 20 [0, 1, 2, 3, 4, 5, 6, 7, 8, 9, 10, 11, 12, 13, 14, 15, 16, 17, 18, 19] [21, 22, 23, 24, 27, 28, 29]), FV 21 [0, 1, 2, 3, 4, 5, 6, 7, 8, 9, 10, 11, 12, 13, 14, 15, 16, 17, 18, 19, 20] [22, 23, 24, 27, 28, 29], FV 22 [0, 1, 2, 3, 4, 5, 6, 7, 8, 9, 10, 11, 12, 13, 14, 15, 16, 17, 18, 19, 20, 21] [27, 28, 29], FV 23 [0, 1, 2, 3, 4, 5, 6, 7, 8, 9, 10, 11, 12, 13, 14, 15, 16, 17, 18, 19, 20, 21] [28, 29], FV 24 [0, 1, 2, 3, 4, 5, 6, 7, 8, 9, 10, 11, 12, 13, 14, 15, 16, 17, 18, 19, 20, 21] [29], FNd 25 3 [] [27, 28, 29], FNd 26 2 [] [27, 28, 29], FS 1 [0, 1, 2, 3, 4, 5, 6, 7, 8, 9, 10, 11, 12, 13, 14, 15, 16, 17, 18, 19, 20, 21, 22, 25, 26] [28, 29], FS 0 [0, 1, 2, 3, 4, 5, 6, 7, 8, 9, 10, 11, 12, 13, 14, 15, 16, 17, 18, 19, 20, 21, 22, 23, 25, 26, 27] [29], FV 27 [0, 1, 2, 3, 4, 5, 6, 7, 8, 9, 10, 11, 12, 13, 14, 15, 16, 17, 18, 19, 20, 21, 22, 23, 24, 25, 26, 27, 28] [], trivial⟩ ?_
  refine WS [0, 1, 4, 5, 6, 7, 50] [4, 5, 7] ?_
  refine WI ?_ ?_ <;> intro hb
  ·have hv : Zn p M c = (ww p M c).1 := by unfold Zn; rw [if_pos hb]
   have hE := And.intro hE (And.intro hsu hv)
   refine WQ [0, 1, 4, 5, 6] [4, 5] ?_
   apply ze
   apply z5
   refine WQ [0, 1, 4, 5, 6] [4, 5] ?_
   refine WN (⟨i + 1, by omega⟩)
  ·have hv : Zn p M c = M := by unfold Zn; rw [if_neg hb]
   have hE := And.intro hE (And.intro hsu hv)
   apply z6
   apply ze
   apply z5
   refine WQ [0, 1, 4, 5, 6] [4, 5] ?_
   refine WN (⟨i + 1, by omega⟩)
 ·apply zj
  apply zd
  have hend : i = kG l := by omega
  subst hend
  have hE := And.intro hE (show zgu p l = vr p l (kG l) from rfl)
  apply zb
  apply zn
  apply z5
  refine WS [4] [4] ?_
  apply z9
  exact E0
theorem zb0 {p : Nat} : ∀ (l L : List EventM) (n : Nat), TakenL p (L ++ l) → qk p L l n = (L ++ l, n + l.length, 0)
 | [], L, n, _ => by rw [qk, List.append_nil, List.length_nil, Nat.add_zero]
 | c :: l, L, n, h => by
  have h' : TakenL p ((L ++ [c]) ++ l) := by rw [List.append_assoc]; exact h
  have h1 := zi7 h' (L ++ [c]).length
  rw [List.take_left] at h1
  have h2 := (zms h1).2
  rw [qk, h2, if_neg (by simp), if_pos rfl, zb0 l (L ++ [c]) (n + 1) h', List.append_assoc, List.length_cons]
  simp only [List.cons_append, List.nil_append]
  congr 2
  omega
theorem zmu {p : Nat} {l : List EventM} (h : TakenL p l) : qk p [] l 0 = (l, l.length, 0) := by
 have := zb0 l [] 0 h
 rw [this, List.nil_append, Nat.zero_add]
theorem zoj (G) (n : Nat) (h1 : 1 ≤ n) (h6 : n ≤ 6) (l : List EventM) (hl : ∀ e ∈ l, OkEv e) (hn : l.length ≤ 100000) (hT : TakenL n l) : GivesX Tryz.prog G 12 [.dat (iD n), .dat (zz l)] [] [.ptr 14 2 0 0] [(14, ⟨2, [.agg [.osl 11 1 0 n, .mp 12]]⟩), (11, ⟨1, ((qw n l).map iD).map .dat⟩), (12, ⟨0, [.tup [], .dat (.sl (X8 l)), .dat (.sl (l.map zc))]⟩)] := by
 have ht := zmu hT
 have := zgq G n h1 h6 l hl hn (by rw [ht])
 rwa [ht] at this
set_option maxRecDepth 100000 in
set_option maxHeartbeats 4000000 in
theorem zmh (G) (e : EventM) (how b : Int) (hs : OkEv e) (hh : I64 how) (hbb : I64 b) : zl Tryz.prog G 25 [zc e, iD how, iD b] [zc (qd e how b)] := by
 have hnr := hs.nrefs
 have hnp := hs.nposts
 have hnb := hs.nbroader
 have q := fun c (hc : 1 ≤ c) => IntWalk.i64_quo' b c (by unfold I64 at hbb; omega)
 have q5 := q 5 (by omega)
 have q7 := q 7 (by omega)
 have q8 := q 8 (by omega)
 have hc16 := zu (n := how) (m := 16) (by omega)
 have w1 := yg b
 have hi8 := zdx hbb (c := 8) (by omega)
 have r8 := zu (n := b.tdiv 8) (m := 5) (by omega)
 have r4 := zu (n := b) (m := 4) (by omega)
 have w2 := zax (i := (zp (b.tdiv 8) 5).toNat) (by omega)
 have hw1 : ([.str ⟨#[]⟩, .str ⟨#[64]⟩, .str ⟨#[32]⟩, .str ⟨#[32, 32, 120]⟩, .str ⟨#[32, 111, 102, 32, 116, 104, 101, 32, 108, 121, 114, 101, 32, 111, 102, 32, 114, 111, 109, 101]⟩] : List Dat) = sufL.map Dat.str := rfl
 have hw2 : ([.str ⟨#[]⟩, .str ⟨#[97, 110, 110, 97]⟩, .str ⟨#[64]⟩, .str ⟨#[32]⟩] : List Dat) = seeL.map Dat.str := rfl
 have hw3 : sufL.length = 5 := rfl
 have hw4 : seeL.length = 4 := rfl
 skip
 skip
 refine GI [134] [] [156] Tryz.func25 Tryz.ntmps25 fun F hP hG hN hR hA => ?_
 have hE := And.intro @Tryz.results25 (And.intro (And.intro q5 (And.intro q7 (And.intro q8 (And.intro hw1 (And.intro hw2 (And.intro hw3 hw4)))))) (@zjc))
 refine WS [1, 2, 3, 6] [3, 6, 12, 16, 28, 64, 110, 116, 156] ?_
 refine WS [1, 2, 3, 6, 7] [3, 6, 9, 12, 16, 28, 64, 110, 116, 156] ?_
 refine WS [1, 2, 3, 6, 7, 8] [3, 6, 9, 12, 13, 16, 28, 64, 110, 116, 156] ?_
 apply z3
 have hc := gvF hP hG (wh G how 16 hh (by omega) (by unfold I64; omega))
 refine WSc [2, 3, 6, 7, 8, 18] [3, 6, 9, 12, 13, 16, 28, 64, 110, 116, 156] ?_
 apply z7
 refine WS [2, 3, 6, 7, 8, 18, 31] [3, 6, 9, 12, 13, 16, 28, 64, 110, 116, 156] ?_
 refine WI ?_ ?_ <;> intro hb
 ·have hv : qd e how b = { e with By := b } := by
   unfold qd spM
   rw [if_pos hb]
  have hE := And.intro hE hv
  refine WQ [3, 6] [3, 6, 9, 12, 13, 16, 28, 64, 110, 116, 156] ?_
  apply ze
  apply z5
  refine WS [6] [6, 9, 12, 13, 16, 27, 28, 63, 64, 106, 110, 115, 116, 131, 133, 134, 142, 156] ?_
  apply z9
  refine EN ?_
  all_goals try trivial
  all_goals first | done | rfl | (simp only [zc, qc, qs, ssD, List.map_append, List.map_cons, List.map_nil]; done) | (simp only [zc, qc, qs, ssD, List.map_append, List.map_cons, List.map_nil]; rfl) | skip
 ·refine WS [2, 3, 6, 7, 8, 18, 35] [3, 6, 9, 12, 13, 16, 28, 64, 110, 116, 156] ?_
  refine WI ?_ ?_ <;> intro hb
  ·have hv : qd e how b = { e with Seq := b } := by
    unfold qd spM
    rw [if_neg (by omega), if_pos hb]
   have hE := And.intro hE hv
   refine WQ [3, 6] [3, 6, 9, 12, 13, 16, 28, 64, 110, 116, 156] ?_
   apply ze
   apply z5
   refine WS [6] [6, 9, 12, 13, 16, 27, 28, 63, 64, 106, 110, 115, 116, 131, 133, 134, 142, 156] ?_
   apply z9
   refine EN ?_
   all_goals try trivial
   all_goals first | done | rfl | (simp only [zc, qc, qs, ssD, List.map_append, List.map_cons, List.map_nil]; done) | (simp only [zc, qc, qs, ssD, List.map_append, List.map_cons, List.map_nil]; rfl) | skip
  ·refine WS [2, 3, 6, 7, 8, 18, 39] [3, 6, 9, 12, 13, 16, 28, 64, 110, 116, 156] ?_
   refine WI ?_ ?_ <;> intro hb
   ·have hv : qd e how b = { e with Tick := b } := by
     unfold qd spM
     rw [if_neg (by omega), if_neg (by omega), if_pos hb]
    have hE := And.intro hE hv
    refine WQ [3, 6] [3, 6, 9, 12, 13, 16, 28, 64, 110, 116, 156] ?_
    apply ze
    apply z5
    refine WS [6] [6, 9, 12, 13, 16, 27, 28, 63, 64, 106, 110, 115, 116, 131, 133, 134, 142, 156] ?_
    apply z9
    refine EN ?_
    all_goals try trivial
    all_goals first | done | rfl | (simp only [zc, qc, qs, ssD, List.map_append, List.map_cons, List.map_nil]; done) | (simp only [zc, qc, qs, ssD, List.map_append, List.map_cons, List.map_nil]; rfl) | skip
   ·refine WS [2, 3, 6, 7, 8, 18, 43] [3, 6, 9, 12, 13, 16, 28, 64, 110, 116, 156] ?_
    refine WI ?_ ?_ <;> intro hb
    ·have hv : qd e how b = { e with Kind := b } := by
      unfold qd spM
      rw [if_neg (by omega), if_neg (by omega), if_neg (by omega), if_pos hb]
     have hE := And.intro hE hv
     refine WQ [3, 6] [3, 6, 9, 12, 13, 16, 28, 64, 110, 116, 156] ?_
     apply ze
     apply z5
     refine WS [6] [6, 9, 12, 13, 16, 27, 28, 63, 64, 106, 110, 115, 116, 131, 133, 134, 142, 156] ?_
     apply z9
     refine EN ?_
     all_goals try trivial
     all_goals first | done | rfl | (simp only [zc, qc, qs, ssD, List.map_append, List.map_cons, List.map_nil]; done) | (simp only [zc, qc, qs, ssD, List.map_append, List.map_cons, List.map_nil]; rfl) | skip
    ·refine WS [2, 3, 6, 7, 8, 18, 47] [3, 6, 9, 12, 13, 16, 28, 64, 110, 116, 156] ?_
     refine WI ?_ ?_ <;> intro hb
     ·have hv : qd e how b = { e with N := b } := by
       unfold qd spM
       rw [if_neg (by omega), if_neg (by omega), if_neg (by omega), if_neg (by omega), if_pos hb]
      have hE := And.intro hE hv
      refine WQ [3, 6] [3, 6, 9, 12, 13, 16, 28, 64, 110, 116, 156] ?_
      apply ze
      apply z5
      refine WS [6] [6, 9, 12, 13, 16, 27, 28, 63, 64, 106, 110, 115, 116, 131, 133, 134, 142, 156] ?_
      apply z9
      refine EN ?_
      all_goals try trivial
      all_goals first | done | rfl | (simp only [zc, qc, qs, ssD, List.map_append, List.map_cons, List.map_nil]; done) | (simp only [zc, qc, qs, ssD, List.map_append, List.map_cons, List.map_nil]; rfl) | skip
     ·refine WS [2, 3, 6, 7, 8, 18, 51] [3, 6, 9, 12, 13, 16, 28, 64, 110, 116, 156] ?_
      refine WI ?_ ?_ <;> intro hb
      ·have hv : qd e how b = { e with ID := { e.ID with K := b } } := by
        unfold qd spM
        rw [if_neg (by omega), if_neg (by omega), if_neg (by omega), if_neg (by omega), if_neg (by omega), if_pos hb]
       have hE := And.intro hE hv
       refine WQ [3, 6] [3, 6, 9, 12, 13, 16, 28, 64, 110, 116, 156] ?_
       apply ze
       apply z5
       refine WS [6] [6, 9, 12, 13, 16, 27, 28, 63, 64, 106, 110, 115, 116, 131, 133, 134, 142, 156] ?_
       apply z9
       refine EN ?_
       all_goals try trivial
       all_goals first | done | rfl | (simp only [zc, qc, qs, ssD, List.map_append, List.map_cons, List.map_nil]; done) | (simp only [zc, qc, qs, ssD, List.map_append, List.map_cons, List.map_nil]; rfl) | skip
      ·refine WS [2, 3, 6, 7, 8, 18, 56] [3, 6, 9, 12, 13, 16, 28, 64, 110, 116, 156] ?_
       refine WI ?_ ?_ <;> intro hb
       ·have hv : qd e how b = { e with Refs := e.Refs ++ [⟨b, b.tdiv 7⟩] } := by
         unfold qd spM
         rw [if_neg (by omega), if_neg (by omega), if_neg (by omega), if_neg (by omega), if_neg (by omega), if_neg (by omega), if_pos hb]
        have hE := And.intro hE hv
        refine WQ [3, 6] [3, 6, 9, 12, 13, 16, 28, 63, 64, 110, 116, 156] ?_
        apply ze
        apply z5
        refine WS [6] [6, 9, 12, 13, 16, 27, 28, 63, 64, 106, 110, 115, 116, 131, 133, 134, 142, 156] ?_
        apply z9
        refine EN ?_
        all_goals try trivial
        all_goals first | done | rfl | (simp only [zc, qc, qs, ssD, List.map_append, List.map_cons, List.map_nil]; done) | (simp only [zc, qc, qs, ssD, List.map_append, List.map_cons, List.map_nil]; rfl) | skip
       ·refine WS [2, 3, 6, 7, 8, 18, 66] [3, 6, 9, 12, 13, 16, 28, 64, 110, 116, 156] ?_
        refine WI ?_ ?_ <;> intro hb
        ·have hv : qd e how b = { e with Refs := sp7 e.Refs b } := by
          unfold qd spM
          rw [if_neg (by omega), if_neg (by omega), if_neg (by omega), if_neg (by omega), if_neg (by omega), if_neg (by omega), if_neg (by omega), if_pos hb]
         apply z3
         refine WS [2, 3, 6, 7, 70] [3, 6, 9, 12, 13, 16, 28, 64, 110, 116, 156] ?_
         refine WI ?_ ?_ <;> intro hb
         ·have r7 := zu (n := b) (m := (e.Refs.length : Int)) (by omega)
          have hv7 : qd e how b = { e with Refs := e.Refs.set (zp b e.Refs.length).toNat (e.Refs.getD 0 default) } := by
           rw [hv]
           unfold sp7
           rw [if_pos (by omega)]
          have hset := zcf zx e.Refs (zp b e.Refs.length).toNat (e.Refs.getD 0 default)
          dsimp only [zx] at hset
          have hsl : (e.Refs.set (zp b e.Refs.length).toNat (e.Refs.getD 0 default)).length = e.Refs.length := List.length_set
          have hst : List.take e.Refs.length (e.Refs.set (zp b e.Refs.length).toNat (e.Refs.getD 0 default)) = e.Refs.set (zp b e.Refs.length).toNat (e.Refs.getD 0 default) := List.take_of_length_le (by omega)
          have hE := And.intro hE (And.intro hv7 (And.intro hset (And.intro hsl hst)))
          apply z05 [3, 6, 7] [3, 6, 9, 12, 13, 16, 28, 64, 110, 116, 156] [0, 1, 2, 3, 4, 5, 6, 7, 8, 9] []
          ·rw [hP]; kernel_rfl
          ·exact hR
          ·kernel_rfl
          ·(repeat (apply PickL.cons; exact rfl)); exact PickL.nil _
          ·refine RN ?_
           refine CU (wh G b e.Refs.length hbb (by omega) (by unfold I64; omega)) ?_
           exact SC
          apply z5
          refine WQ [3, 6] [3, 6, 9, 12, 13, 16, 28, 64, 110, 116, 156] ?_
          apply ze
          apply z5
          refine WS [6] [6, 9, 12, 13, 16, 27, 28, 63, 64, 106, 110, 115, 116, 131, 133, 134, 142, 156] ?_
          apply z9
          refine EN ?_
          all_goals try trivial
          all_goals first | done | rfl | (simp only [zc, qc, qs, ssD, List.map_append, List.map_cons, List.map_nil]; done) | (simp only [zc, qc, qs, ssD, List.map_append, List.map_cons, List.map_nil]; rfl) | skip
         ·have hv7 : qd e how b = e := by
           rw [hv]
           unfold sp7
           rw [if_neg (by omega)]
          have hE := And.intro hE hv7
          apply z6
          apply z5
          refine WQ [3, 6] [3, 6, 9, 12, 13, 16, 28, 64, 110, 116, 156] ?_
          apply ze
          apply z5
          refine WS [6] [6, 9, 12, 13, 16, 27, 28, 63, 64, 106, 110, 115, 116, 131, 133, 134, 142, 156] ?_
          apply z9
          refine EN ?_
          all_goals try trivial
          all_goals first | done | rfl | (simp only [zc, qc, qs, ssD, List.map_append, List.map_cons, List.map_nil]; done) | (simp only [zc, qc, qs, ssD, List.map_append, List.map_cons, List.map_nil]; rfl) | skip
        ·refine WS [2, 3, 6, 7, 8, 18, 82] [3, 6, 9, 12, 13, 16, 28, 64, 110, 116, 156] ?_
         refine WI ?_ ?_ <;> intro hb
         ·have hv : qd e how b = { e with Term := { e.Term with Name := wordM b ++ sufL.getD (zp (b.tdiv 8) 5).toNat default } } := by
           unfold qd spM
           rw [if_neg (by omega), if_neg (by omega), if_neg (by omega), if_neg (by omega), if_neg (by omega), if_neg (by omega), if_neg (by omega), if_neg (by omega), if_pos hb]
          have hE := And.intro hE hv
          apply yp [3, 6] [3, 6, 9, 12, 13, 16, 28, 64, 110, 116, 156]
          ·refine RN ?_
           refine CU (Z9 G b hbb) ?_
           refine CU (wh G (b.tdiv 8) 5 hi8 (by omega) (by unfold I64; omega)) ?_
           exact SC
          apply ze
          apply z5
          refine WS [6] [6, 9, 12, 13, 16, 27, 28, 63, 64, 106, 110, 115, 116, 131, 133, 134, 142, 156] ?_
          apply z9
          refine EN ?_
          all_goals try trivial
          all_goals first | done | rfl | (simp only [zc, qc, qs, ssD, List.map_append, List.map_cons, List.map_nil]; done) | (simp only [zc, qc, qs, ssD, List.map_append, List.map_cons, List.map_nil]; rfl) | skip
         ·refine WS [2, 3, 6, 7, 8, 18, 95] [3, 6, 9, 12, 13, 16, 28, 64, 110, 116, 156] ?_
          refine WI ?_ ?_ <;> intro hb
          ·have hv : qd e how b = { e with Term := { e.Term with See := seeL.getD (zp b 4).toNat default } } := by
            unfold qd spM
            rw [if_neg (by omega), if_neg (by omega), if_neg (by omega), if_neg (by omega), if_neg (by omega), if_neg (by omega), if_neg (by omega), if_neg (by omega), if_neg (by omega), if_pos hb]
           have hE := And.intro hE hv
           have hc := gvF hP hG (wh G b 4 hbb (by omega) (by unfold I64; omega))
           refine WQc [3, 6] [3, 6, 9, 12, 13, 16, 28, 64, 110, 116, 156] ?_
           apply ze
           apply z5
           refine WS [6] [6, 9, 12, 13, 16, 27, 28, 63, 64, 106, 110, 115, 116, 131, 133, 134, 142, 156] ?_
           apply z9
           refine EN ?_
           all_goals try trivial
           all_goals first | done | rfl | (simp only [zc, qc, qs, ssD, List.map_append, List.map_cons, List.map_nil]; done) | (simp only [zc, qc, qs, ssD, List.map_append, List.map_cons, List.map_nil]; rfl) | skip
          ·refine WS [2, 3, 6, 7, 8, 18, 104] [3, 6, 9, 12, 13, 16, 28, 64, 110, 116, 156] ?_
           refine WI ?_ ?_ <;> intro hb
           ·have hv : qd e how b = { e with Term := { e.Term with Broader := e.Term.Broader ++ [wordM b, ⟨#[]⟩, wordM b] } } := by
             unfold qd spM
             rw [if_neg (by omega), if_neg (by omega), if_neg (by omega), if_neg (by omega), if_neg (by omega), if_neg (by omega), if_neg (by omega), if_neg (by omega), if_neg (by omega), if_neg (by omega), if_pos hb]
            have hE := And.intro hE hv
            apply yp [3, 6] [3, 6, 9, 12, 13, 16, 28, 64, 106, 110, 115, 116, 156]
            ·refine RN ?_
             refine CU (Z9 G b hbb) ?_
             refine CU (Z9 G b hbb) ?_
             exact SC
            apply ze
            apply z5
            refine WS [6] [6, 9, 12, 13, 16, 27, 28, 63, 64, 106, 110, 115, 116, 131, 133, 134, 142, 156] ?_
            apply z9
            refine EN ?_
            all_goals try trivial
            all_goals first | done | rfl | (simp only [zc, qc, qs, ssD, List.map_append, List.map_cons, List.map_nil]; done) | (simp only [zc, qc, qs, ssD, List.map_append, List.map_cons, List.map_nil]; rfl) | skip
           ·refine WS [2, 3, 6, 7, 8, 18, 119] [3, 6, 9, 12, 13, 16, 28, 64, 110, 116, 156] ?_
            refine WI ?_ ?_ <;> intro hb
            ·have hv : qd e how b = { e with Term := { e.Term with Lang := b } } := by
              unfold qd spM
              rw [if_neg (by omega), if_neg (by omega), if_neg (by omega), if_neg (by omega), if_neg (by omega), if_neg (by omega), if_neg (by omega), if_neg (by omega), if_neg (by omega), if_neg (by omega), if_neg (by omega), if_pos hb]
             have hE := And.intro hE hv
             refine WQ [3, 6] [3, 6, 9, 12, 13, 16, 28, 64, 110, 116, 156] ?_
             apply ze
             apply z5
             refine WS [6] [6, 9, 12, 13, 16, 27, 28, 63, 64, 106, 110, 115, 116, 131, 133, 134, 142, 156] ?_
             apply z9
             refine EN ?_
             all_goals try trivial
             all_goals first | done | rfl | (simp only [zc, qc, qs, ssD, List.map_append, List.map_cons, List.map_nil]; done) | (simp only [zc, qc, qs, ssD, List.map_append, List.map_cons, List.map_nil]; rfl) | skip
            ·refine WS [2, 3, 6, 7, 8, 18, 124] [3, 6, 9, 12, 13, 16, 28, 64, 110, 116, 156] ?_
             refine WI ?_ ?_ <;> intro hb
             ·have hv : qd e how b = { e with Posts := e.Posts ++ [{ ID := e.ID, Path := [wordM b], Main := false }] } := by
               unfold qd spM
               rw [if_neg (by omega), if_neg (by omega), if_neg (by omega), if_neg (by omega), if_neg (by omega), if_neg (by omega), if_neg (by omega), if_neg (by omega), if_neg (by omega), if_neg (by omega), if_neg (by omega), if_neg (by omega), if_pos hb]
              have hE := And.intro hE hv
              apply z05 [3, 6] [3, 6, 9, 12, 13, 16, 28, 64, 110, 116, 131, 133, 134, 156] [0, 1, 2, 3, 4, 5, 6, 7, 8, 9, 10] [134]
              ·rw [hP]; kernel_rfl
              ·exact hR
              ·kernel_rfl
              ·(repeat (apply PickL.cons; exact rfl)); exact PickL.nil _
              ·refine RN ?_
               refine CU (Z9 G b hbb) ?_
               exact SC
              apply ze
              apply z5
              refine WS [6] [6, 9, 12, 13, 16, 27, 28, 63, 64, 106, 110, 115, 116, 131, 133, 134, 142, 156] ?_
              apply z9
              refine EN ?_
              all_goals try trivial
              all_goals first | done | rfl | (simp only [zc, qc, qs, ssD, List.map_append, List.map_cons, List.map_nil]; done) | (simp only [zc, qc, qs, ssD, List.map_append, List.map_cons, List.map_nil]; rfl) | skip
             ·refine WS [2, 3, 6, 7, 8, 18, 136] [3, 6, 9, 12, 13, 16, 28, 64, 110, 116, 156] ?_
              refine WI ?_ ?_ <;> intro hb
              ·have hv : qd e how b = { e with Posts := zmf e.Posts b } := by
                unfold qd spM
                rw [if_neg (by omega), if_neg (by omega), if_neg (by omega), if_neg (by omega), if_neg (by omega), if_neg (by omega), if_neg (by omega), if_neg (by omega), if_neg (by omega), if_neg (by omega), if_neg (by omega), if_neg (by omega), if_neg (by omega), if_pos hb]
               apply z3
               refine WS [2, 3, 6, 8, 140] [3, 6, 9, 12, 13, 16, 28, 64, 110, 116, 156] ?_
               refine WI ?_ ?_ <;> intro hb
               ·obtain ⟨p, ps, hps⟩ : ∃ p ps, e.Posts = p :: ps := by
                 cases hq : e.Posts with
                 | nil => rw [hq] at hb; simp at hb
                 | cons p ps => exact ⟨p, ps, rfl⟩
                have hpo := hs.posts p (by rw [hps]; simp)
                have r13 := zu (n := b) (m := (p.Path.length : Int) + 1) (by omega)
                have r52a := Int.tmod_lt_of_pos (b.tdiv 5) (b := 2) (by omega)
                have r52b := Int.lt_tmod_of_pos (b.tdiv 5) (b := 2) (by omega)
                have hv13 : qd e how b = { e with Posts := { ID := ⟨IntKind.i64.wrap (p.ID.By + (b.tdiv 5).tmod 2), p.ID.Seq, p.ID.K⟩, Path := p.Path.take (zp b (p.Path.length + 1)).toNat, Main := p.Main } :: ps } := by
                 rw [hv, hps]
                 rfl
                have hE := And.intro hE (And.intro hps hv13)
                apply w6 [2, 3, 6, 8] [3, 6, 9, 12, 13, 16, 28, 64, 110, 116, 142, 156] [0, 1, 2, 3, 4, 5, 6, 7, 8, 9, 10, 11, 12, 13, 14, 15, 16, 17, 18] [156]
                ·rw [hP]; kernel_rfl
                ·exact hR
                ·kernel_rfl
                ·(repeat (apply PickL.cons; exact rfl)); exact PickL.nil _
                ·refine RN ?_
                 refine CU (wh G b ((p.Path.length : Int) + 1) hbb (by omega) (by unfold I64; omega)) ?_
                 exact SC
                refine v8 156 hR.2.2.2 rfl (datE_map _) ?_
                refine WQ [3, 6, 8] [3, 6, 9, 12, 13, 16, 28, 64, 110, 116, 142, 156] ?_
                apply z5
                refine WQ [3, 6] [3, 6, 9, 12, 13, 16, 28, 64, 110, 116, 142, 156] ?_
                apply ze
                apply z5
                refine WS [6] [6, 9, 12, 13, 16, 27, 28, 63, 64, 106, 110, 115, 116, 131, 133, 134, 142, 156] ?_
                apply z9
                refine EN ?_
                all_goals try trivial
                all_goals first | done | rfl | (simp only [zc, qc, qs, ssD, List.map_append, List.map_cons, List.map_nil]; done) | (simp only [zc, qc, qs, ssD, List.map_append, List.map_cons, List.map_nil]; rfl) | skip
               ·have hps : e.Posts = [] := List.eq_nil_of_length_eq_zero (by omega)
                have hv13 : qd e how b = e := by
                 rw [hv, hps]
                 show ({ e with Posts := [] } : EventM) = e
                 rw [← hps]
                have hE := And.intro hE hv13
                apply z6
                apply z5
                refine WQ [3, 6] [3, 6, 9, 12, 13, 16, 28, 64, 110, 116, 142, 156] ?_
                apply ze
                apply z5
                refine WS [6] [6, 9, 12, 13, 16, 27, 28, 63, 64, 106, 110, 115, 116, 131, 133, 134, 142, 156] ?_
                apply z9
                refine EN ?_
                all_goals try trivial
                all_goals first | done | rfl | (simp only [zc, qc, qs, ssD, List.map_append, List.map_cons, List.map_nil]; done) | (simp only [zc, qc, qs, ssD, List.map_append, List.map_cons, List.map_nil]; rfl) | skip
              ·refine WS [2, 3, 6, 7, 174] [3, 6, 9, 12, 13, 16, 28, 64, 110, 116, 156] ?_
               refine WI ?_ ?_ <;> intro hb
               ·have hv : qd e how b = { e with Op := { e.Op with N := b } } := by
                 unfold qd spM
                 rw [if_neg (by omega), if_neg (by omega), if_neg (by omega), if_neg (by omega), if_neg (by omega), if_neg (by omega), if_neg (by omega), if_neg (by omega), if_neg (by omega), if_neg (by omega), if_neg (by omega), if_neg (by omega), if_neg (by omega), if_neg (by omega), if_pos hb]
                have hE := And.intro hE hv
                refine WQ [3, 6] [3, 6, 9, 12, 13, 16, 28, 64, 110, 116, 156] ?_
                apply ze
                apply z5
                refine WS [6] [6, 9, 12, 13, 16, 27, 28, 63, 64, 106, 110, 115, 116, 131, 133, 134, 142, 156] ?_
                apply z9
                refine EN ?_
                all_goals try trivial
                all_goals first | done | rfl | (simp only [zc, qc, qs, ssD, List.map_append, List.map_cons, List.map_nil]; done) | (simp only [zc, qc, qs, ssD, List.map_append, List.map_cons, List.map_nil]; rfl) | skip
               ·apply z3
                apply z7
                have hv : qd e how b = { e with Refs := z52 e.Refs b } := by
                 unfold qd spM
                 rw [if_neg (by omega), if_neg (by omega), if_neg (by omega), if_neg (by omega), if_neg (by omega), if_neg (by omega), if_neg (by omega), if_neg (by omega), if_neg (by omega), if_neg (by omega), if_neg (by omega), if_neg (by omega), if_neg (by omega), if_neg (by omega), if_neg (by omega)]
                have hE := And.intro hE (And.intro hv (z6m e.Refs b))
                refine yj 12 28 (by omega) (by omega) ?_
                refine WL (ι := {i : Nat // e.Refs.length ≤ i ∧ (i ≤ 17 ∨ i = e.Refs.length)}) [2, 3, 6] [3, 6, 9, 12, 13, 16, 27, 63, 64, 106, 110, 115, 116, 131, 133, 134, 142, 156] (fun ⟨i, hi2⟩ => [(7, .osl 28 2 0 i)]) (fun ⟨i, hi2⟩ => [(28, ⟨2, ((Xw e.Refs b i).map zx).map .dat⟩)]) (fun ⟨i, hi2⟩ => 17 - i) (⟨e.Refs.length, by omega, by omega⟩) ?_
                rintro ⟨i, hi2⟩
                refine LA ?_
                obtain ⟨hi, hi3⟩ := id hi2
                have hfl := z9l (b := b) hi
                have hfs := zgp (b := b) hi
                have hE := And.intro hE (And.intro hfl (And.intro hfs (z6m e.Refs b)))
                apply z3
                refine WS [2, 3, 6, 7, 21] [3, 6, 9, 12, 13, 16, 27, 28, 64, 110, 116, 156] ?_
                refine WI ?_ ?_ <;> intro hb
                ·apply z6
                 apply z5
                 apply z7
                 refine WQ [2, 3, 6, 7] [3, 6, 9, 12, 13, 16, 27, 28, 64, 110, 116, 156] ?_
                 apply ze
                 refine WN (⟨i + 1, by omega⟩)
                ·apply zj
                 apply zd
                 have hfr : z52 e.Refs b = Xw e.Refs b i := by unfold z52; congr 1; omega
                 have hE := And.intro hE hfr
                 apply zb
                 apply zn
                 apply z5
                 refine WQ [3, 6] [3, 6, 9, 12, 13, 16, 27, 28, 64, 110, 116, 156] ?_
                 apply ze
                 apply z5
                 refine WS [6] [6, 9, 12, 13, 16, 27, 28, 63, 64, 106, 110, 115, 116, 131, 133, 134, 142, 156] ?_
                 apply z9
                 refine EN ?_
                 all_goals try trivial
                 all_goals first | done | rfl | (simp only [zc, qc, qs, ssD, List.map_append, List.map_cons, List.map_nil]; done) | (simp only [zc, qc, qs, ssD, List.map_append, List.map_cons, List.map_nil]; rfl) | skip
def nxE (p : Nat) (L : List EventM) (b n m : Int) : EventM := { yv p L b n m with Seq := ((qt L b).length : Int), Tick := rclN L L.length + 1 + zp m 3 }
def nxC (L : List EventM) (c : EventM) (m how : Int) : EventM :=
 if zp how 10 = 0 then { c with Tick := zp m (rclN L L.length + 1) }
 else if zp how 10 = 1 then { c with Seq := zp m (c.Seq + 2) }
 else if zp how 10 = 2 then qd c (how.tdiv 10) (zp m 9 - 1)
 else if zp how 10 = 3 then { c with Refs := c.Refs ++ [⟨5, 63⟩] }
 else c
def z7a (p : Nat) (L : List EventM) (b n m how : Int) : EventM := nxC L (nxE p L b n m) m how
theorem zqe (p : Nat) (L : List EventM) (b n m : Int) : (nxE p L b n m).Seq = ((qt L b).length : Int) := rfl
theorem zqd {p : Nat} {L : List EventM} {b n m : Int} (hp : p ≤ 1000) (hT : TakenL p L) (hL : ∀ e ∈ L, OkEv e) (hn : L.length ≤ 1000) (hb : I64 b) : SmEv 0 (nxE p L b n m) := by
 have hc := z0p L b
 have hk := z0y hT
 have ha := zu (n := m) (m := 3) (by omega)
 exact { z21 (n := n) (m := m) hp hL hb with seq := (by show I64 ((qt L b).length : Int); unfold I64; omega), tick := (by show I64 (rclN L L.length + 1 + zp m 3); unfold I64; omega) }
theorem zwx {L : List EventM} {c : EventM} {m how : Int} (hk : 0 ≤ rclN L L.length ∧ rclN L L.length ≤ 1048576) (hs : 0 ≤ c.Seq ∧ c.Seq ≤ 100000) (hc : SmEv 0 c) : SmEv 1 (nxC L c m how) := by
 have h1 := zrk hc
 have a1 := zu (n := m) (m := rclN L L.length + 1) (by omega)
 have a2 := zu (n := m) (m := c.Seq + 2) (by omega)
 have a3 := zu (n := m) (m := 9) (by omega)
 unfold nxC
 split
 ·exact { h1 with tick := (by show I64 (zp m (rclN L L.length + 1)); unfold I64; omega) }
 split
 ·exact { h1 with seq := (by show I64 (zp m (c.Seq + 2)); unfold I64; omega) }
 split
 ·exact zyl hc (by omega) (by unfold I64; omega) _
 split
 ·exact { h1 with
   refs := fun r hr => by
    rcases List.mem_append.1 hr with hr | hr
    ·exact hc.refs r hr
    ·rw [List.mem_singleton.1 hr]
     exact ⟨by show I64 5; unfold I64; omega, by show I64 63; unfold I64; omega⟩
   nrefs := by
    have := hc.nrefs
    show (c.Refs ++ [_]).length ≤ _
    rw [List.length_append, List.length_singleton]
    omega }
 ·exact h1
theorem zxg {x : Int} (h : I64 x) : I64 (x.tdiv 10) := by
 unfold I64 at h ⊢
 rcases Int.le_total 0 x with hx | hx
 ·have := js (k := 10) hx (by omega)
  omega
 ·have h2 := js (x := -x) (k := 10) (by omega) (by omega)
  rw [Int.neg_tdiv] at h2
  omega
set_option maxRecDepth 100000 in
set_option maxHeartbeats 4000000 in
theorem zhe (G) (p : Nat) (hp : p ≤ 1000) (L : List EventM) (hT : TakenL p L) (hL : ∀ e ∈ L, OkEv e) (hn : L.length ≤ 1000) (b n m how : Int) (hb : I64 b) (hi : I64 n) (hm : I64 m) (hh : I64 how) : zl Tryz.prog G 28 [j7 p L, iD b, iD n, iD m, iD how] [zc (z7a p L b n m how)] := by
 have hc := z0p L b
 have hk := z0y hT
 have hsm := zqd (n := n) (m := m) hp hT hL hn hb
 have a3 := zu (n := m) (m := 3) (by omega)
 have a10 := zu (n := how) (m := 10) (by omega)
 have hco := z6b G p hp L hL hn b n m hi hm
 have hv0 : z7a p L b n m how = nxC L (nxE p L b n m) m how := rfl
 have hnx : nxE p L b n m = { yv p L b n m with Seq := ((qt L b).length : Int), Tick := rclN L L.length + 1 + zp m 3 } := rfl
 have hsq := zqe p L b n m
 generalize nxE p L b n m = e at *
 generalize yv p L b n m = c at *
 skip
 refine GI [58, 61, 64] [] [] Tryz.func28 Tryz.ntmps28 fun F hP hG hN hR hA => ?_
 have hE := @Tryz.results28
 refine WS [1, 2, 3, 4, 5, 10] [5, 10, 63, 64] ?_
 refine v8 5 hR.2.2.2 rfl rfl ?_
 simp (disch := omega) only [avA, zk, zo, seval, hE]
 have hc := gvF hP hG (hco)
 refine WSc [1, 3, 4, 5, 10, 11] [5, 10, 11, 63, 64] ?_
 have hc := gvF hP hG (z1i G p L (by omega) b)
 refine WSc [3, 4, 5, 10, 11] [5, 10, 11, 63, 64] ?_
 apply zm [3, 4, 5, 10, 11] [5, 10, 11, 63, 64]
 ·refine RN ?_
  refine CU (z4m G p L (by omega)) ?_
  refine CU (wh G m 3 hm (by omega) (by unfold I64; omega)) ?_
  exact SC
 have hag := congrArg zc hnx
 dsimp only [zc] at hag
 rw [← hag]
 apply z3
 have hc := gvF hP hG (wh G how 10 hh (by omega) (by unfold I64; omega))
 refine WSc [3, 4, 5, 10, 11, 30] [5, 10, 11, 63, 64] ?_
 apply z7
 refine WS [3, 4, 5, 10, 11, 30, 31] [5, 10, 11, 63, 64] ?_
 refine WI ?_ ?_ <;> intro hb
 ·have hk0 : zp how 10 = 0 := by simpa using hb
  have hv : nxC L e m how = { e with Tick := zp m (rclN L L.length + 1) } := by unfold nxC; rw [if_pos hk0]
  have hE := And.intro hE (And.intro hv0 hv)
  apply yp [10, 11] [10, 11, 63, 64]
  ·refine RN ?_
   refine CU (z4m G p L (by omega)) ?_
   refine CU (wh G m (rclN L L.length + 1) hm (by omega) (by unfold I64; omega)) ?_
   exact SC
  apply ze
  apply z5
  first | (refine v8 (ds := (e.Refs ++ [(⟨5, 63⟩ : NameM)]).map zx) 64 hR.2.2.2 rfl (by have q := datE_map ((e.Refs ++ [(⟨5, 63⟩ : NameM)]).map zx); simpa only [List.map_append, List.map_cons, List.map_nil] using q) ?_; have htk : List.take (e.Refs.length + 1) (List.map zx e.Refs ++ [zx ⟨5, 63⟩]) = List.map zx e.Refs ++ [zx ⟨5, 63⟩] := List.take_of_length_le (by simp); simp (disch := omega) only [avA, zk, zo, seval, htk]; refine z2k 11 (zc { e with Refs := e.Refs ++ [⟨5, 63⟩] }) rfl rfl (by simp only [zc, qc, List.map_append, List.map_cons, List.map_nil]) ?_) | skip
  refine WS [10] [10, 58, 61, 63, 64] ?_
  apply z9
  exact E0
 ·have hk0 : ¬ zp how 10 = 0 := by simpa using hb
  refine WS [3, 4, 10, 11, 30, 39] [10, 11, 63, 64] ?_
  refine WI ?_ ?_ <;> intro hb
  ·have hk1 : zp how 10 = 1 := by simpa using hb
   have hv : nxC L e m how = { e with Seq := zp m (e.Seq + 2) } := by unfold nxC; rw [if_neg hk0, if_pos hk1]
   have hE := And.intro hE (And.intro hv0 hv)
   have hc := gvF hP hG (wh G m (e.Seq + 2) hm (by omega) (by unfold I64; omega))
   refine WQc [10, 11] [10, 11, 63, 64] ?_
   apply ze
   apply z5
   first | (refine v8 (ds := (e.Refs ++ [(⟨5, 63⟩ : NameM)]).map zx) 64 hR.2.2.2 rfl (by have q := datE_map ((e.Refs ++ [(⟨5, 63⟩ : NameM)]).map zx); simpa only [List.map_append, List.map_cons, List.map_nil] using q) ?_; have htk : List.take (e.Refs.length + 1) (List.map zx e.Refs ++ [zx ⟨5, 63⟩]) = List.map zx e.Refs ++ [zx ⟨5, 63⟩] := List.take_of_length_le (by simp); simp (disch := omega) only [avA, zk, zo, seval, htk]; refine z2k 11 (zc { e with Refs := e.Refs ++ [⟨5, 63⟩] }) rfl rfl (by simp only [zc, qc, List.map_append, List.map_cons, List.map_nil]) ?_) | skip
   refine WS [10] [10, 58, 61, 63, 64] ?_
   apply z9
   exact E0
  ·have hk1 : ¬ zp how 10 = 1 := by simpa using hb
   refine WS [3, 4, 10, 11, 30, 47] [10, 11, 63, 64] ?_
   refine WI ?_ ?_ <;> intro hb
   ·have hk2 : zp how 10 = 2 := by simpa using hb
    have hv : nxC L e m how = qd e (how.tdiv 10) (zp m 9 - 1) := by unfold nxC; rw [if_neg hk0, if_neg hk1, if_pos hk2]
    have hE := And.intro hE (And.intro hv0 hv)
    have a9 := zu (n := m) (m := 9) (by omega)
    have hd10 := zxg hh
    have hwr : IntKind.i64.wrap (how.tdiv 10) = how.tdiv 10 := IntWalk.i64_in _ (by have := hd10; unfold I64 at this; omega)
    have hE := And.intro hE hwr
    have hso := zmh G e (how.tdiv 10) (zp m 9 - 1) (zav hsm (by omega)) hd10 (by unfold I64; omega)
    refine X2 [10, 11] [10, 11, 58, 61, 63, 64] [(0, 49, .dat (zc e)), (1, 50, _), (2, 51, _), (3, 52, _), (4, 53, .dat (iD (zp m 9))), (5, 54, .dat (iD (zp m 9 - 1))), (6, 55, .dat (zc (qd e (how.tdiv 10) (zp m 9 - 1))))] [(7, 11, some ⟨32, [.dat (zc (qd e (how.tdiv 10) (zp m 9 - 1)))]⟩)] ⟨FV 0 [] [6, 7], FV 1 [] [2, 6, 7], FV 2 [1] [6, 7], FV 3 [] [4, 5, 6, 7], (by have hc := gvF hP hG (wh G m 9 hm (by omega) (by unfold I64; omega)); exact FVc 4 [3] [5, 6, 7]), FV 5 [3, 4] [6, 7], (by have hc := gvF hP hG (hso); exact FVc 6 [0, 1, 2, 3, 4, 5] [7]), FS 0 [0, 1, 2, 3, 4, 5, 6] [], trivial⟩ ?_
    apply ze
    apply z5
    first | (refine v8 (ds := (e.Refs ++ [(⟨5, 63⟩ : NameM)]).map zx) 64 hR.2.2.2 rfl (by have q := datE_map ((e.Refs ++ [(⟨5, 63⟩ : NameM)]).map zx); simpa only [List.map_append, List.map_cons, List.map_nil] using q) ?_; have htk : List.take (e.Refs.length + 1) (List.map zx e.Refs ++ [zx ⟨5, 63⟩]) = List.map zx e.Refs ++ [zx ⟨5, 63⟩] := List.take_of_length_le (by simp); simp (disch := omega) only [avA, zk, zo, seval, htk]; refine z2k 11 (zc { e with Refs := e.Refs ++ [⟨5, 63⟩] }) rfl rfl (by simp only [zc, qc, List.map_append, List.map_cons, List.map_nil]) ?_) | skip
    refine WS [10] [10, 58, 61, 63, 64] ?_
    apply z9
    exact E0
   ·have hk2 : ¬ zp how 10 = 2 := by simpa using hb
    refine WS [10, 11, 56] [10, 11, 63, 64] ?_
    refine WI ?_ ?_ <;> intro hb
    ·have hk3 : zp how 10 = 3 := by simpa using hb
     have hnr := hsm.nrefs
     have hv : nxC L e m how = { e with Refs := e.Refs ++ [⟨5, 63⟩] } := by unfold nxC; rw [if_neg hk0, if_neg hk1, if_neg hk2, if_pos hk3]
     have hE := And.intro hE (And.intro hv0 hv)
     refine WQ [10, 11] [10, 11, 58, 61, 63, 64] ?_
     apply ze
     apply z5
     first | (refine v8 (ds := (e.Refs ++ [(⟨5, 63⟩ : NameM)]).map zx) 64 hR.2.2.2 rfl (by have q := datE_map ((e.Refs ++ [(⟨5, 63⟩ : NameM)]).map zx); simpa only [List.map_append, List.map_cons, List.map_nil] using q) ?_; have htk : List.take (e.Refs.length + 1) (List.map zx e.Refs ++ [zx ⟨5, 63⟩]) = List.map zx e.Refs ++ [zx ⟨5, 63⟩] := List.take_of_length_le (by simp); simp (disch := omega) only [avA, zk, zo, seval, htk]; refine z2k 11 (zc { e with Refs := e.Refs ++ [⟨5, 63⟩] }) rfl rfl (by simp only [zc, qc, List.map_append, List.map_cons, List.map_nil]) ?_) | skip
     refine WS [10] [10, 58, 61, 63, 64] ?_
     apply z9
     exact E0
    ·have hk3 : ¬ zp how 10 = 3 := by simpa using hb
     have hv : nxC L e m how = e := by unfold nxC; rw [if_neg hk0, if_neg hk1, if_neg hk2, if_neg hk3]
     have hE := And.intro hE (And.intro hv0 hv)
     apply z6
     apply ze
     apply z5
     first | (refine v8 (ds := (e.Refs ++ [(⟨5, 63⟩ : NameM)]).map zx) 64 hR.2.2.2 rfl (by have q := datE_map ((e.Refs ++ [(⟨5, 63⟩ : NameM)]).map zx); simpa only [List.map_append, List.map_cons, List.map_nil] using q) ?_; have htk : List.take (e.Refs.length + 1) (List.map zx e.Refs ++ [zx ⟨5, 63⟩]) = List.map zx e.Refs ++ [zx ⟨5, 63⟩] := List.take_of_length_le (by simp); simp (disch := omega) only [avA, zk, zo, seval, htk]; refine z2k 11 (zc { e with Refs := e.Refs ++ [⟨5, 63⟩] }) rfl rfl (by simp only [zc, qc, List.map_append, List.map_cons, List.map_nil]) ?_) | skip
     refine WS [10] [10, 58, 61, 63, 64] ?_
     apply z9
     exact E0
theorem zmt {p : Nat} {L : List EventM} (h : TakenL p L) : ∀ c ∈ L, ∀ r ∈ c.Refs, ∃ x ∈ L, evName x = r ∧ x.Tick < c.Tick := by
 induction h with
 | nil => intro c hc; cases hc
 | @snoc s e h1 h2 ih =>
  intro c hc r hr
  rcases List.mem_append.1 hc with hc | hc
  ·obtain ⟨x, hx, h3⟩ := ih c hc r hr
   exact ⟨x, List.mem_append.2 (.inl hx), h3⟩
  ·obtain rfl := List.mem_singleton.1 hc
   obtain ⟨_, _, _, h4, h5⟩ := Zx.1 h2
   have hf := (z5t.1 h4).2 r hr
   cases hq : qb s r with
   | none => rw [hq] at hf; cases hf
   | some x =>
    obtain ⟨hx, hn⟩ := z42 hq
    refine ⟨x, List.mem_append.2 (.inl hx), hn, ?_⟩
    unfold wu at h5
    rw [Bool.or_eq_false_iff, List.any_eq_false] at h5
    have := h5.1 r hr
    unfold ws at this
    rw [hq, Option.getD_some] at this
    simpa using this
theorem zi6 {p : Nat} {L : List EventM} (h : TakenL p L) : ∀ c ∈ L, 0 < c.Seq → ∃ x ∈ L, evName x = ⟨c.By, c.Seq - 1⟩ ∧ x.Tick < c.Tick := by
 intro c hc h0
 have hm : c ∈ qt L c.By := z1e.2 ⟨hc, rfl⟩
 obtain ⟨k, hk, he⟩ := List.getElem_of_mem hm
 have hs := (z1j h c.By k hk).2
 rw [he] at hs
 have hk1 : k - 1 < (qt L c.By).length := by omega
 have hp := z1j h c.By (k - 1) hk1
 have hmem := (z1e.1 (List.getElem_mem hk1)).1
 refine ⟨_, hmem, ?_, ?_⟩
 ·unfold evName
  rw [hp.1, hp.2, NameM.mk.injEq]
  exact ⟨rfl, by omega⟩
 ·have := List.pairwise_iff_getElem.1 (z8b h c.By) (k - 1) k hk1 hk (by omega)
  rw [he] at this
  exact this
theorem z3i {p : Nat} {L : List EventM} (h : TakenL p L) : (qv L).Pairwise fun x y => evName x ≠ evName y :=
 (va L).symm.pairwise (Z8 h) fun hab hq => hab hq.symm
theorem zfe {p : Nat} {L : List EventM} (h : TakenL p L) : qv (qv L) = qv L := z5f (va L) (Z8 h)
theorem zfd {p : Nat} {L : List EventM} (h : TakenL p L) {i : Nat} (hi : i + 1 < (qv L).length) : xl ((qv L).getD i default) ((qv L).getD (i + 1) default) = true := by
 rw [ji (by omega), ji hi]
 cases hb : xl ((qv L)[i]) ((qv L)[i + 1])
 ·have h1 := List.pairwise_iff_getElem.1 (Q5 L) i (i + 1) (by omega) hi (by omega)
  have h2 := List.pairwise_iff_getElem.1 (z3i h) i (i + 1) (by omega) hi (by omega)
  exact absurd (z2l hb h1) h2
 ·rfl
theorem zaw {p : Nat} {L : List EventM} (h : TakenL p L) {i : Nat} (hi : i < (qv L).length) {n : NameM} (hx : ∃ x ∈ L, evName x = n ∧ x.Tick < ((qv L).getD i default).Tick) : ∃ j : Nat, wc (qv L) n = (j : Int) ∧ j < i := by
 obtain ⟨x, hx, hn, ht⟩ := hx
 have hxs : x ∈ qv L := (va L).symm.subset hx
 have hf : 0 ≤ wc (qv L) n := zgr ⟨x, hxs, hn⟩
 obtain ⟨j, h1, h2, h3⟩ := z19 hf
 refine ⟨j, h1, ?_⟩
 obtain ⟨hm, hnm⟩ := z42 h3
 have he : (qv L).getD j default = x := z4j (z3i h) hm hxs (by rw [hnm, hn])
 rw [ji hi] at ht
 rw [ji h2] at he
 rcases Nat.lt_trichotomy j i with h4 | h4 | h4
 ·exact h4
 ·subst h4; rw [he] at ht; omega
 ·have := List.pairwise_iff_getElem.1 (Q5 L) i j hi h2 h4
  rw [zj7, he] at this
  omega
theorem zvo (p : Nat) (L : List EventM) (c : EventM) : (qk p L [c] 0).1 = L ∨ ((qk p L [c] 0).1 = L ++ [c] ∧ zr p L c = (L ++ [c], true, 0)) := by
 have h : (qk p L [c] 0).1 = (zr p L c).1 := by
  rw [qk]
  split
  ·rfl
  ·rw [qk]
 rw [h]
 by_cases hq : zr p L c = (L ++ [c], true, 0)
 ·right; exact ⟨by rw [hq], hq⟩
 ·left
  unfold zr at hq ⊢
  (repeat' split) <;> simp_all
theorem GrL.take {p : Nat} {L : List EventM} {c : EventM} (h : GrL p L) (hc : SmEv 1 c) : GrL p (qk p L [c] 0).1 := by
 rcases zvo p L c with h1 | ⟨h1, h2⟩
 ·rw [h1]; exact h
 ·rw [h1]
  exact ⟨.snoc h.taken h2, fun e he => by
   rcases List.mem_append.1 he with he | he
   ·exact h.sm e he
   ·rw [List.mem_singleton.1 he]; exact hc⟩
theorem zmn (p : Nat) (L : List EventM) (c : EventM) : (qk p L [c] 0).1.length ≤ L.length + 1 := by
 rcases zvo p L c with h1 | ⟨h1, h2⟩ <;> rw [h1] <;> simp
theorem za2 {p : Nat} {L : List EventM} {b n m how : Int} (hp : p ≤ 1000) (h : GrL p L) (hn : L.length ≤ 1000) (hb : I64 b) : SmEv 1 (z7a p L b n m how) := by
 have hc := z0p L b
 exact zwx (z0y h.taken) (by rw [zqe]; omega) (zqd hp h.taken h.ok hn hb)
def orE (L : List EventM) (m : List Int) (i : Nat) : EventM := z7a 3 L (atM m (4 * (i : Int)) 3) (m.getD (4 * i + 1) default) (m.getD (4 * i + 2) default) (m.getD (4 * i + 3) default)
def orN (P : List EventM) (m : List Int) : Nat → List EventM
 | 0 => P
 | i + 1 => (qk 3 (orN P m i) [orE (orN P m i) m i] 0).1
theorem zeo (P : List EventM) (m : List Int) : orN P m 0 = P := rfl
def kO (l : List Int) : Nat := min 4 (l.length / 4)
theorem zp9 {l : List Int} {i : Nat} : i < kO l ↔ 4 * i + 3 < l.length ∧ i < 4 := by
 unfold kO
 omega
theorem zqj {P : List EventM} (h : GrL 3 P) (hl : P.length ≤ 10) (m : List Int) : ∀ i, i ≤ 4 → GrL 3 (orN P m i) ∧ (orN P m i).length ≤ 10 + i
 | 0, _ => ⟨h, by rw [zeo]; omega⟩
 | i + 1, hi => by
  obtain ⟨h1, h2⟩ := zqj h hl m i (by omega)
  have hs := za2 (b := atM m (4 * (i : Int)) 3) (n := m.getD (4 * i + 1) default) (m := m.getD (4 * i + 2) default) (how := m.getD (4 * i + 3) default) (by omega) h1 (by omega) (zbb m (4 * (i : Int)) (p := 3) (by omega) (by omega))
  rw [orN]
  refine ⟨h1.take hs, ?_⟩
  have := zmn 3 (orN P m i) (orE (orN P m i) m i)
  omega
structure OrdL (S : List EventM) : Prop where
 ok : ∀ e ∈ S, OkEv e
 valid : ∀ i, i < S.length → qn (S.getD i default) = 0
 before : ∀ i, i + 1 < S.length → xl (S.getD i default) (S.getD (i + 1) default) = true
 ref : ∀ i, i < S.length → ∀ k, k < (S.getD i default).Refs.length → ∃ j : Nat, wc S ((S.getD i default).Refs.getD k default) = (j : Int) ∧ j < i
 prev : ∀ i, i < S.length → 0 < (S.getD i default).Seq → ∃ j : Nat, wc S ⟨(S.getD i default).By, (S.getD i default).Seq - 1⟩ = (j : Int) ∧ j < i
 seq : ∀ i, i < S.length → 0 ≤ (S.getD i default).Seq ∧ (S.getD i default).Seq ≤ 63
theorem zt8 {l : List NameM} {i : Nat} (h : i < l.length) : l.getD i default = l[i] := by
 rw [List.getD_eq_getElem?_getD, List.getElem?_eq_getElem h, Option.getD_some]
theorem zu6 {p : Nat} {L : List EventM} (h : GrL p L) : OrdL (qv L) := by
 have hm : ∀ i, i < (qv L).length → (qv L).getD i default ∈ L := fun i hi => by
  rw [ji hi]; exact (va L).subset (List.getElem_mem hi)
 refine ⟨zi1 h.ok, fun i hi => (ku h.taken _ (hm i hi)).1, fun i hi => zfd h.taken hi, fun i hi k hk => ?_, fun i hi h0 => ?_, fun i hi => ?_⟩
 ·refine zaw h.taken hi (zmt h.taken _ (hm i hi) _ ?_)
  rw [zt8 hk]
  exact List.getElem_mem hk
 ·exact zaw h.taken hi (zi6 h.taken _ (hm i hi) h0)
 ·have := z4w (ku h.taken _ (hm i hi)).1
  omega
set_option maxRecDepth 1000000 in
set_option maxHeartbeats 8000000 in
theorem zhl (G) (g1 : G.lookup 1 = some (wsD kH)) (l m : List Int) (hl : ∀ x ∈ l, I64 x) (hm : ∀ x ∈ m, I64 x) : zl Tryz.prog G 5 [isD l, isD m] [bD true] := by
 have hkl : kG l ≤ 10 := by unfold kG; omega
 have hgo := zoo G 3 (by omega) (by omega) l hl
 have hgr := z47 (p := 3) (by omega) (by omega) l (kG l) hkl
 obtain ⟨hg1, hg2⟩ := hgr
 have hP10 : (vr 3 l (kG l)).length ≤ 10 := by omega
 unfold zgu at hgo
 generalize vr 3 l (kG l) = P at *
 have hmok := zqj hg1 hP10 m
 have hko : kO m ≤ 4 := by unfold kO; omega
 skip
 skip
 skip
 refine GI [] [64, 68] [] Tryz.func5 Tryz.ntmps5 fun F hP hG hN hR hA => ?_
 have hE := And.intro @Tryz.results5 (And.intro @z7l (And.intro @Xm (And.intro @jn (@Zc))))
 refine WS [0, 1] [20, 21, 22] ?_
 have hc := gvF hP hG (hgo)
 refine WSc [1, 5] [5, 20, 21, 22] ?_
 apply z3
 refine WS [1, 5, 6] [5, 20, 21, 22] ?_
 apply z7
 have hE := And.intro hE (zeo P m)
 refine WL (ι := {i : Nat // i ≤ kO m}) [1, 5] [20, 21, 22] (fun ⟨i, hi⟩ => [(6, .dat (iD i))]) (fun ⟨i, hi⟩ => [(5, ⟨2, [.dat (j7 3 (orN P m i))]⟩)]) (fun ⟨i, hi⟩ => kO m - i) (⟨0, by omega⟩) ?_
 rintro ⟨i, hi⟩
 refine LA ?_
 obtain ⟨hg3, hg4⟩ := hmok i (by omega)
 have hsu : orN P m (i + 1) = (qk 3 (orN P m i) [orE (orN P m i) m i] 0).1 := rfl
 apply z3
 refine wv (.of [(1, .dat (isD m)), (5, .ptr 5 2 0 0), (6, .dat (iD i)), (27, .dat (bD (decide ((i : Int) < kO m))))] [(5, ⟨2, [.dat (j7 3 (orN P m i))]⟩)]) ?_ ?_
 ·by_cases hq : 4 * (i : Int) + 3 < m.length
  ·have hd0 : decide (4 * (i : Int) + 3 < m.length) = true := decide_eq_true hq
   have hbb : decide ((i : Int) < kO m) = decide ((i : Int) < 4) := by
    have := zp9 (l := m) (i := i)
    by_cases h10 : (i : Int) < 4
    ·rw [decide_eq_true h10, decide_eq_true (by omega)]
    ·rw [decide_eq_false h10, decide_eq_false (by omega)]
   have hE := And.intro hE (And.intro hd0 hbb)
   refine Za [1, 5, 6, 27] [5, 20, 21, 22] [(0, 18, _), (1, 19, _), (2, 20, _), (3, 21, _), (4, 22, _), (5, 23, .dat (bD true)), (6, 24, .dat (bD true)), (7, 25, _), (8, 26, .dat (bD (decide ((i : Int) < 4)))), (9, 27, .dat (bD (decide ((i : Int) < 4))))] [] ⟨FV 0 [] [1, 2, 5, 6, 7, 8, 9], FV 1 [0] [2, 5, 6, 7, 8, 9], FV 2 [0, 1] [5, 6, 7, 8, 9], FV 3 [] [4, 5, 6, 7, 8, 9], FV 4 [3] [5, 6, 7, 8, 9], FV 5 [0, 1, 2, 3, 4] [6, 7, 8, 9], FV 6 [0, 1, 2, 3, 4, 5] [7, 8, 9], FG 7 [0, 1, 2, 3, 4, 5, 6] [8, 9], FG 8 [0, 1, 2, 3, 4, 5, 6, 7] [9], FV 9 [0, 1, 2, 3, 4, 5, 6, 7, 8] [], trivial⟩ ?_
   exact ML
  ·have hd0 : decide (4 * (i : Int) + 3 < m.length) = false := decide_eq_false hq
   have hbb : decide ((i : Int) < kO m) = false := by
    have := zp9 (l := m) (i := i)
    rw [decide_eq_false (by omega)]
   have hE := And.intro hE (And.intro hd0 hbb)
   refine Za [1, 5, 6, 27] [5, 20, 21, 22] [(0, 18, _), (1, 19, _), (2, 20, _), (3, 21, _), (4, 22, _), (5, 23, .dat (bD false)), (6, 24, .dat (bD false)), (7, 25, .cond false .junk), (8, 26, .cond false (.dat (bD false))), (9, 27, .dat (bD false))] [] ⟨FV 0 [] [1, 2, 5, 6, 7, 8, 9], FV 1 [0] [2, 5, 6, 7, 8, 9], FV 2 [0, 1] [5, 6, 7, 8, 9], FV 3 [] [4, 5, 6, 7, 8, 9], FV 4 [3] [5, 6, 7, 8, 9], FV 5 [0, 1, 2, 3, 4] [6, 7, 8, 9], FV 6 [0, 1, 2, 3, 4, 5] [7, 8, 9], FO 7 [0, 1, 2, 3, 4, 5, 6] [8, 9], FO 8 [0, 1, 2, 3, 4, 5, 6, 7] [9], FV 9 [0, 1, 2, 3, 4, 5, 6, 7, 8] [], trivial⟩ ?_
   exact ML
 refine WI ?_ ?_ <;> intro hb
 ·have hk := zp9.1 (show i < kO m by omega)
  have n1 := zt hm (i := 4 * i + 1) (by omega)
  have n2 := zt hm (i := 4 * i + 2) (by omega)
  have n3 := zt hm (i := 4 * i + 3) (by omega)
  have hai := zbb m (4 * (i : Int)) (p := 3) (by omega) (by omega)
  have hsm := za2 (b := atM m (4 * (i : Int)) 3) (n := m.getD (4 * i + 1) default) (m := m.getD (4 * i + 2) default) (how := m.getD (4 * i + 3) default) (by omega) hg3 (by omega) hai
  have hco := zhe G 3 (by omega) (orN P m i) hg3.taken hg3.ok (by omega) (atM m (4 * (i : Int)) 3) (m.getD (4 * i + 1) default) (m.getD (4 * i + 2) default) (m.getD (4 * i + 3) default) hai n1 n2 n3
  unfold orE at hsu
  generalize z7a 3 (orN P m i) (atM m (4 * (i : Int)) 3) (m.getD (4 * i + 1) default) (m.getD (4 * i + 2) default) (m.getD (4 * i + 3) default) = c at *
  generalize orN P m i = M at *
  have hmk := zf7 G 3 (by omega) M [c] hg3.taken hg3.ok (fun e he => by rw [List.mem_singleton.1 he]; exact zav hsm (by omega)) (by simp; omega)
  have e1 : 4 * (i : Int) + 1 = ((4 * i + 1 : Nat) : Int) := by omega
  have e2 : 4 * (i : Int) + 2 = ((4 * i + 2 : Nat) : Int) := by omega
  have e3 : 4 * (i : Int) + 3 = ((4 * i + 3 : Nat) : Int) := by omega
  have hE := And.intro hE (And.intro e1 (And.intro e2 e3))
  apply z6
  apply z5
  apply z3
  apply z7
  refine WDF [1, 5, 6, 7] [5, 7, 20, 21, 22] [(0, 31, .dat (j7 3 M)), (1, 32, .dat (j7 3 M)), (2, 33, _), (3, 34, _), (4, 35, _), (5, 36, .dat (iD (atM m (4 * (i : Int)) 3))), (6, 37, _), (7, 38, _), (8, 39, _), (9, 40, .dat (iD ((4 * i + 1 : Nat) : Int))), (10, 41, _), (11, 42, .dat (iD (m.getD (4 * i + 1) default))), (12, 43, _), (13, 44, _), (14, 45, _), (15, 46, .dat (iD ((4 * i + 2 : Nat) : Int))), (16, 47, _), (17, 48, .dat (iD (m.getD (4 * i + 2) default))), (18, 49, _), (19, 50, _), (20, 51, _), (21, 52, .dat (iD ((4 * i + 3 : Nat) : Int))), (22, 53, _), (23, 54, .dat (iD (m.getD (4 * i + 3) default))), (24, 55, .dat (zc c)), (25, 56, .dat (.sl [zc c])), (26, 57, .tup [.dat (j7 3 (qk 3 M [c] 0).1), .dat (iD (qk 3 M [c] 0).2.1), .dat (iD (qk 3 M [c] 0).2.2)]), (27, 30, _), (28, 58, _), (29, 59, _), (30, 60, _), (31, 7, .ptr 7 2 0 0), (33, 8, _), (34, 9, _)] [(32, 7, some ⟨2, [.dat (j7 3 (qk 3 M [c] 0).1)]⟩), (31, 7, some ⟨2, [.agg [.dat (iD 0), .nils]]⟩)] ⟨FV 0 [] [26, 27, 28, 29, 30, 32, 33, 34], FV 1 [] [24, 25, 26, 27, 28, 29, 30, 32, 33, 34], FV 2 [] [5, 24, 25, 26, 27, 28, 29, 30, 32, 33, 34], FV 3 [] [4, 5, 24, 25, 26, 27, 28, 29, 30, 32, 33, 34], FV 4 [3] [5, 24, 25, 26, 27, 28, 29, 30, 32, 33, 34], (by have hc := gvF hP hG (Qb G m (4 * (i : Int)) 3 hm (by omega) (by unfold I64; omega)); exact FVc 5 [2, 3, 4] [24, 25, 26, 27, 28, 29, 30, 32, 33, 34]), FV 6 [] [10, 11, 24, 25, 26, 27, 28, 29, 30, 32, 33, 34], FV 7 [] [8, 9, 10, 11, 24, 25, 26, 27, 28, 29, 30, 32, 33, 34], FV 8 [7] [9, 10, 11, 24, 25, 26, 27, 28, 29, 30, 32, 33, 34], FV 9 [7, 8] [10, 11, 24, 25, 26, 27, 28, 29, 30, 32, 33, 34], FV 10 [6, 7, 8, 9] [11, 24, 25, 26, 27, 28, 29, 30, 32, 33, 34], FV 11 [6, 7, 8, 9, 10] [24, 25, 26, 27, 28, 29, 30, 32, 33, 34], FV 12 [] [16, 17, 24, 25, 26, 27, 28, 29, 30, 32, 33, 34], FV 13 [] [14, 15, 16, 17, 24, 25, 26, 27, 28, 29, 30, 32, 33, 34], FV 14 [13] [15, 16, 17, 24, 25, 26, 27, 28, 29, 30, 32, 33, 34], FV 15 [13, 14] [16, 17, 24, 25, 26, 27, 28, 29, 30, 32, 33, 34], FV 16 [12, 13, 14, 15] [17, 24, 25, 26, 27, 28, 29, 30, 32, 33, 34], FV 17 [12, 13, 14, 15, 16] [24, 25, 26, 27, 28, 29, 30, 32, 33, 34], FV 18 [] [22, 23, 24, 25, 26, 27, 28, 29, 30, 32, 33, 34], FV 19 [] [20, 21, 22, 23, 24, 25, 26, 27, 28, 29, 30, 32, 33, 34], FV 20 [19] [21, 22, 23, 24, 25, 26, 27, 28, 29, 30, 32, 33, 34], FV 21 [19, 20] [22, 23, 24, 25, 26, 27, 28, 29, 30, 32, 33, 34], FV 22 [18, 19, 20, 21] [23, 24, 25, 26, 27, 28, 29, 30, 32, 33, 34], FV 23 [18, 19, 20, 21, 22] [24, 25, 26, 27, 28, 29, 30, 32, 33, 34], (by have hc := gvF hP hG (hco); exact FVc 24 [1, 2, 3, 4, 5, 6, 7, 8, 9, 10, 11, 12, 13, 14, 15, 16, 17, 18, 19, 20, 21, 22, 23] [25, 26, 27, 28, 29, 30, 32, 33, 34]), FV 25 [1, 2, 3, 4, 5, 6, 7, 8, 9, 10, 11, 12, 13, 14, 15, 16, 17, 18, 19, 20, 21, 22, 23, 24] [26, 27, 28, 29, 30, 32, 33, 34], (by have hc := gvF hP hG (hmk); exact FVc 26 [0, 1, 2, 3, 4, 5, 6, 7, 8, 9, 10, 11, 12, 13, 14, 15, 16, 17, 18, 19, 20, 21, 22, 23, 24, 25] [27, 28, 29, 30, 32, 33, 34]), FV 27 [0, 1, 2, 3, 4, 5, 6, 7, 8, 9, 10, 11, 12, 13, 14, 15, 16, 17, 18, 19, 20, 21, 22, 23, 24, 25, 26] [28, 29, 30, 32, 33, 34], FV 28 [0, 1, 2, 3, 4, 5, 6, 7, 8, 9, 10, 11, 12, 13, 14, 15, 16, 17, 18, 19, 20, 21, 22, 23, 24, 25, 26, 27] [32, 33, 34], FV 29 [0, 1, 2, 3, 4, 5, 6, 7, 8, 9, 10, 11, 12, 13, 14, 15, 16, 17, 18, 19, 20, 21, 22, 23, 24, 25, 26, 27] [33, 34], FV 30 [0, 1, 2, 3, 4, 5, 6, 7, 8, 9, 10, 11, 12, 13, 14, 15, 16, 17, 18, 19, 20, 21, 22, 23, 24, 25, 26, 27] [34], FNd 31 1 [] [32, 33, 34], FS 0 [0, 1, 2, 3, 4, 5, 6, 7, 8, 9, 10, 11, 12, 13, 14, 15, 16, 17, 18, 19, 20, 21, 22, 23, 24, 25, 26, 27, 28, 31] [33, 34], FV 32 [0, 1, 2, 3, 4, 5, 6, 7, 8, 9, 10, 11, 12, 13, 14, 15, 16, 17, 18, 19, 20, 21, 22, 23, 24, 25, 26, 27, 28, 29, 31, 32] [34], FV 33 [0, 1, 2, 3, 4, 5, 6, 7, 8, 9, 10, 11, 12, 13, 14, 15, 16, 17, 18, 19, 20, 21, 22, 23, 24, 25, 26, 27, 28, 29, 30, 31, 32, 33] [], trivial⟩ ?_
  refine WQ [1, 5, 6] [5, 20, 21, 22] ?_
  apply ze
  apply z5
  have hE := And.intro hE hsu
  refine WQ [1, 5, 6] [5, 20, 21, 22] ?_
  refine WN (⟨i + 1, by omega⟩)
 ·apply zj
  apply zd
  have hend : i = kO m := by omega
  subst hend
  obtain ⟨ha1, ha2⟩ := hmok (kO m) hko
  generalize orN P m (kO m) = A at *
  have hod := zu6 ha1
  have hss := zfe ha1.taken
  have hsl := zmd A
  have hev := zdo G 3 (by omega) A ha1.taken ha1.big (by omega)
  generalize qv A = S at *
  apply zb
  apply zn
  apply z5
  refine v8 5 hR.2.2.2 rfl rfl ?_
  simp (disch := omega) only [avA, zk, zo, seval, hE]
  apply zm [5, 10] [5, 20, 21, 22]
  ·refine RN ?_
   refine CX (fun i => if i = 14 then 20 else if i = 11 then 21 else 22) [14, 11, 12] (zoj G 3 (by omega) (by omega) A ha1.ok (by omega) ha1.taken) ?_
   exact SC
  apply z3
  refine WS [5, 10, 66] [5, 20, 21, 22] ?_
  refine WI ?_ ?_ <;> intro hb
  ·exact absurd hb (by simp)
  ·apply z6
   apply z5
   apply zm [5, 11] [5, 20, 21, 22]
   ·refine RN ?_
    refine CX (fun i => if i = 1000 then 20 else if i = 1001 then 21 else 22) [] (hev) ?_
    exact SC
   apply z3
   have hnl : ((S.length : Int) != A.length) = false := by rw [hsl]; simp
   have hE := And.intro hE hnl
   refine WSF [11, 81] [20, 21, 22] [(0, 69, _), (1, 70, _), (2, 71, _), (3, 72, _), (4, 73, _), (5, 74, .dat (bD false)), (6, 75, .dat (bD false)), (7, 76, _), (8, 77, .dat (zz S)), (9, 78, _), (10, 79, .dat (bD true)), (11, 80, .dat (bD false)), (12, 81, .dat (bD false))] [] ⟨FV 0 [] [1, 5, 6, 7, 8, 9, 10, 11, 12], FV 1 [0] [5, 6, 7, 8, 9, 10, 11, 12], FV 2 [] [3, 4, 5, 6, 7, 8, 9, 10, 11, 12], FV 3 [2] [4, 5, 6, 7, 8, 9, 10, 11, 12], FV 4 [2, 3] [5, 6, 7, 8, 9, 10, 11, 12], FV 5 [0, 1, 2, 3, 4] [6, 7, 8, 9, 10, 11, 12], FV 6 [0, 1, 2, 3, 4, 5] [7, 8, 9, 10, 11, 12], FG 7 [0, 1, 2, 3, 4, 5, 6] [8, 10, 11, 12], (by have hc := gvF hP hG ((by have q := zjr G S (by omega); rw [hss] at q; exact q : zl Tryz.prog G 30 [zz S] [zz S])); exact FGc 8 [0, 1, 2, 3, 4, 5, 6, 7] [10, 11, 12]), FG 9 [0, 1, 2, 3, 4, 5, 6] [10, 11, 12], (by have hc := gvF hP hG (Xr G S (by omega) hod.ok); exact FGc 10 [0, 1, 2, 3, 4, 5, 6, 7, 8, 9] [11, 12]), FG 11 [0, 1, 2, 3, 4, 5, 6, 7, 8, 9, 10] [12], FV 12 [0, 1, 2, 3, 4, 5, 6, 7, 8, 9, 10, 11] [], trivial⟩ ?_
   refine WI ?_ ?_ <;> intro hb
   ·exact absurd hb (by simp)
   ·apply z6
    apply z5
    apply z3
    refine WS [11, 12] [20, 21, 22] ?_
    apply z7
    refine WL (ι := {i : Nat // i ≤ S.length}) [11] [20, 21, 22] (fun ⟨i, hi⟩ => [(12, .dat (iD i))]) (fun ⟨i, hi⟩ => []) (fun ⟨i, hi⟩ => S.length - i) (⟨0, by omega⟩) ?_
    rintro ⟨i, hi⟩
    refine LA ?_
    apply z3
    refine WS [11, 12, 85] [20, 21, 22] ?_
    refine WI ?_ ?_ <;> intro hb
    ·have hi : i < S.length := by omega
     have hok := zt hod.ok hi
     have hvl := hod.valid i hi
     have hrf := hod.ref i hi
     have hpv := hod.prev i hi
     have hsq := hod.seq i hi
     have hnr := hok.nrefs
     apply z6
     apply z5
     apply z3
     apply z7
     apply z3
     refine wv (.of [(11, .dat (zz S)), (12, .dat (iD i)), (110, .dat (bD false))] [(20, ⟨2, [.agg [.osl 21 1 0 3, .mp 22]]⟩), (21, ⟨1, ((qw 3 A).map iD).map .dat⟩), (22, ⟨0, [.tup [], .dat (.sl (X8 A)), .dat (.sl (A.map zc))]⟩)]) ?_ ?_
     ·by_cases h0 : 0 < i
      ·have hd0 : decide ((0 : Int) < (i : Int)) = true := decide_eq_true (by omega)
       have hi1 : (i : Int) - 1 = ((i - 1 : Nat) : Int) := by omega
       have hbf := hod.before (i - 1) (by omega)
       rw [Nat.sub_add_cancel (by omega)] at hbf
       have hbo := z3s G (S.getD (i - 1) default) (S.getD i default)
       rw [hbf] at hbo
       have hvo := Zz G (S.getD i default) hok
       rw [hvl] at hvo
       have hE := And.intro hE (And.intro hd0 hi1)
       refine X2 [11, 12, 110] [20, 21, 22] [(0, 88, _), (1, 89, .dat (bD true)), (2, 90, .dat (bD true)), (3, 91, _), (4, 92, _), (5, 93, .dat (iD ((i - 1 : Nat) : Int))), (6, 94, _), (7, 95, .dat (zc (S.getD (i - 1) default))), (8, 96, _), (9, 97, _), (10, 98, _), (11, 99, .dat (zc (S.getD i default))), (12, 100, .dat (bD true)), (13, 101, .dat (bD false)), (14, 102, .dat (bD false)), (15, 103, .dat (bD false)), (16, 104, _), (17, 105, _), (18, 106, _), (19, 107, .dat (zc (S.getD i default))), (20, 108, .dat (iD 0)), (21, 109, .dat (bD false)), (22, 110, .dat (bD false))] [] ⟨FV 0 [] [1, 2, 3, 4, 5, 6, 7, 8, 9, 10, 11, 12, 13, 14, 15, 16, 17, 18, 19, 20, 21, 22], FV 1 [0] [2, 3, 4, 5, 6, 7, 8, 9, 10, 11, 12, 13, 14, 15, 16, 17, 18, 19, 20, 21, 22], FV 2 [0, 1] [3, 4, 5, 6, 7, 8, 9, 10, 11, 12, 13, 14, 15, 16, 17, 18, 19, 20, 21, 22], FG 3 [0, 1, 2] [6, 7, 12, 13, 14, 15, 16, 17, 18, 19, 20, 21, 22], FG 4 [0, 1, 2] [5, 6, 7, 12, 13, 14, 15, 16, 17, 18, 19, 20, 21, 22], FG 5 [0, 1, 2, 4] [6, 7, 12, 13, 14, 15, 16, 17, 18, 19, 20, 21, 22], FG 6 [0, 1, 2, 3, 4, 5] [7, 12, 13, 14, 15, 16, 17, 18, 19, 20, 21, 22], FG 7 [0, 1, 2, 3, 4, 5, 6] [12, 13, 14, 15, 16, 17, 18, 19, 20, 21, 22], FG 8 [0, 1, 2] [10, 11, 12, 13, 14, 15, 16, 17, 18, 19, 20, 21, 22], FG 9 [0, 1, 2] [10, 11, 12, 13, 14, 15, 16, 17, 18, 19, 20, 21, 22], FG 10 [0, 1, 2, 8, 9] [11, 12, 13, 14, 15, 16, 17, 18, 19, 20, 21, 22], FG 11 [0, 1, 2, 8, 9, 10] [12, 13, 14, 15, 16, 17, 18, 19, 20, 21, 22], (by have hc := gvF hP hG (hbo); exact FGc 12 [0, 1, 2, 3, 4, 5, 6, 7, 8, 9, 10, 11] [13, 14, 15, 16, 17, 18, 19, 20, 21, 22]), FG 13 [0, 1, 2, 3, 4, 5, 6, 7, 8, 9, 10, 11, 12] [14, 15, 16, 17, 18, 19, 20, 21, 22], FV 14 [0, 1, 2, 3, 4, 5, 6, 7, 8, 9, 10, 11, 12, 13] [15, 16, 17, 18, 19, 20, 21, 22], FV 15 [0, 1, 2, 3, 4, 5, 6, 7, 8, 9, 10, 11, 12, 13, 14] [16, 17, 18, 19, 20, 21, 22], FG 16 [0, 1, 2, 3, 4, 5, 6, 7, 8, 9, 10, 11, 12, 13, 14, 15] [18, 19, 20, 21, 22], FG 17 [0, 1, 2, 3, 4, 5, 6, 7, 8, 9, 10, 11, 12, 13, 14, 15] [18, 19, 20, 21, 22], FG 18 [0, 1, 2, 3, 4, 5, 6, 7, 8, 9, 10, 11, 12, 13, 14, 15, 16, 17] [19, 20, 21, 22], FG 19 [0, 1, 2, 3, 4, 5, 6, 7, 8, 9, 10, 11, 12, 13, 14, 15, 16, 17, 18] [20, 21, 22], (by have hc := gvF hP hG (hvo); exact FGc 20 [0, 1, 2, 3, 4, 5, 6, 7, 8, 9, 10, 11, 12, 13, 14, 15, 16, 17, 18, 19] [21, 22]), FG 21 [0, 1, 2, 3, 4, 5, 6, 7, 8, 9, 10, 11, 12, 13, 14, 15, 16, 17, 18, 19, 20] [22], FV 22 [0, 1, 2, 3, 4, 5, 6, 7, 8, 9, 10, 11, 12, 13, 14, 15, 16, 17, 18, 19, 20, 21] [], trivial⟩ ?_
       exact ML
      ·have hd0 : decide ((0 : Int) < (i : Int)) = false := decide_eq_false (by omega)
       have hvo := Zz G (S.getD i default) hok
       rw [hvl] at hvo
       have hE := And.intro hE hd0
       refine X2 [11, 12, 110] [20, 21, 22] [(0, 88, _), (1, 89, .dat (bD false)), (2, 90, .dat (bD false)), (3, 91, .cond false .junk), (4, 92, .cond false .junk), (5, 93, .cond false .junk), (6, 94, .cond false .junk), (7, 95, .cond false .junk), (8, 96, .cond false .junk), (9, 97, .cond false .junk), (10, 98, .cond false .junk), (11, 99, .cond false .junk), (12, 100, .cond false .junk), (13, 101, .cond false (.dat (bD false))), (14, 102, .dat (bD false)), (15, 103, .dat (bD false)), (16, 104, _), (17, 105, _), (18, 106, _), (19, 107, .dat (zc (S.getD i default))), (20, 108, .dat (iD 0)), (21, 109, .dat (bD false)), (22, 110, .dat (bD false))] [] ⟨FV 0 [] [1, 2, 3, 4, 5, 6, 7, 8, 9, 10, 11, 12, 13, 14, 15, 16, 17, 18, 19, 20, 21, 22], FV 1 [0] [2, 3, 4, 5, 6, 7, 8, 9, 10, 11, 12, 13, 14, 15, 16, 17, 18, 19, 20, 21, 22], FV 2 [0, 1] [3, 4, 5, 6, 7, 8, 9, 10, 11, 12, 13, 14, 15, 16, 17, 18, 19, 20, 21, 22], FO 3 [0, 1, 2] [6, 7, 12, 13, 14, 15, 16, 17, 18, 19, 20, 21, 22], FO 4 [0, 1, 2] [5, 6, 7, 12, 13, 14, 15, 16, 17, 18, 19, 20, 21, 22], FO 5 [0, 1, 2, 4] [6, 7, 12, 13, 14, 15, 16, 17, 18, 19, 20, 21, 22], FO 6 [0, 1, 2, 3, 4, 5] [7, 12, 13, 14, 15, 16, 17, 18, 19, 20, 21, 22], FO 7 [0, 1, 2, 3, 4, 5, 6] [12, 13, 14, 15, 16, 17, 18, 19, 20, 21, 22], FO 8 [0, 1, 2] [10, 11, 12, 13, 14, 15, 16, 17, 18, 19, 20, 21, 22], FO 9 [0, 1, 2] [10, 11, 12, 13, 14, 15, 16, 17, 18, 19, 20, 21, 22], FO 10 [0, 1, 2, 8, 9] [11, 12, 13, 14, 15, 16, 17, 18, 19, 20, 21, 22], FO 11 [0, 1, 2, 8, 9, 10] [12, 13, 14, 15, 16, 17, 18, 19, 20, 21, 22], FO 12 [0, 1, 2, 3, 4, 5, 6, 7, 8, 9, 10, 11] [13, 14, 15, 16, 17, 18, 19, 20, 21, 22], FO 13 [0, 1, 2, 3, 4, 5, 6, 7, 8, 9, 10, 11, 12] [14, 15, 16, 17, 18, 19, 20, 21, 22], FV 14 [0, 1, 2, 3, 4, 5, 6, 7, 8, 9, 10, 11, 12, 13] [15, 16, 17, 18, 19, 20, 21, 22], FV 15 [0, 1, 2, 3, 4, 5, 6, 7, 8, 9, 10, 11, 12, 13, 14] [16, 17, 18, 19, 20, 21, 22], FG 16 [0, 1, 2, 3, 4, 5, 6, 7, 8, 9, 10, 11, 12, 13, 14, 15] [18, 19, 20, 21, 22], FG 17 [0, 1, 2, 3, 4, 5, 6, 7, 8, 9, 10, 11, 12, 13, 14, 15] [18, 19, 20, 21, 22], FG 18 [0, 1, 2, 3, 4, 5, 6, 7, 8, 9, 10, 11, 12, 13, 14, 15, 16, 17] [19, 20, 21, 22], FG 19 [0, 1, 2, 3, 4, 5, 6, 7, 8, 9, 10, 11, 12, 13, 14, 15, 16, 17, 18] [20, 21, 22], (by have hc := gvF hP hG (hvo); exact FGc 20 [0, 1, 2, 3, 4, 5, 6, 7, 8, 9, 10, 11, 12, 13, 14, 15, 16, 17, 18, 19] [21, 22]), FG 21 [0, 1, 2, 3, 4, 5, 6, 7, 8, 9, 10, 11, 12, 13, 14, 15, 16, 17, 18, 19, 20] [22], FV 22 [0, 1, 2, 3, 4, 5, 6, 7, 8, 9, 10, 11, 12, 13, 14, 15, 16, 17, 18, 19, 20, 21] [], trivial⟩ ?_
       exact ML
     refine WI ?_ ?_ <;> intro hb
     ·exact absurd hb (by simp)
     ·apply z6
      apply z5
      apply z3
      refine WS [11, 12, 13] [20, 21, 22] ?_
      apply z7
      refine WL (ι := {k : Nat // k ≤ (S.getD i default).Refs.length}) [11, 12] [20, 21, 22] (fun ⟨k, hk⟩ => [(13, .dat (iD k))]) (fun ⟨k, hk⟩ => []) (fun ⟨k, hk⟩ => (S.getD i default).Refs.length - k) (⟨0, by omega⟩) ?_
      rintro ⟨k, hk⟩
      refine LA ?_
      apply z3
      refine WS [11, 12, 13, 118] [20, 21, 22] ?_
      refine WI ?_ ?_ <;> intro hb
      ·obtain ⟨j, hj1, hj2⟩ := hrf k (by omega)
       have hfo := ziu G S ((S.getD i default).Refs.getD k default) (by omega)
       rw [hj1] at hfo
       apply z6
       apply z5
       apply z3
       apply z7
       have hc := gvF hP hG (hfo)
       refine WSc [11, 12, 13, 14] [20, 21, 22] ?_
       have hE := And.intro hE (And.intro (show decide ((j : Int) < 0) = false from decide_eq_false (by omega)) (show decide ((i : Int) ≤ (j : Int)) = false from decide_eq_false (by omega)))
       refine WSF [11, 12, 13, 137] [20, 21, 22] [(0, 131, _), (1, 132, .dat (bD false)), (2, 133, .dat (bD false)), (3, 134, _), (4, 135, _), (5, 136, .dat (bD false)), (6, 137, .dat (bD false))] [] ⟨FV 0 [] [1, 2, 3, 4, 5, 6], FV 1 [0] [2, 3, 4, 5, 6], FV 2 [0, 1] [3, 4, 5, 6], FG 3 [0, 1, 2] [5, 6], FG 4 [0, 1, 2] [5, 6], FG 5 [0, 1, 2, 3, 4] [6], FV 6 [0, 1, 2, 3, 4, 5] [], trivial⟩ ?_
       refine WI ?_ ?_ <;> intro hb
       ·exact absurd hb (by simp)
       ·apply z6
        apply ze
        apply z5
        refine WQ [11, 12, 13] [20, 21, 22] ?_
        refine WN (⟨k + 1, by omega⟩)
      ·apply zj
       apply zd
       have hend : k = (S.getD i default).Refs.length := by omega
       subst hend
       apply zb
       apply zn
       apply z5
       apply w6 [11, 12, 15] [20, 21, 22] [0, 1, 2, 3, 4, 5, 6, 7, 8, 9, 10, 11, 12, 13, 14] []
       ·rw [hP]; kernel_rfl
       ·exact hR
       ·kernel_rfl
       ·(repeat (apply PickL.cons; exact rfl)); exact PickL.nil _
       ·refine RN ?_
        refine CU (ziu G S ⟨(S.getD i default).By, (S.getD i default).Seq - 1⟩ (by omega)) ?_
        exact SC
       refine wv (.of [(11, .dat (zz S)), (12, .dat (iD i)), (166, .dat (bD false))] [(20, ⟨2, [.agg [.osl 21 1 0 3, .mp 22]]⟩), (21, ⟨1, ((qw 3 A).map iD).map .dat⟩), (22, ⟨0, [.tup [], .dat (.sl (X8 A)), .dat (.sl (A.map zc))]⟩)]) ?_ ?_
       ·by_cases h0 : 0 < (S.getD i default).Seq
        ·obtain ⟨j, hj1, hj2⟩ := hpv h0
         rw [hj1]
         have hE := And.intro hE (And.intro (show decide ((j : Int) < 0) = false from decide_eq_false (by omega)) (And.intro (show decide ((i : Int) ≤ (j : Int)) = false from decide_eq_false (by omega)) (decide_eq_true h0)))
         refine Za [11, 12, 166] [20, 21, 22] [(0, 152, _), (1, 153, _), (2, 154, _), (3, 155, _), (4, 156, _), (5, 157, .dat (bD true)), (6, 158, .dat (bD true)), (7, 159, _), (8, 160, .dat (bD false)), (9, 161, .dat (bD false)), (10, 162, _), (11, 163, _), (12, 164, .dat (bD false)), (13, 165, .dat (bD false)), (14, 166, .dat (bD false))] [] ⟨FV 0 [] [2, 3, 4, 5, 6, 7, 8, 9, 10, 11, 12, 13, 14], FV 1 [] [2, 3, 4, 5, 6, 7, 8, 9, 10, 11, 12, 13, 14], FV 2 [0, 1] [3, 4, 5, 6, 7, 8, 9, 10, 11, 12, 13, 14], FV 3 [0, 1, 2] [4, 5, 6, 7, 8, 9, 10, 11, 12, 13, 14], FV 4 [0, 1, 2, 3] [5, 6, 7, 8, 9, 10, 11, 12, 13, 14], FV 5 [0, 1, 2, 3, 4] [6, 7, 8, 9, 10, 11, 12, 13, 14], FV 6 [0, 1, 2, 3, 4, 5] [7, 8, 9, 10, 11, 12, 13, 14], FG 7 [0, 1, 2, 3, 4, 5, 6] [8, 9, 10, 11, 12, 13, 14], FG 8 [0, 1, 2, 3, 4, 5, 6, 7] [9, 10, 11, 12, 13, 14], FG 9 [0, 1, 2, 3, 4, 5, 6, 7, 8] [10, 11, 12, 13, 14], FG 10 [0, 1, 2, 3, 4, 5, 6, 7, 8, 9] [12, 13, 14], FG 11 [0, 1, 2, 3, 4, 5, 6, 7, 8, 9] [12, 13, 14], FG 12 [0, 1, 2, 3, 4, 5, 6, 7, 8, 9, 10, 11] [13, 14], FG 13 [0, 1, 2, 3, 4, 5, 6, 7, 8, 9, 10, 11, 12] [14], FV 14 [0, 1, 2, 3, 4, 5, 6, 7, 8, 9, 10, 11, 12, 13] [], trivial⟩ ?_
         exact ML
        ·have hE := And.intro hE (decide_eq_false h0)
         refine Za [11, 12, 166] [20, 21, 22] [(0, 152, _), (1, 153, _), (2, 154, _), (3, 155, _), (4, 156, _), (5, 157, .dat (bD false)), (6, 158, .dat (bD false)), (7, 159, .cond false .junk), (8, 160, .cond false .junk), (9, 161, .cond false (.dat (bD false))), (10, 162, .cond false .junk), (11, 163, .cond false .junk), (12, 164, .cond false .junk), (13, 165, .cond false (.dat (bD false))), (14, 166, .dat (bD false))] [] ⟨FV 0 [] [2, 3, 4, 5, 6, 7, 8, 9, 10, 11, 12, 13, 14], FV 1 [] [2, 3, 4, 5, 6, 7, 8, 9, 10, 11, 12, 13, 14], FV 2 [0, 1] [3, 4, 5, 6, 7, 8, 9, 10, 11, 12, 13, 14], FV 3 [0, 1, 2] [4, 5, 6, 7, 8, 9, 10, 11, 12, 13, 14], FV 4 [0, 1, 2, 3] [5, 6, 7, 8, 9, 10, 11, 12, 13, 14], FV 5 [0, 1, 2, 3, 4] [6, 7, 8, 9, 10, 11, 12, 13, 14], FV 6 [0, 1, 2, 3, 4, 5] [7, 8, 9, 10, 11, 12, 13, 14], FO 7 [0, 1, 2, 3, 4, 5, 6] [8, 9, 10, 11, 12, 13, 14], FO 8 [0, 1, 2, 3, 4, 5, 6, 7] [9, 10, 11, 12, 13, 14], FO 9 [0, 1, 2, 3, 4, 5, 6, 7, 8] [10, 11, 12, 13, 14], FO 10 [0, 1, 2, 3, 4, 5, 6, 7, 8, 9] [12, 13, 14], FO 11 [0, 1, 2, 3, 4, 5, 6, 7, 8, 9] [12, 13, 14], FO 12 [0, 1, 2, 3, 4, 5, 6, 7, 8, 9, 10, 11] [13, 14], FO 13 [0, 1, 2, 3, 4, 5, 6, 7, 8, 9, 10, 11, 12] [14], FV 14 [0, 1, 2, 3, 4, 5, 6, 7, 8, 9, 10, 11, 12, 13] [], trivial⟩ ?_
         exact ML
       refine WI ?_ ?_ <;> intro hb
       ·exact absurd hb (by simp)
       ·apply z6
        apply ze
        apply z5
        refine WQ [11, 12] [20, 21, 22] ?_
        refine WN (⟨i + 1, by omega⟩)
    ·apply zj
     apply zd
     have hend : i = S.length := by omega
     subst hend
     apply zb
     apply zn
     apply z5
     have hc := gvF hP hG (zpj G g1)
     refine WSc [4] [20, 21, 22] ?_
     apply z9
     exact E0
end Go.Proofs.YtkeopokhnfpgpaaGreatDoor

