/- More room, more options, more items, in plain Lean. -/
import Derived.Test.YthcfjdkflmkhbaaDoorHP31
import Derived.Test.YthcfjdkflmkhbaaDoorHP29
import Derived.Test.YthcfjdkflmkhbaaDoorHAv41
set_option linter.all false
namespace Go.Proofs.YthcfjdkflmkhbaaDoor
open Go.Av

theorem sums_congr {c c' : CaseM} {pick pick' : List Int} : ∀ n, (∀ i < n, optM c pick i = optM c' pick' i) → (∀ i < n, weightM c i = weightM c' i) → linesM c pick n = linesM c' pick' n ∧ turnsM c pick n = turnsM c' pick' n
  | 0, _, _ => ⟨rfl, rfl⟩
  | n + 1, h, hw => by
    obtain ⟨h1, h2⟩ := sums_congr n (fun i hi => h i (by omega)) (fun i hi => hw i (by omega))
    simp only [linesM, turnsM, h1, h2, h n (by omega), hw n (by omega), and_self]

def moreA (c : CaseM) (r : Int) : CaseM := ⟨c.items, c.weights, c.room + r⟩
def moreB (c : CaseM) (k : Nat) (o : Int × Int) : CaseM := ⟨c.items.set k (c.items.getD k default ++ [o]), c.weights, c.room⟩
def moreC (c : CaseM) (o : Int × Int) (w : Int) : CaseM := ⟨c.items ++ [[o]], c.weights ++ [w], c.room⟩

theorem set_getD {α : Type} [Inhabited α] (l : List α) (k i : Nat) (x : α) : (l.set k x).getD i default = if i = k ∧ k < l.length then x else l.getD i default := by
  simp only [List.getD_eq_getElem?_getD, List.getElem?_set]
  by_cases h : k = i
  · subst h
    by_cases hk : k < l.length
    · simp [hk]
    · simp [hk]
  · rw [if_neg h, if_neg (by omega)]
theorem app_getD {α : Type} [Inhabited α] (l l' : List α) (i : Nat) (h : i < l.length) : (l ++ l').getD i default = l.getD i default := by
  simp only [List.getD_eq_getElem?_getD, List.getElem?_append_left h]
theorem app_last {α : Type} [Inhabited α] (l : List α) (x : α) : (l ++ [x]).getD l.length default = x := by
  simp [List.getD_eq_getElem?_getD]

variable {c : CaseM}
theorem moreA_ok (hc : OkC c) {r : Int} (h : 0 ≤ r) (hr : c.room + r ≤ 4096) : OkC (moreA c r) := room_ok hc ⟨by have := hc.room; omega, hr⟩
theorem moreB_item {k : Nat} {o : Int × Int} (hk : k < c.items.length) (i : Nat) : itemM (moreB c k o) i = if i = k then c.items.getD k default ++ [o] else itemM c i := by
  show (c.items.set k (c.items.getD k default ++ [o])).getD i default = _
  rw [set_getD]
  by_cases h : i = k
  · rw [if_pos ⟨h, hk⟩, if_pos h]
  · rw [if_neg (by omega), if_neg h]
theorem moreB_ok (hc : OkC c) {k : Nat} {o : Int × Int} (hk : k < c.items.length) (h7 : (c.items.getD k default).length ≤ 7) (ho : okO o) : OkC (moreB c k o) := by
  have hl : (moreB c k o).items.length = c.items.length := by simp [moreB]
  have hit := moreB_item (o := o) hk
  refine ⟨by rw [hl]; exact hc.n64, fun i hi => ?_, fun i hi => ?_, by rw [hl]; exact hc.wl, hc.room, fun i hi => hc.w i (by omega), fun i hi x hx => ?_⟩
  · rw [hit i]; split
    · simp only [List.length_append, List.length_cons, List.length_nil]; omega
    · exact hc.n8 i (by omega)
  · rw [hit i]; split
    · simp
    · exact hc.n1 i (by omega)
  · rw [hit i] at hx
    split at hx
    · rcases List.mem_append.1 hx with hx | hx
      · exact hc.o k hk x hx
      · simp at hx; subst hx; exact ho
    · exact hc.o i (by omega) x hx
theorem moreC_item {o : Int × Int} {w : Int} {i : Nat} (hi : i < c.items.length) : itemM (moreC c o w) i = itemM c i := app_getD _ _ _ hi
theorem moreC_weight {o : Int × Int} {w : Int} {i : Nat} (hi : i < c.weights.length) : weightM (moreC c o w) i = weightM c i := app_getD _ _ _ hi
theorem moreC_ok (hc : OkC c) {o : Int × Int} {w : Int} (h63 : c.items.length ≤ 63) (ho : okO o) (hw : 0 ≤ w ∧ w ≤ 1024) : OkC (moreC c o w) := by
  have hl : (moreC c o w).items.length = c.items.length + 1 := by simp [moreC]
  have hlast : itemM (moreC c o w) c.items.length = [o] := app_last _ _
  have hwl := hc.wl
  have hlw : weightM (moreC c o w) c.items.length = w := by rw [← hwl]; exact app_last _ _
  refine ⟨by omega, fun i hi => ?_, fun i hi => ?_, by simp [moreC, hwl], hc.room, fun i hi => ?_, fun i hi x hx => ?_⟩
  · by_cases h : i < c.items.length
    · rw [moreC_item h]; exact hc.n8 i h
    · obtain rfl : i = c.items.length := by omega
      rw [hlast]; simp
  · by_cases h : i < c.items.length
    · rw [moreC_item h]; exact hc.n1 i h
    · obtain rfl : i = c.items.length := by omega
      rw [hlast]; simp
  · by_cases h : i < c.items.length
    · rw [moreC_weight (by omega)]; exact hc.w i h
    · obtain rfl : i = c.items.length := by omega
      rw [hlw]; exact hw
  · by_cases h : i < c.items.length
    · rw [moreC_item h] at hx; exact hc.o i h x hx
    · obtain rfl : i = c.items.length := by omega
      rw [hlast] at hx; simp at hx; subst hx; exact ho

/-- A case whose choices all are choices of another one, at the same costs. -/
theorem best_le {c c' : CaseM} (hc : OkC c) (hc' : OkC c') (h : ∀ pick, OkP c pick → pick.length = c.items.length → linesM c pick c.items.length ≤ c.room →
      ∃ pick', OkP c' pick' ∧ pick'.length = c'.items.length ∧ linesM c' pick' c'.items.length ≤ c'.room ∧ turnsM c' pick' c'.items.length ≤ turnsM c pick c.items.length) (he : (bestM c).2.2 = 0) :
    (bestM c').2.2 = 0 ∧ (bestM c').2.1 ≤ (bestM c).2.1 := by
  rcases best_lists hc with ⟨h1, h2⟩ | ⟨pick, h1, h2, h3, h4, h5⟩
  · rw [h1] at he; simp at he
  · obtain ⟨p', g1, g2, g3, g4⟩ := h pick h1 h2 h3
    rcases best_lists hc' with ⟨k1, k2⟩ | ⟨q, k1, k2, k3, k4, k5⟩
    · exact absurd g3 (k2 _ g1 g2)
    · have := k5 _ g1 g2 g3
      rw [k4, h4]
      refine ⟨rfl, ?_⟩
      simp only
      omega
theorem best_err (hc : OkC c) : (bestM c).2.2 = 0 ∨ (bestM c).2.2 = 21 := by
  rcases best_lists hc with ⟨h1, h2⟩ | ⟨pick, h1, h2, h3, h4, h5⟩
  · rw [h1]; simp
  · rw [h4]; simp
theorem best_nn (hc : OkC c) : 0 ≤ (bestM c).2.1 ∧ (bestM c).2.1 ≤ 65536 * 64 := by
  rcases best_lists hc with ⟨h1, h2⟩ | ⟨pick, h1, h2, h3, h4, h5⟩
  · rw [h1]; simp
  · rw [h4]
    have := (sums_range hc h1 c.items.length (by omega)).2
    have := hc.n64
    simp only
    omega

theorem more_A (hc : OkC c) {r : Int} (h : 0 ≤ r) (hr : c.room + r ≤ 4096) (he : (bestM c).2.2 = 0) : (bestM (moreA c r)).2.2 = 0 ∧ (bestM (moreA c r)).2.1 ≤ (bestM c).2.1 := by
  refine best_le hc (moreA_ok hc h hr) (fun pick hp hl hf => ?_) he
  obtain ⟨h1, h2⟩ := lines_room c (c.room + r) pick c.items.length
  refine ⟨pick, ⟨hp.len, hp.at_⟩, hl, ?_, Int.le_of_eq h2⟩
  show linesM ⟨c.items, c.weights, c.room + r⟩ pick c.items.length ≤ c.room + r
  rw [h1]; omega
theorem more_B (hc : OkC c) {k : Nat} {o : Int × Int} (hk : k < c.items.length) (h7 : (c.items.getD k default).length ≤ 7) (ho : okO o) (he : (bestM c).2.2 = 0) : (bestM (moreB c k o)).2.2 = 0 ∧ (bestM (moreB c k o)).2.1 ≤ (bestM c).2.1 := by
  refine best_le hc (moreB_ok hc hk h7 ho) (fun pick hp hl hf => ?_) he
  have hit := moreB_item (o := o) hk
  have hll : (moreB c k o).items.length = c.items.length := by simp [moreB]
  have hopt : ∀ i < c.items.length, optM (moreB c k o) pick i = optM c pick i := fun i hi => by
    have ha := hp.at_ i (by omega)
    simp only [optM]
    rw [hit i]
    split
    · rename_i h
      subst h
      simp only [itemM] at ha
      exact app_getD _ _ _ (by omega)
    · rfl
  obtain ⟨h1, h2⟩ := sums_congr (c := moreB c k o) (c' := c) (pick := pick) (pick' := pick) c.items.length hopt (fun _ _ => rfl)
  refine ⟨pick, ⟨by omega, fun i hi => ?_⟩, by omega, ?_, ?_⟩
  · have ha := hp.at_ i (by omega)
    rw [hit i]
    split
    · rename_i h
      subst h
      simp only [itemM] at ha
      simp only [List.length_append, List.length_cons, List.length_nil]
      omega
    · exact ha
  · rw [hll, h1]; exact hf
  · rw [hll, h2]; exact Int.le_refl _
theorem more_C (hc : OkC c) {o : Int × Int} {w : Int} (h63 : c.items.length ≤ 63) (ho : okO o) (hw : 0 ≤ w ∧ w ≤ 1024) (he : (bestM (moreC c o w)).2.2 = 0) : (bestM c).2.2 = 0 ∧ (bestM c).2.1 ≤ (bestM (moreC c o w)).2.1 := by
  have hc' := moreC_ok hc h63 ho hw
  have hl : (moreC c o w).items.length = c.items.length + 1 := by simp [moreC]
  have hwl := hc.wl
  refine best_le hc' hc (fun pick hp hpl hf => ?_) he
  have hopt : ∀ i < c.items.length, optM c (pick.take c.items.length) i = optM (moreC c o w) pick i := fun i hi => by
    simp only [optM, moreC_item hi]
    have : pickM (pick.take c.items.length) i = pickM pick i := by simp [pickM, List.getD_eq_getElem?_getD, List.getElem?_take, hi]
    rw [this]
  obtain ⟨h1, h2⟩ := sums_congr (c := c) (c' := moreC c o w) (pick := pick.take c.items.length) (pick' := pick) c.items.length hopt (fun i hi => (moreC_weight (by omega)).symm)
  have ho' := hp.opt hc' (show c.items.length < pick.length by omega)
  unfold okO at ho'
  have hw' := hc'.w c.items.length (by omega)
  have hm : 0 ≤ (optM (moreC c o w) pick c.items.length).2 * weightM (moreC c o w) c.items.length := Int.mul_nonneg ho'.2.2.1 hw'.1
  rw [hl] at hf
  simp only [linesM] at hf
  have hrr : (moreC c o w).room = c.room := rfl
  have htl : (pick.take c.items.length).length = c.items.length := by rw [List.length_take]; omega
  refine ⟨pick.take c.items.length, ⟨by omega, fun i hi => ?_⟩, htl, by omega, ?_⟩
  · rw [htl] at hi
    have ha := hp.at_ i (by omega)
    rw [moreC_item hi] at ha
    have : pickM (pick.take c.items.length) i = pickM pick i := by simp [pickM, List.getD_eq_getElem?_getD, List.getElem?_take, hi]
    rw [this]; exact ha
  · rw [hl]
    simp only [turnsM]
    omega

end Go.Proofs.YthcfjdkflmkhbaaDoor

namespace Go.Proofs.YthcfjdkflmkhbaaDoor
open Go.Av

theorem cross_trans {a b c d e f : Int} (hb : 0 < b) (hd : 0 < d) (hf : 0 < f) (h1 : a * d ≤ c * b) (h2 : c * f ≤ e * d) : a * f ≤ e * b := by
  have h3 := Int.mul_le_mul_of_nonneg_right h1 (Int.le_of_lt hf)
  have h4 := Int.mul_le_mul_of_nonneg_right h2 (Int.le_of_lt hb)
  refine Int.le_of_mul_le_mul_left (a := d) ?_ hd
  grind

/-- One certificate is at least as good as another one: a greater bound, or the same one at no greater price. -/
def geC (x y : Int × Int × Int) : Prop := y.2.2 * x.2.1 < x.2.2 * y.2.1 ∨ (y.2.2 * x.2.1 = x.2.2 * y.2.1 ∧ x.1 * y.2.1 ≤ y.1 * x.2.1)
theorem geC_refl (x : Int × Int × Int) : geC x x := .inr ⟨rfl, Int.le_refl _⟩
theorem geC_total (x y : Int × Int × Int) : geC x y ∨ geC y x := by unfold geC; omega
theorem geC_le {x y : Int × Int × Int} (h : geC x y) : y.2.2 * x.2.1 ≤ x.2.2 * y.2.1 := by unfold geC at h; omega
theorem geC_trans {x y z : Int × Int × Int} (hx : 0 < x.2.1) (hy : 0 < y.2.1) (hz : 0 < z.2.1) (h1 : geC x y) (h2 : geC y z) : geC x z := by
  have a1 := geC_le h1
  have a2 := geC_le h2
  have a3 := cross_trans hz hy hx a2 a1
  unfold geC
  by_cases he : z.2.2 * x.2.1 = x.2.2 * z.2.1
  · right
    refine ⟨he, ?_⟩
    -- all three are equal
    have b1 : x.2.2 * y.2.1 ≤ y.2.2 * x.2.1 := cross_trans (a := x.2.2) (b := x.2.1) (c := z.2.2) (d := z.2.1) (e := y.2.2) (f := y.2.1) hx hz hy (by omega) a2
    have b2 : y.2.2 * z.2.1 ≤ z.2.2 * y.2.1 := cross_trans (a := y.2.2) (b := y.2.1) (c := x.2.2) (d := x.2.1) (e := z.2.2) (f := z.2.1) hy hx hz a1 (by omega)
    unfold geC at h1 h2
    exact cross_trans (a := x.1) (b := x.2.1) (c := y.1) (d := y.2.1) (e := z.1) (f := z.2.1) hx hy hz (by omega) (by omega)
  · left; omega

/-- Sums with products, for what follows. -/
theorem ar1 {e1 e2 p q D P : Int} (g1 : e1 * D < e2 * P) (g2 : q * P ≤ p * D) (h3 : e1 * q ≤ p * e2) (hq : 0 < q) (he : 0 < e2) : 0 < D := by
  refine Int.not_le.1 fun hn => ?_
  have m1 := Int.mul_le_mul_of_nonpos_right h3 hn
  have m2 := Int.mul_lt_mul_of_pos_right g1 hq
  have m3 := Int.mul_le_mul_of_nonneg_right g2 (show 0 ≤ e2 by omega)
  grind
theorem ar2 {x1 x2 p q D P : Int} (g2 : q * P ≤ p * D) (hx : x1 * D = P * x2) (h2 : 0 < x2) (hD : 0 < D) : x1 * q ≤ p * x2 := by
  refine Int.le_of_mul_le_mul_right (a := D) ?_ hD
  have m3 := Int.mul_le_mul_of_nonneg_right g2 (show 0 ≤ x2 by omega)
  have m4 : x1 * D * q = P * x2 * q := by rw [hx]
  grind
theorem ar3 {e1 e2 x1 x2 D P : Int} (g1 : e1 * D < e2 * P) (hx : x1 * D = P * x2) (h4 : x1 * e2 ≤ e1 * x2) (h2 : 0 < x2) (hD : 0 < D) : False := by
  have m1 := Int.mul_lt_mul_of_pos_right g1 h2
  have m2 := Int.mul_le_mul_of_nonneg_right h4 (show 0 ≤ D by omega)
  have m4 : x1 * D * e2 = P * x2 * e2 := by rw [hx]
  grind
theorem ar4 {e1 e2 p q r L T : Int} (h3 : e1 * q ≤ p * e2) (hs : L ≤ r) : ((0 - p) * r + (p * L + q * T)) * e2 ≤ ((0 - e1) * r + (e1 * L + e2 * T)) * q := by
  have m1 := Int.mul_le_mul_of_nonneg_right h3 (show 0 ≤ r - L by omega)
  grind
theorem ar5 {e1 e2 p q r L T : Int} (h3 : p * e2 ≤ e1 * q) (hs : r ≤ L) : ((0 - p) * r + (p * L + q * T)) * e2 ≤ ((0 - e1) * r + (e1 * L + e2 * T)) * q := by
  have m1 := Int.mul_le_mul_of_nonneg_right h3 (show 0 ≤ L - r by omega)
  grind
theorem ar6 {e1 e2 p q D P : Int} (g1 : e2 * P < e1 * D) (g2 : p * D ≤ q * P) (h3 : p * e2 ≤ e1 * q) (hq : 0 < q) (he : 0 < e2) : 0 < D := by
  refine Int.not_le.1 fun hn => ?_
  have m1 := Int.mul_le_mul_of_nonpos_right h3 hn
  have m2 := Int.mul_lt_mul_of_pos_right g1 hq
  have m3 := Int.mul_le_mul_of_nonneg_right g2 (show 0 ≤ e2 by omega)
  grind
theorem ar7 {x1 x2 p q D P : Int} (g2 : p * D ≤ q * P) (hx : x1 * D = P * x2) (h2 : 0 < x2) (hD : 0 < D) : p * x2 ≤ x1 * q := by
  refine Int.le_of_mul_le_mul_right (a := D) ?_ hD
  have m3 := Int.mul_le_mul_of_nonneg_right g2 (show 0 ≤ x2 by omega)
  have m4 : x1 * D * q = P * x2 * q := by rw [hx]
  grind
theorem ar8 {e1 e2 x1 x2 D P : Int} (g1 : e2 * P < e1 * D) (hx : x1 * D = P * x2) (h4 : e1 * x2 ≤ x1 * e2) (h2 : 0 < x2) (hD : 0 < D) : False := by
  have m1 := Int.mul_lt_mul_of_pos_right g1 h2
  have m2 := Int.mul_le_mul_of_nonneg_right h4 (show 0 ≤ D by omega)
  have m4 : x1 * D * e2 = P * x2 * e2 := by rw [hx]
  grind
theorem ar9 {r L T q : Int} : ((0 - 0) * r + (0 * L + q * T)) * 1 ≤ ((0 - 0) * r + (0 * L + 1 * T)) * q := by
  grind

section
variable {c : CaseM}
theorem try_ge (c : CaseM) (best : Int × Int × Int) (e : Int × Int) (hb : 0 < best.2.1) (he : 0 < e.2) :
    geC (tryQ c best e) best ∧ geC (tryQ c best e) (boundM c e.1 e.2) ∧ (tryQ c best e = best ∨ tryQ c best e = boundM c e.1 e.2) := by
  unfold tryQ
  split
  · rename_i h
    refine ⟨?_, geC_refl _, .inr rfl⟩
    unfold geC
    omega
  · rename_i h
    refine ⟨geC_refl _, ?_, .inl rfl⟩
    unfold geC
    omega
theorem fold_ge (c : CaseM) : ∀ (l : List (Int × Int)) (x : Int × Int × Int), 0 < x.2.1 → (∀ e ∈ l, 0 < e.2) →
    (∀ e ∈ l, geC (l.foldl (tryQ c) x) (boundM c e.1 e.2)) ∧ geC (l.foldl (tryQ c) x) x ∧ (l.foldl (tryQ c) x = x ∨ ∃ e ∈ l, l.foldl (tryQ c) x = boundM c e.1 e.2)
  | [], x, _, _ => ⟨by simp, geC_refl _, .inl rfl⟩
  | e :: l, x, hx, h => by
    obtain ⟨t1, t2, t3⟩ := try_ge c x e hx (h e (by simp))
    have he : 0 < e.2 := h e (by simp)
    have hq : 0 < (tryQ c x e).2.1 := by
      rcases t3 with t3 | t3
      · rw [t3]; exact hx
      · rw [t3]; exact he
    obtain ⟨i1, i2, i3⟩ := fold_ge c l (tryQ c x e) hq (fun e' h' => h e' (by simp [h']))
    simp only [List.foldl_cons]
    have hr : 0 < (l.foldl (tryQ c) (tryQ c x e)).2.1 := by
      rcases i3 with i3 | ⟨e', h1, i3⟩
      · rw [i3]; exact hq
      · rw [i3]; exact h e' (by simp [h1])
    refine ⟨fun e' h' => ?_, geC_trans hr hq hx i2 t1, ?_⟩
    · rcases List.mem_cons.1 h' with rfl | h'
      · exact geC_trans hr hq he i2 t2
      · exact i1 e' h'
    · rcases i3 with i3 | ⟨e', h1, i3⟩
      · rcases t3 with t3 | t3
        · left; rw [i3, t3]
        · exact .inr ⟨e, by simp, by rw [i3, t3]⟩
      · exact .inr ⟨e', by simp [h1], i3⟩

/-- The certificate of Dual is that of one of the prices, and the best of these. -/
theorem dual_spec (hc : OkC c) : (∃ e ∈ pricesM c, dA c c.items.length = boundM c e.1 e.2) ∧ ∀ e ∈ pricesM c, geC (dA c c.items.length) (boundM c e.1 e.2) := by
  have hok := (prices_ok hc).1
  have h := fold_ge c (eA c c.items.length) (boundM c 0 1) (by simp [boundM]) (fun e he => by
    have := hok e (List.mem_cons_of_mem _ he)
    unfold okE at this; omega)
  rw [← dA_fold] at h
  obtain ⟨h1, h2, h3⟩ := h
  refine ⟨?_, fun e he => ?_⟩
  · rcases h3 with h3 | ⟨e, he, h3⟩
    · exact ⟨(0, 1), by simp [pricesM], h3⟩
    · exact ⟨e, List.mem_cons_of_mem _ he, h3⟩
  · rcases List.mem_cons.1 he with rfl | he
    · exact h2
    · exact h1 e he

/-- What is among the prices. -/
theorem eC_mem {i a : Nat} {e : Int × Int} : ∀ b, e ∈ eC c i a b ↔ ∃ k, k < b ∧ (0 < dP c i a k ∧ 0 < dQ c i a k) ∧ e = lowM (dP c i a k).toNat (dQ c i a k).toNat
  | 0 => by simp [eC]
  | b + 1 => by
    have ih := eC_mem (i := i) (a := a) (e := e) b
    simp only [eC]
    split
    · rename_i h
      rw [List.mem_append, ih, List.mem_singleton]
      constructor
      · rintro (⟨k, h1, h2⟩ | h1)
        · exact ⟨k, by omega, h2⟩
        · exact ⟨b, by omega, h, h1⟩
      · rintro ⟨k, h1, h2, h3⟩
        by_cases hk : k = b
        · subst hk; exact .inr h3
        · exact .inl ⟨k, by omega, h2, h3⟩
    · rename_i h
      rw [ih]
      constructor
      · rintro ⟨k, h1, h2⟩; exact ⟨k, by omega, h2⟩
      · rintro ⟨k, h1, h2, h3⟩
        by_cases hk : k = b
        · subst hk; exact absurd h2 h
        · exact ⟨k, by omega, h2, h3⟩
theorem eB_mem {i : Nat} {e : Int × Int} : ∀ a, e ∈ eB c i a ↔ ∃ j, j < a ∧ e ∈ eC c i j (c.items.getD i default).length
  | 0 => by simp [eB]
  | a + 1 => by
    simp only [eB]
    rw [List.mem_append, eB_mem a]
    constructor
    · rintro (⟨j, h1, h2⟩ | h1)
      · exact ⟨j, by omega, h2⟩
      · exact ⟨a, by omega, h1⟩
    · rintro ⟨j, h1, h2⟩
      by_cases hj : j = a
      · subst hj; exact .inr h2
      · exact .inl ⟨j, by omega, h2⟩
theorem eA_mem {e : Int × Int} : ∀ i, e ∈ eA c i ↔ ∃ j, j < i ∧ e ∈ eB c j (c.items.getD j default).length
  | 0 => by simp [eA]
  | i + 1 => by
    simp only [eA]
    rw [List.mem_append, eA_mem i]
    constructor
    · rintro (⟨j, h1, h2⟩ | h1)
      · exact ⟨j, by omega, h2⟩
      · exact ⟨i, by omega, h1⟩
    · rintro ⟨j, h1, h2⟩
      by_cases hj : j = i
      · subst hj; exact .inr h2
      · exact .inl ⟨j, by omega, h2⟩
/-- The price at which two options of an item have the same value. -/
structure Cross (c : CaseM) (e : Int × Int) (i a b : Nat) : Prop where
  hi : i < c.items.length
  ha : a < (c.items.getD i default).length
  hb : b < (c.items.getD i default).length
  pos : 0 < dP c i a b ∧ 0 < dQ c i a b
  eq : e = lowM (dP c i a b).toNat (dQ c i a b).toNat
theorem prices_mem {e : Int × Int} : e ∈ pricesM c ↔ e = (0, 1) ∨ ∃ i a b, Cross c e i a b := by
  unfold pricesM
  rw [List.mem_cons, eA_mem]
  constructor
  · rintro (h | ⟨i, hi, h⟩)
    · exact .inl h
    · obtain ⟨a, ha, h⟩ := (eB_mem _).1 h
      obtain ⟨b, hb, h1, h2⟩ := (eC_mem _).1 h
      exact .inr ⟨i, a, b, hi, ha, hb, h1, h2⟩
  · rintro (h | ⟨i, a, b, h⟩)
    · exact .inl h
    · exact .inr ⟨i, h.hi, (eB_mem _).2 ⟨a, h.ha, (eC_mem _).2 ⟨b, h.hb, h.pos, h.eq⟩⟩⟩

/-- A price in lowest terms is the same price. -/
theorem low_cross {p q : Nat} (hp : 0 < p) : (lowM p q).1 * (q : Int) = (p : Int) * (lowM p q).2 := by
  unfold lowM
  have h1 : (p : Int).tdiv (Nat.gcd p q : Nat) = ((p / Nat.gcd p q : Nat) : Int) := rfl
  have h2 : (q : Int).tdiv (Nat.gcd p q : Nat) = ((q / Nat.gcd p q : Nat) : Int) := rfl
  simp only [h1, h2]
  obtain ⟨a, ha⟩ := Nat.gcd_dvd_left p q
  obtain ⟨b, hb⟩ := Nat.gcd_dvd_right p q
  have hg : 0 < Nat.gcd p q := Nat.gcd_pos_of_pos_left _ hp
  generalize Nat.gcd p q = g at *
  subst ha hb
  rw [Nat.mul_div_cancel_left _ hg, Nat.mul_div_cancel_left _ hg]
  push_cast
  grind
theorem low_coprime {p q : Nat} (hp : 0 < p) (hq : 0 < q) : ∃ P Q : Nat, lowM p q = ((P : Int), (Q : Int)) ∧ Nat.Coprime P Q ∧ 0 < Q := by
  have hg : 0 < Nat.gcd p q := Nat.gcd_pos_of_pos_left _ hp
  refine ⟨p / Nat.gcd p q, q / Nat.gcd p q, rfl, Nat.coprime_div_gcd_div_gcd hg, Nat.div_pos (Nat.le_of_dvd hq (Nat.gcd_dvd_right _ _)) hg⟩
theorem price_coprime {e : Int × Int} (h : e ∈ pricesM c) : ∃ P Q : Nat, e = ((P : Int), (Q : Int)) ∧ Nat.Coprime P Q ∧ 0 < Q := by
  rcases prices_mem.1 h with rfl | ⟨i, a, b, h⟩
  · exact ⟨0, 1, rfl, by simp, by omega⟩
  · rw [h.eq]
    have := h.pos
    exact low_coprime (by omega) (by omega)
theorem cross_eq {e : Int × Int} {i a b : Nat} (h : Cross c e i a b) : e.1 * dQ c i a b = dP c i a b * e.2 := by
  have hp := h.pos
  have := low_cross (p := (dP c i a b).toNat) (q := (dQ c i a b).toNat) (by omega)
  rw [← h.eq, Int.toNat_of_nonneg (by omega), Int.toNat_of_nonneg (by omega)] at this
  exact this

/-- The least member of a list in an order. -/
theorem least_mem {α : Type} (le : α → α → Prop) (P : α → Prop) (tot : ∀ x y, P x → P y → le x y ∨ le y x) (tr : ∀ x y z, P x → P y → P z → le x y → le y z → le x z) :
    ∀ l : List α, (∀ x ∈ l, P x) → l ≠ [] → ∃ x ∈ l, ∀ y ∈ l, le x y
  | [], _, h => absurd rfl h
  | [a], hP, _ => ⟨a, by simp, fun y hy => by
      simp at hy; subst hy
      rcases tot y y (hP y (by simp)) (hP y (by simp)) with h | h <;> exact h⟩
  | a :: b :: l, hP, _ => by
    obtain ⟨x, h1, h2⟩ := least_mem le P tot tr (b :: l) (fun x hx => hP x (List.mem_cons_of_mem _ hx)) (by simp)
    have hx := hP x (List.mem_cons_of_mem _ h1)
    have ha := hP a (by simp)
    rcases tot a x ha hx with h | h
    · refine ⟨a, by simp, fun y hy => ?_⟩
      rcases List.mem_cons.1 hy with rfl | hy
      · rcases tot y y ha ha with h | h <;> exact h
      · exact tr a x y ha hx (hP y (List.mem_cons_of_mem _ hy)) h (h2 y hy)
    · refine ⟨x, List.mem_cons_of_mem _ h1, fun y hy => ?_⟩
      rcases List.mem_cons.1 hy with rfl | hy
      · exact h
      · exact h2 y hy

/-- The option that an item has at a price. -/
theorem pick_at (c : CaseM) (p q : Int) : ∃ k : Nat → Nat, ∀ i, (k i < (c.items.getD i default).length ∨ (k i = 0 ∧ (c.items.getD i default).length = 0)) ∧ minV c p q i (c.items.getD i default).length = valM c p q i ((c.items.getD i default).getD (k i) default) := by
  have h := fun i => minV_at (c := c) (p := p) (q := q) (i := i) (c.items.getD i default).length
  exact ⟨fun i => Classical.choose (h i), fun i => Classical.choose_spec (h i)⟩

theorem bnd_eq_of {p q : Int} {pick : List Int} (hv : ∀ i < c.items.length, valM c p q i (optM c pick i) = minV c p q i (c.items.getD i default).length) : ∀ n ≤ c.items.length, bndM c p q n = (0 - p) * c.room + (p * linesM c pick n + q * turnsM c pick n)
  | 0, _ => by simp [bndM, linesM, turnsM]
  | n + 1, h => by
    have ih := bnd_eq_of hv n (by omega)
    have h1 := hv n (by omega)
    simp only [bndM, linesM, turnsM]
    rw [← val_sum]
    omega
theorem bnd_pick {p q : Int} {k : Nat → Nat} (hv : ∀ i < c.items.length, minV c p q i (c.items.getD i default).length = valM c p q i ((c.items.getD i default).getD (k i) default)) :
    bndM c p q c.items.length = (0 - p) * c.room + (p * linesM c (lstS c k) c.items.length + q * turnsM c (lstS c k) c.items.length) := by
  refine bnd_eq_of (fun i hi => ?_) _ (Nat.le_refl _)
  rw [hv i hi]
  simp only [optM, itemM]
  rw [lstS_at k hi]
  rfl

theorem val_dif (p q : Int) (i a b : Nat) : valM c p q i ((c.items.getD i default).getD b default) - valM c p q i ((c.items.getD i default).getD a default) = p * dQ c i a b - q * dP c i a b := by
  unfold valM dP dQ
  grind

/-- The shortest choice has the fewest lines. -/
theorem shAt_least (l : List (Int × Int)) : ∀ k, ∀ j < k, (l.getD (shAt l k) default).1 ≤ (l.getD j default).1
  | 0, j, h => by omega
  | k + 1, j, h => by
    simp only [shAt]
    by_cases hj : j = k
    · subst hj
      split
      · exact Int.le_refl _
      · omega
    · have := shAt_least l k j (by omega)
      split <;> omega
theorem short_least (hc : OkC c) {pick : List Int} (hp : OkP c pick) : ∀ n ≤ pick.length, linesM c (shortM c c.items.length) n ≤ linesM c pick n
  | 0, _ => Int.le_refl _
  | n + 1, h => by
    have ih := short_least hc hp n (by omega)
    have h1 := hp.at_ n (by omega)
    have h2 := hp.len
    have h3 : pickM (shortM c c.items.length) n = shortI c n := getD_map_range _ _ _ (by omega)
    have h4 := shAt_least (c.items.getD n default) (c.items.getD n default).length (pickM pick n).toNat (by simp only [itemM] at h1; omega)
    simp only [linesM, optM]
    rw [h3]
    unfold shortI
    simp only [Int.toNat_natCast, itemM]
    omega

/-- No price has a greater bound than that of Dual, if a choice fits. -/
theorem dual_max (hc : OkC c) (hf : linesM c (shortM c c.items.length) c.items.length ≤ c.room) {p q : Int} (hp : 0 ≤ p) (hq : 0 < q) :
    bndM c p q c.items.length * (dA c c.items.length).2.1 ≤ (dA c c.items.length).2.2 * q := by
  obtain ⟨⟨e0, he0, hd⟩, hge⟩ := dual_spec hc
  have hok := (prices_ok hc).1
  have hok0 := hok e0 he0
  unfold okE at hok0
  have hQ : 0 < (dA c c.items.length).2.1 := by rw [hd]; simp only [boundM]; omega
  obtain ⟨k, hk⟩ := pick_at c p q
  have hkl : ∀ i < c.items.length, k i < (c.items.getD i default).length := fun i hi => by
    have := hc.n1 i hi
    simp only [itemM] at this
    rcases (hk i).1 with h | h <;> omega
  have hb := bnd_pick (c := c) (p := p) (q := q) (k := k) (fun i hi => (hk i).2)
  -- a price of the list with a bound that is no less
  have key : ∃ e ∈ pricesM c, bndM c p q c.items.length * e.2 ≤ bndM c e.1 e.2 c.items.length * q := by
    by_cases hs : linesM c (lstS c k) c.items.length ≤ c.room
    · -- to the left
      obtain ⟨e, h1, h2⟩ := least_mem (fun x y : Int × Int => y.1 * x.2 ≤ x.1 * y.2) (fun x => 0 < x.2) (fun x y _ _ => by omega) (fun x y z hx hy hz h1 h2 => cross_trans hz hy hx h2 h1)
        ((pricesM c).filter fun e => decide (e.1 * q ≤ p * e.2)) (fun x hx => by
          have := hok x (List.mem_filter.1 hx).1
          unfold okE at this; omega) (by
          intro h
          have : ((0 : Int), (1 : Int)) ∈ (pricesM c).filter fun e => decide (e.1 * q ≤ p * e.2) := by
            rw [List.mem_filter]
            exact ⟨by simp [pricesM], by simpa using hp⟩
          rw [h] at this
          simp at this)
      obtain ⟨h1, h3⟩ := List.mem_filter.1 h1
      have h3 : e.1 * q ≤ p * e.2 := by simpa using h3
      have hoe := hok e h1
      unfold okE at hoe
      refine ⟨e, h1, ?_⟩
      have hv : ∀ i < c.items.length, minV c e.1 e.2 i (c.items.getD i default).length = valM c e.1 e.2 i ((c.items.getD i default).getD (k i) default) := fun i hi => by
        have hle := minV_le (c := c) (p := e.1) (q := e.2) (i := i) (c.items.getD i default).length (k i) (.inl (hkl i hi))
        obtain ⟨j, hj, hmj⟩ := minV_at (c := c) (p := e.1) (q := e.2) (i := i) (c.items.getD i default).length
        have hj : j < (c.items.getD i default).length := by have := hkl i hi; omega
        by_cases hlt : minV c e.1 e.2 i (c.items.getD i default).length < valM c e.1 e.2 i ((c.items.getD i default).getD (k i) default)
        · exfalso
          rw [hmj] at hlt
          have hmp := minV_le (c := c) (p := p) (q := q) (i := i) (c.items.getD i default).length j (.inl hj)
          rw [(hk i).2] at hmp
          have d1 := val_dif (c := c) e.1 e.2 i (k i) j
          have d2 := val_dif (c := c) p q i (k i) j
          -- e.1 dQ < e.2 dP, and q dP ≤ p dQ
          have g1 : e.1 * dQ c i (k i) j < e.2 * dP c i (k i) j := by omega
          have g2 : q * dP c i (k i) j ≤ p * dQ c i (k i) j := by omega
          have hQ0 : 0 < dQ c i (k i) j := ar1 g1 g2 h3 hq (by omega)
          have hP0 : 0 < dP c i (k i) j := by
            have m1 : 0 ≤ e.1 * dQ c i (k i) j := Int.mul_nonneg hoe.1.1 (by omega)
            refine Int.not_le.1 fun hn => ?_
            have m2 : e.2 * dP c i (k i) j ≤ 0 := Int.mul_nonpos_of_nonneg_of_nonpos (by omega) hn
            omega
          -- the crossing is among the prices
          have hx : Cross c (lowM (dP c i (k i) j).toNat (dQ c i (k i) j).toNat) i (k i) j := ⟨hi, hkl i hi, hj, ⟨hP0, hQ0⟩, rfl⟩
          have hxe := cross_eq hx
          have hxm := prices_mem.2 (.inr ⟨i, k i, j, hx⟩)
          have hxo := hok _ hxm
          unfold okE at hxo
          generalize lowM (dP c i (k i) j).toNat (dQ c i (k i) j).toNat = x at hxe hxm hxo
          have hxq : x.1 * q ≤ p * x.2 := ar2 g2 hxe (by omega) hQ0
          have h4 := h2 x (List.mem_filter.2 ⟨hxm, by simpa using hxq⟩)
          exact ar3 g1 hxe h4 (by omega) hQ0
        · omega
      have hb0 := bnd_pick (c := c) (p := e.1) (q := e.2) (k := k) hv
      rw [hb, hb0]
      exact ar4 h3 hs
    · -- to the right
      by_cases hp0 : p = 0
      · subst hp0
        refine ⟨(0, 1), by simp [pricesM], ?_⟩
        have hv : ∀ i < c.items.length, minV c 0 1 i (c.items.getD i default).length = valM c 0 1 i ((c.items.getD i default).getD (k i) default) := fun i hi => by
          have hle := minV_le (c := c) (p := 0) (q := 1) (i := i) (c.items.getD i default).length (k i) (.inl (hkl i hi))
          obtain ⟨j, hj, hmj⟩ := minV_at (c := c) (p := 0) (q := 1) (i := i) (c.items.getD i default).length
          have hj : j < (c.items.getD i default).length := by have := hkl i hi; omega
          have hmp := minV_le (c := c) (p := 0) (q := q) (i := i) (c.items.getD i default).length j (.inl hj)
          rw [(hk i).2] at hmp
          have d1 := val_dif (c := c) 0 1 i (k i) j
          have d2 := val_dif (c := c) 0 q i (k i) j
          have g2 : q * dP c i (k i) j ≤ 0 := by omega
          have : dP c i (k i) j ≤ 0 := by
            refine Int.not_lt.1 fun hn => ?_
            have := Int.mul_pos hq hn
            omega
          rw [hmj] at hle ⊢
          omega
        have hb0 := bnd_pick (c := c) (p := 0) (q := 1) (k := k) hv
        rw [hb, hb0]
        exact ar9
      · have hp1 : 0 < p := by omega
        have hex : ∃ e ∈ pricesM c, p * e.2 ≤ e.1 * q := by
          refine Classical.byContradiction fun hno => ?_
          have hno : ∀ e ∈ pricesM c, e.1 * q < p * e.2 := fun e he => Int.not_le.1 fun h => hno ⟨e, he, h⟩
          -- the choice has the fewest lines
          apply hs
          refine Int.le_trans ?_ hf
          have : ∀ n ≤ c.items.length, linesM c (lstS c k) n ≤ linesM c (shortM c c.items.length) n := by
            intro n
            induction n with
            | zero => intro _; exact Int.le_refl _
            | succ n ih =>
              intro hn
              have ih := ih (by omega)
              have h3 : pickM (shortM c c.items.length) n = shortI c n := getD_map_range _ _ _ (by omega)
              simp only [linesM, optM]
              rw [h3, lstS_at k (by omega)]
              unfold shortI
              simp only [Int.toNat_natCast, itemM]
              have hn1 := hc.n1 n (by omega)
              simp only [itemM] at hn1
              have hsl := (shAt_le (c.items.getD n default) (c.items.getD n default).length).2 hn1
              generalize shAt (c.items.getD n default) (c.items.getD n default).length = j at hsl
              have hmp := minV_le (c := c) (p := p) (q := q) (i := n) (c.items.getD n default).length j (.inl hsl)
              rw [(hk n).2] at hmp
              have d2 := val_dif (c := c) p q n j (k n)
              have hdq : dQ c n j (k n) = ((c.items.getD n default).getD (k n) default).1 - ((c.items.getD n default).getD j default).1 := rfl
              have : dQ c n j (k n) ≤ 0 := by
                refine Int.not_lt.1 fun hpos => ?_
                have g2 : p * dQ c n j (k n) ≤ q * dP c n j (k n) := by omega
                have hP0 : 0 < dP c n j (k n) := by
                  refine Int.not_le.1 fun hn => ?_
                  have m1 := Int.mul_pos hp1 hpos
                  have m2 : q * dP c n j (k n) ≤ 0 := Int.mul_nonpos_of_nonneg_of_nonpos (by omega) hn
                  omega
                have hx : Cross c (lowM (dP c n j (k n)).toNat (dQ c n j (k n)).toNat) n j (k n) := ⟨by omega, hsl, hkl n (by omega), ⟨hP0, hpos⟩, rfl⟩
                have hxe := cross_eq hx
                have hxm := prices_mem.2 (.inr ⟨n, j, k n, hx⟩)
                have hxo := hok _ hxm
                unfold okE at hxo
                generalize lowM (dP c n j (k n)).toNat (dQ c n j (k n)).toNat = x at hxe hxm hxo
                have h4 := hno x hxm
                have := ar7 g2 hxe (by omega) hpos
                omega
              omega
          exact this _ (Nat.le_refl _)
        obtain ⟨e, h1, h2⟩ := least_mem (fun x y : Int × Int => x.1 * y.2 ≤ y.1 * x.2) (fun x => 0 < x.2) (fun x y _ _ => by omega) (fun x y z hx hy hz h1 h2 => cross_trans hx hy hz h1 h2)
          ((pricesM c).filter fun e => decide (p * e.2 ≤ e.1 * q)) (fun x hx => by
            have := hok x (List.mem_filter.1 hx).1
            unfold okE at this; omega) (by
            intro h
            obtain ⟨e, h1, h2⟩ := hex
            have : e ∈ (pricesM c).filter fun e => decide (p * e.2 ≤ e.1 * q) := List.mem_filter.2 ⟨h1, by simpa using h2⟩
            rw [h] at this
            simp at this)
        obtain ⟨h1, h3⟩ := List.mem_filter.1 h1
        have h3 : p * e.2 ≤ e.1 * q := by simpa using h3
        have hoe := hok e h1
        unfold okE at hoe
        refine ⟨e, h1, ?_⟩
        have hv : ∀ i < c.items.length, minV c e.1 e.2 i (c.items.getD i default).length = valM c e.1 e.2 i ((c.items.getD i default).getD (k i) default) := fun i hi => by
          have hle := minV_le (c := c) (p := e.1) (q := e.2) (i := i) (c.items.getD i default).length (k i) (.inl (hkl i hi))
          obtain ⟨j, hj, hmj⟩ := minV_at (c := c) (p := e.1) (q := e.2) (i := i) (c.items.getD i default).length
          have hj : j < (c.items.getD i default).length := by have := hkl i hi; omega
          by_cases hlt : minV c e.1 e.2 i (c.items.getD i default).length < valM c e.1 e.2 i ((c.items.getD i default).getD (k i) default)
          · exfalso
            rw [hmj] at hlt
            have hmp := minV_le (c := c) (p := p) (q := q) (i := i) (c.items.getD i default).length j (.inl hj)
            rw [(hk i).2] at hmp
            have d1 := val_dif (c := c) e.1 e.2 i j (k i)
            have d2 := val_dif (c := c) p q i j (k i)
            -- e.2 dP < e.1 dQ, and p dQ ≤ q dP
            have g1 : e.2 * dP c i j (k i) < e.1 * dQ c i j (k i) := by omega
            have g2 : p * dQ c i j (k i) ≤ q * dP c i j (k i) := by omega
            have hQ0 : 0 < dQ c i j (k i) := ar6 g1 g2 h3 hq (by omega)
            have hP0 : 0 < dP c i j (k i) := by
              have m1 := Int.mul_pos hp1 hQ0
              refine Int.not_le.1 fun hn => ?_
              have m2 : q * dP c i j (k i) ≤ 0 := Int.mul_nonpos_of_nonneg_of_nonpos (by omega) hn
              omega
            have hx : Cross c (lowM (dP c i j (k i)).toNat (dQ c i j (k i)).toNat) i j (k i) := ⟨hi, hj, hkl i hi, ⟨hP0, hQ0⟩, rfl⟩
            have hxe := cross_eq hx
            have hxm := prices_mem.2 (.inr ⟨i, j, k i, hx⟩)
            have hxo := hok _ hxm
            unfold okE at hxo
            generalize lowM (dP c i j (k i)).toNat (dQ c i j (k i)).toNat = x at hxe hxm hxo
            have hxq : p * x.2 ≤ x.1 * q := ar7 g2 hxe (by omega) hQ0
            have h4 := h2 x (List.mem_filter.2 ⟨hxm, by simpa using hxq⟩)
            exact ar8 g1 hxe h4 (by omega) hQ0
          · omega
        have hb0 := bnd_pick (c := c) (p := e.1) (q := e.2) (k := k) hv
        rw [hb, hb0]
        exact ar5 h3 (by omega)
  obtain ⟨e, h1, h2⟩ := key
  have hoe := hok e h1
  unfold okE at hoe
  have h3 := geC_le (hge e h1)
  simp only [boundM] at h3
  exact cross_trans hq (by omega) hQ h2 h3
end

end Go.Proofs.YthcfjdkflmkhbaaDoor

namespace Go.Proofs.YthcfjdkflmkhbaaDoor
open Go.Av

section
variable {c : CaseM}
theorem num_inj (hc : OkC c) {q q' : Nat → Nat} : ∀ j ≤ c.items.length, InS c q j → InS c q' j → numS c q j = numS c q' j → ∀ i, c.items.length - j ≤ i → i < c.items.length → q i = q' i
  | 0, _, _, _, _, i, h1, h2 => by omega
  | j + 1, hj, h, h', he, i, h1, h2 => by
    have n1 := (lin_nn hc j (by omega) h.tail).2.2
    have n2 := (lin_nn hc j (by omega) h'.tail).2.2
    simp only [numS] at he
    have hd : q (c.items.length - 1 - j) = q' (c.items.length - 1 - j) := by
      have e1 : (q (c.items.length - 1 - j) * cntS c j + numS c q j) / cntS c j = q (c.items.length - 1 - j) := by
        rw [Nat.mul_comm, Nat.mul_add_div (by omega), Nat.div_eq_of_lt n1, Nat.add_zero]
      have e2 : (q' (c.items.length - 1 - j) * cntS c j + numS c q' j) / cntS c j = q' (c.items.length - 1 - j) := by
        rw [Nat.mul_comm, Nat.mul_add_div (by omega), Nat.div_eq_of_lt n2, Nat.add_zero]
      rw [← e1, ← e2, he]
    by_cases hi : i = c.items.length - 1 - j
    · subst hi; exact hd
    · rw [hd] at he
      exact num_inj hc j (by omega) h.tail h'.tail (by omega) i (by omega) h2

/-- The weights multiplied. -/
def scaleM (c : CaseM) (k : Int) : CaseM := ⟨c.items, c.weights.map (k * ·), c.room⟩
theorem scale_weight (k : Int) (i : Nat) : (scaleM c k).weights.getD i default = k * c.weights.getD i default := by
  simp only [scaleM, List.getD_eq_getElem?_getD, List.getElem?_map]
  cases c.weights[i]? with
  | none => simp [show (default : Int) = 0 from rfl]
  | some w => simp
theorem scale_sums (k : Int) (q : Nat → Nat) : ∀ j, linS (scaleM c k) q j = linS c q j ∧ trnS (scaleM c k) q j = k * trnS c q j ∧ numS (scaleM c k) q j = numS c q j ∧ cntS (scaleM c k) j = cntS c j
  | 0 => by simp [linS, trnS, numS, cntS]
  | j + 1 => by
    obtain ⟨h1, h2, h3, h4⟩ := scale_sums k q j
    simp only [linS, trnS, numS, cntS, h1, h2, h3, h4, scale_weight]
    refine ⟨rfl, ?_, rfl, rfl⟩
    rw [Int.mul_add, Int.mul_assoc]
    rfl
theorem scale_ok (hc : OkC c) {k : Int} (hk : 0 < k) (hw : ∀ i < c.items.length, k * weightM c i ≤ 1024) : OkC (scaleM c k) := by
  refine ⟨hc.n64, hc.n8, hc.n1, by simp only [scaleM, List.length_map]; exact hc.wl, hc.room, fun i hi => ?_, hc.o⟩
  rw [show weightM (scaleM c k) i = k * weightM c i from scale_weight k i]
  exact ⟨Int.mul_nonneg (by omega) (hc.w i hi).1, hw i hi⟩
theorem leC_tri {q q' : Nat → Nat} {j : Nat} (h : leC c q q' j) (h' : leC c q' q j) : trnS c q j = trnS c q' j ∧ linS c q j = linS c q' j ∧ numS c q j = numS c q' j := by
  unfold leC at h h'
  omega
theorem lstS_eq (hc : OkC c) {q q' : Nat → Nat} (h : InS c q c.items.length) (h' : InS c q' c.items.length) (he : numS c q c.items.length = numS c q' c.items.length) : lstS c q = lstS c q' := by
  unfold lstS
  apply List.map_congr_left
  intro i hi
  rw [num_inj hc c.items.length (Nat.le_refl _) h h' he i (by omega) (by simpa using hi)]
/-- The best choice stays the same. -/
theorem best_scaled (hc : OkC c) {k : Int} (hk : 0 < k) (hw : ∀ i < c.items.length, k * weightM c i ≤ 1024) : bestM (scaleM c k) = ((bestM c).1, k * (bestM c).2.1, (bestM c).2.2) := by
  have hc' := scale_ok hc hk hw
  have hl : (scaleM c k).items.length = c.items.length := rfl
  have hr : (scaleM c k).room = c.room := rfl
  rcases best_spec hc with ⟨h1, h2⟩ | ⟨q, h1, h2, h3, h4⟩
  · rcases best_spec hc' with ⟨g1, g2⟩ | ⟨q', g1, g2, g3, g4⟩
    · rw [h1, g1]; simp
    · rw [hl, hr, (scale_sums k q' _).1] at g2
      exact absurd g2 (h2 q' g1)
  · rcases best_spec hc' with ⟨g1, g2⟩ | ⟨q', g1, g2, g3, g4⟩
    · refine absurd ?_ (g2 q h1)
      rw [hl, hr, (scale_sums k q _).1]
      exact h2
    · rw [hl, hr, (scale_sums k q' _).1] at g2
      have a1 := h4 q' g1 g2
      have a2 := g4 q h1 (by rw [hl, hr, (scale_sums k q _).1]; exact h2)
      obtain ⟨s1, s2, s3, _⟩ := scale_sums (c := c) k q c.items.length
      obtain ⟨t1, t2, t3, _⟩ := scale_sums (c := c) k q' c.items.length
      have a3 : leC c q' q c.items.length := by
        unfold leC at a2 ⊢
        rw [hl, s1, s2, s3, t1, t2, t3] at a2
        rcases a2 with a2 | ⟨a2, a3⟩
        · exact .inl (Int.lt_of_mul_lt_mul_left a2 (by omega))
        · exact .inr ⟨Int.eq_of_mul_eq_mul_left (by omega) a2, a3⟩
      obtain ⟨b1, b2, b3⟩ := leC_tri a1 a3
      rw [g3, h3, hl, t2, ← b1]
      simp only [Prod.mk.injEq, and_true]
      exact (lstS_eq hc h1 g1 b3).symm

/-- Sums over the items. -/
def sumI (f : Nat → Int) : Nat → Int
  | 0 => 0
  | n + 1 => sumI f n + f n
theorem sumI_congr {f g : Nat → Int} : ∀ n, (∀ i < n, f i = g i) → sumI f n = sumI g n
  | 0, _ => rfl
  | n + 1, h => by simp only [sumI]; rw [sumI_congr n (fun i hi => h i (by omega)), h n (by omega)]
theorem sumI_head (f : Nat → Int) : ∀ n, sumI f (n + 1) = f 0 + sumI (fun i => f (i + 1)) n
  | 0 => by simp [sumI]
  | n + 1 => by
    rw [sumI, sumI_head f n]
    simp only [sumI]
    omega
theorem sumI_one (f : Nat → Int) (n : Nat) : sumI (fun i => f ((i + 1) % n)) n = sumI f n := by
  cases n with
  | zero => rfl
  | succ n =>
    rw [sumI_head f n]
    simp only [sumI]
    rw [Nat.mod_self, sumI_congr (g := fun i => f (i + 1)) n (fun i hi => by rw [Nat.mod_eq_of_lt (by omega)])]
    omega
theorem sumI_rot (f : Nat → Int) (n : Nat) : ∀ k, sumI (fun i => f ((i + k) % n)) n = sumI f n
  | 0 => sumI_congr n fun i hi => by rw [Nat.add_zero, Nat.mod_eq_of_lt hi]
  | k + 1 => by
    rw [← sumI_rot f n k, ← sumI_one (fun i => f ((i + k) % n)) n]
    refine sumI_congr n fun i _ => ?_
    rw [Nat.mod_add_mod, show i + 1 + k = i + (k + 1) by omega]

theorem lines_sumI {pick : List Int} : ∀ n, linesM c pick n = sumI (fun i => (optM c pick i).1) n ∧ turnsM c pick n = sumI (fun i => (optM c pick i).2 * weightM c i) n
  | 0 => ⟨rfl, rfl⟩
  | n + 1 => by
    obtain ⟨h1, h2⟩ := lines_sumI (pick := pick) n
    simp only [linesM, turnsM, sumI, h1, h2, and_self]
theorem bnd_sumI {p q : Int} : ∀ n, bndM c p q n = (0 - p) * c.room + sumI (fun i => minV c p q i (c.items.getD i default).length) n
  | 0 => by simp [bndM, sumI]
  | n + 1 => by
    simp only [bndM, sumI, bnd_sumI n]
    omega

/-- The items in another order. -/
def rotM (c : CaseM) (k : Nat) : CaseM := ⟨(List.range c.items.length).map fun i => c.items.getD ((i + k) % c.items.length) default, (List.range c.items.length).map fun i => c.weights.getD ((i + k) % c.items.length) default, c.room⟩
theorem rot_len (k : Nat) : (rotM c k).items.length = c.items.length := by simp [rotM]
theorem rot_item {k i : Nat} (hi : i < c.items.length) : (rotM c k).items.getD i default = c.items.getD ((i + k) % c.items.length) default := getD_map_range _ _ _ hi
theorem rot_weight {k i : Nat} (hi : i < c.items.length) : (rotM c k).weights.getD i default = c.weights.getD ((i + k) % c.items.length) default := getD_map_range _ _ _ hi
theorem rot_ok (hc : OkC c) (k : Nat) : OkC (rotM c k) := by
  have hl := rot_len (c := c) k
  have hm : ∀ i < c.items.length, (i + k) % c.items.length < c.items.length := fun i hi => Nat.mod_lt _ (by omega)
  refine ⟨by rw [hl]; exact hc.n64, fun i hi => ?_, fun i hi => ?_, by simp [rotM], hc.room, fun i hi => ?_, fun i hi => ?_⟩
  · rw [hl] at hi; simp only [itemM]; rw [rot_item hi]; exact hc.n8 _ (hm i hi)
  · rw [hl] at hi; simp only [itemM]; rw [rot_item hi]; exact hc.n1 _ (hm i hi)
  · rw [hl] at hi; simp only [weightM]; rw [rot_weight hi]; exact hc.w _ (hm i hi)
  · rw [hl] at hi; simp only [itemM]; rw [rot_item hi]; exact hc.o _ (hm i hi)
/-- The item that comes to a place. -/
theorem rot_back (n k j : Nat) (hj : j < n) : ((j + (n - k % n)) % n + k) % n = j := by
  have h1 : k % n < n := Nat.mod_lt _ (by omega)
  rw [Nat.mod_add_mod]
  have h2 : k = n * (k / n) + k % n := (Nat.div_add_mod k n).symm
  have h3 : j + (n - k % n) + k = j + n * (k / n + 1) := by
    rw [Nat.mul_add]; omega
  rw [h3, Nat.add_mul_mod_self_left, Nat.mod_eq_of_lt hj]
/-- A choice of one order is one of the other order. -/
theorem rot_pick {k : Nat} {pick : List Int} (hp : OkP c pick) (hl : pick.length = c.items.length) : ∃ pick', OkP (rotM c k) pick' ∧ pick'.length = c.items.length ∧ linesM (rotM c k) pick' c.items.length = linesM c pick c.items.length ∧ turnsM (rotM c k) pick' c.items.length = turnsM c pick c.items.length := by
  let pick' := (List.range c.items.length).map fun i => pickM pick ((i + k) % c.items.length)
  have hpl : pick'.length = c.items.length := by simp [pick']
  have hat : ∀ i < c.items.length, pickM pick' i = pickM pick ((i + k) % c.items.length) := fun i hi => getD_map_range _ _ _ hi
  have hopt : ∀ i < c.items.length, optM (rotM c k) pick' i = optM c pick ((i + k) % c.items.length) := fun i hi => by
    simp only [optM, itemM]
    rw [rot_item hi, hat i hi]
  refine ⟨pick', ⟨by rw [hpl, rot_len]; exact Nat.le_refl _, fun i hi => ?_⟩, hpl, ?_, ?_⟩
  · rw [hpl] at hi
    rw [hat i hi]
    simp only [itemM]
    rw [rot_item hi]
    exact hp.at_ _ (by rw [hl]; exact Nat.mod_lt _ (by omega))
  · rw [(lines_sumI _).1, (lines_sumI _).1, ← sumI_rot (fun i => (optM c pick i).1) c.items.length k]
    exact sumI_congr _ fun i hi => by simp only [hopt i hi]
  · rw [(lines_sumI _).2, (lines_sumI _).2, ← sumI_rot (fun i => (optM c pick i).2 * weightM c i) c.items.length k]
    exact sumI_congr _ fun i hi => by simp only [hopt i hi, weightM, rot_weight hi]
theorem rot_unpick {k : Nat} {pick : List Int} (hp : OkP (rotM c k) pick) (hl : pick.length = c.items.length) : ∃ pick', OkP c pick' ∧ pick'.length = c.items.length ∧ linesM c pick' c.items.length = linesM (rotM c k) pick c.items.length ∧ turnsM c pick' c.items.length = turnsM (rotM c k) pick c.items.length := by
  let g : Nat → Nat := fun j => (j + (c.items.length - k % c.items.length)) % c.items.length
  let pick' := (List.range c.items.length).map fun j => pickM pick (g j)
  have hpl : pick'.length = c.items.length := by simp [pick']
  have hat : ∀ i < c.items.length, pickM pick' i = pickM pick (g i) := fun i hi => getD_map_range _ _ _ hi
  have hgl : ∀ i < c.items.length, g i < c.items.length := fun i hi => Nat.mod_lt _ (by omega)
  have hgb : ∀ i < c.items.length, (g i + k) % c.items.length = i := fun i hi => rot_back _ _ _ hi
  -- the same option
  have hgi : ∀ i < c.items.length, g ((i + k) % c.items.length) = i := fun i hi => by
    have h1 := hgb ((i + k) % c.items.length) (Nat.mod_lt _ (by omega))
    have h2 := hgl ((i + k) % c.items.length) (Nat.mod_lt _ (by omega))
    generalize g ((i + k) % c.items.length) = x at h1 h2
    have e : ∀ y < c.items.length, (y + k) % c.items.length = if y + k % c.items.length < c.items.length then y + k % c.items.length else y + k % c.items.length - c.items.length := fun y hy => by
      have hk : k % c.items.length < c.items.length := Nat.mod_lt _ (by omega)
      rw [← Nat.add_mod_mod]
      split
      · rename_i h; exact Nat.mod_eq_of_lt h
      · rename_i h
        rw [Nat.mod_eq_sub_mod (by omega)]
        exact Nat.mod_eq_of_lt (by omega)
    rw [e x h2, e i hi] at h1
    split at h1 <;> split at h1 <;> omega
  have hopt : ∀ i < c.items.length, optM c pick' ((i + k) % c.items.length) = optM (rotM c k) pick i := fun i hi => by
    simp only [optM, itemM]
    rw [rot_item hi, hat _ (Nat.mod_lt _ (by omega)), hgi i hi]
  refine ⟨pick', ⟨by omega, fun i hi => ?_⟩, hpl, ?_, ?_⟩
  · rw [hpl] at hi
    rw [hat i hi]
    have := hp.at_ (g i) (by rw [hl]; exact hgl i hi)
    simp only [itemM] at this ⊢
    rw [rot_item (hgl i hi), hgb i hi] at this
    exact this
  · rw [(lines_sumI _).1, (lines_sumI _).1, ← sumI_rot (fun i => (optM c pick' i).1) c.items.length k]
    exact sumI_congr _ fun i hi => by simp only [hopt i hi]
  · rw [(lines_sumI _).2, (lines_sumI _).2, ← sumI_rot (fun i => (optM c pick' i).2 * weightM c i) c.items.length k]
    exact sumI_congr _ fun i hi => by simp only [hopt i hi, weightM, rot_weight hi]

/-- The items in another order: as many turns. -/
theorem best_rot (hc : OkC c) (k : Nat) : (bestM (rotM c k)).2 = (bestM c).2 := by
  have hc' := rot_ok hc k
  have hl := rot_len (c := c) k
  have hr : (rotM c k).room = c.room := rfl
  rcases best_lists hc with ⟨h1, h2⟩ | ⟨p, h1, h2, h3, h4, h5⟩
  · rcases best_lists hc' with ⟨g1, g2⟩ | ⟨p', g1, g2, g3, g4, g5⟩
    · rw [h1, g1]
    · rw [hl] at g2 g3
      obtain ⟨p, k1, k2, k3, k4⟩ := rot_unpick g1 g2
      exact absurd (by omega) (h2 p k1 k2)
  · obtain ⟨p', k1, k2, k3, k4⟩ := rot_pick (k := k) h1 h2
    rcases best_lists hc' with ⟨g1, g2⟩ | ⟨r, g1, g2, g3, g4, g5⟩
    · exact absurd (by rw [hl]; omega) (g2 p' k1 (by omega))
    · rw [hl] at g2 g3 g5 g4
      obtain ⟨r', j1, j2, j3, j4⟩ := rot_unpick g1 g2
      have a1 := g5 p' k1 (by omega) (by omega)
      have a2 := h5 r' j1 j2 (by omega)
      rw [h4, g4]
      simp only [Prod.mk.injEq, and_true]
      omega

theorem rot_val {k i : Nat} {p q : Int} (hi : i < c.items.length) (o : Int × Int) : valM (rotM c k) p q i o = valM c p q ((i + k) % c.items.length) o := by
  unfold valM
  rw [rot_weight hi]
theorem rot_minV {k i : Nat} {p q : Int} (hi : i < c.items.length) : ∀ m, minV (rotM c k) p q i m = minV c p q ((i + k) % c.items.length) m
  | 0 => by simp only [minV, rot_val hi, rot_item hi]
  | m + 1 => by simp only [minV, rot_val hi, rot_item hi, rot_minV hi m]
theorem rot_bnd (k : Nat) (p q : Int) : boundM (rotM c k) p q = boundM c p q := by
  unfold boundM
  rw [rot_len, bnd_sumI, bnd_sumI, ← sumI_rot (fun i => minV c p q i (c.items.getD i default).length) c.items.length k]
  rw [sumI_congr (g := fun i => minV c p q ((i + k) % c.items.length) (c.items.getD ((i + k) % c.items.length) default).length) c.items.length (fun i hi => by simp only [rot_minV hi, rot_item hi])]
  rfl
theorem rot_cross {k : Nat} {e : Int × Int} {i a b : Nat} (hi : i < c.items.length) : Cross (rotM c k) e i a b ↔ Cross c e ((i + k) % c.items.length) a b := by
  have hd : dP (rotM c k) i a b = dP c ((i + k) % c.items.length) a b := by unfold dP; rw [rot_item hi, rot_weight hi]
  have hq : dQ (rotM c k) i a b = dQ c ((i + k) % c.items.length) a b := by unfold dQ; rw [rot_item hi]
  constructor
  · rintro ⟨h1, h2, h3, h4, h5⟩
    rw [rot_item hi] at h2 h3
    rw [hd, hq] at h4 h5
    exact ⟨Nat.mod_lt _ (by omega), h2, h3, h4, h5⟩
  · rintro ⟨h1, h2, h3, h4, h5⟩
    refine ⟨by rw [rot_len]; exact hi, ?_, ?_, ?_, ?_⟩
    · rw [rot_item hi]; exact h2
    · rw [rot_item hi]; exact h3
    · rw [hd, hq]; exact h4
    · rw [hd, hq]; exact h5
theorem rot_prices {k : Nat} {e : Int × Int} : e ∈ pricesM (rotM c k) ↔ e ∈ pricesM c := by
  rw [prices_mem, prices_mem]
  constructor
  · rintro (h | ⟨i, a, b, h⟩)
    · exact .inl h
    · have hi := h.hi
      rw [rot_len] at hi
      exact .inr ⟨_, a, b, (rot_cross hi).1 h⟩
  · rintro (h | ⟨i, a, b, h⟩)
    · exact .inl h
    · have hi := h.hi
      refine .inr ⟨(i + (c.items.length - k % c.items.length)) % c.items.length, a, b, (rot_cross (Nat.mod_lt _ (by omega))).2 ?_⟩
      rw [rot_back _ _ _ hi]
      exact h
theorem coprime_eq {P Q P' Q' : Nat} (h : Nat.Coprime P Q) (h' : Nat.Coprime P' Q') (e : P * Q' = P' * Q) (hq : 0 < Q) : P = P' ∧ Q = Q' := by
  have h1 : Q ∣ P * Q' := by rw [e]; exact Nat.dvd_mul_left _ _
  have h2 : Q' ∣ P' * Q := by rw [← e]; exact Nat.dvd_mul_left _ _
  have h3 : Q ∣ Q' := Nat.Coprime.dvd_of_dvd_mul_left h.symm h1
  have h4 : Q' ∣ Q := Nat.Coprime.dvd_of_dvd_mul_left h'.symm h2
  have h5 := Nat.dvd_antisymm h3 h4
  subst h5
  exact ⟨Nat.eq_of_mul_eq_mul_right hq e, rfl⟩
/-- Two best certificates of prices in lowest terms are one. -/
theorem geC_anti {e e' : Int × Int} (he : e ∈ pricesM c) (he' : e' ∈ pricesM c) (h : geC (boundM c e.1 e.2) (boundM c e'.1 e'.2)) (h' : geC (boundM c e'.1 e'.2) (boundM c e.1 e.2)) : e = e' := by
  obtain ⟨P, Q, rfl, h1, h2⟩ := price_coprime he
  obtain ⟨P', Q', rfl, h3, h4⟩ := price_coprime he'
  unfold geC at h h'
  simp only [boundM] at h h'
  have hx : (P : Int) * (Q' : Int) = (P' : Int) * (Q : Int) := by omega
  have hn : P * Q' = P' * Q := by exact_mod_cast hx
  obtain ⟨rfl, rfl⟩ := coprime_eq h1 h3 hn h2
  rfl
theorem dual_rot (hc : OkC c) (k : Nat) : dA (rotM c k) (rotM c k).items.length = dA c c.items.length := by
  obtain ⟨⟨e, he, hd⟩, hg⟩ := dual_spec hc
  obtain ⟨⟨e', he', hd'⟩, hg'⟩ := dual_spec (rot_ok hc k)
  have g1 := hg e' (rot_prices.1 he')
  have g2 := hg' e (rot_prices.2 he)
  rw [hd] at g1
  rw [hd', rot_bnd, rot_bnd] at g2
  rw [hd, hd', rot_bnd]
  rw [geC_anti he (rot_prices.1 he') g1 g2]
theorem short_rot (k : Nat) : linesM (rotM c k) (shortM (rotM c k) (rotM c k).items.length) (rotM c k).items.length = linesM c (shortM c c.items.length) c.items.length := by
  rw [rot_len, (lines_sumI _).1, (lines_sumI _).1, ← sumI_rot (fun i => (optM c (shortM c c.items.length) i).1) c.items.length k]
  refine sumI_congr _ fun i hi => ?_
  have h1 : pickM (shortM (rotM c k) c.items.length) i = shortI (rotM c k) i := getD_map_range _ _ _ hi
  have h2 : pickM (shortM c c.items.length) ((i + k) % c.items.length) = shortI c ((i + k) % c.items.length) := getD_map_range _ _ _ (Nat.mod_lt _ (by omega))
  simp only [optM, h1, h2, itemM, rot_item hi]
  unfold shortI
  rw [rot_item hi]
theorem dualM_rot (hc : OkC c) (k : Nat) : dualM (rotM c k) = dualM c := by
  have h1 := validM_ok.2 hc
  have h2 := validM_ok.2 (rot_ok hc k)
  have h3 := short_rot (c := c) k
  have hr : (rotM c k).room = c.room := rfl
  unfold dualM
  simp only [h1, h2, ne_eq, not_true_eq_false, if_false, shortM_len, h3, dual_rot hc k, hr]

/-- That a choice fits: what Best and Dual say. -/
theorem fits_best (hc : OkC c) : (bestM c).2.2 = (dualM c).2 := by
  have h1 := validM_ok.2 hc
  have hs := shortM_ok hc
  have hsl := shortM_len c c.items.length
  unfold dualM
  rw [if_neg (by omega), hsl]
  rcases best_lists hc with ⟨h2, h3⟩ | ⟨p, h2, h3, h4, h5, h6⟩
  · rw [if_pos, h2]
    have := h3 _ hs hsl
    omega
  · rw [if_neg, h5]
    have := short_least hc h2 c.items.length (by omega)
    omega
end

end Go.Proofs.YthcfjdkflmkhbaaDoor

namespace Go.Proofs.YthcfjdkflmkhbaaDoor
open Go.Av

section
variable (c : CaseM)
/-- The number of choices of the first items, at most some 100000. -/
def cntU : Nat → Int
  | 0 => 1
  | i + 1 => if cntU i < 100000 then cntU i * ((c.items.getD i default).length : Int) else cntU i
def countM : Int := if 100000 < cntU c c.items.length then 100000 else cntU c c.items.length
theorem cntU_zero : cntU c 0 = 1 := rfl
variable {c}
theorem cntU_range (hs : SzC c) : ∀ i ≤ c.items.length, 0 ≤ cntU c i ∧ cntU c i ≤ 10000000
  | 0, _ => by simp [cntU]
  | i + 1, h => by
    have ih := cntU_range hs i (by omega)
    have hl := hs.nl i (by omega)
    simp only [itemM] at hl
    simp only [cntU]
    split
    · have h1 : 0 ≤ cntU c i * ((c.items.getD i default).length : Int) := Int.mul_nonneg ih.1 (by omega)
      have h2 : cntU c i * ((c.items.getD i default).length : Int) ≤ 100000 * 100 := Int.mul_le_mul (by omega) (by omega) (by omega) (by omega)
      omega
    · exact ih
theorem cntU_stop {i : Nat} (h : ¬ cntU c i < 100000) : ∀ m, i ≤ m → cntU c m = cntU c i
  | 0, hm => by
    have : i = 0 := by omega
    rw [this]
  | m + 1, hm => by
    by_cases hi : i = m + 1
    · rw [hi]
    · have ih := cntU_stop h m (by omega)
      simp only [cntU]
      rw [ih, if_neg h]
theorem countM_at {i : Nat} (hi : i ≤ c.items.length) (h : ¬ (i < c.items.length ∧ cntU c i < 100000)) : countM c = if 100000 < cntU c i then 100000 else cntU c i := by
  unfold countM
  by_cases he : i = c.items.length
  · rw [he]
  · rw [cntU_stop (i := i) (by omega) c.items.length hi]
theorem countM_range (hs : SzC c) : 0 ≤ countM c ∧ countM c ≤ 100000 := by
  have := cntU_range hs c.items.length (Nat.le_refl _)
  unfold countM
  split <;> omega
theorem cntU_mono (hc : OkC c) : ∀ i ≤ c.items.length, 1 ≤ cntU c i ∧ ∀ m ≤ i, cntU c m ≤ cntU c i
  | 0, _ => by
    refine ⟨by simp [cntU], fun m hm => ?_⟩
    have : m = 0 := by omega
    rw [this]; exact Int.le_refl _
  | i + 1, h => by
    obtain ⟨i1, i2⟩ := cntU_mono hc i (by omega)
    have hl := hc.n1 i (by omega)
    simp only [itemM] at hl
    have hst : cntU c i ≤ cntU c (i + 1) := by
      simp only [cntU]
      split
      · have := Int.mul_le_mul_of_nonneg_left (show (1 : Int) ≤ ((c.items.getD i default).length : Int) by omega) (show 0 ≤ cntU c i by omega)
        omega
      · exact Int.le_refl _
    refine ⟨by omega, fun m hm => ?_⟩
    by_cases he : m = i + 1
    · rw [he]; exact Int.le_refl _
    · have := i2 m (by omega); omega
/-- A count that is not cut is that of all choices. -/
theorem count_all (hc : OkC c) (h : countM c ≤ 5000) : countM c = (cntS c c.items.length : Int) := by
  have h5 : cntU c c.items.length ≤ 5000 := by
    unfold countM at h
    split at h <;> omega
  have hm := (cntU_mono hc c.items.length (Nat.le_refl _)).2
  have key : ∀ i ≤ c.items.length, cntU c i * (cntS c (c.items.length - i) : Int) = (cntS c c.items.length : Int) := by
    intro i
    induction i with
    | zero => intro _; simp [cntU]
    | succ i ih =>
      intro hi
      have ih := ih (by omega)
      have := hm i (by omega)
      simp only [cntU]
      rw [if_pos (by omega), ← ih, show c.items.length - i = (c.items.length - (i + 1)) + 1 by omega]
      simp only [cntS]
      rw [show c.items.length - 1 - (c.items.length - (i + 1)) = i by omega]
      push_cast
      rw [Int.mul_assoc]
  have := key c.items.length (Nat.le_refl _)
  simp only [Nat.sub_self, cntS] at this
  unfold countM
  rw [if_neg (by omega)]
  simpa using this

/-- The digits of a number, and the number of the digits. -/
theorem quo_nat (hc : OkC c) (n : Nat) : ∀ j ≤ c.items.length, quoM c (n : Int) j = ((n / cntS c j : Nat) : Int)
  | 0, _ => by simp [quoM, cntS]
  | j + 1, h => by
    have hl := hc.n1 (c.items.length - 1 - j) (by omega)
    simp only [itemM] at hl
    have hm : manyM c (c.items.length - 1 - j) = ((c.items.getD (c.items.length - 1 - j) default).length : Int) := by
      unfold manyM
      rw [if_neg (by omega)]
    simp only [quoM]
    rw [quo_nat hc n j (by omega), hm]
    simp only [cntS]
    rw [Int.tdiv_eq_ediv_of_nonneg (Int.natCast_nonneg _), ← Int.natCast_ediv, Nat.div_div_eq_div_mul, Nat.mul_comm (cntS c j)]
theorem row_get (hc : OkC c) (n : Nat) : ∀ j ≤ c.items.length, ∀ k < j, ((rowM c (n : Int) j).getD (c.items.length - 1 - k) default) = (((n / cntS c k) % (c.items.getD (c.items.length - 1 - k) default).length : Nat) : Int)
  | 0, _, k, hk => by omega
  | j + 1, h, k, hk => by
    simp only [rowM]
    rw [set_getD, rowM_length]
    by_cases he : k = j
    · subst he
      rw [if_pos ⟨rfl, by omega⟩, quo_nat hc n k (by omega)]
      have hl := hc.n1 (c.items.length - 1 - k) (by omega)
      simp only [itemM] at hl
      have hm : manyM c (c.items.length - 1 - k) = ((c.items.getD (c.items.length - 1 - k) default).length : Int) := by
        unfold manyM
        rw [if_neg (by omega)]
      rw [hm, Int.tmod_eq_emod_of_nonneg (Int.natCast_nonneg _), ← Int.natCast_emod]
    · rw [if_neg (by omega)]
      exact row_get hc n j (by omega) k (by omega)
/-- The choice with a number, as a function. -/
def qN (c : CaseM) (n : Nat) (i : Nat) : Nat := (pickM (pickNM c (n : Int)) i).toNat
theorem pick_at' (hc : OkC c) (n : Nat) {i : Nat} (hi : i < c.items.length) : pickM (pickNM c (n : Int)) i = (((n / cntS c (c.items.length - 1 - i)) % (c.items.getD i default).length : Nat) : Int) := by
  have := row_get hc n c.items.length (Nat.le_refl _) (c.items.length - 1 - i) (by omega)
  rw [show c.items.length - 1 - (c.items.length - 1 - i) = i by omega] at this
  exact this
theorem pickNM_ok (hc : OkC c) (n : Nat) : OkP c (pickNM c (n : Int)) := ⟨by rw [pickNM_length]; exact Nat.le_refl _, fun i hi => by
  rw [pickNM_length] at hi
  rw [pick_at' hc n hi]
  have hl := hc.n1 i hi
  simp only [itemM] at hl ⊢
  have := Nat.mod_lt (n / cntS c (c.items.length - 1 - i)) hl
  omega⟩
theorem qN_in (hc : OkC c) (n : Nat) : InS c (qN c n) c.items.length := lst_in (pickNM_ok hc n) (pickNM_length c _)
theorem qN_num (hc : OkC c) (n : Nat) : ∀ j ≤ c.items.length, numS c (qN c n) j = n % cntS c j
  | 0, _ => by simp [numS, cntS, Nat.mod_one]
  | j + 1, h => by
    simp only [numS, cntS]
    rw [qN_num hc n j (by omega)]
    have hi : c.items.length - 1 - j < c.items.length := by omega
    unfold qN
    rw [pick_at' hc n hi, show c.items.length - 1 - (c.items.length - 1 - j) = j by omega, Int.toNat_natCast, Nat.mul_comm ((c.items.getD (c.items.length - 1 - j) default).length), Nat.mod_mul]
    rw [Nat.mul_comm (cntS c j), Nat.add_comm]
theorem qN_lst (hc : OkC c) (n : Nat) : lstS c (qN c n) = pickNM c (n : Int) := by
  apply List.ext_getElem (by rw [lstS_len, pickNM_length])
  intro i h1 h2
  have h3 := lstS_at (c := c) (qN c n) (i := i) (by rw [lstS_len] at h1; exact h1)
  have h4 := (pickNM_ok hc n).at_ i h2
  simp only [pickM, List.getD_eq_getElem?_getD, List.getElem?_eq_getElem h1, List.getElem?_eq_getElem h2, Option.getD_some] at h3 h4
  rw [h3]
  unfold qN
  simp only [pickM, List.getD_eq_getElem?_getD, List.getElem?_eq_getElem h2, Option.getD_some]
  omega
theorem qN_sums (c : CaseM) (n : Nat) : linesM c (pickNM c (n : Int)) c.items.length = linS c (qN c n) c.items.length ∧ turnsM c (pickNM c (n : Int)) c.items.length = trnS c (qN c n) c.items.length := lst_all

/-- What the search has found behind n choices: whether one fits, the best one, its lines and turns. -/
structure FoundM where
  found : Bool
  out : List Int
  lines : Int
  turns : Int
def srM (c : CaseM) : Nat → FoundM
  | 0 => ⟨false, [], 0, 0⟩
  | n + 1 => if linesM c (pickNM c (n : Int)) c.items.length ≤ c.room ∧ ((srM c n).found = false ∨ turnsM c (pickNM c (n : Int)) c.items.length < (srM c n).turns ∨ (turnsM c (pickNM c (n : Int)) c.items.length = (srM c n).turns ∧ linesM c (pickNM c (n : Int)) c.items.length < (srM c n).lines)) then
      ⟨true, pickNM c (n : Int), linesM c (pickNM c (n : Int)) c.items.length, turnsM c (pickNM c (n : Int)) c.items.length⟩ else srM c n
theorem srM_zero : srM c 0 = ⟨false, [], 0, 0⟩ := rfl
theorem srM_spec (c : CaseM) : ∀ n,
    ((srM c n).found = false → ∀ k < n, ¬ linS c (qN c k) c.items.length ≤ c.room) ∧
    ((srM c n).found = true → ∃ k, k < n ∧ linS c (qN c k) c.items.length ≤ c.room ∧ (srM c n).out = pickNM c (k : Int) ∧ (srM c n).lines = linS c (qN c k) c.items.length ∧ (srM c n).turns = trnS c (qN c k) c.items.length ∧
      ∀ m < n, linS c (qN c m) c.items.length ≤ c.room → trnS c (qN c k) c.items.length < trnS c (qN c m) c.items.length ∨ (trnS c (qN c k) c.items.length = trnS c (qN c m) c.items.length ∧ (linS c (qN c k) c.items.length < linS c (qN c m) c.items.length ∨ (linS c (qN c k) c.items.length = linS c (qN c m) c.items.length ∧ k ≤ m))))
  | 0 => by simp [srM]
  | n + 1 => by
    obtain ⟨i1, i2⟩ := srM_spec c n
    obtain ⟨s1, s2⟩ := qN_sums c n
    simp only [srM]
    split
    · rename_i h
      refine ⟨by simp, fun _ => ⟨n, by omega, by omega, rfl, s1, s2, fun m hm hl => ?_⟩⟩
      by_cases he : m = n
      · subst he; right; exact ⟨rfl, .inr ⟨rfl, Nat.le_refl _⟩⟩
      · cases hf : (srM c n).found with
        | false => exact absurd hl (i1 hf m (by omega))
        | true =>
          obtain ⟨k, k1, k2, k3, k4, k5, k6⟩ := i2 hf
          have := k6 m (by omega) hl
          rw [hf] at h
          simp only [Bool.true_eq_false, false_or] at h
          rw [s1, s2, k4, k5] at h
          omega
    · rename_i h
      rw [Classical.not_and_iff_not_or_not] at h
      refine ⟨fun hf k hk hl => ?_, fun hf => ?_⟩
      · by_cases he : k = n
        · subst he
          rcases h with h | h
          · omega
          · exact h (.inl hf)
        · exact i1 hf k (by omega) hl
      · obtain ⟨k, k1, k2, k3, k4, k5, k6⟩ := i2 hf
        refine ⟨k, by omega, k2, k3, k4, k5, fun m hm hl => ?_⟩
        by_cases he : m = n
        · subst he
          rcases h with h | h
          · omega
          · rw [hf, s1, s2, k4, k5] at h
            simp only [Bool.true_eq_false, false_or] at h
            omega
        · exact k6 m (by omega) hl

/-- The reference's best choice. -/
def rbestM (c : CaseM) : List Int × Int × Int :=
  if validM c ≠ 0 then ([], 0, validM c)
  else if (srM c (countM c).toNat).found = false then ([], 0, 21)
  else ((srM c (countM c).toNat).out, (srM c (countM c).toNat).turns, 0)
theorem rbest_eq (hn : countM c ≤ 5000) : rbestM c = bestM c := by
  unfold rbestM
  by_cases hv : validM c ≠ 0
  · rw [if_pos hv]
    unfold bestM
    rw [if_pos hv]
  · rw [if_neg hv]
    have hc : OkC c := validM_ok.1 (by omega)
    have hca := count_all hc hn
    have hcn : (countM c).toNat = cntS c c.items.length := by omega
    rw [hcn]
    obtain ⟨i1, i2⟩ := srM_spec c (cntS c c.items.length)
    have hnum : ∀ q, InS c q c.items.length → ∀ i < c.items.length, q i = qN c (numS c q c.items.length) i := fun q hq i hi => by
      have h1 := (lin_nn hc c.items.length (Nat.le_refl _) hq).2.2
      refine num_inj hc c.items.length (Nat.le_refl _) hq (qN_in hc _) ?_ i (by omega) hi
      rw [qN_num hc _ c.items.length (Nat.le_refl _), Nat.mod_eq_of_lt h1]
    have hsame : ∀ q, InS c q c.items.length → linS c q c.items.length = linS c (qN c (numS c q c.items.length)) c.items.length ∧ trnS c q c.items.length = trnS c (qN c (numS c q c.items.length)) c.items.length := fun q hq => by
      obtain ⟨h1, h2, _⟩ := lin_congr (c := c) (q := q) (q' := qN c (numS c q c.items.length)) c.items.length (Nat.le_refl _) (fun i _ hi => hnum q hq i hi)
      exact ⟨h1, h2⟩
    rcases best_spec hc with ⟨h1, h2⟩ | ⟨q, h1, h2, h3, h4⟩
    · rw [h1, if_pos]
      cases hf : (srM c (cntS c c.items.length)).found with
      | false => rfl
      | true =>
        obtain ⟨k, k1, k2, _⟩ := i2 hf
        exact absurd k2 (h2 _ (qN_in hc k))
    · have hlt := (lin_nn hc c.items.length (Nat.le_refl _) h1).2.2
      obtain ⟨e1, e2⟩ := hsame q h1
      cases hf : (srM c (cntS c c.items.length)).found with
      | false => exact absurd (by omega) (i1 hf _ hlt)
      | true =>
        obtain ⟨k, k1, k2, k3, k4, k5, k6⟩ := i2 hf
        have a1 := k6 _ hlt (by omega)
        have a2 := h4 (qN c k) (qN_in hc k) k2
        unfold leC at a2
        rw [qN_num hc k c.items.length (Nat.le_refl _), Nat.mod_eq_of_lt k1] at a2
        have hk : k = numS c q c.items.length := by omega
        rw [if_neg (by simp), h3, k3, k5]
        simp only [Prod.mk.injEq, and_true]
        refine ⟨?_, by omega⟩
        rw [← qN_lst hc k]
        unfold lstS
        apply List.map_congr_left
        intro i hi
        rw [hnum q h1 i (by simpa using hi), hk]
end

end Go.Proofs.YthcfjdkflmkhbaaDoor

namespace Go.Proofs.YthcfjdkflmkhbaaDoor
open Go.Av

section
variable (c : CaseM) (pick : List Int) (L : Int)
/-- Lines more, and turns less, of another option. -/
def grA (i k : Nat) : Int := ((c.items.getD i default).getD k default).1 - ((c.items.getD i default).getD (pick.getD i default).toNat default).1
def grS (i k : Nat) : Int := c.weights.getD i default * (((c.items.getD i default).getD (pick.getD i default).toNat default).2 - ((c.items.getD i default).getD k default).2)
/-- The best exchange so far: item, option, turns less, lines more. -/
def gStep (i k : Nat) (x : Int × Int × Int × Int) : Int × Int × Int × Int :=
  if 0 < grA c pick i k ∧ 0 < grS c pick i k ∧ L + grA c pick i k ≤ c.room ∧ x.2.2.1 * grA c pick i k < grS c pick i k * x.2.2.2 then ((i : Int), (k : Int), grS c pick i k, grA c pick i k) else x
def gK (i : Nat) (x : Int × Int × Int × Int) : Nat → Int × Int × Int × Int
  | 0 => x
  | k + 1 => gStep c pick L i k (gK i x k)
def gI : Nat → Int × Int × Int × Int
  | 0 => (-1, 0, 0, 1)
  | i + 1 => gK c pick L i (gI i) (c.items.getD i default).length
theorem gK_zero (i : Nat) (x : Int × Int × Int × Int) : gK c pick L i x 0 = x := rfl
theorem gI_zero : gI c pick L 0 = (-1, 0, 0, 1) := rfl
def gOk (x : Int × Int × Int × Int) : Prop := x = (-1, 0, 0, 1) ∨ ∃ i k : Nat, i < c.items.length ∧ k < (c.items.getD i default).length ∧ x = ((i : Int), (k : Int), grS c pick i k, grA c pick i k) ∧ 0 < grA c pick i k ∧ 0 < grS c pick i k ∧ L + grA c pick i k ≤ c.room
variable {c pick L}
theorem gr_range (hc : OkC c) (hp : OkP c pick) (hl : pick.length = c.items.length) {i k : Nat} (hi : i < c.items.length) (hk : k < (c.items.getD i default).length) : (-64 ≤ grA c pick i k ∧ grA c pick i k ≤ 64) ∧ -65536 ≤ grS c pick i k ∧ grS c pick i k ≤ 65536 := by
  have h1 := getD_all (hc.o i hi) (i := k) hk
  have h2 := hp.opt hc (show i < pick.length by omega)
  have hw := hc.w i hi
  unfold okO at h1 h2
  simp only [optM, itemM, pickM, weightM] at h1 h2 hw
  have h3 := mulB (a := ((c.items.getD i default).getD (pick.getD i default).toNat default).2 - ((c.items.getD i default).getD k default).2) (b := c.weights.getD i default) (A := 64) (B := 1024) (by omega) hw
  unfold grA grS
  have h4 := Int.mul_comm (c.weights.getD i default) (((c.items.getD i default).getD (pick.getD i default).toNat default).2 - ((c.items.getD i default).getD k default).2)
  omega
theorem gOk_num (hc : OkC c) (hp : OkP c pick) (hl : pick.length = c.items.length) {x : Int × Int × Int × Int} (h : gOk c pick L x) : (-1 ≤ x.1 ∧ x.1 < (c.items.length : Int)) ∧ (0 ≤ x.2.1 ∧ x.2.1 ≤ 8) ∧ (0 ≤ x.2.2.1 ∧ x.2.2.1 ≤ 65536) ∧ 1 ≤ x.2.2.2 ∧ x.2.2.2 ≤ 64 := by
  rcases h with rfl | ⟨i, k, h1, h2, rfl, h3, h4, h5⟩
  · simp; omega
  · have h8 := hc.n8 i h1
    simp only [itemM] at h8
    have := gr_range hc hp hl h1 h2
    simp only
    omega
theorem gStep_ok {i k : Nat} (hi : i < c.items.length) (hk : k < (c.items.getD i default).length) {x : Int × Int × Int × Int} (h : gOk c pick L x) : gOk c pick L (gStep c pick L i k x) := by
  unfold gStep
  split
  · rename_i hh
    exact .inr ⟨i, k, hi, hk, rfl, hh.1, hh.2.1, hh.2.2.1⟩
  · exact h
theorem gK_ok {i : Nat} (hi : i < c.items.length) {x : Int × Int × Int × Int} (h : gOk c pick L x) : ∀ k ≤ (c.items.getD i default).length, gOk c pick L (gK c pick L i x k)
  | 0, _ => h
  | k + 1, hk => gStep_ok hi (by omega) (gK_ok hi h k (by omega))
theorem gI_ok : ∀ i ≤ c.items.length, gOk c pick L (gI c pick L i)
  | 0, _ => .inl rfl
  | i + 1, hi => gK_ok (by omega) (gI_ok i (by omega)) _ (Nat.le_refl _)
theorem set_sums (hp : pick.length = c.items.length) {i k : Nat} (hi : i < c.items.length) : ∀ n, linesM c (pick.set i (k : Int)) n = (if i < n then linesM c pick n + grA c pick i k else linesM c pick n) ∧ turnsM c (pick.set i (k : Int)) n = (if i < n then turnsM c pick n - grS c pick i k else turnsM c pick n)
  | 0 => by simp [linesM, turnsM]
  | n + 1 => by
    obtain ⟨h1, h2⟩ := set_sums hp (k := k) hi n
    have ho : optM c (pick.set i (k : Int)) n = if n = i then (c.items.getD i default).getD k default else optM c pick n := by
      simp only [optM, pickM]
      rw [set_getD]
      by_cases h : n = i
      · subst h
        rw [if_pos ⟨rfl, by omega⟩, if_pos rfl]
        simp
      · rw [if_neg (by omega), if_neg h]
    simp only [linesM, turnsM, ho]
    by_cases h : n = i
    · subst h
      rw [if_neg (Nat.lt_irrefl n)] at h1 h2
      rw [h1, h2, if_pos (Nat.lt_succ_self n), if_pos (Nat.lt_succ_self n), if_pos rfl]
      have hx : c.weights.getD n default * (((c.items.getD n default).getD (pick.getD n default).toNat default).2 - ((c.items.getD n default).getD k default).2) = (optM c pick n).2 * weightM c n - ((c.items.getD n default).getD k default).2 * weightM c n := by
        rw [Int.mul_sub, Int.mul_comm, Int.mul_comm (c.weights.getD n default)]
      unfold grA grS
      rw [hx]
      simp only [optM, itemM, pickM, weightM]
      omega
    · rw [if_neg h]
      by_cases h' : i < n
      · rw [if_pos h'] at h1 h2
        rw [h1, h2, if_pos (show i < n + 1 by omega), if_pos (show i < n + 1 by omega)]; omega
      · rw [if_neg h'] at h1 h2
        rw [h1, h2, if_neg (show ¬ i < n + 1 by omega), if_neg (show ¬ i < n + 1 by omega)]; omega
end

/-- The quick choice from a choice on. -/
def gRun (c : CaseM) : Nat → List Int → List Int
  | 0, pick => pick
  | f + 1, pick => if (gI c pick (linesM c pick c.items.length) c.items.length).1 < 0 then pick else
      gRun c f (pick.set (gI c pick (linesM c pick c.items.length) c.items.length).1.toNat (gI c pick (linesM c pick c.items.length) c.items.length).2.1)
def gFuel (c : CaseM) (pick : List Int) : Nat := (turnsM c pick c.items.length).toNat + 1
def greedyM (c : CaseM) : List Int × Int × Int :=
  if validM c ≠ 0 then ([], 0, validM c)
  else if c.room < linesM c (shortM c c.items.length) c.items.length then ([], 0, 21)
  else (gRun c (gFuel c (shortM c c.items.length)) (shortM c c.items.length), turnsM c (gRun c (gFuel c (shortM c c.items.length)) (shortM c c.items.length)) c.items.length, 0)

/-- Where the quick choice stands. -/
structure GAt (c : CaseM) (P : List Int) (x : Nat × List Int) : Prop where
  ok : OkP c x.2
  len : x.2.length = c.items.length
  fuel : turnsM c x.2 c.items.length < (x.1 : Int)
  fits : linesM c x.2 c.items.length ≤ c.room
  run : gRun c x.1 x.2 = P
theorem GAt.next {c : CaseM} (hc : OkC c) {P : List Int} {x : Nat × List Int} (h : GAt c P x) (hg : ¬ (gI c x.2 (linesM c x.2 c.items.length) c.items.length).1 < 0) :
    0 < x.1 ∧ GAt c P (x.1 - 1, x.2.set (gI c x.2 (linesM c x.2 c.items.length) c.items.length).1.toNat (gI c x.2 (linesM c x.2 c.items.length) c.items.length).2.1) ∧
    linesM c (x.2.set (gI c x.2 (linesM c x.2 c.items.length) c.items.length).1.toNat (gI c x.2 (linesM c x.2 c.items.length) c.items.length).2.1) c.items.length = linesM c x.2 c.items.length + (gI c x.2 (linesM c x.2 c.items.length) c.items.length).2.2.2 ∧
    turnsM c (x.2.set (gI c x.2 (linesM c x.2 c.items.length) c.items.length).1.toNat (gI c x.2 (linesM c x.2 c.items.length) c.items.length).2.1) c.items.length = turnsM c x.2 c.items.length - (gI c x.2 (linesM c x.2 c.items.length) c.items.length).2.2.1 := by
  obtain ⟨f, pick⟩ := x
  obtain ⟨ho, hl, hf, hfit, hr⟩ := h
  simp only at *
  have hs := sums_range hc ho c.items.length (by omega)
  have hok := gI_ok (c := c) (pick := pick) (L := linesM c pick c.items.length) c.items.length (Nat.le_refl _)
  cases f with
  | zero => omega
  | succ f =>
    simp only [gRun] at hr
    rw [if_neg hg] at hr
    generalize gI c pick (linesM c pick c.items.length) c.items.length = y at *
    rcases hok with rfl | ⟨i, k, h1, h2, rfl, h3, h4, h5⟩
    · simp at hg
    · simp only [Int.toNat_natCast] at hr ⊢
      obtain ⟨s1, s2⟩ := set_sums (c := c) (pick := pick) hl (k := k) h1 c.items.length
      rw [if_pos h1] at s1 s2
      refine ⟨by omega, ⟨⟨by simp only [List.length_set]; omega, fun j hj => ?_⟩, by simp only [List.length_set]; omega, ?_, ?_, ?_⟩, s1, s2⟩
      · simp only [List.length_set] at hj
        simp only [pickM]
        rw [set_getD]
        split
        · rename_i hh
          rw [hh.1]
          simp only [itemM]
          omega
        · exact ho.at_ j hj
      · simp only
        rw [s2]; push_cast at hf ⊢; omega
      · simp only
        rw [s1]; exact h5
      · simpa using hr
theorem GAt.stop {c : CaseM} {P : List Int} {x : Nat × List Int} (hc : OkC c) (h : GAt c P x) (hg : (gI c x.2 (linesM c x.2 c.items.length) c.items.length).1 < 0) : x.2 = P := by
  obtain ⟨f, pick⟩ := x
  obtain ⟨ho, hl, hf, hfit, hr⟩ := h
  simp only at *
  have hs := sums_range hc ho c.items.length (by omega)
  cases f with
  | zero => omega
  | succ f =>
    simp only [gRun] at hr
    rw [if_pos hg] at hr
    exact hr
theorem GAt.start {c : CaseM} (hc : OkC c) (hf : linesM c (shortM c c.items.length) c.items.length ≤ c.room) : GAt c (gRun c (gFuel c (shortM c c.items.length)) (shortM c c.items.length)) (gFuel c (shortM c c.items.length), shortM c c.items.length) := by
  have hp := shortM_ok hc
  have hl := shortM_len c c.items.length
  have hs := sums_range hc hp c.items.length (by omega)
  refine ⟨hp, hl, ?_, hf, rfl⟩
  simp only [gFuel]
  omega
/-- The quick choice is a choice that fits. -/
theorem gRun_ok {c : CaseM} (hc : OkC c) {P : List Int} : ∀ (f : Nat) (pick : List Int), GAt c P (f, pick) → ∃ y, GAt c P y ∧ y.2 = P
  | 0, pick, h => by
    have hs := sums_range hc h.ok c.items.length (by have := h.len; omega)
    have := h.fuel
    simp only at *
    omega
  | f + 1, pick, h => by
    by_cases hg : (gI c pick (linesM c pick c.items.length) c.items.length).1 < 0
    · exact ⟨_, h, h.stop hc hg⟩
    · exact gRun_ok hc f _ (h.next hc hg).2.1
theorem greedy_ok {c : CaseM} (hc : OkC c) (hf : linesM c (shortM c c.items.length) c.items.length ≤ c.room) : ∃ P, greedyM c = (P, turnsM c P c.items.length, 0) ∧ OkP c P ∧ P.length = c.items.length ∧ linesM c P c.items.length ≤ c.room := by
  obtain ⟨y, h1, h2⟩ := gRun_ok hc _ _ (GAt.start hc hf)
  have hv := validM_ok.2 hc
  refine ⟨_, ?_, h2 ▸ h1.ok, h2 ▸ h1.len, h2 ▸ h1.fits⟩
  unfold greedyM
  rw [if_neg (by omega), if_neg (by omega)]
theorem greedyM_range (c : CaseM) : (greedyM c).1.length ≤ 64 := by
  unfold greedyM
  split
  · simp
  · rename_i hv
    have hc : OkC c := validM_ok.1 (by omega)
    split
    · simp
    · rename_i hf
      obtain ⟨P, h1, h2, h3, h4⟩ := greedy_ok hc (by omega)
      have hn := hc.n64
      obtain ⟨y, h1, h2⟩ := gRun_ok hc _ _ (GAt.start hc (by omega))
      have := h1.len
      rw [h2] at this
      simp only
      omega

end Go.Proofs.YthcfjdkflmkhbaaDoor

namespace Go.Proofs.YthcfjdkflmkhbaaDoor
open Go.Av


theorem count_ok (G) (c : CaseM) (hs : SzC c) : Gives Tryd.prog G 35 [caseD c] [iD (countM c)] := by
  have hst : (0 : Nat) = 0 := rfl
  have hni := hs.ni
  refine gives_intro [] [] [] Tryd.func35 rfl (by rfl) (by simp [Tryd.ntmps35]) fun F hP hG hN hR => ?_
  rw [Tryd.ntmps35] at hN
  have hA := And.intro hN (And.intro hP (And.intro hG (And.intro hR.1 (And.intro hR.2.1 hR.2.2.1))))
  apply aw_regs [1] [1]
  · simp (disch := omega) only [avR2, avA, datsOf, fillA, seval, ↓List.forall_mem_cons, Op.operands, hA, tiA]
    first | exact ⟨rfl, rfl⟩ | ((repeat' first | refine And.intro ?_ ?_ | intro _) <;> first | with_reducible rfl | assumption | omega | rfl | (rename_i hq; rw [hq]; rfl) | (simp_all; done))
  apply aw_regs [1, 3] [1]
  · simp (disch := omega) only [avR2, avA, datsOf, fillA, seval, ↓List.forall_mem_cons, Op.operands, hA, tiA]
    first | exact ⟨rfl, rfl⟩ | ((repeat' first | refine And.intro ?_ ?_ | intro _) <;> first | with_reducible rfl | assumption | omega | rfl | (rename_i hq; rw [hq]; rfl) | (simp_all; done))
  apply aw_seq
  apply aw_regs [1, 3, 4] [1]
  · simp (disch := omega) only [avR2, avA, datsOf, fillA, seval, ↓List.forall_mem_cons, Op.operands, hA, tiA]
    first | exact ⟨rfl, rfl⟩ | ((repeat' first | refine And.intro ?_ ?_ | intro _) <;> first | with_reducible rfl | assumption | omega | rfl | (rename_i hq; rw [hq]; rfl) | (simp_all; done))
  apply aw_block
  refine aw_loop (ι := {i : Nat // i ≤ c.items.length}) (fun ⟨i, hi⟩ => .of [(1, .ptr 1 3 0 0), (3, .dat (iD (cntU c i))), (4, .dat (iD i))] [(1, ⟨3, [.dat (caseD c)]⟩)]) (fun ⟨i, hi⟩ => c.items.length - i) (⟨0, by omega⟩) (Le.of ?_ ?_) fun ix => ?_
  · try simp (disch := omega) only [LeE, LeO, avA, datsOf, fillA, seval, ↓List.forall_mem_cons, Op.operands, hst, cntU_zero]
    all_goals first | done | (repeat' apply And.intro) <;> first | rfl | omega | assumption | (simp only [AV.dat.injEq, Dat.int.injEq, true_and]; omega) | (congr <;> omega)
  · try simp (disch := omega) only [LeE, LeO, avA, datsOf, fillA, seval, ↓List.forall_mem_cons, Op.operands, hst, cntU_zero]
    all_goals first | done | (repeat' apply And.intro) <;> first | rfl | omega | assumption | (simp only [AV.dat.injEq, Dat.int.injEq, true_and]; omega) | (congr <;> omega)
  obtain ⟨i, hi⟩ := ix
  dsimp only
  have hcr := cntU_range hs i hi
  apply aw_seq
  apply aw_regs [1, 3, 4, 13] [1]
  · simp (disch := omega) only [avR2, avA, datsOf, fillA, seval, ↓List.forall_mem_cons, Op.operands, hA, tiA]
    first | exact ⟨rfl, rfl⟩ | ((repeat' first | refine And.intro ?_ ?_ | intro _) <;> first | with_reducible rfl | assumption | omega | rfl | (rename_i hq; rw [hq]; rfl) | (simp_all; done))
  refine aw_if _ rfl (fun hb => ?_) (fun hb => ?_) <;> (try simp only [pickB_true, pickB_false, Bool.false_or, Bool.false_and, Bool.true_and, decide_eq_true_eq, decide_eq_false_iff_not, Bool.or_eq_true, Bool.and_eq_true, Bool.or_eq_false_iff, Bool.and_eq_false_imp, Bool.not_eq_true, Bool.not_eq_false, Bool.not_eq_eq_eq_not, Bool.not_true, Bool.not_false, Int.not_lt, Int.not_le, beq_iff_eq, beq_eq_false_iff_ne, bne_iff_ne, bne_eq_false_iff_eq, ne_eq, Bool.true_eq_false, Bool.false_eq_true, if_false_left, if_true_left, Bool.not_eq_eq_eq_not, Bool.decide_eq_true, Classical.not_not] at hb)
  · skip
    have hil : i < c.items.length := by omega
    have hli := hs.nl i hil
    simp only [itemM] at hli
    have hm1 : 0 ≤ cntU c i * ((c.items.getD i default).length : Int) := Int.mul_nonneg hcr.1 (by omega)
    have hm2 : cntU c i * ((c.items.getD i default).length : Int) ≤ 100000 * 100 := Int.mul_le_mul (by omega) (by omega) (by omega) (by omega)
    have hst : cntU c (i + 1) = cntU c i * ((c.items.getD i default).length : Int) := by
      simp only [cntU]
      rw [if_pos (by omega)]
    apply aw_skip
    apply q_seq
    apply aw_seq
    apply aw_block
    apply aw_reg [1, 3, 4] [1]
    · simp (disch := omega) only [avR2, avA, datsOf, fillA, seval, ↓List.forall_mem_cons, Op.operands, hA, tiA]
      first | exact ⟨rfl, rfl⟩ | ((repeat' first | refine And.intro ?_ ?_ | intro _) <;> first | with_reducible rfl | assumption | omega | rfl | (rename_i hq; rw [hq]; rfl) | (simp_all; done))
    apply q_block
    apply q_seq
    apply aw_reg [1, 3, 4] [1]
    · simp (disch := omega) only [avR2, avA, datsOf, fillA, seval, ↓List.forall_mem_cons, Op.operands, hA, tiA]
      first | exact ⟨rfl, rfl⟩ | ((repeat' first | refine And.intro ?_ ?_ | intro _) <;> first | with_reducible rfl | assumption | omega | rfl | (rename_i hq; rw [hq]; rfl) | (simp_all; done))
    refine q_loop (⟨i + 1, by omega⟩) (Le.of ?_ ?_) (by dsimp only; omega)
    · try simp (disch := omega) only [LeE, LeO, avA, datsOf, fillA, seval, ↓List.forall_mem_cons, Op.operands, hst, cntU_zero]
      all_goals first | done | (repeat' apply And.intro) <;> first | rfl | omega | assumption | (simp only [AV.dat.injEq, Dat.int.injEq, true_and]; omega) | (congr <;> omega)
    · try simp (disch := omega) only [LeE, LeO, avA, datsOf, fillA, seval, ↓List.forall_mem_cons, Op.operands, hst, cntU_zero]
      all_goals first | done | (repeat' apply And.intro) <;> first | rfl | omega | assumption | (simp only [AV.dat.injEq, Dat.int.injEq, true_and]; omega) | (congr <;> omega)
  · skip
    have hca := countM_at (c := c) hi (by omega)
    apply aw_exit
    apply q_exit_seq
    apply q_exit_loop
    apply q_exit
    apply q_seq
    apply aw_regs [2] []
    · simp (disch := omega) only [avR2, avA, datsOf, fillA, seval, ↓List.forall_mem_cons, Op.operands, hA, tiA]
      first | exact ⟨rfl, rfl⟩ | ((repeat' first | refine And.intro ?_ ?_ | intro _) <;> first | with_reducible rfl | assumption | omega | rfl | (rename_i hq; rw [hq]; rfl) | (simp_all; done))
    apply aw_ret
    simp only [QRet, QRetM, QRetX, retsX_nil, retsX_cons, objsAre, Tryd.results35, resA, mapO_nil, mapO_cons, vD_dat, vD_nils, vD_rp, vD_osl, vD_ptr, vD_agg, vD_fn, vL_dat, vL_app, viewL, avA, datsOf, fillA, seval, ↓List.forall_mem_cons, Op.operands, hP, hG, tiA]
    rw [hca]
    

set_option maxHeartbeats 1000000 in
theorem rbest_ok (G) (c : CaseM) (hs : SzC c) : Gives Tryd.prog G 36 [caseD c] [isD (rbestM c).1, iD (rbestM c).2.1, iD (rbestM c).2.2] := by
  have hst : (0 : Nat) = 0 := rfl
  have hni := hs.ni
  refine gives_intro [] [] [] Tryd.func36 rfl (by rfl) (by simp [Tryd.ntmps36]) fun F hP hG hN hR => ?_
  rw [Tryd.ntmps36] at hN
  have hA := And.intro hN (And.intro hP (And.intro hG (And.intro hR.1 (And.intro hR.2.1 hR.2.2.1))))
  apply aw_regs [1] [1]
  · simp (disch := omega) only [avR2, avA, datsOf, fillA, seval, ↓List.forall_mem_cons, Op.operands, hA, tiA]
    first | exact ⟨rfl, rfl⟩ | ((repeat' first | refine And.intro ?_ ?_ | intro _) <;> first | with_reducible rfl | assumption | omega | rfl | (rename_i hq; rw [hq]; rfl) | (simp_all; done))
  apply aw_regs [1, 5] [1]
  · simp (disch := omega) only [avR2, avA, datsOf, fillA, seval, ↓List.forall_mem_cons, Op.operands, hA, tiA]
    (repeat' refine And.intro ?_ ?_) <;> try first | omega | assumption | with_reducible rfl | exact rfl | (intro hside; (repeat' refine And.intro ?_ ?_) <;> first | exact hside | omega | (rw [hside]; rfl) | (simp_all; done))
    refine CallC.use (gvF hP hG (rvalid_ok G c hs)) rfl ?_
    try simp (maxSteps := 2000000) (disch := omega) only [avR2, avA, datsOf, fillA, seval, ↓List.forall_mem_cons, Op.operands, hA, tiA]
    first | exact ⟨rfl, rfl⟩ | ((repeat' first | refine And.intro ?_ ?_ | intro _) <;> first | with_reducible rfl | assumption | omega | rfl | (rename_i hq; rw [hq]; rfl) | (simp_all; done))
  apply aw_seq
  apply aw_regs [1, 5, 17] [1]
  · simp (disch := omega) only [avR2, avA, datsOf, fillA, seval, ↓List.forall_mem_cons, Op.operands, hA, tiA]
    first | exact ⟨rfl, rfl⟩ | ((repeat' first | refine And.intro ?_ ?_ | intro _) <;> first | with_reducible rfl | assumption | omega | rfl | (rename_i hq; rw [hq]; rfl) | (simp_all; done))
  refine aw_if _ rfl (fun hb => ?_) (fun hb => ?_) <;> (try simp only [pickB_true, pickB_false, Bool.false_or, Bool.false_and, Bool.true_and, decide_eq_true_eq, decide_eq_false_iff_not, Bool.or_eq_true, Bool.and_eq_true, Bool.or_eq_false_iff, Bool.and_eq_false_imp, Bool.not_eq_true, Bool.not_eq_false, Bool.not_eq_eq_eq_not, Bool.not_true, Bool.not_false, Int.not_lt, Int.not_le, beq_iff_eq, beq_eq_false_iff_ne, bne_iff_ne, bne_eq_false_iff_eq, ne_eq, Bool.true_eq_false, Bool.false_eq_true, if_false_left, if_true_left, Bool.not_eq_eq_eq_not, Bool.decide_eq_true, Classical.not_not] at hb)
  · skip
    have hv : rbestM c = ([], 0, validM c) := by
      unfold rbestM
      rw [if_pos hb]
    apply aw_regs [2, 3, 4] []
    · simp (disch := omega) only [avR2, avA, datsOf, fillA, seval, ↓List.forall_mem_cons, Op.operands, hA, tiA]
      first | exact ⟨rfl, rfl⟩ | ((repeat' first | refine And.intro ?_ ?_ | intro _) <;> first | with_reducible rfl | assumption | omega | rfl | (rename_i hq; rw [hq]; rfl) | (simp_all; done))
    apply aw_ret
    apply q_ret_seq
    simp only [QRet, QRetM, QRetX, retsX_nil, retsX_cons, objsAre, Tryd.results36, resA, mapO_nil, mapO_cons, vD_dat, vD_nils, vD_rp, vD_osl, vD_ptr, vD_agg, vD_fn, vL_dat, vL_app, viewL, avA, datsOf, fillA, seval, ↓List.forall_mem_cons, Op.operands, hP, hG, tiA]
    first | (rw [hv]; done) | (rw [hv]; rfl) | (rw [hv, if_pos (by omega), List.take_of_length_le (by omega)])
    
  · skip
    have h0 : ¬ validM c ≠ 0 := by omega
    have hc : OkC c := validM_ok.1 (by omega)
    have hn := hc.n64
    have hcm := countM_range hs
    apply aw_skip
    apply q_seq
    apply aw_regs [1, 6] [1]
    · simp (disch := omega) only [avR2, avA, datsOf, fillA, seval, ↓List.forall_mem_cons, Op.operands, hA, tiA]
      first | exact ⟨rfl, rfl⟩ | ((repeat' first | refine And.intro ?_ ?_ | intro _) <;> first | with_reducible rfl | assumption | omega | rfl | (rename_i hq; rw [hq]; rfl) | (simp_all; done))
    apply aw_regs [1, 6, 7] [1]
    · simp (disch := omega) only [avR2, avA, datsOf, fillA, seval, ↓List.forall_mem_cons, Op.operands, hA, tiA]
      first | exact ⟨rfl, rfl⟩ | ((repeat' first | refine And.intro ?_ ?_ | intro _) <;> first | with_reducible rfl | assumption | omega | rfl | (rename_i hq; rw [hq]; rfl) | (simp_all; done))
    apply aw_regs [1, 6, 7, 8] [1]
    · simp (disch := omega) only [avR2, avA, datsOf, fillA, seval, ↓List.forall_mem_cons, Op.operands, hA, tiA]
      first | exact ⟨rfl, rfl⟩ | ((repeat' first | refine And.intro ?_ ?_ | intro _) <;> first | with_reducible rfl | assumption | omega | rfl | (rename_i hq; rw [hq]; rfl) | (simp_all; done))
    apply aw_regs [1, 6, 7, 8, 9] [1]
    · simp (disch := omega) only [avR2, avA, datsOf, fillA, seval, ↓List.forall_mem_cons, Op.operands, hA, tiA]
      first | exact ⟨rfl, rfl⟩ | ((repeat' first | refine And.intro ?_ ?_ | intro _) <;> first | with_reducible rfl | assumption | omega | rfl | (rename_i hq; rw [hq]; rfl) | (simp_all; done))
    apply aw_seq
    apply aw_regs [1, 6, 7, 8, 9, 10] [1]
    · simp (disch := omega) only [avR2, avA, datsOf, fillA, seval, ↓List.forall_mem_cons, Op.operands, hA, tiA]
      first | exact ⟨rfl, rfl⟩ | ((repeat' first | refine And.intro ?_ ?_ | intro _) <;> first | with_reducible rfl | assumption | omega | rfl | (rename_i hq; rw [hq]; rfl) | (simp_all; done))
    apply aw_block
    refine aw_nilD 7 rfl ?_
    refine aw_loop (ι := {n : Nat // n ≤ (countM c).toNat}) (fun ⟨n, hi⟩ => .of [(1, .ptr 1 3 0 0), (6, .dat (.bool (srM c n).found)), (7, .dat (isD (srM c n).out)), (8, .dat (iD (srM c n).lines)), (9, .dat (iD (srM c n).turns)), (10, .dat (iD n))] [(1, ⟨3, [.dat (caseD c)]⟩)]) (fun ⟨n, hi⟩ => (countM c).toNat - n) (⟨0, by omega⟩) (Le.of ?_ ?_) fun ix => ?_
    · try simp (disch := omega) only [LeE, LeO, avA, datsOf, fillA, seval, ↓List.forall_mem_cons, Op.operands, hst, srM_zero, List.map_nil]
      all_goals first | done | (repeat' apply And.intro) <;> first | rfl | omega | assumption | (simp only [AV.dat.injEq, Dat.int.injEq, true_and]; omega) | (congr <;> omega)
    · try simp (disch := omega) only [LeE, LeO, avA, datsOf, fillA, seval, ↓List.forall_mem_cons, Op.operands, hst, srM_zero, List.map_nil]
      all_goals first | done | (repeat' apply And.intro) <;> first | rfl | omega | assumption | (simp only [AV.dat.injEq, Dat.int.injEq, true_and]; omega) | (congr <;> omega)
    obtain ⟨n, hi⟩ := ix
    dsimp only
    apply aw_seq
    apply aw_regs [1, 6, 7, 8, 9, 10, 22] [1]
    · simp (disch := omega) only [avR2, avA, datsOf, fillA, seval, ↓List.forall_mem_cons, Op.operands, hA, tiA]
      (repeat' refine And.intro ?_ ?_) <;> try first | omega | assumption | with_reducible rfl | exact rfl | (intro hside; (repeat' refine And.intro ?_ ?_) <;> first | exact hside | omega | (rw [hside]; rfl) | (simp_all; done))
      refine CallC.use (gvF hP hG (count_ok G c hs)) rfl ?_
      try simp (maxSteps := 2000000) (disch := omega) only [avR2, avA, datsOf, fillA, seval, ↓List.forall_mem_cons, Op.operands, hA, tiA]
      first | exact ⟨rfl, rfl⟩ | ((repeat' first | refine And.intro ?_ ?_ | intro _) <;> first | with_reducible rfl | assumption | omega | rfl | (rename_i hq; rw [hq]; rfl) | (simp_all; done))
    refine aw_if _ rfl (fun hb => ?_) (fun hb => ?_) <;> (try simp only [pickB_true, pickB_false, Bool.false_or, Bool.false_and, Bool.true_and, decide_eq_true_eq, decide_eq_false_iff_not, Bool.or_eq_true, Bool.and_eq_true, Bool.or_eq_false_iff, Bool.and_eq_false_imp, Bool.not_eq_true, Bool.not_eq_false, Bool.not_eq_eq_eq_not, Bool.not_true, Bool.not_false, Int.not_lt, Int.not_le, beq_iff_eq, beq_eq_false_iff_ne, bne_iff_ne, bne_eq_false_iff_eq, ne_eq, Bool.true_eq_false, Bool.false_eq_true, if_false_left, if_true_left, Bool.not_eq_eq_eq_not, Bool.decide_eq_true, Classical.not_not] at hb)
    · skip
      have hil : n < (countM c).toNat := by omega
      have hnr : I64 (n : Int) := by unfold I64; omega
      have hpk := pickNM_ok hc n
      have hpl := pickNM_length c (n : Int)
      apply aw_skip
      apply q_seq
      apply aw_seq
      apply aw_block
      apply aw_regs [1, 6, 7, 8, 9, 10, 11] [1]
      · simp (disch := omega) only [avR2, avA, datsOf, fillA, seval, ↓List.forall_mem_cons, Op.operands, hA, tiA]
        (repeat' refine And.intro ?_ ?_) <;> try first | omega | assumption | with_reducible rfl | exact rfl | (intro hside; (repeat' refine And.intro ?_ ?_) <;> first | exact hside | omega | (rw [hside]; rfl) | (simp_all; done))
        refine CallC.use (gvF hP hG (pick_ok G c n hs hnr)) rfl ?_
        try simp (maxSteps := 2000000) (disch := omega) only [avR2, avA, datsOf, fillA, seval, ↓List.forall_mem_cons, Op.operands, hA, tiA]
        first | exact ⟨rfl, rfl⟩ | ((repeat' first | refine And.intro ?_ ?_ | intro _) <;> first | with_reducible rfl | assumption | omega | rfl | (rename_i hq; rw [hq]; rfl) | (simp_all; done))
      apply aw_regs [1, 6, 7, 8, 9, 10, 11, 12, 13] [1]
      · simp (disch := omega) only [avR2, avA, datsOf, fillA, seval, ↓List.forall_mem_cons, Op.operands, hA, tiA]
        (repeat' refine And.intro ?_ ?_) <;> try first | omega | assumption | with_reducible rfl | exact rfl | (intro hside; (repeat' refine And.intro ?_ ?_) <;> first | exact hside | omega | (rw [hside]; rfl) | (simp_all; done))
        refine CallC.use (gvF hP hG (sums_ok G c (pickNM c n) hc hpk)) rfl ?_
        try simp (maxSteps := 2000000) (disch := omega) only [avR2, avA, datsOf, fillA, seval, ↓List.forall_mem_cons, Op.operands, hA, tiA]
        first | exact ⟨rfl, rfl⟩ | ((repeat' first | refine And.intro ?_ ?_ | intro _) <;> first | with_reducible rfl | assumption | omega | rfl | (rename_i hq; rw [hq]; rfl) | (simp_all; done))
      apply aw_regs [1, 6, 7, 8, 9, 10, 11, 12, 13, 56] [1]
      · simp (maxSteps := 2000000) (disch := omega) only [avR2, avA, datsOf, fillA, seval, ↓List.forall_mem_cons, Op.operands, hA, tiA]
        first | exact ⟨rfl, rfl⟩ | ((repeat' first | refine And.intro ?_ ?_ | intro _) <;> first | with_reducible rfl | assumption | omega | rfl | (rename_i hq; rw [hq]; rfl) | (simp_all; done))
      refine aw_if _ rfl (fun hb => ?_) (fun hb => ?_) <;> (try simp only [pickB_true, pickB_false, Bool.false_or, Bool.false_and, Bool.true_and, decide_eq_true_eq, decide_eq_false_iff_not, Bool.or_eq_true, Bool.and_eq_true, Bool.or_eq_false_iff, Bool.and_eq_false_imp, Bool.not_eq_true, Bool.not_eq_false, Bool.not_eq_eq_eq_not, Bool.not_true, Bool.not_false, Int.not_lt, Int.not_le, beq_iff_eq, beq_eq_false_iff_ne, bne_iff_ne, bne_eq_false_iff_eq, ne_eq, Bool.true_eq_false, Bool.false_eq_true, if_false_left, if_true_left, Bool.not_eq_eq_eq_not, Bool.decide_eq_true, Classical.not_not] at hb)
      · skip
        have hst : srM c (n + 1) = ⟨true, pickNM c (n : Int), linesM c (pickNM c (n : Int)) c.items.length, turnsM c (pickNM c (n : Int)) c.items.length⟩ := by
          simp only [srM]
          rw [hpl] at hb
          rw [if_pos (by simpa only [or_assoc] using hb)]
        apply aw_regs [1, 6, 10, 11, 12, 13] [1]
        · simp (disch := omega) only [avR2, avA, datsOf, fillA, seval, ↓List.forall_mem_cons, Op.operands, hA, tiA]
          first | exact ⟨rfl, rfl⟩ | ((repeat' first | refine And.intro ?_ ?_ | intro _) <;> first | with_reducible rfl | assumption | omega | rfl | (rename_i hq; rw [hq]; rfl) | (simp_all; done))
        apply aw_regs [1, 6, 7, 10, 12, 13] [1]
        · simp (disch := omega) only [avR2, avA, datsOf, fillA, seval, ↓List.forall_mem_cons, Op.operands, hA, tiA]
          first | exact ⟨rfl, rfl⟩ | ((repeat' first | refine And.intro ?_ ?_ | intro _) <;> first | with_reducible rfl | assumption | omega | rfl | (rename_i hq; rw [hq]; rfl) | (simp_all; done))
        apply aw_regs [1, 6, 7, 8, 10, 13] [1]
        · simp (disch := omega) only [avR2, avA, datsOf, fillA, seval, ↓List.forall_mem_cons, Op.operands, hA, tiA]
          first | exact ⟨rfl, rfl⟩ | ((repeat' first | refine And.intro ?_ ?_ | intro _) <;> first | with_reducible rfl | assumption | omega | rfl | (rename_i hq; rw [hq]; rfl) | (simp_all; done))
        apply aw_reg [1, 6, 7, 8, 9, 10] [1]
        · simp (disch := omega) only [avR2, avA, datsOf, fillA, seval, ↓List.forall_mem_cons, Op.operands, hA, tiA]
          first | exact ⟨rfl, rfl⟩ | ((repeat' first | refine And.intro ?_ ?_ | intro _) <;> first | with_reducible rfl | assumption | omega | rfl | (rename_i hq; rw [hq]; rfl) | (simp_all; done))
        apply q_block
        apply q_seq
        apply aw_reg [1, 6, 7, 8, 9, 10] [1]
        · simp (disch := omega) only [avR2, avA, datsOf, fillA, seval, ↓List.forall_mem_cons, Op.operands, hA, tiA]
          first | exact ⟨rfl, rfl⟩ | ((repeat' first | refine And.intro ?_ ?_ | intro _) <;> first | with_reducible rfl | assumption | omega | rfl | (rename_i hq; rw [hq]; rfl) | (simp_all; done))
        refine q_loop (⟨n + 1, by omega⟩) (Le.of ?_ ?_) (by dsimp only; omega)
        · try simp (disch := omega) only [LeE, LeO, avA, datsOf, fillA, seval, ↓List.forall_mem_cons, Op.operands, hst, srM_zero, List.map_nil]
          all_goals first | done | (repeat' apply And.intro) <;> first | rfl | omega | assumption | (simp only [AV.dat.injEq, Dat.int.injEq, true_and]; omega) | (congr <;> omega)
        · try simp (disch := omega) only [LeE, LeO, avA, datsOf, fillA, seval, ↓List.forall_mem_cons, Op.operands, hst, srM_zero, List.map_nil]
          all_goals first | done | (repeat' apply And.intro) <;> first | rfl | omega | assumption | (simp only [AV.dat.injEq, Dat.int.injEq, true_and]; omega) | (congr <;> omega)
      · skip
        have hst : srM c (n + 1) = srM c n := by
          simp only [srM]
          rw [hpl] at hb
          rw [if_neg]
          rintro ⟨g1, g2⟩
          have hb := hb g1
          rcases g2 with g2 | g2 | g2
          · simp_all
          · omega
          · omega
        apply aw_skip
        apply q_block
        apply q_seq
        apply aw_reg [1, 6, 7, 8, 9, 10] [1]
        · simp (disch := omega) only [avR2, avA, datsOf, fillA, seval, ↓List.forall_mem_cons, Op.operands, hA, tiA]
          first | exact ⟨rfl, rfl⟩ | ((repeat' first | refine And.intro ?_ ?_ | intro _) <;> first | with_reducible rfl | assumption | omega | rfl | (rename_i hq; rw [hq]; rfl) | (simp_all; done))
        refine q_loop (⟨n + 1, by omega⟩) (Le.of ?_ ?_) (by dsimp only; omega)
        · try simp (disch := omega) only [LeE, LeO, avA, datsOf, fillA, seval, ↓List.forall_mem_cons, Op.operands, hst, srM_zero, List.map_nil]
          all_goals first | done | (repeat' apply And.intro) <;> first | rfl | omega | assumption | (simp only [AV.dat.injEq, Dat.int.injEq, true_and]; omega) | (congr <;> omega)
        · try simp (disch := omega) only [LeE, LeO, avA, datsOf, fillA, seval, ↓List.forall_mem_cons, Op.operands, hst, srM_zero, List.map_nil]
          all_goals first | done | (repeat' apply And.intro) <;> first | rfl | omega | assumption | (simp only [AV.dat.injEq, Dat.int.injEq, true_and]; omega) | (congr <;> omega)
    · skip
      have hii : n = (countM c).toNat := by omega
      subst hii
      apply aw_exit
      apply q_exit_seq
      apply q_exit_loop
      apply q_exit
      apply q_seq
      apply aw_seq
      apply aw_regs [7, 9, 61] []
      · simp (disch := omega) only [avR2, avA, datsOf, fillA, seval, ↓List.forall_mem_cons, Op.operands, hA, tiA]
        first | exact ⟨rfl, rfl⟩ | ((repeat' first | refine And.intro ?_ ?_ | intro _) <;> first | with_reducible rfl | assumption | omega | rfl | (rename_i hq; rw [hq]; rfl) | (simp_all; done))
      refine aw_if _ rfl (fun hb => ?_) (fun hb => ?_) <;> (try simp only [pickB_true, pickB_false, Bool.false_or, Bool.false_and, Bool.true_and, decide_eq_true_eq, decide_eq_false_iff_not, Bool.or_eq_true, Bool.and_eq_true, Bool.or_eq_false_iff, Bool.and_eq_false_imp, Bool.not_eq_true, Bool.not_eq_false, Bool.not_eq_eq_eq_not, Bool.not_true, Bool.not_false, Int.not_lt, Int.not_le, beq_iff_eq, beq_eq_false_iff_ne, bne_iff_ne, bne_eq_false_iff_eq, ne_eq, Bool.true_eq_false, Bool.false_eq_true, if_false_left, if_true_left, Bool.not_eq_eq_eq_not, Bool.decide_eq_true, Classical.not_not] at hb)
      · skip
        have hv : rbestM c = ([], 0, 21) := by
          unfold rbestM
          rw [if_neg h0, if_pos hb]
        apply aw_regs [2, 3, 4] []
        · simp (disch := omega) only [avR2, avA, datsOf, fillA, seval, ↓List.forall_mem_cons, Op.operands, hA, tiA]
          first | exact ⟨rfl, rfl⟩ | ((repeat' first | refine And.intro ?_ ?_ | intro _) <;> first | with_reducible rfl | assumption | omega | rfl | (rename_i hq; rw [hq]; rfl) | (simp_all; done))
        apply aw_ret
        apply q_ret_seq
        simp only [QRet, QRetM, QRetX, retsX_nil, retsX_cons, objsAre, Tryd.results36, resA, mapO_nil, mapO_cons, vD_dat, vD_nils, vD_rp, vD_osl, vD_ptr, vD_agg, vD_fn, vL_dat, vL_app, viewL, avA, datsOf, fillA, seval, ↓List.forall_mem_cons, Op.operands, hP, hG, tiA]
        first | (rw [hv]; done) | (rw [hv]; rfl) | (rw [hv, if_pos (by omega), List.take_of_length_le (by omega)])
        
      · skip
        have hv : rbestM c = ((srM c (countM c).toNat).out, (srM c (countM c).toNat).turns, 0) := by
          unfold rbestM
          rw [if_neg h0, if_neg (by simp_all)]
        apply aw_skip
        apply q_seq
        apply aw_regs [2, 3, 4] []
        · simp (disch := omega) only [avR2, avA, datsOf, fillA, seval, ↓List.forall_mem_cons, Op.operands, hA, tiA]
          first | exact ⟨rfl, rfl⟩ | ((repeat' first | refine And.intro ?_ ?_ | intro _) <;> first | with_reducible rfl | assumption | omega | rfl | (rename_i hq; rw [hq]; rfl) | (simp_all; done))
        apply aw_ret
        simp only [QRet, QRetM, QRetX, retsX_nil, retsX_cons, objsAre, Tryd.results36, resA, mapO_nil, mapO_cons, vD_dat, vD_nils, vD_rp, vD_osl, vD_ptr, vD_agg, vD_fn, vL_dat, vL_app, viewL, avA, datsOf, fillA, seval, ↓List.forall_mem_cons, Op.operands, hP, hG, tiA]
        first | (rw [hv]; done) | (rw [hv]; rfl) | (rw [hv, if_pos (by omega), List.take_of_length_le (by omega)])
        

set_option maxHeartbeats 2000000 in
theorem greedyF_ok (G) (c : CaseM) (hs : SzC c) : Gives Tryd.prog G 37 [caseD c] [isD (greedyM c).1, iD (greedyM c).2.1, iD (greedyM c).2.2] := by
  have hst : (0 : Nat) = 0 := rfl
  have hni := hs.ni
  skip
  refine gives_intro [] [25] [] Tryd.func37 rfl (by rfl) (by simp [Tryd.ntmps37]) fun F hP hG hN hR => ?_
  rw [Tryd.ntmps37] at hN
  have hA := And.intro hN (And.intro hP (And.intro hG (And.intro hR.1 (And.intro hR.2.1 hR.2.2.1))))
  apply aw_regs [1] [1, 25]
  · simp (disch := omega) only [avR2, avA, datsOf, fillA, seval, ↓List.forall_mem_cons, Op.operands, hA, tiA]
    first | exact ⟨rfl, rfl⟩ | ((repeat' first | refine And.intro ?_ ?_ | intro _) <;> first | with_reducible rfl | assumption | omega | rfl | (rename_i hq; rw [hq]; rfl) | (simp_all; done))
  apply aw_seq
  apply aw_regs [1, 5] [1, 25]
  · simp (disch := omega) only [avR2, avA, datsOf, fillA, seval, ↓List.forall_mem_cons, Op.operands, hA, tiA]
    (repeat' refine And.intro ?_ ?_) <;> try first | omega | assumption | with_reducible rfl | exact rfl | (intro hside; (repeat' refine And.intro ?_ ?_) <;> first | exact hside | omega | (rw [hside]; rfl) | (simp_all; done))
    refine CallC.use (gvF hP hG (valid_ok G c hs)) rfl ?_
    try simp (maxSteps := 2000000) (disch := omega) only [avR2, avA, datsOf, fillA, seval, ↓List.forall_mem_cons, Op.operands, hA, tiA]
    first | exact ⟨rfl, rfl⟩ | ((repeat' first | refine And.intro ?_ ?_ | intro _) <;> first | with_reducible rfl | assumption | omega | rfl | (rename_i hq; rw [hq]; rfl) | (simp_all; done))
  apply aw_regs [1, 5, 22] [1, 25]
  · simp (disch := omega) only [avR2, avA, datsOf, fillA, seval, ↓List.forall_mem_cons, Op.operands, hA, tiA]
    first | exact ⟨rfl, rfl⟩ | ((repeat' first | refine And.intro ?_ ?_ | intro _) <;> first | with_reducible rfl | assumption | omega | rfl | (rename_i hq; rw [hq]; rfl) | (simp_all; done))
  refine aw_if _ rfl (fun hb => ?_) (fun hb => ?_) <;> (try simp only [pickB_true, pickB_false, Bool.false_or, Bool.false_and, Bool.true_and, decide_eq_true_eq, decide_eq_false_iff_not, Bool.or_eq_true, Bool.and_eq_true, Bool.or_eq_false_iff, Bool.and_eq_false_imp, Bool.not_eq_true, Bool.not_eq_false, Bool.not_eq_eq_eq_not, Bool.not_true, Bool.not_false, Int.not_lt, Int.not_le, beq_iff_eq, beq_eq_false_iff_ne, bne_iff_ne, bne_eq_false_iff_eq, ne_eq, Bool.true_eq_false, Bool.false_eq_true, if_false_left, if_true_left, Bool.not_eq_eq_eq_not, Bool.decide_eq_true, Classical.not_not] at hb)
  · skip
    have hv : greedyM c = ([], 0, validM c) := by
      unfold greedyM
      rw [if_pos hb]
    apply aw_regs [2, 3, 4] [25]
    · simp (disch := omega) only [avR2, avA, datsOf, fillA, seval, ↓List.forall_mem_cons, Op.operands, hA, tiA]
      first | exact ⟨rfl, rfl⟩ | ((repeat' first | refine And.intro ?_ ?_ | intro _) <;> first | with_reducible rfl | assumption | omega | rfl | (rename_i hq; rw [hq]; rfl) | (simp_all; done))
    apply aw_ret
    apply q_ret_seq
    simp only [QRet, QRetM, QRetX, retsX_nil, retsX_cons, objsAre, Tryd.results37, resA, mapO_nil, mapO_cons, vD_dat, vD_nils, vD_rp, vD_osl, vD_ptr, vD_agg, vD_fn, vL_dat, vL_app, viewL, avA, datsOf, fillA, seval, ↓List.forall_mem_cons, Op.operands, hP, hG, tiA]
    first | (rw [hv]; done) | (rw [hv]; rfl) | (rw [hv, if_pos (by omega), List.take_of_length_le (by omega)])
  · skip
    have h0 : ¬ validM c ≠ 0 := by omega
    have hc : OkC c := validM_ok.1 (by omega)
    have hn := hc.n64
    have hcr := hc.room
    have hcw := hc.wl
    have hp := shortM_ok hc
    have hpl := shortM_len c c.items.length
    have hsr := sums_range hc hp _ (Nat.le_refl _)
    rw [hpl] at hsr
    apply aw_skip
    apply q_seq
    apply aw_regs [1, 6] [1, 25]
    · simp (disch := omega) only [avR2, avA, datsOf, fillA, seval, ↓List.forall_mem_cons, Op.operands, hA, tiA]
      (repeat' refine And.intro ?_ ?_) <;> try first | omega | assumption | with_reducible rfl | exact rfl
      refine CallC.useX (fun _ => 25) [56] (by simp [LitD, hR.2.1]) (gvFX hP hG (short_okX G c hc)) rfl (lentX_of hN (by first | trivial | ((try simp only [haveL, AObj.ren, AV.ren, renL, ren_row, List.map_cons, List.map_nil, objL_cons, objL_nil]) <;> ((repeat' apply And.intro) <;> first | trivial | rfl))) (by rfl)) ?_
      try simp (maxSteps := 2000000) (disch := omega) only [avR2, avA, datsOf, fillA, seval, ↓List.forall_mem_cons, Op.operands, hA, tiA, avX]
      first | exact ⟨rfl, rfl⟩ | ((repeat' first | refine And.intro ?_ ?_ | intro _) <;> first | with_reducible rfl | assumption | omega | rfl | (rename_i hq; rw [hq]; rfl) | (simp_all; done))
    apply aw_regs [1, 6, 7, 8] [1, 25]
    · simp (disch := omega) only [avR2, avA, datsOf, fillA, seval, ↓List.forall_mem_cons, Op.operands, hA, tiA, hpl]
      (repeat' refine And.intro ?_ ?_) <;> try first | omega | assumption | with_reducible rfl | exact rfl | (intro hside; (repeat' refine And.intro ?_ ?_) <;> first | exact hside | omega | (rw [hside]; rfl) | (simp_all; done))
      refine CallC.use (gvF hP hG (cost_ok G c (shortM c c.items.length) hc hp)) (by simp only [callArgs, mapO_nil, mapO_cons, vD_dat, vD_nils, vD_rp, vD_osl, vD_ptr, vD_agg, vD_fn, vL_dat, vL_app, avA, datsOf, fillA, seval, ↓List.forall_mem_cons, Op.operands, hpl] <;> rfl) ?_
      try simp (maxSteps := 2000000) (disch := omega) only [avR2, avA, datsOf, fillA, seval, ↓List.forall_mem_cons, Op.operands, hA, tiA, hpl]
      first | exact ⟨rfl, rfl⟩ | ((repeat' first | refine And.intro ?_ ?_ | intro _) <;> first | with_reducible rfl | assumption | omega | rfl | (rename_i hq; rw [hq]; rfl) | (simp_all; done))
    apply aw_seq
    apply aw_regs [1, 6, 7, 8, 35] [1, 25]
    · simp (disch := omega) only [avR2, avA, datsOf, fillA, seval, ↓List.forall_mem_cons, Op.operands, hA, tiA]
      first | exact ⟨rfl, rfl⟩ | ((repeat' first | refine And.intro ?_ ?_ | intro _) <;> first | with_reducible rfl | assumption | omega | rfl | (rename_i hq; rw [hq]; rfl) | (simp_all; done))
    refine aw_if _ rfl (fun hb => ?_) (fun hb => ?_) <;> (try simp only [pickB_true, pickB_false, Bool.false_or, Bool.false_and, Bool.true_and, decide_eq_true_eq, decide_eq_false_iff_not, Bool.or_eq_true, Bool.and_eq_true, Bool.or_eq_false_iff, Bool.and_eq_false_imp, Bool.not_eq_true, Bool.not_eq_false, Bool.not_eq_eq_eq_not, Bool.not_true, Bool.not_false, Int.not_lt, Int.not_le, beq_iff_eq, beq_eq_false_iff_ne, bne_iff_ne, bne_eq_false_iff_eq, ne_eq, Bool.true_eq_false, Bool.false_eq_true, if_false_left, if_true_left, Bool.not_eq_eq_eq_not, Bool.decide_eq_true, Classical.not_not] at hb)
    · skip
      have hv : greedyM c = ([], 0, 21) := by
        unfold greedyM
        rw [if_neg h0, if_pos hb]
      apply aw_regs [2, 3, 4] [25]
      · simp (disch := omega) only [avR2, avA, datsOf, fillA, seval, ↓List.forall_mem_cons, Op.operands, hA, tiA]
        first | exact ⟨rfl, rfl⟩ | ((repeat' first | refine And.intro ?_ ?_ | intro _) <;> first | with_reducible rfl | assumption | omega | rfl | (rename_i hq; rw [hq]; rfl) | (simp_all; done))
      apply aw_ret
      apply q_ret_seq
      simp only [QRet, QRetM, QRetX, retsX_nil, retsX_cons, objsAre, Tryd.results37, resA, mapO_nil, mapO_cons, vD_dat, vD_nils, vD_rp, vD_osl, vD_ptr, vD_agg, vD_fn, vL_dat, vL_app, viewL, avA, datsOf, fillA, seval, ↓List.forall_mem_cons, Op.operands, hP, hG, tiA]
      first | (rw [hv]; done) | (rw [hv]; rfl) | (rw [hv, if_pos (by omega), List.take_of_length_le (by omega)])
    · skip
      have hfit : linesM c (shortM c c.items.length) c.items.length ≤ c.room := by omega
      apply aw_skip
      apply q_seq
      apply aw_block
      refine aw_loop (ι := {x : Nat × List Int // GAt c (gRun c (gFuel c (shortM c c.items.length)) (shortM c c.items.length)) x}) (fun ⟨x, hx⟩ => .of [(1, .ptr 1 3 0 0), (6, .osl 25 1 0 c.items.length), (7, .dat (iD (turnsM c x.2 c.items.length))), (8, .dat (iD (linesM c x.2 c.items.length)))] [(1, ⟨3, [.dat (caseD c)]⟩), (25, ⟨1, (x.2.map iD).map .dat⟩)]) (fun ⟨x, hx⟩ => x.1) (⟨(gFuel c (shortM c c.items.length), shortM c c.items.length), GAt.start hc hfit⟩) (Le.of ?_ ?_) fun ix => ?_
      · try simp (disch := omega) only [LeE, LeO, avA, datsOf, fillA, seval, ↓List.forall_mem_cons, Op.operands, hst, set_row]
        all_goals first | done | (repeat' apply And.intro) <;> first | rfl | omega | assumption | (simp only [AV.dat.injEq, Dat.int.injEq, true_and]; omega) | (congr <;> omega)
      · try simp (disch := omega) only [LeE, LeO, avA, datsOf, fillA, seval, ↓List.forall_mem_cons, Op.operands, hst, set_row]
        all_goals first | done | (repeat' apply And.intro) <;> first | rfl | omega | assumption | (simp only [AV.dat.injEq, Dat.int.injEq, true_and]; omega) | (congr <;> omega)
      obtain ⟨x, hx⟩ := ix
      dsimp only
      have hxo := hx.ok
      have hxl := hx.len
      have hxf := hx.fits
      have hxs := sums_range hc hxo c.items.length (by omega)
      have hgI := gI_ok (c := c) (pick := x.2) (L := linesM c x.2 c.items.length)
      apply aw_block
      apply aw_regs [1, 6, 7, 8, 9, 10, 11, 12] [1, 25]
      · simp (disch := omega) only [avR2, avA, datsOf, fillA, seval, ↓List.forall_mem_cons, Op.operands, hA, tiA]
        first | exact ⟨rfl, rfl⟩ | ((repeat' first | refine And.intro ?_ ?_ | intro _) <;> first | with_reducible rfl | assumption | omega | rfl | (rename_i hq; rw [hq]; rfl) | (simp_all; done))
      apply aw_seq
      apply aw_regs [1, 6, 7, 8, 9, 10, 11, 12, 37, 38, 39] [1, 25]
      · simp (disch := omega) only [avR2, avA, datsOf, fillA, seval, ↓List.forall_mem_cons, Op.operands, hA, tiA]
        first | exact ⟨rfl, rfl⟩ | ((repeat' first | refine And.intro ?_ ?_ | intro _) <;> first | with_reducible rfl | assumption | omega | rfl | (rename_i hq; rw [hq]; rfl) | (simp_all; done))
      apply aw_block
      refine aw_loop (ι := {i : Nat // i ≤ c.items.length}) (fun ⟨i, hi⟩ => .of [(1, .ptr 1 3 0 0), (6, .osl 25 1 0 c.items.length), (7, .dat (iD (turnsM c x.2 c.items.length))), (8, .dat (iD (linesM c x.2 c.items.length))), (9, .dat (iD (gI c x.2 (linesM c x.2 c.items.length) i).1)), (10, .dat (iD (gI c x.2 (linesM c x.2 c.items.length) i).2.1)), (11, .dat (iD (gI c x.2 (linesM c x.2 c.items.length) i).2.2.1)), (12, .dat (iD (gI c x.2 (linesM c x.2 c.items.length) i).2.2.2)), (37, .dat (.sl (c.items.map osD))), (38, .dat (iD c.items.length)), (39, .dat (iD i))] [(1, ⟨3, [.dat (caseD c)]⟩), (25, ⟨1, (x.2.map iD).map .dat⟩)]) (fun ⟨i, hi⟩ => c.items.length - i) (⟨0, by omega⟩) (Le.of ?_ ?_) fun ix => ?_
      · try simp (disch := omega) only [LeE, LeO, avA, datsOf, fillA, seval, ↓List.forall_mem_cons, Op.operands, gI]
        all_goals first | done | (repeat' apply And.intro) <;> first | rfl | omega | assumption | (simp only [AV.dat.injEq, Dat.int.injEq, true_and]; omega) | (congr <;> omega)
      · try simp (disch := omega) only [LeE, LeO, avA, datsOf, fillA, seval, ↓List.forall_mem_cons, Op.operands, gI]
        all_goals first | done | (repeat' apply And.intro) <;> first | rfl | omega | assumption | (simp only [AV.dat.injEq, Dat.int.injEq, true_and]; omega) | (congr <;> omega)
      obtain ⟨i, hi⟩ := ix
      dsimp only
      apply aw_regs [1, 6, 7, 8, 9, 10, 11, 12, 37, 38, 39, 40] [1, 25]
      · simp (disch := omega) only [avR2, avA, datsOf, fillA, seval, ↓List.forall_mem_cons, Op.operands, hA, tiA]
        first | exact ⟨rfl, rfl⟩ | ((repeat' first | refine And.intro ?_ ?_ | intro _) <;> first | with_reducible rfl | assumption | omega | rfl | (rename_i hq; rw [hq]; rfl) | (simp_all; done))
      apply aw_seq
      refine aw_if _ rfl (fun hb => ?_) (fun hb => ?_) <;> (try simp only [pickB_true, pickB_false, Bool.false_or, Bool.false_and, Bool.true_and, decide_eq_true_eq, decide_eq_false_iff_not, Bool.or_eq_true, Bool.and_eq_true, Bool.or_eq_false_iff, Bool.and_eq_false_imp, Bool.not_eq_true, Bool.not_eq_false, Bool.not_eq_eq_eq_not, Bool.not_true, Bool.not_false, Int.not_lt, Int.not_le, beq_iff_eq, beq_eq_false_iff_ne, bne_iff_ne, bne_eq_false_iff_eq, ne_eq, Bool.true_eq_false, Bool.false_eq_true, if_false_left, if_true_left, Bool.not_eq_eq_eq_not, Bool.decide_eq_true, Classical.not_not] at hb)
      · skip
        have hil : i < c.items.length := by omega
        have hi8 := hc.n8 i hil
        have hi1 := hc.n1 i hil
        simp only [itemM] at hi8 hi1
        apply aw_skip
        apply q_seq
        apply aw_seq
        apply aw_block
        apply aw_regs [1, 6, 7, 8, 9, 10, 11, 12, 13, 14, 37, 38, 39] [1, 25]
        · simp (disch := omega) only [avR2, avA, datsOf, fillA, seval, ↓List.forall_mem_cons, Op.operands, hA, tiA]
          first | exact ⟨rfl, rfl⟩ | ((repeat' first | refine And.intro ?_ ?_ | intro _) <;> first | with_reducible rfl | assumption | omega | rfl | (rename_i hq; rw [hq]; rfl) | (simp_all; done))
        apply aw_regs [1, 6, 7, 8, 9, 10, 11, 12, 13, 14, 37, 38, 39, 44, 45, 46] [1, 25]
        · simp (disch := omega) only [avR2, avA, datsOf, fillA, seval, ↓List.forall_mem_cons, Op.operands, hA, tiA]
          first | exact ⟨rfl, rfl⟩ | ((repeat' first | refine And.intro ?_ ?_ | intro _) <;> first | with_reducible rfl | assumption | omega | rfl | (rename_i hq; rw [hq]; rfl) | (simp_all; done))
        apply aw_block
        refine aw_loop (ι := {k : Nat // k ≤ (c.items.getD i default).length}) (fun ⟨k, hk⟩ => .of [(1, .ptr 1 3 0 0), (6, .osl 25 1 0 c.items.length), (7, .dat (iD (turnsM c x.2 c.items.length))), (8, .dat (iD (linesM c x.2 c.items.length))), (9, .dat (iD (gK c x.2 (linesM c x.2 c.items.length) i (gI c x.2 (linesM c x.2 c.items.length) i) k).1)), (10, .dat (iD (gK c x.2 (linesM c x.2 c.items.length) i (gI c x.2 (linesM c x.2 c.items.length) i) k).2.1)), (11, .dat (iD (gK c x.2 (linesM c x.2 c.items.length) i (gI c x.2 (linesM c x.2 c.items.length) i) k).2.2.1)), (12, .dat (iD (gK c x.2 (linesM c x.2 c.items.length) i (gI c x.2 (linesM c x.2 c.items.length) i) k).2.2.2)), (13, .dat (iD i)), (14, .dat (osD (c.items.getD i default))), (37, .dat (.sl (c.items.map osD))), (38, .dat (iD c.items.length)), (39, .dat (iD i)), (44, .dat (osD (c.items.getD i default))), (45, .dat (iD (c.items.getD i default).length)), (46, .dat (iD k))] [(1, ⟨3, [.dat (caseD c)]⟩), (25, ⟨1, (x.2.map iD).map .dat⟩)]) (fun ⟨k, hk⟩ => (c.items.getD i default).length - k) (⟨0, by omega⟩) (Le.of ?_ ?_) fun ix => ?_
        · try simp (disch := omega) only [LeE, LeO, avA, datsOf, fillA, seval, ↓List.forall_mem_cons, Op.operands, hst, gK_zero]
          all_goals first | done | (repeat' apply And.intro) <;> first | rfl | omega | assumption | (simp only [AV.dat.injEq, Dat.int.injEq, true_and]; omega) | (congr <;> omega)
        · try simp (disch := omega) only [LeE, LeO, avA, datsOf, fillA, seval, ↓List.forall_mem_cons, Op.operands, hst, gK_zero]
          all_goals first | done | (repeat' apply And.intro) <;> first | rfl | omega | assumption | (simp only [AV.dat.injEq, Dat.int.injEq, true_and]; omega) | (congr <;> omega)
        obtain ⟨k, hk⟩ := ix
        dsimp only
        apply aw_regs [1, 6, 7, 8, 9, 10, 11, 12, 13, 14, 37, 38, 39, 44, 45, 46, 47] [1, 25]
        · simp (disch := omega) only [avR2, avA, datsOf, fillA, seval, ↓List.forall_mem_cons, Op.operands, hA, tiA]
          first | exact ⟨rfl, rfl⟩ | ((repeat' first | refine And.intro ?_ ?_ | intro _) <;> first | with_reducible rfl | assumption | omega | rfl | (rename_i hq; rw [hq]; rfl) | (simp_all; done))
        apply aw_seq
        refine aw_if _ rfl (fun hb => ?_) (fun hb => ?_) <;> (try simp only [pickB_true, pickB_false, Bool.false_or, Bool.false_and, Bool.true_and, decide_eq_true_eq, decide_eq_false_iff_not, Bool.or_eq_true, Bool.and_eq_true, Bool.or_eq_false_iff, Bool.and_eq_false_imp, Bool.not_eq_true, Bool.not_eq_false, Bool.not_eq_eq_eq_not, Bool.not_true, Bool.not_false, Int.not_lt, Int.not_le, beq_iff_eq, beq_eq_false_iff_ne, bne_iff_ne, bne_eq_false_iff_eq, ne_eq, Bool.true_eq_false, Bool.false_eq_true, if_false_left, if_true_left, Bool.not_eq_eq_eq_not, Bool.decide_eq_true, Classical.not_not] at hb)
        · skip
          have hkl : k < (c.items.getD i default).length := by omega
          have hgk := gOk_num hc hxo hxl (gK_ok hil (hgI i hi) k hk)
          have hgr := gr_range hc hxo hxl hil hkl
          have hok := getD_all (hc.o i hil) (i := k) (by simp only [itemM]; omega)
          have hpo := hxo.opt hc (show i < x.2.length by omega)
          have hpa := hxo.at_ i (by omega)
          have hwi := hc.w i hil
          unfold okO at hok hpo
          simp only [itemM, optM, pickM, weightM] at hok hpo hpa hwi
          have hm1 := mulB (a := grS c x.2 i k) (b := (gK c x.2 (linesM c x.2 c.items.length) i (gI c x.2 (linesM c x.2 c.items.length) i) k).2.2.2) (A := 65536) (B := 64) (by omega) (by omega)
          have hm0 : -(64 * 65536) ≤ (gK c x.2 (linesM c x.2 c.items.length) i (gI c x.2 (linesM c x.2 c.items.length) i) k).2.2.1 * grA c x.2 i k ∧ (gK c x.2 (linesM c x.2 c.items.length) i (gI c x.2 (linesM c x.2 c.items.length) i) k).2.2.1 * grA c x.2 i k ≤ 64 * 65536 := by
            have := mulB (a := grA c x.2 i k) (b := (gK c x.2 (linesM c x.2 c.items.length) i (gI c x.2 (linesM c x.2 c.items.length) i) k).2.2.1) (A := 64) (B := 65536) (by omega) (by omega)
            rw [Int.mul_comm (gK c x.2 (linesM c x.2 c.items.length) i (gI c x.2 (linesM c x.2 c.items.length) i) k).2.2.1]
            exact this
          have hgr' := hgr
          have hgrA : grA c x.2 i k = ((c.items.getD i default).getD k default).1 - ((c.items.getD i default).getD (x.2.getD i default).toNat default).1 := rfl
          have hgrS : grS c x.2 i k = c.weights.getD i default * (((c.items.getD i default).getD (x.2.getD i default).toNat default).2 - ((c.items.getD i default).getD k default).2) := rfl
          rw [hgrS] at hm1
          rw [hgrA] at hm0
          rw [hgrA, hgrS] at hgr'
          apply aw_skip
          apply q_seq
          apply aw_seq
          apply aw_block
          apply aw_regs [1, 6, 7, 8, 9, 10, 11, 12, 13, 14, 15, 16, 37, 38, 39, 44, 45, 46] [1, 16, 25]
          · simp (disch := omega) only [avR2, avA, datsOf, fillA, seval, ↓List.forall_mem_cons, Op.operands, hA, tiA]
            first | exact ⟨rfl, rfl⟩ | ((repeat' first | refine And.intro ?_ ?_ | intro _) <;> first | with_reducible rfl | assumption | omega | rfl | (rename_i hq; rw [hq]; rfl) | (simp_all; done))
          apply aw_rgds [1, 6, 7, 8, 9, 10, 11, 12, 13, 14, 15, 17, 18, 37, 38, 39, 44, 45, 46] [1, 25] [0, 1, 2, 3, 4, 5, 6, 7, 8, 9, 10, 11, 12, 13, 14, 15, 16, 17, 18, 19, 20, 21, 22, 23, 24, 25, 26, 27, 28, 29] []
          · rw [hP]; kernel_rfl
          · exact hR
          · kernel_rfl
          · (repeat (apply PickL.cons; exact rfl)); exact PickL.nil _
          · simp (maxSteps := 2000000) (disch := omega) only [avR2, avA, datsOf, fillA, seval, ↓List.forall_mem_cons, Op.operands, hA, tiA]
            first | exact ⟨rfl, rfl⟩ | ((repeat' first | refine And.intro ?_ ?_ | intro _) <;> first | with_reducible rfl | assumption | omega | rfl | (rename_i hq; rw [hq]; rfl) | (simp_all; done))
          apply aw_regs [1, 6, 7, 8, 9, 10, 11, 12, 13, 14, 15, 17, 18, 37, 38, 39, 44, 45, 46, 101] [1, 25]
          · simp (maxSteps := 2000000) (disch := omega) only [avR2, avA, datsOf, fillA, seval, ↓List.forall_mem_cons, Op.operands, hA, tiA]
            first | exact ⟨rfl, rfl⟩ | ((repeat' first | refine And.intro ?_ ?_ | intro _) <;> first | with_reducible rfl | assumption | omega | rfl | (rename_i hq; rw [hq]; rfl) | (simp_all; done))
          refine aw_if _ rfl (fun hb => ?_) (fun hb => ?_) <;> (try simp only [pickB_true, pickB_false, Bool.false_or, Bool.false_and, Bool.true_and, decide_eq_true_eq, decide_eq_false_iff_not, Bool.or_eq_true, Bool.and_eq_true, Bool.or_eq_false_iff, Bool.and_eq_false_imp, Bool.not_eq_true, Bool.not_eq_false, Bool.not_eq_eq_eq_not, Bool.not_true, Bool.not_false, Int.not_lt, Int.not_le, beq_iff_eq, beq_eq_false_iff_ne, bne_iff_ne, bne_eq_false_iff_eq, ne_eq, Bool.true_eq_false, Bool.false_eq_true, if_false_left, if_true_left, Bool.not_eq_eq_eq_not, Bool.decide_eq_true, Classical.not_not] at hb)
          · skip
            have hst : gK c x.2 (linesM c x.2 c.items.length) i (gI c x.2 (linesM c x.2 c.items.length) i) (k + 1) = ((i : Int), (k : Int), grS c x.2 i k, grA c x.2 i k) := by
              simp only [gK, gStep]
              rw [hgrA, hgrS]
              rw [if_pos (by omega)]
            apply aw_reg [1, 6, 7, 8, 9, 10, 11, 12, 13, 14, 37, 38, 39, 44, 45, 46] [1, 25]
            · simp (disch := omega) only [avR2, avA, datsOf, fillA, seval, ↓List.forall_mem_cons, Op.operands, hA, tiA]
              first | exact ⟨rfl, rfl⟩ | ((repeat' first | refine And.intro ?_ ?_ | intro _) <;> first | with_reducible rfl | assumption | omega | rfl | (rename_i hq; rw [hq]; rfl) | (simp_all; done))
            apply q_block
            apply q_seq
            apply aw_reg [1, 6, 7, 8, 9, 10, 11, 12, 13, 14, 37, 38, 39, 44, 45, 46] [1, 25]
            · simp (disch := omega) only [avR2, avA, datsOf, fillA, seval, ↓List.forall_mem_cons, Op.operands, hA, tiA]
              first | exact ⟨rfl, rfl⟩ | ((repeat' first | refine And.intro ?_ ?_ | intro _) <;> first | with_reducible rfl | assumption | omega | rfl | (rename_i hq; rw [hq]; rfl) | (simp_all; done))
            refine q_loop (⟨k + 1, by omega⟩) (Le.of ?_ ?_) (by dsimp only; omega)
            · try simp (disch := omega) only [LeE, LeO, avA, datsOf, fillA, seval, ↓List.forall_mem_cons, Op.operands, hst, gK_zero]
              all_goals first | done | (repeat' apply And.intro) <;> first | rfl | omega | assumption | (simp only [AV.dat.injEq, Dat.int.injEq, true_and]; omega) | (congr <;> omega)
            · try simp (disch := omega) only [LeE, LeO, avA, datsOf, fillA, seval, ↓List.forall_mem_cons, Op.operands, hst, gK_zero]
              all_goals first | done | (repeat' apply And.intro) <;> first | rfl | omega | assumption | (simp only [AV.dat.injEq, Dat.int.injEq, true_and]; omega) | (congr <;> omega)
          · skip
            have hst : gK c x.2 (linesM c x.2 c.items.length) i (gI c x.2 (linesM c x.2 c.items.length) i) (k + 1) = gK c x.2 (linesM c x.2 c.items.length) i (gI c x.2 (linesM c x.2 c.items.length) i) k := by
              simp only [gK, gStep]
              rw [hgrA, hgrS]
              rw [if_neg (by omega)]
            apply aw_skip
            apply q_block
            apply q_seq
            apply aw_reg [1, 6, 7, 8, 9, 10, 11, 12, 13, 14, 37, 38, 39, 44, 45, 46] [1, 25]
            · simp (disch := omega) only [avR2, avA, datsOf, fillA, seval, ↓List.forall_mem_cons, Op.operands, hA, tiA]
              first | exact ⟨rfl, rfl⟩ | ((repeat' first | refine And.intro ?_ ?_ | intro _) <;> first | with_reducible rfl | assumption | omega | rfl | (rename_i hq; rw [hq]; rfl) | (simp_all; done))
            refine q_loop (⟨k + 1, by omega⟩) (Le.of ?_ ?_) (by dsimp only; omega)
            · try simp (disch := omega) only [LeE, LeO, avA, datsOf, fillA, seval, ↓List.forall_mem_cons, Op.operands, hst, gK_zero]
              all_goals first | done | (repeat' apply And.intro) <;> first | rfl | omega | assumption | (simp only [AV.dat.injEq, Dat.int.injEq, true_and]; omega) | (congr <;> omega)
            · try simp (disch := omega) only [LeE, LeO, avA, datsOf, fillA, seval, ↓List.forall_mem_cons, Op.operands, hst, gK_zero]
              all_goals first | done | (repeat' apply And.intro) <;> first | rfl | omega | assumption | (simp only [AV.dat.injEq, Dat.int.injEq, true_and]; omega) | (congr <;> omega)
        · skip
          have hkk : k = (c.items.getD i default).length := by omega
          subst hkk
          apply aw_exit
          apply q_exit_seq
          apply q_exit_loop
          apply q_exit
          apply q_block
          apply q_seq
          apply aw_reg [1, 6, 7, 8, 9, 10, 11, 12, 37, 38, 39] [1, 25]
          · simp (disch := omega) only [avR2, avA, datsOf, fillA, seval, ↓List.forall_mem_cons, Op.operands, hA, tiA]
            first | exact ⟨rfl, rfl⟩ | ((repeat' first | refine And.intro ?_ ?_ | intro _) <;> first | with_reducible rfl | assumption | omega | rfl | (rename_i hq; rw [hq]; rfl) | (simp_all; done))
          refine q_loop (⟨i + 1, by omega⟩) (Le.of ?_ ?_) (by dsimp only; omega)
          · try simp (disch := omega) only [LeE, LeO, avA, datsOf, fillA, seval, ↓List.forall_mem_cons, Op.operands, gI]
            all_goals first | done | (repeat' apply And.intro) <;> first | rfl | omega | assumption | (simp only [AV.dat.injEq, Dat.int.injEq, true_and]; omega) | (congr <;> omega)
          · try simp (disch := omega) only [LeE, LeO, avA, datsOf, fillA, seval, ↓List.forall_mem_cons, Op.operands, gI]
            all_goals first | done | (repeat' apply And.intro) <;> first | rfl | omega | assumption | (simp only [AV.dat.injEq, Dat.int.injEq, true_and]; omega) | (congr <;> omega)
      · skip
        have hii : i = c.items.length := by omega
        subst hii
        have hgn := gOk_num hc hxo hxl (hgI c.items.length (Nat.le_refl _))
        apply aw_exit
        apply q_exit_seq
        apply q_exit_loop
        apply q_exit
        apply q_seq
        apply aw_seq
        apply aw_regs [1, 6, 7, 8, 9, 10, 11, 12, 109] [1, 25]
        · simp (disch := omega) only [avR2, avA, datsOf, fillA, seval, ↓List.forall_mem_cons, Op.operands, hA, tiA]
          first | exact ⟨rfl, rfl⟩ | ((repeat' first | refine And.intro ?_ ?_ | intro _) <;> first | with_reducible rfl | assumption | omega | rfl | (rename_i hq; rw [hq]; rfl) | (simp_all; done))
        refine aw_if _ rfl (fun hb => ?_) (fun hb => ?_) <;> (try simp only [pickB_true, pickB_false, Bool.false_or, Bool.false_and, Bool.true_and, decide_eq_true_eq, decide_eq_false_iff_not, Bool.or_eq_true, Bool.and_eq_true, Bool.or_eq_false_iff, Bool.and_eq_false_imp, Bool.not_eq_true, Bool.not_eq_false, Bool.not_eq_eq_eq_not, Bool.not_true, Bool.not_false, Int.not_lt, Int.not_le, beq_iff_eq, beq_eq_false_iff_ne, bne_iff_ne, bne_eq_false_iff_eq, ne_eq, Bool.true_eq_false, Bool.false_eq_true, if_false_left, if_true_left, Bool.not_eq_eq_eq_not, Bool.decide_eq_true, Classical.not_not] at hb)
        · skip
          have hv : greedyM c = (x.2, turnsM c x.2 c.items.length, 0) := by
            have := hx.stop hc hb
            unfold greedyM
            rw [if_neg h0, if_neg (by omega), this]
          apply aw_regs [2, 3, 4] [25]
          · simp (disch := omega) only [avR2, avA, datsOf, fillA, seval, ↓List.forall_mem_cons, Op.operands, hA, tiA]
            first | exact ⟨rfl, rfl⟩ | ((repeat' first | refine And.intro ?_ ?_ | intro _) <;> first | with_reducible rfl | assumption | omega | rfl | (rename_i hq; rw [hq]; rfl) | (simp_all; done))
          apply aw_ret
          apply q_ret_seq
          apply q_ret_block
          apply q_ret_loop
          apply q_ret_block
          simp only [QRet, QRetM, QRetX, retsX_nil, retsX_cons, objsAre, Tryd.results37, resA, mapO_nil, mapO_cons, vD_dat, vD_nils, vD_rp, vD_osl, vD_ptr, vD_agg, vD_fn, vL_dat, vL_app, viewL, avA, datsOf, fillA, seval, ↓List.forall_mem_cons, Op.operands, hP, hG, tiA]
          first | (rw [hv]; done) | (rw [hv]; rfl) | (rw [hv, if_pos (by omega), List.take_of_length_le (by omega)])
        · skip
          obtain ⟨hx1, hnx, hln, htn⟩ := hx.next hc (by omega)
          apply aw_skip
          apply q_seq
          apply aw_regs [1, 6, 7, 8, 11, 12] [1, 25]
          · simp (disch := omega) only [avR2, avA, datsOf, fillA, seval, ↓List.forall_mem_cons, Op.operands, hA, tiA]
            first | exact ⟨rfl, rfl⟩ | ((repeat' first | refine And.intro ?_ ?_ | intro _) <;> first | with_reducible rfl | assumption | omega | rfl | (rename_i hq; rw [hq]; rfl) | (simp_all; done))
          apply aw_regs [1, 6, 7, 8, 12] [1, 25]
          · simp (disch := omega) only [avR2, avA, datsOf, fillA, seval, ↓List.forall_mem_cons, Op.operands, hA, tiA]
            first | exact ⟨rfl, rfl⟩ | ((repeat' first | refine And.intro ?_ ?_ | intro _) <;> first | with_reducible rfl | assumption | omega | rfl | (rename_i hq; rw [hq]; rfl) | (simp_all; done))
          apply aw_reg [1, 6, 7, 8] [1, 25]
          · simp (disch := omega) only [avR2, avA, datsOf, fillA, seval, ↓List.forall_mem_cons, Op.operands, hA, tiA]
            first | exact ⟨rfl, rfl⟩ | ((repeat' first | refine And.intro ?_ ?_ | intro _) <;> first | with_reducible rfl | assumption | omega | rfl | (rename_i hq; rw [hq]; rfl) | (simp_all; done))
          apply q_block
          refine q_loop (⟨(x.1 - 1, x.2.set (gI c x.2 (linesM c x.2 c.items.length) c.items.length).1.toNat (gI c x.2 (linesM c x.2 c.items.length) c.items.length).2.1), hnx⟩) (Le.of ?_ ?_) (by dsimp only; omega)
          · try simp (disch := omega) only [LeE, LeO, avA, datsOf, fillA, seval, ↓List.forall_mem_cons, Op.operands, hst, set_row]
            all_goals first | done | (repeat' apply And.intro) <;> first | rfl | omega | assumption | (simp only [AV.dat.injEq, Dat.int.injEq, true_and]; omega) | (congr <;> omega)
          · try simp (disch := omega) only [LeE, LeO, avA, datsOf, fillA, seval, ↓List.forall_mem_cons, Op.operands, hst, set_row]
            all_goals first | done | (repeat' apply And.intro) <;> first | rfl | omega | assumption | (simp only [AV.dat.injEq, Dat.int.injEq, true_and]; omega) | (congr <;> omega)

end Go.Proofs.YthcfjdkflmkhbaaDoor

namespace Go.Proofs.YthcfjdkflmkhbaaDoor
open Go.Av


set_option maxHeartbeats 2000000 in
theorem rgreedy_ok (G) (c : CaseM) (hs : SzC c) : Gives Tryd.prog G 38 [caseD c] [isD (greedyM c).1, iD (greedyM c).2.1, iD (greedyM c).2.2] := by
  have hst : (0 : Nat) = 0 := rfl
  have hni := hs.ni
  skip
  refine gives_intro [] [26] [] Tryd.func38 rfl (by rfl) (by simp [Tryd.ntmps38]) fun F hP hG hN hR => ?_
  rw [Tryd.ntmps38] at hN
  have hA := And.intro hN (And.intro hP (And.intro hG (And.intro hR.1 (And.intro hR.2.1 hR.2.2.1))))
  apply aw_regs [1] [1, 26]
  · simp (disch := omega) only [avR2, avA, datsOf, fillA, seval, ↓List.forall_mem_cons, Op.operands, hA, tiA]
    first | exact ⟨rfl, rfl⟩ | ((repeat' first | refine And.intro ?_ ?_ | intro _) <;> first | with_reducible rfl | assumption | omega | rfl | (rename_i hq; rw [hq]; rfl) | (simp_all; done))
  apply aw_regs [1, 5] [1, 26]
  · simp (disch := omega) only [avR2, avA, datsOf, fillA, seval, ↓List.forall_mem_cons, Op.operands, hA, tiA]
    (repeat' refine And.intro ?_ ?_) <;> try first | omega | assumption | with_reducible rfl | exact rfl | (intro hside; (repeat' refine And.intro ?_ ?_) <;> first | exact hside | omega | (rw [hside]; rfl) | (simp_all; done))
    refine CallC.use (gvF hP hG (rvalid_ok G c hs)) rfl ?_
    try simp (maxSteps := 2000000) (disch := omega) only [avR2, avA, datsOf, fillA, seval, ↓List.forall_mem_cons, Op.operands, hA, tiA]
    first | exact ⟨rfl, rfl⟩ | ((repeat' first | refine And.intro ?_ ?_ | intro _) <;> first | with_reducible rfl | assumption | omega | rfl | (rename_i hq; rw [hq]; rfl) | (simp_all; done))
  apply aw_seq
  apply aw_regs [1, 5, 20] [1, 26]
  · simp (disch := omega) only [avR2, avA, datsOf, fillA, seval, ↓List.forall_mem_cons, Op.operands, hA, tiA]
    first | exact ⟨rfl, rfl⟩ | ((repeat' first | refine And.intro ?_ ?_ | intro _) <;> first | with_reducible rfl | assumption | omega | rfl | (rename_i hq; rw [hq]; rfl) | (simp_all; done))
  refine aw_if _ rfl (fun hb => ?_) (fun hb => ?_) <;> (try simp only [pickB_true, pickB_false, Bool.false_or, Bool.false_and, Bool.true_and, decide_eq_true_eq, decide_eq_false_iff_not, Bool.or_eq_true, Bool.and_eq_true, Bool.or_eq_false_iff, Bool.and_eq_false_imp, Bool.not_eq_true, Bool.not_eq_false, Bool.not_eq_eq_eq_not, Bool.not_true, Bool.not_false, Int.not_lt, Int.not_le, beq_iff_eq, beq_eq_false_iff_ne, bne_iff_ne, bne_eq_false_iff_eq, ne_eq, Bool.true_eq_false, Bool.false_eq_true, if_false_left, if_true_left, Bool.not_eq_eq_eq_not, Bool.decide_eq_true, Classical.not_not] at hb)
  · skip
    have hv : greedyM c = ([], 0, validM c) := by
      unfold greedyM
      rw [if_pos hb]
    apply aw_regs [2, 3, 4] [26]
    · simp (disch := omega) only [avR2, avA, datsOf, fillA, seval, ↓List.forall_mem_cons, Op.operands, hA, tiA]
      first | exact ⟨rfl, rfl⟩ | ((repeat' first | refine And.intro ?_ ?_ | intro _) <;> first | with_reducible rfl | assumption | omega | rfl | (rename_i hq; rw [hq]; rfl) | (simp_all; done))
    apply aw_ret
    apply q_ret_seq
    simp only [QRet, QRetM, QRetX, retsX_nil, retsX_cons, objsAre, Tryd.results38, resA, mapO_nil, mapO_cons, vD_dat, vD_nils, vD_rp, vD_osl, vD_ptr, vD_agg, vD_fn, vL_dat, vL_app, viewL, avA, datsOf, fillA, seval, ↓List.forall_mem_cons, Op.operands, hP, hG, tiA]
    first | (rw [hv]; done) | (rw [hv]; rfl) | (rw [hv, if_pos (by omega), List.take_of_length_le (by omega)])
    
  · skip
    have h0 : ¬ validM c ≠ 0 := by omega
    have hc : OkC c := validM_ok.1 (by omega)
    have hn := hc.n64
    have hcr := hc.room
    have hcw := hc.wl
    have hp := shortM_ok hc
    have hpl := shortM_len c c.items.length
    apply aw_skip
    apply q_seq
    apply aw_seq
    apply aw_regs [1, 24] [1, 26]
    · simp (disch := omega) only [avR2, avA, datsOf, fillA, seval, ↓List.forall_mem_cons, Op.operands, hA, tiA]
      (repeat' refine And.intro ?_ ?_) <;> try first | omega | assumption | with_reducible rfl | exact rfl | (intro hside; (repeat' refine And.intro ?_ ?_) <;> first | exact hside | omega | (rw [hside]; rfl) | (simp_all; done))
      refine CallC.use (gvF hP hG (fits_ok G c hc)) rfl ?_
      try simp (maxSteps := 2000000) (disch := omega) only [avR2, avA, datsOf, fillA, seval, ↓List.forall_mem_cons, Op.operands, hA, tiA, hpl]
      first | exact ⟨rfl, rfl⟩ | ((repeat' first | refine And.intro ?_ ?_ | intro _) <;> first | with_reducible rfl | assumption | omega | rfl | (rename_i hq; rw [hq]; rfl) | (simp_all; done))
    refine aw_if _ rfl (fun hb => ?_) (fun hb => ?_) <;> (try simp only [pickB_true, pickB_false, Bool.false_or, Bool.false_and, Bool.true_and, decide_eq_true_eq, decide_eq_false_iff_not, Bool.or_eq_true, Bool.and_eq_true, Bool.or_eq_false_iff, Bool.and_eq_false_imp, Bool.not_eq_true, Bool.not_eq_false, Bool.not_eq_eq_eq_not, Bool.not_true, Bool.not_false, Int.not_lt, Int.not_le, beq_iff_eq, beq_eq_false_iff_ne, bne_iff_ne, bne_eq_false_iff_eq, ne_eq, Bool.true_eq_false, Bool.false_eq_true, if_false_left, if_true_left, Bool.not_eq_eq_eq_not, Bool.decide_eq_true, Classical.not_not] at hb)
    · skip
      have hv : greedyM c = ([], 0, 21) := by
        unfold greedyM
        rw [if_neg h0, if_pos (by omega)]
      apply aw_regs [2, 3, 4] [26]
      · simp (disch := omega) only [avR2, avA, datsOf, fillA, seval, ↓List.forall_mem_cons, Op.operands, hA, tiA]
        first | exact ⟨rfl, rfl⟩ | ((repeat' first | refine And.intro ?_ ?_ | intro _) <;> first | with_reducible rfl | assumption | omega | rfl | (rename_i hq; rw [hq]; rfl) | (simp_all; done))
      apply aw_ret
      apply q_ret_seq
      simp only [QRet, QRetM, QRetX, retsX_nil, retsX_cons, objsAre, Tryd.results38, resA, mapO_nil, mapO_cons, vD_dat, vD_nils, vD_rp, vD_osl, vD_ptr, vD_agg, vD_fn, vL_dat, vL_app, viewL, avA, datsOf, fillA, seval, ↓List.forall_mem_cons, Op.operands, hP, hG, tiA]
      first | (rw [hv]; done) | (rw [hv]; rfl) | (rw [hv, if_pos (by omega), List.take_of_length_le (by omega)])
      
    · skip
      have hfit : linesM c (shortM c c.items.length) c.items.length ≤ c.room := by omega
      apply aw_skip
      apply q_seq
      apply aw_regs [1, 6] [1, 26]
      · simp (disch := omega) only [avR2, avA, datsOf, fillA, seval, ↓List.forall_mem_cons, Op.operands, hA, tiA]
        (repeat' refine And.intro ?_ ?_) <;> try first | omega | assumption | with_reducible rfl | exact rfl
        refine CallC.useX (fun _ => 26) [65] (by simp [LitD, hR.2.1]) (gvFX hP hG (rshort_okX G c hc)) rfl (lentX_of hN (by first | trivial | ((try simp only [haveL, AObj.ren, AV.ren, renL, ren_row, List.map_cons, List.map_nil, objL_cons, objL_nil]) <;> ((repeat' apply And.intro) <;> first | trivial | rfl))) (by rfl)) ?_
        try simp (maxSteps := 2000000) (disch := omega) only [avR2, avA, datsOf, fillA, seval, ↓List.forall_mem_cons, Op.operands, hA, tiA, avX]
        first | exact ⟨rfl, rfl⟩ | ((repeat' first | refine And.intro ?_ ?_ | intro _) <;> first | with_reducible rfl | assumption | omega | rfl | (rename_i hq; rw [hq]; rfl) | (simp_all; done))
      apply aw_block
      refine aw_loop (ι := {x : Nat × List Int // GAt c (gRun c (gFuel c (shortM c c.items.length)) (shortM c c.items.length)) x}) (fun ⟨x, hx⟩ => .of [(1, .ptr 1 3 0 0), (6, .osl 26 1 0 c.items.length)] [(1, ⟨3, [.dat (caseD c)]⟩), (26, ⟨1, (x.2.map iD).map .dat⟩)]) (fun ⟨x, hx⟩ => x.1) (⟨(gFuel c (shortM c c.items.length), shortM c c.items.length), GAt.start hc hfit⟩) (Le.of ?_ ?_) fun ix => ?_
      · try simp (disch := omega) only [LeE, LeO, avA, datsOf, fillA, seval, ↓List.forall_mem_cons, Op.operands, hst, set_row]
        all_goals first | done | (repeat' apply And.intro) <;> first | rfl | omega | assumption | (simp only [AV.dat.injEq, Dat.int.injEq, true_and]; omega) | (congr <;> omega)
      · try simp (disch := omega) only [LeE, LeO, avA, datsOf, fillA, seval, ↓List.forall_mem_cons, Op.operands, hst, set_row]
        all_goals first | done | (repeat' apply And.intro) <;> first | rfl | omega | assumption | (simp only [AV.dat.injEq, Dat.int.injEq, true_and]; omega) | (congr <;> omega)
      obtain ⟨x, hx⟩ := ix
      dsimp only
      have hxo := hx.ok
      have hxl := hx.len
      have hxf := hx.fits
      have hxs := sums_range hc hxo c.items.length (by omega)
      have hgI := gI_ok (c := c) (pick := x.2) (L := linesM c x.2 c.items.length)
      apply aw_block
      apply aw_regs [1, 6, 7, 8] [1, 26]
      · simp (disch := omega) only [avR2, avA, datsOf, fillA, seval, ↓List.forall_mem_cons, Op.operands, hA, tiA, hxl]
        (repeat' refine And.intro ?_ ?_) <;> try first | omega | assumption | with_reducible rfl | exact rfl | (intro hside; (repeat' refine And.intro ?_ ?_) <;> first | exact hside | omega | (rw [hside]; rfl) | (simp_all; done))
        refine CallC.use (gvF hP hG (sums_ok G c x.2 hc hxo)) (by simp only [callArgs, mapO_nil, mapO_cons, vD_dat, vD_nils, vD_rp, vD_osl, vD_ptr, vD_agg, vD_fn, vL_dat, vL_app, avA, datsOf, fillA, seval, ↓List.forall_mem_cons, Op.operands, hxl] <;> first | rfl | (rw [if_pos (by omega), List.take_of_length_le (by omega)]; rfl)) ?_
        try simp (maxSteps := 2000000) (disch := omega) only [avR2, avA, datsOf, fillA, seval, ↓List.forall_mem_cons, Op.operands, hA, tiA, hxl]
        first | exact ⟨rfl, rfl⟩ | ((repeat' first | refine And.intro ?_ ?_ | intro _) <;> first | with_reducible rfl | assumption | omega | rfl | (rename_i hq; rw [hq]; rfl) | (simp_all; done))
      apply aw_regs [1, 6, 7, 8, 9] [1, 26]
      · simp (disch := omega) only [avR2, avA, datsOf, fillA, seval, ↓List.forall_mem_cons, Op.operands, hA, tiA]
        first | exact ⟨rfl, rfl⟩ | ((repeat' first | refine And.intro ?_ ?_ | intro _) <;> first | with_reducible rfl | assumption | omega | rfl | (rename_i hq; rw [hq]; rfl) | (simp_all; done))
      apply aw_regs [1, 6, 7, 8, 9, 10] [1, 26]
      · simp (disch := omega) only [avR2, avA, datsOf, fillA, seval, ↓List.forall_mem_cons, Op.operands, hA, tiA]
        first | exact ⟨rfl, rfl⟩ | ((repeat' first | refine And.intro ?_ ?_ | intro _) <;> first | with_reducible rfl | assumption | omega | rfl | (rename_i hq; rw [hq]; rfl) | (simp_all; done))
      apply aw_regs [1, 6, 7, 8, 9, 10, 11] [1, 26]
      · simp (disch := omega) only [avR2, avA, datsOf, fillA, seval, ↓List.forall_mem_cons, Op.operands, hA, tiA]
        first | exact ⟨rfl, rfl⟩ | ((repeat' first | refine And.intro ?_ ?_ | intro _) <;> first | with_reducible rfl | assumption | omega | rfl | (rename_i hq; rw [hq]; rfl) | (simp_all; done))
      apply aw_regs [1, 6, 7, 8, 9, 10, 11, 12] [1, 26]
      · simp (disch := omega) only [avR2, avA, datsOf, fillA, seval, ↓List.forall_mem_cons, Op.operands, hA, tiA]
        first | exact ⟨rfl, rfl⟩ | ((repeat' first | refine And.intro ?_ ?_ | intro _) <;> first | with_reducible rfl | assumption | omega | rfl | (rename_i hq; rw [hq]; rfl) | (simp_all; done))
      apply aw_seq
      apply aw_regs [1, 6, 7, 8, 9, 10, 11, 12, 13] [1, 26]
      · simp (disch := omega) only [avR2, avA, datsOf, fillA, seval, ↓List.forall_mem_cons, Op.operands, hA, tiA]
        first | exact ⟨rfl, rfl⟩ | ((repeat' first | refine And.intro ?_ ?_ | intro _) <;> first | with_reducible rfl | assumption | omega | rfl | (rename_i hq; rw [hq]; rfl) | (simp_all; done))
      apply aw_block
      refine aw_loop (ι := {i : Nat // i ≤ c.items.length}) (fun ⟨i, hi⟩ => .of [(1, .ptr 1 3 0 0), (6, .osl 26 1 0 c.items.length), (7, .dat (iD (linesM c x.2 c.items.length))), (8, .dat (iD (turnsM c x.2 c.items.length))), (9, .dat (iD (gI c x.2 (linesM c x.2 c.items.length) i).1)), (10, .dat (iD (gI c x.2 (linesM c x.2 c.items.length) i).2.1)), (11, .dat (iD (gI c x.2 (linesM c x.2 c.items.length) i).2.2.1)), (12, .dat (iD (gI c x.2 (linesM c x.2 c.items.length) i).2.2.2)), (13, .dat (iD i))] [(1, ⟨3, [.dat (caseD c)]⟩), (26, ⟨1, (x.2.map iD).map .dat⟩)]) (fun ⟨i, hi⟩ => c.items.length - i) (⟨0, by omega⟩) (Le.of ?_ ?_) fun ix => ?_
      · try simp (disch := omega) only [LeE, LeO, avA, datsOf, fillA, seval, ↓List.forall_mem_cons, Op.operands, gI]
        all_goals first | done | (repeat' apply And.intro) <;> first | rfl | omega | assumption | (simp only [AV.dat.injEq, Dat.int.injEq, true_and]; omega) | (congr <;> omega)
      · try simp (disch := omega) only [LeE, LeO, avA, datsOf, fillA, seval, ↓List.forall_mem_cons, Op.operands, gI]
        all_goals first | done | (repeat' apply And.intro) <;> first | rfl | omega | assumption | (simp only [AV.dat.injEq, Dat.int.injEq, true_and]; omega) | (congr <;> omega)
      obtain ⟨i, hi⟩ := ix
      dsimp only
      apply aw_seq
      apply aw_regs [1, 6, 7, 8, 9, 10, 11, 12, 13, 37] [1, 26]
      · simp (disch := omega) only [avR2, avA, datsOf, fillA, seval, ↓List.forall_mem_cons, Op.operands, hA, tiA]
        first | exact ⟨rfl, rfl⟩ | ((repeat' first | refine And.intro ?_ ?_ | intro _) <;> first | with_reducible rfl | assumption | omega | rfl | (rename_i hq; rw [hq]; rfl) | (simp_all; done))
      refine aw_if _ rfl (fun hb => ?_) (fun hb => ?_) <;> (try simp only [pickB_true, pickB_false, Bool.false_or, Bool.false_and, Bool.true_and, decide_eq_true_eq, decide_eq_false_iff_not, Bool.or_eq_true, Bool.and_eq_true, Bool.or_eq_false_iff, Bool.and_eq_false_imp, Bool.not_eq_true, Bool.not_eq_false, Bool.not_eq_eq_eq_not, Bool.not_true, Bool.not_false, Int.not_lt, Int.not_le, beq_iff_eq, beq_eq_false_iff_ne, bne_iff_ne, bne_eq_false_iff_eq, ne_eq, Bool.true_eq_false, Bool.false_eq_true, if_false_left, if_true_left, Bool.not_eq_eq_eq_not, Bool.decide_eq_true, Classical.not_not] at hb)
      · skip
        have hil : i < c.items.length := by omega
        have hi8 := hc.n8 i hil
        have hi1 := hc.n1 i hil
        simp only [itemM] at hi8 hi1
        apply aw_skip
        apply q_seq
        apply aw_seq
        apply aw_block
        apply aw_regs [1, 6, 7, 8, 9, 10, 11, 12, 13, 14] [1, 26]
        · simp (disch := omega) only [avR2, avA, datsOf, fillA, seval, ↓List.forall_mem_cons, Op.operands, hA, tiA]
          first | exact ⟨rfl, rfl⟩ | ((repeat' first | refine And.intro ?_ ?_ | intro _) <;> first | with_reducible rfl | assumption | omega | rfl | (rename_i hq; rw [hq]; rfl) | (simp_all; done))
        apply aw_block
        refine aw_loop (ι := {k : Nat // k ≤ (c.items.getD i default).length}) (fun ⟨k, hk⟩ => .of [(1, .ptr 1 3 0 0), (6, .osl 26 1 0 c.items.length), (7, .dat (iD (linesM c x.2 c.items.length))), (8, .dat (iD (turnsM c x.2 c.items.length))), (9, .dat (iD (gK c x.2 (linesM c x.2 c.items.length) i (gI c x.2 (linesM c x.2 c.items.length) i) k).1)), (10, .dat (iD (gK c x.2 (linesM c x.2 c.items.length) i (gI c x.2 (linesM c x.2 c.items.length) i) k).2.1)), (11, .dat (iD (gK c x.2 (linesM c x.2 c.items.length) i (gI c x.2 (linesM c x.2 c.items.length) i) k).2.2.1)), (12, .dat (iD (gK c x.2 (linesM c x.2 c.items.length) i (gI c x.2 (linesM c x.2 c.items.length) i) k).2.2.2)), (13, .dat (iD i)), (14, .dat (iD k))] [(1, ⟨3, [.dat (caseD c)]⟩), (26, ⟨1, (x.2.map iD).map .dat⟩)]) (fun ⟨k, hk⟩ => (c.items.getD i default).length - k) (⟨0, by omega⟩) (Le.of ?_ ?_) fun ix => ?_
        · try simp (disch := omega) only [LeE, LeO, avA, datsOf, fillA, seval, ↓List.forall_mem_cons, Op.operands, hst, gK_zero]
          all_goals first | done | (repeat' apply And.intro) <;> first | rfl | omega | assumption | (simp only [AV.dat.injEq, Dat.int.injEq, true_and]; omega) | (congr <;> omega)
        · try simp (disch := omega) only [LeE, LeO, avA, datsOf, fillA, seval, ↓List.forall_mem_cons, Op.operands, hst, gK_zero]
          all_goals first | done | (repeat' apply And.intro) <;> first | rfl | omega | assumption | (simp only [AV.dat.injEq, Dat.int.injEq, true_and]; omega) | (congr <;> omega)
        obtain ⟨k, hk⟩ := ix
        dsimp only
        apply aw_seq
        apply aw_regs [1, 6, 7, 8, 9, 10, 11, 12, 13, 14, 47] [1, 26]
        · simp (disch := omega) only [avR2, avA, datsOf, fillA, seval, ↓List.forall_mem_cons, Op.operands, hA, tiA]
          first | exact ⟨rfl, rfl⟩ | ((repeat' first | refine And.intro ?_ ?_ | intro _) <;> first | with_reducible rfl | assumption | omega | rfl | (rename_i hq; rw [hq]; rfl) | (simp_all; done))
        refine aw_if _ rfl (fun hb => ?_) (fun hb => ?_) <;> (try simp only [pickB_true, pickB_false, Bool.false_or, Bool.false_and, Bool.true_and, decide_eq_true_eq, decide_eq_false_iff_not, Bool.or_eq_true, Bool.and_eq_true, Bool.or_eq_false_iff, Bool.and_eq_false_imp, Bool.not_eq_true, Bool.not_eq_false, Bool.not_eq_eq_eq_not, Bool.not_true, Bool.not_false, Int.not_lt, Int.not_le, beq_iff_eq, beq_eq_false_iff_ne, bne_iff_ne, bne_eq_false_iff_eq, ne_eq, Bool.true_eq_false, Bool.false_eq_true, if_false_left, if_true_left, Bool.not_eq_eq_eq_not, Bool.decide_eq_true, Classical.not_not] at hb)
        · skip
          have hkl : k < (c.items.getD i default).length := by omega
          have hgk := gOk_num hc hxo hxl (gK_ok hil (hgI i hi) k hk)
          have hgr := gr_range hc hxo hxl hil hkl
          have hok := getD_all (hc.o i hil) (i := k) (by simp only [itemM]; omega)
          have hpo := hxo.opt hc (show i < x.2.length by omega)
          have hpa := hxo.at_ i (by omega)
          have hwi := hc.w i hil
          unfold okO at hok hpo
          simp only [itemM, optM, pickM, weightM] at hok hpo hpa hwi
          have hm1 := mulB (a := grS c x.2 i k) (b := (gK c x.2 (linesM c x.2 c.items.length) i (gI c x.2 (linesM c x.2 c.items.length) i) k).2.2.2) (A := 65536) (B := 64) (by omega) (by omega)
          have hm0 : -(64 * 65536) ≤ (gK c x.2 (linesM c x.2 c.items.length) i (gI c x.2 (linesM c x.2 c.items.length) i) k).2.2.1 * grA c x.2 i k ∧ (gK c x.2 (linesM c x.2 c.items.length) i (gI c x.2 (linesM c x.2 c.items.length) i) k).2.2.1 * grA c x.2 i k ≤ 64 * 65536 := by
            have := mulB (a := grA c x.2 i k) (b := (gK c x.2 (linesM c x.2 c.items.length) i (gI c x.2 (linesM c x.2 c.items.length) i) k).2.2.1) (A := 64) (B := 65536) (by omega) (by omega)
            rw [Int.mul_comm (gK c x.2 (linesM c x.2 c.items.length) i (gI c x.2 (linesM c x.2 c.items.length) i) k).2.2.1]
            exact this
          have hgr' := hgr
          have hgrA : grA c x.2 i k = ((c.items.getD i default).getD k default).1 - ((c.items.getD i default).getD (x.2.getD i default).toNat default).1 := rfl
          have hgrS : grS c x.2 i k = c.weights.getD i default * (((c.items.getD i default).getD (x.2.getD i default).toNat default).2 - ((c.items.getD i default).getD k default).2) := rfl
          rw [hgrS] at hm1
          rw [hgrA] at hm0
          rw [hgrA, hgrS] at hgr'
          apply aw_skip
          apply q_seq
          apply aw_seq
          apply aw_block
          apply aw_rgds [1, 6, 7, 8, 9, 10, 11, 12, 13, 14, 15] [1, 26] [0, 1, 2, 3, 4, 5, 6, 7, 8, 9, 10, 11, 12, 13, 14, 15, 16, 17, 18, 19, 20, 21, 22] []
          · rw [hP]; kernel_rfl
          · exact hR
          · kernel_rfl
          · (repeat (apply PickL.cons; exact rfl)); exact PickL.nil _
          · simp (maxSteps := 2000000) (disch := omega) only [avR2, avA, datsOf, fillA, seval, ↓List.forall_mem_cons, Op.operands, hA, tiA]
            first | exact ⟨rfl, rfl⟩ | ((repeat' first | refine And.intro ?_ ?_ | intro _) <;> first | with_reducible rfl | assumption | omega | rfl | (rename_i hq; rw [hq]; rfl) | (simp_all; done))
          apply aw_rgds [1, 6, 7, 8, 9, 10, 11, 12, 13, 14, 15, 16] [1, 26] [0, 1, 2, 3, 4, 5, 6, 7, 8, 9, 10, 11, 12, 13, 14, 15, 16, 17, 18, 19, 20, 21, 22, 23, 24, 25, 26, 27, 28] []
          · rw [hP]; kernel_rfl
          · exact hR
          · kernel_rfl
          · (repeat (apply PickL.cons; exact rfl)); exact PickL.nil _
          · simp (maxSteps := 2000000) (disch := omega) only [avR2, avA, datsOf, fillA, seval, ↓List.forall_mem_cons, Op.operands, hA, tiA]
            first | exact ⟨rfl, rfl⟩ | ((repeat' first | refine And.intro ?_ ?_ | intro _) <;> first | with_reducible rfl | assumption | omega | rfl | (rename_i hq; rw [hq]; rfl) | (simp_all; done))
          apply aw_regs [1, 6, 7, 8, 9, 10, 11, 12, 13, 14, 15, 16, 122] [1, 26]
          · simp (maxSteps := 2000000) (disch := omega) only [avR2, avA, datsOf, fillA, seval, ↓List.forall_mem_cons, Op.operands, hA, tiA]
            first | exact ⟨rfl, rfl⟩ | ((repeat' first | refine And.intro ?_ ?_ | intro _) <;> first | with_reducible rfl | assumption | omega | rfl | (rename_i hq; rw [hq]; rfl) | (simp_all; done))
          refine aw_if _ rfl (fun hb => ?_) (fun hb => ?_) <;> (try simp only [pickB_true, pickB_false, Bool.false_or, Bool.false_and, Bool.true_and, decide_eq_true_eq, decide_eq_false_iff_not, Bool.or_eq_true, Bool.and_eq_true, Bool.or_eq_false_iff, Bool.and_eq_false_imp, Bool.not_eq_true, Bool.not_eq_false, Bool.not_eq_eq_eq_not, Bool.not_true, Bool.not_false, Int.not_lt, Int.not_le, beq_iff_eq, beq_eq_false_iff_ne, bne_iff_ne, bne_eq_false_iff_eq, ne_eq, Bool.true_eq_false, Bool.false_eq_true, if_false_left, if_true_left, Bool.not_eq_eq_eq_not, Bool.decide_eq_true, Classical.not_not] at hb)
          · skip
            have hst : gK c x.2 (linesM c x.2 c.items.length) i (gI c x.2 (linesM c x.2 c.items.length) i) (k + 1) = ((i : Int), (k : Int), grS c x.2 i k, grA c x.2 i k) := by
              simp only [gK, gStep]
              rw [hgrA, hgrS]
              rw [if_pos (by omega)]
            apply aw_regs [1, 6, 7, 8, 9, 13, 14, 15, 16] [1, 26]
            · simp (disch := omega) only [avR2, avA, datsOf, fillA, seval, ↓List.forall_mem_cons, Op.operands, hA, tiA]
              first | exact ⟨rfl, rfl⟩ | ((repeat' first | refine And.intro ?_ ?_ | intro _) <;> first | with_reducible rfl | assumption | omega | rfl | (rename_i hq; rw [hq]; rfl) | (simp_all; done))
            apply aw_regs [1, 6, 7, 8, 9, 10, 13, 14, 15, 16] [1, 26]
            · simp (disch := omega) only [avR2, avA, datsOf, fillA, seval, ↓List.forall_mem_cons, Op.operands, hA, tiA]
              first | exact ⟨rfl, rfl⟩ | ((repeat' first | refine And.intro ?_ ?_ | intro _) <;> first | with_reducible rfl | assumption | omega | rfl | (rename_i hq; rw [hq]; rfl) | (simp_all; done))
            apply aw_regs [1, 6, 7, 8, 9, 10, 11, 13, 14, 15] [1, 26]
            · simp (disch := omega) only [avR2, avA, datsOf, fillA, seval, ↓List.forall_mem_cons, Op.operands, hA, tiA]
              first | exact ⟨rfl, rfl⟩ | ((repeat' first | refine And.intro ?_ ?_ | intro _) <;> first | with_reducible rfl | assumption | omega | rfl | (rename_i hq; rw [hq]; rfl) | (simp_all; done))
            apply aw_reg [1, 6, 7, 8, 9, 10, 11, 12, 13, 14] [1, 26]
            · simp (disch := omega) only [avR2, avA, datsOf, fillA, seval, ↓List.forall_mem_cons, Op.operands, hA, tiA]
              first | exact ⟨rfl, rfl⟩ | ((repeat' first | refine And.intro ?_ ?_ | intro _) <;> first | with_reducible rfl | assumption | omega | rfl | (rename_i hq; rw [hq]; rfl) | (simp_all; done))
            apply q_block
            apply q_seq
            apply aw_reg [1, 6, 7, 8, 9, 10, 11, 12, 13, 14] [1, 26]
            · simp (disch := omega) only [avR2, avA, datsOf, fillA, seval, ↓List.forall_mem_cons, Op.operands, hA, tiA]
              first | exact ⟨rfl, rfl⟩ | ((repeat' first | refine And.intro ?_ ?_ | intro _) <;> first | with_reducible rfl | assumption | omega | rfl | (rename_i hq; rw [hq]; rfl) | (simp_all; done))
            refine q_loop (⟨k + 1, by omega⟩) (Le.of ?_ ?_) (by dsimp only; omega)
            · try simp (disch := omega) only [LeE, LeO, avA, datsOf, fillA, seval, ↓List.forall_mem_cons, Op.operands, hst, gK_zero]
              all_goals first | done | (repeat' apply And.intro) <;> first | rfl | omega | assumption | (simp only [AV.dat.injEq, Dat.int.injEq, true_and]; omega) | (congr <;> omega)
            · try simp (disch := omega) only [LeE, LeO, avA, datsOf, fillA, seval, ↓List.forall_mem_cons, Op.operands, hst, gK_zero]
              all_goals first | done | (repeat' apply And.intro) <;> first | rfl | omega | assumption | (simp only [AV.dat.injEq, Dat.int.injEq, true_and]; omega) | (congr <;> omega)
          · skip
            have hst : gK c x.2 (linesM c x.2 c.items.length) i (gI c x.2 (linesM c x.2 c.items.length) i) (k + 1) = gK c x.2 (linesM c x.2 c.items.length) i (gI c x.2 (linesM c x.2 c.items.length) i) k := by
              simp only [gK, gStep]
              rw [hgrA, hgrS]
              rw [if_neg (by omega)]
            apply aw_skip
            apply q_block
            apply q_seq
            apply aw_reg [1, 6, 7, 8, 9, 10, 11, 12, 13, 14] [1, 26]
            · simp (disch := omega) only [avR2, avA, datsOf, fillA, seval, ↓List.forall_mem_cons, Op.operands, hA, tiA]
              first | exact ⟨rfl, rfl⟩ | ((repeat' first | refine And.intro ?_ ?_ | intro _) <;> first | with_reducible rfl | assumption | omega | rfl | (rename_i hq; rw [hq]; rfl) | (simp_all; done))
            refine q_loop (⟨k + 1, by omega⟩) (Le.of ?_ ?_) (by dsimp only; omega)
            · try simp (disch := omega) only [LeE, LeO, avA, datsOf, fillA, seval, ↓List.forall_mem_cons, Op.operands, hst, gK_zero]
              all_goals first | done | (repeat' apply And.intro) <;> first | rfl | omega | assumption | (simp only [AV.dat.injEq, Dat.int.injEq, true_and]; omega) | (congr <;> omega)
            · try simp (disch := omega) only [LeE, LeO, avA, datsOf, fillA, seval, ↓List.forall_mem_cons, Op.operands, hst, gK_zero]
              all_goals first | done | (repeat' apply And.intro) <;> first | rfl | omega | assumption | (simp only [AV.dat.injEq, Dat.int.injEq, true_and]; omega) | (congr <;> omega)
        · skip
          have hkk : k = (c.items.getD i default).length := by omega
          subst hkk
          apply aw_exit
          apply q_exit_seq
          apply q_exit_loop
          apply q_exit
          apply q_block
          apply q_seq
          apply aw_reg [1, 6, 7, 8, 9, 10, 11, 12, 13] [1, 26]
          · simp (disch := omega) only [avR2, avA, datsOf, fillA, seval, ↓List.forall_mem_cons, Op.operands, hA, tiA]
            first | exact ⟨rfl, rfl⟩ | ((repeat' first | refine And.intro ?_ ?_ | intro _) <;> first | with_reducible rfl | assumption | omega | rfl | (rename_i hq; rw [hq]; rfl) | (simp_all; done))
          refine q_loop (⟨i + 1, by omega⟩) (Le.of ?_ ?_) (by dsimp only; omega)
          · try simp (disch := omega) only [LeE, LeO, avA, datsOf, fillA, seval, ↓List.forall_mem_cons, Op.operands, gI]
            all_goals first | done | (repeat' apply And.intro) <;> first | rfl | omega | assumption | (simp only [AV.dat.injEq, Dat.int.injEq, true_and]; omega) | (congr <;> omega)
          · try simp (disch := omega) only [LeE, LeO, avA, datsOf, fillA, seval, ↓List.forall_mem_cons, Op.operands, gI]
            all_goals first | done | (repeat' apply And.intro) <;> first | rfl | omega | assumption | (simp only [AV.dat.injEq, Dat.int.injEq, true_and]; omega) | (congr <;> omega)
      · skip
        have hii : i = c.items.length := by omega
        subst hii
        have hgn := gOk_num hc hxo hxl (hgI c.items.length (Nat.le_refl _))
        apply aw_exit
        apply q_exit_seq
        apply q_exit_loop
        apply q_exit
        apply q_seq
        apply aw_seq
        apply aw_regs [1, 6, 8, 9, 10, 128] [1, 26]
        · simp (disch := omega) only [avR2, avA, datsOf, fillA, seval, ↓List.forall_mem_cons, Op.operands, hA, tiA]
          first | exact ⟨rfl, rfl⟩ | ((repeat' first | refine And.intro ?_ ?_ | intro _) <;> first | with_reducible rfl | assumption | omega | rfl | (rename_i hq; rw [hq]; rfl) | (simp_all; done))
        refine aw_if _ rfl (fun hb => ?_) (fun hb => ?_) <;> (try simp only [pickB_true, pickB_false, Bool.false_or, Bool.false_and, Bool.true_and, decide_eq_true_eq, decide_eq_false_iff_not, Bool.or_eq_true, Bool.and_eq_true, Bool.or_eq_false_iff, Bool.and_eq_false_imp, Bool.not_eq_true, Bool.not_eq_false, Bool.not_eq_eq_eq_not, Bool.not_true, Bool.not_false, Int.not_lt, Int.not_le, beq_iff_eq, beq_eq_false_iff_ne, bne_iff_ne, bne_eq_false_iff_eq, ne_eq, Bool.true_eq_false, Bool.false_eq_true, if_false_left, if_true_left, Bool.not_eq_eq_eq_not, Bool.decide_eq_true, Classical.not_not] at hb)
        · skip
          have hv : greedyM c = (x.2, turnsM c x.2 c.items.length, 0) := by
            have := hx.stop hc hb
            unfold greedyM
            rw [if_neg h0, if_neg (by omega), this]
          apply aw_regs [2, 3, 4] [26]
          · simp (disch := omega) only [avR2, avA, datsOf, fillA, seval, ↓List.forall_mem_cons, Op.operands, hA, tiA]
            first | exact ⟨rfl, rfl⟩ | ((repeat' first | refine And.intro ?_ ?_ | intro _) <;> first | with_reducible rfl | assumption | omega | rfl | (rename_i hq; rw [hq]; rfl) | (simp_all; done))
          apply aw_ret
          apply q_ret_seq
          apply q_ret_block
          apply q_ret_loop
          apply q_ret_block
          simp only [QRet, QRetM, QRetX, retsX_nil, retsX_cons, objsAre, Tryd.results38, resA, mapO_nil, mapO_cons, vD_dat, vD_nils, vD_rp, vD_osl, vD_ptr, vD_agg, vD_fn, vL_dat, vL_app, viewL, avA, datsOf, fillA, seval, ↓List.forall_mem_cons, Op.operands, hP, hG, tiA]
          first | (rw [hv]; done) | (rw [hv]; rfl) | (rw [hv, if_pos (by omega), List.take_of_length_le (by omega)])
          
        · skip
          obtain ⟨hx1, hnx, hln, htn⟩ := hx.next hc (by omega)
          apply aw_skip
          apply q_seq
          apply aw_reg [1, 6] [1, 26]
          · simp (disch := omega) only [avR2, avA, datsOf, fillA, seval, ↓List.forall_mem_cons, Op.operands, hA, tiA]
            first | exact ⟨rfl, rfl⟩ | ((repeat' first | refine And.intro ?_ ?_ | intro _) <;> first | with_reducible rfl | assumption | omega | rfl | (rename_i hq; rw [hq]; rfl) | (simp_all; done))
          apply q_block
          refine q_loop (⟨(x.1 - 1, x.2.set (gI c x.2 (linesM c x.2 c.items.length) c.items.length).1.toNat (gI c x.2 (linesM c x.2 c.items.length) c.items.length).2.1), hnx⟩) (Le.of ?_ ?_) (by dsimp only; omega)
          · try simp (disch := omega) only [LeE, LeO, avA, datsOf, fillA, seval, ↓List.forall_mem_cons, Op.operands, hst, set_row]
            all_goals first | done | (repeat' apply And.intro) <;> first | rfl | omega | assumption | (simp only [AV.dat.injEq, Dat.int.injEq, true_and]; omega) | (congr <;> omega)
          · try simp (disch := omega) only [LeE, LeO, avA, datsOf, fillA, seval, ↓List.forall_mem_cons, Op.operands, hst, set_row]
            all_goals first | done | (repeat' apply And.intro) <;> first | rfl | omega | assumption | (simp only [AV.dat.injEq, Dat.int.injEq, true_and]; omega) | (congr <;> omega)

end Go.Proofs.YthcfjdkflmkhbaaDoor

namespace Go.Proofs.YthcfjdkflmkhbaaDoor
open Go.Av

theorem bestM_len (c : CaseM) : (bestM c).1.length ≤ 64 := by
  unfold bestM
  split
  · simp
  · rename_i hv
    have hc : OkC c := validM_ok.1 (by omega)
    have hn := hc.n64
    split
    · simp
    · simp only [pickBM_len]; omega


set_option maxHeartbeats 4000000 in
theorem bests_ok (l : List Int) (how y : Int) (raw : List (Int × Int × Int × Int)) (weights : List Int) (room : Int) (hl : ∀ x ∈ l, I64 x) (hh : I64 how) (hy : I64 y) (hr : ∀ r ∈ raw, I64 r.1 ∧ I64 r.2.1 ∧ I64 r.2.2.1 ∧ I64 r.2.2.2) (hw : ∀ x ∈ weights, I64 x) (hm : I64 room) : Gives Tryd.prog gG 8 [isD l, iD how, iD y, .sl (raw.map rD), isD weights, iD room] [.bool true] := by
  have hcs := csM_sz l how y raw weights room hr hw hm
  have hcl := csM_len l how y raw weights room
  refine gives_intro [] [] [] Tryd.func8 rfl (by rfl) (by simp [Tryd.ntmps8]) fun F hP hG hN hR => ?_
  rw [Tryd.ntmps8] at hN
  have hA := And.intro hN (And.intro hP (And.intro hG (And.intro hR.1 (And.intro hR.2.1 hR.2.2.1))))
  apply aw_regs [0, 1, 2, 3, 4, 5] []
  · simp (disch := omega) only [avR2, avA, datsOf, fillA, seval, ↓List.forall_mem_cons, Op.operands, hA, tiA]
    first | exact ⟨rfl, rfl⟩ | ((repeat' first | refine And.intro ?_ ?_ | intro _) <;> first | with_reducible rfl | assumption | omega | rfl | (rename_i hq; rw [hq]; rfl) | (simp_all; done))
  apply aw_regs [1, 2, 3, 4, 5, 13] [13]
  · simp (disch := omega) only [avR2, avA, datsOf, fillA, seval, ↓List.forall_mem_cons, Op.operands, hA, tiA]
    (repeat' refine And.intro ?_ ?_) <;> try first | omega | assumption | with_reducible rfl | exact rfl | (intro hside; (repeat' refine And.intro ?_ ?_) <;> first | exact hside | omega | (rw [hside]; rfl) | (simp_all; done))
    refine CallC.use (gvF hP hG (made_ok gG l hl)) rfl ?_
    try simp (maxSteps := 2000000) (disch := omega) only [avR2, avA, datsOf, fillA, seval, ↓List.forall_mem_cons, Op.operands, hA, tiA]
    first | exact ⟨rfl, rfl⟩ | ((repeat' first | refine And.intro ?_ ?_ | intro _) <;> first | with_reducible rfl | assumption | omega | rfl | (rename_i hq; rw [hq]; rfl) | (simp_all; done))
  apply aw_rgds [14] [33] [0, 1, 2, 3, 4, 5, 6, 7, 8, 9, 10] []
  · rw [hP]; kernel_rfl
  · exact hR
  · kernel_rfl
  · (repeat (apply PickL.cons; exact rfl)); exact PickL.nil _
  · simp (disch := omega) only [avR2, avA, datsOf, fillA, seval, ↓List.forall_mem_cons, Op.operands, hA, tiA]
    (repeat' refine And.intro ?_ ?_) <;> try first | omega | assumption | with_reducible rfl | exact rfl | (intro hside; (repeat' refine And.intro ?_ ?_) <;> first | exact hside | omega | (rw [hside]; rfl) | (simp_all; done))
    refine CallC.use (gvF hP hG (spoilt_ok gG (madeM l) how y (madeM_ok l) (madeM_len l) hh hy)) rfl ?_
    try simp (maxSteps := 2000000) (disch := omega) only [avR2, avA, datsOf, fillA, seval, ↓List.forall_mem_cons, Op.operands, hA, tiA]
    (repeat' refine And.intro ?_ ?_) <;> try first | omega | assumption | with_reducible rfl | exact rfl | (intro hside; (repeat' refine And.intro ?_ ?_) <;> first | exact hside | omega | (rw [hside]; rfl) | (simp_all; done))
    refine CallC.use (gvF hP hG (of_ok gG raw weights room)) rfl ?_
    try simp (maxSteps := 2000000) (disch := omega) only [avR2, avA, datsOf, fillA, seval, ↓List.forall_mem_cons, Op.operands, hA, tiA]
    first | exact ⟨rfl, rfl⟩ | ((repeat' first | refine And.intro ?_ ?_ | intro _) <;> first | with_reducible rfl | assumption | omega | rfl | (rename_i hq; rw [hq]; rfl) | (simp_all; done))
  apply aw_seq
  apply aw_regs [14, 15] [33]
  · simp (disch := omega) only [avR2, avA, datsOf, fillA, seval, ↓List.forall_mem_cons, Op.operands, hA, tiA]
    first | exact ⟨rfl, rfl⟩ | ((repeat' first | refine And.intro ?_ ?_ | intro _) <;> first | with_reducible rfl | assumption | omega | rfl | (rename_i hq; rw [hq]; rfl) | (simp_all; done))
  apply aw_block
  refine aw_loop (ι := {i : Nat // i ≤ 3}) (fun ⟨i, hi⟩ => .of [(14, .dat (.sl ((csM l how y raw weights room).map caseD))), (15, .dat (iD i))] []) (fun ⟨i, hi⟩ => 3 - i) (⟨0, by omega⟩) (Le.of ?_ ?_) fun ix => ?_
  · try simp (disch := omega) only [LeE, LeO, avA, datsOf, fillA, seval, ↓List.forall_mem_cons, Op.operands, csM, List.map_cons, List.map_nil]
    all_goals first | done | (repeat' apply And.intro) <;> first | rfl | omega | assumption | (simp only [AV.dat.injEq, Dat.int.injEq, true_and]; omega) | (congr <;> omega)
  · try simp (disch := omega) only [LeE, LeO, avA, datsOf, fillA, seval, ↓List.forall_mem_cons, Op.operands, csM, List.map_cons, List.map_nil]
    all_goals first | done | (repeat' apply And.intro) <;> first | rfl | omega | assumption | (simp only [AV.dat.injEq, Dat.int.injEq, true_and]; omega) | (congr <;> omega)
  obtain ⟨i, hi⟩ := ix
  dsimp only
  apply aw_seq
  apply aw_regs [14, 15, 37] [33]
  · simp (disch := omega) only [avR2, avA, datsOf, fillA, seval, ↓List.forall_mem_cons, Op.operands, hA, tiA, hcl]
    first | exact ⟨rfl, rfl⟩ | ((repeat' first | refine And.intro ?_ ?_ | intro _) <;> first | with_reducible rfl | assumption | omega | rfl | (rename_i hq; rw [hq]; rfl) | (simp_all; done))
  refine aw_if _ rfl (fun hb => ?_) (fun hb => ?_) <;> (try simp only [pickB_true, pickB_false, Bool.false_or, Bool.false_and, Bool.true_and, decide_eq_true_eq, decide_eq_false_iff_not, Bool.or_eq_true, Bool.and_eq_true, Bool.or_eq_false_iff, Bool.and_eq_false_imp, Bool.not_eq_true, Bool.not_eq_false, Bool.not_eq_eq_eq_not, Bool.not_true, Bool.not_false, Int.not_lt, Int.not_le, beq_iff_eq, beq_eq_false_iff_ne, bne_iff_ne, bne_eq_false_iff_eq, ne_eq, Bool.true_eq_false, Bool.false_eq_true, if_false_left, if_true_left, Bool.not_eq_eq_eq_not, Bool.decide_eq_true, Classical.not_not] at hb)
  · skip
    have hil : i < (csM l how y raw weights room).length := by omega
    have hsz : SzC ((csM l how y raw weights room).getD i default) := getD_all hcs hil
    have hbl := bestM_len ((csM l how y raw weights room).getD i default)
    have hgl := greedyM_range ((csM l how y raw weights room).getD i default)
    have hcr := countM_range hsz
    apply aw_skip
    apply q_seq
    apply aw_seq
    apply aw_block
    apply aw_seq
    apply aw_regs [14, 15, 45] [33]
    · simp (disch := omega) only [avR2, avA, datsOf, fillA, seval, ↓List.forall_mem_cons, Op.operands, hA, tiA, hcl]
      (repeat' refine And.intro ?_ ?_) <;> try first | omega | assumption | with_reducible rfl | exact rfl | (intro hside; (repeat' refine And.intro ?_ ?_) <;> first | exact hside | omega | (rw [hside]; rfl) | (simp_all; done))
      refine CallC.use (gvF hP hG (count_ok gG ((csM l how y raw weights room).getD i default) hsz)) rfl ?_
      try simp (maxSteps := 2000000) (disch := omega) only [avR2, avA, datsOf, fillA, seval, ↓List.forall_mem_cons, Op.operands, hA, tiA]
      first | exact ⟨rfl, rfl⟩ | ((repeat' first | refine And.intro ?_ ?_ | intro _) <;> first | with_reducible rfl | assumption | omega | rfl | (rename_i hq; rw [hq]; rfl) | (simp_all; done))
    refine aw_if _ rfl (fun hb => ?_) (fun hb => ?_) <;> (try simp only [pickB_true, pickB_false, Bool.false_or, Bool.false_and, Bool.true_and, decide_eq_true_eq, decide_eq_false_iff_not, Bool.or_eq_true, Bool.and_eq_true, Bool.or_eq_false_iff, Bool.and_eq_false_imp, Bool.not_eq_true, Bool.not_eq_false, Bool.not_eq_eq_eq_not, Bool.not_true, Bool.not_false, Int.not_lt, Int.not_le, beq_iff_eq, beq_eq_false_iff_ne, bne_iff_ne, bne_eq_false_iff_eq, ne_eq, Bool.true_eq_false, Bool.false_eq_true, if_false_left, if_true_left, Bool.not_eq_eq_eq_not, Bool.decide_eq_true, Classical.not_not] at hb)
    · skip
      apply aw_exit
      apply q_exit_seq
      apply q_exit
      apply q_seq
      apply aw_reg [14, 15] [33]
      · simp (disch := omega) only [avR2, avA, datsOf, fillA, seval, ↓List.forall_mem_cons, Op.operands, hA, tiA]
        first | exact ⟨rfl, rfl⟩ | ((repeat' first | refine And.intro ?_ ?_ | intro _) <;> first | with_reducible rfl | assumption | omega | rfl | (rename_i hq; rw [hq]; rfl) | (simp_all; done))
      refine q_loop (⟨i + 1, by omega⟩) (Le.of ?_ ?_) (by dsimp only; omega)
      · try simp (disch := omega) only [LeE, LeO, avA, datsOf, fillA, seval, ↓List.forall_mem_cons, Op.operands, csM, List.map_cons, List.map_nil]
        all_goals first | done | (repeat' apply And.intro) <;> first | rfl | omega | assumption | (simp only [AV.dat.injEq, Dat.int.injEq, true_and]; omega) | (congr <;> omega)
      · try simp (disch := omega) only [LeE, LeO, avA, datsOf, fillA, seval, ↓List.forall_mem_cons, Op.operands, csM, List.map_cons, List.map_nil]
        all_goals first | done | (repeat' apply And.intro) <;> first | rfl | omega | assumption | (simp only [AV.dat.injEq, Dat.int.injEq, true_and]; omega) | (congr <;> omega)
    · skip
      have hcnt : countM ((csM l how y raw weights room).getD i default) ≤ 5000 := by omega
      have hrb := rbest_ok gG ((csM l how y raw weights room).getD i default) hsz
      rw [rbest_eq hcnt] at hrb
      apply aw_skip
      apply q_seq
      apply aw_regs [14, 15, 16, 17, 18] [33]
      · simp (maxSteps := 2000000) (disch := omega) only [avR2, avA, datsOf, fillA, seval, ↓List.forall_mem_cons, Op.operands, hA, tiA, hcl]
        (repeat' refine And.intro ?_ ?_) <;> try first | omega | assumption | with_reducible rfl | exact rfl | (intro hside; (repeat' refine And.intro ?_ ?_) <;> first | exact hside | omega | (rw [hside]; rfl) | (simp_all; done))
        refine CallC.use (gvF hP hG (own_ok gG ((csM l how y raw weights room).getD i default) hsz)) rfl ?_
        try simp (maxSteps := 2000000) (disch := omega) only [avR2, avA, datsOf, fillA, seval, ↓List.forall_mem_cons, Op.operands, hA, tiA]
        (repeat' refine And.intro ?_ ?_) <;> try first | omega | assumption | with_reducible rfl | exact rfl | (intro hside; (repeat' refine And.intro ?_ ?_) <;> first | exact hside | omega | (rw [hside]; rfl) | (simp_all; done))
        refine CallC.use (gvF hP hG (best_ok ((csM l how y raw weights room).getD i default) hsz)) rfl ?_
        try simp (maxSteps := 2000000) (disch := omega) only [avR2, avA, datsOf, fillA, seval, ↓List.forall_mem_cons, Op.operands, hA, tiA]
        first | exact ⟨rfl, rfl⟩ | ((repeat' first | refine And.intro ?_ ?_ | intro _) <;> first | with_reducible rfl | assumption | omega | rfl | (rename_i hq; rw [hq]; rfl) | (simp_all; done))
      apply aw_regs [14, 15, 16, 17, 18, 19, 20, 21] [33]
      · simp (disch := omega) only [avR2, avA, datsOf, fillA, seval, ↓List.forall_mem_cons, Op.operands, hA, tiA, hcl]
        (repeat' refine And.intro ?_ ?_) <;> try first | omega | assumption | with_reducible rfl | exact rfl | (intro hside; (repeat' refine And.intro ?_ ?_) <;> first | exact hside | omega | (rw [hside]; rfl) | (simp_all; done))
        refine CallC.use (gvF hP hG (hrb)) rfl ?_
        try simp (maxSteps := 2000000) (disch := omega) only [avR2, avA, datsOf, fillA, seval, ↓List.forall_mem_cons, Op.operands, hA, tiA]
        first | exact ⟨rfl, rfl⟩ | ((repeat' first | refine And.intro ?_ ?_ | intro _) <;> first | with_reducible rfl | assumption | omega | rfl | (rename_i hq; rw [hq]; rfl) | (simp_all; done))
      apply aw_seq
      apply aw_regs [14, 15, 78] [33]
      · simp (maxSteps := 2000000) (disch := omega) only [avR2, avA, datsOf, fillA, seval, ↓List.forall_mem_cons, Op.operands, hA, tiA, bne_self_eq_false, decide_true]
        (repeat' refine And.intro ?_ ?_) <;> try first | omega | assumption | with_reducible rfl | exact rfl | (intro hside; (repeat' refine And.intro ?_ ?_) <;> first | exact hside | omega | (rw [hside]; rfl) | (simp_all; done))
        refine CallGC.use rfl (fun hg => ⟨by simp_all [gdAll], gvF hP hG (same_ok gG (bestM ((csM l how y raw weights room).getD i default)).1 (bestM ((csM l how y raw weights room).getD i default)).1 (by omega))⟩) ?_
        try simp (maxSteps := 2000000) (disch := omega) only [avR2, avA, datsOf, fillA, seval, ↓List.forall_mem_cons, Op.operands, hA, tiA, bne_self_eq_false, decide_true]
        first | exact ⟨rfl, rfl⟩ | ((repeat' first | refine And.intro ?_ ?_ | intro _) <;> first | with_reducible rfl | assumption | omega | rfl | (rename_i hq; rw [hq]; rfl) | (simp_all; done))
      refine aw_iff rfl ?_
      apply aw_skip
      apply q_seq
      apply aw_regs [14, 15, 16, 17, 18] [33]
      · simp (maxSteps := 2000000) (disch := omega) only [avR2, avA, datsOf, fillA, seval, ↓List.forall_mem_cons, Op.operands, hA, tiA, hcl]
        (repeat' refine And.intro ?_ ?_) <;> try first | omega | assumption | with_reducible rfl | exact rfl | (intro hside; (repeat' refine And.intro ?_ ?_) <;> first | exact hside | omega | (rw [hside]; rfl) | (simp_all; done))
        refine CallC.use (gvF hP hG (own_ok gG ((csM l how y raw weights room).getD i default) hsz)) rfl ?_
        try simp (maxSteps := 2000000) (disch := omega) only [avR2, avA, datsOf, fillA, seval, ↓List.forall_mem_cons, Op.operands, hA, tiA]
        (repeat' refine And.intro ?_ ?_) <;> try first | omega | assumption | with_reducible rfl | exact rfl | (intro hside; (repeat' refine And.intro ?_ ?_) <;> first | exact hside | omega | (rw [hside]; rfl) | (simp_all; done))
        refine CallC.use (gvF hP hG (greedyF_ok gG ((csM l how y raw weights room).getD i default) hsz)) rfl ?_
        try simp (maxSteps := 2000000) (disch := omega) only [avR2, avA, datsOf, fillA, seval, ↓List.forall_mem_cons, Op.operands, hA, tiA]
        first | exact ⟨rfl, rfl⟩ | ((repeat' first | refine And.intro ?_ ?_ | intro _) <;> first | with_reducible rfl | assumption | omega | rfl | (rename_i hq; rw [hq]; rfl) | (simp_all; done))
      apply aw_regs [14, 15, 16, 17, 18, 19, 20, 21] [33]
      · simp (disch := omega) only [avR2, avA, datsOf, fillA, seval, ↓List.forall_mem_cons, Op.operands, hA, tiA, hcl]
        (repeat' refine And.intro ?_ ?_) <;> try first | omega | assumption | with_reducible rfl | exact rfl | (intro hside; (repeat' refine And.intro ?_ ?_) <;> first | exact hside | omega | (rw [hside]; rfl) | (simp_all; done))
        refine CallC.use (gvF hP hG (rgreedy_ok gG ((csM l how y raw weights room).getD i default) hsz)) rfl ?_
        try simp (maxSteps := 2000000) (disch := omega) only [avR2, avA, datsOf, fillA, seval, ↓List.forall_mem_cons, Op.operands, hA, tiA]
        first | exact ⟨rfl, rfl⟩ | ((repeat' first | refine And.intro ?_ ?_ | intro _) <;> first | with_reducible rfl | assumption | omega | rfl | (rename_i hq; rw [hq]; rfl) | (simp_all; done))
      apply aw_regs [14, 15, 111] [33]
      · simp (maxSteps := 2000000) (disch := omega) only [avR2, avA, datsOf, fillA, seval, ↓List.forall_mem_cons, Op.operands, hA, tiA, bne_self_eq_false, decide_true]
        (repeat' refine And.intro ?_ ?_) <;> try first | omega | assumption | with_reducible rfl | exact rfl | (intro hside; (repeat' refine And.intro ?_ ?_) <;> first | exact hside | omega | (rw [hside]; rfl) | (simp_all; done))
        refine CallGC.use rfl (fun hg => ⟨by simp_all [gdAll], gvF hP hG (same_ok gG (greedyM ((csM l how y raw weights room).getD i default)).1 (greedyM ((csM l how y raw weights room).getD i default)).1 (by omega))⟩) ?_
        try simp (maxSteps := 2000000) (disch := omega) only [avR2, avA, datsOf, fillA, seval, ↓List.forall_mem_cons, Op.operands, hA, tiA, bne_self_eq_false, decide_true]
        first | exact ⟨rfl, rfl⟩ | ((repeat' first | refine And.intro ?_ ?_ | intro _) <;> first | with_reducible rfl | assumption | omega | rfl | (rename_i hq; rw [hq]; rfl) | (simp_all; done))
      refine aw_iff rfl ?_
      apply aw_skip
      apply q_block
      apply q_seq
      apply aw_reg [14, 15] [33]
      · simp (disch := omega) only [avR2, avA, datsOf, fillA, seval, ↓List.forall_mem_cons, Op.operands, hA, tiA]
        first | exact ⟨rfl, rfl⟩ | ((repeat' first | refine And.intro ?_ ?_ | intro _) <;> first | with_reducible rfl | assumption | omega | rfl | (rename_i hq; rw [hq]; rfl) | (simp_all; done))
      refine q_loop (⟨i + 1, by omega⟩) (Le.of ?_ ?_) (by dsimp only; omega)
      · try simp (disch := omega) only [LeE, LeO, avA, datsOf, fillA, seval, ↓List.forall_mem_cons, Op.operands, csM, List.map_cons, List.map_nil]
        all_goals first | done | (repeat' apply And.intro) <;> first | rfl | omega | assumption | (simp only [AV.dat.injEq, Dat.int.injEq, true_and]; omega) | (congr <;> omega)
      · try simp (disch := omega) only [LeE, LeO, avA, datsOf, fillA, seval, ↓List.forall_mem_cons, Op.operands, csM, List.map_cons, List.map_nil]
        all_goals first | done | (repeat' apply And.intro) <;> first | rfl | omega | assumption | (simp only [AV.dat.injEq, Dat.int.injEq, true_and]; omega) | (congr <;> omega)
  · skip
    apply aw_exit
    apply q_exit_seq
    apply q_exit_loop
    apply q_exit
    apply q_seq
    apply aw_regs [12] []
    · simp (disch := omega) only [avR2, avA, datsOf, fillA, seval, ↓List.forall_mem_cons, Op.operands, hA, tiA]
      (repeat' refine And.intro ?_ ?_) <;> try first | omega | assumption | with_reducible rfl | exact rfl | (intro hside; (repeat' refine And.intro ?_ ?_) <;> first | exact hside | omega | (rw [hside]; rfl) | (simp_all; done))
      refine CallC.use (gvF hP hG (lives_ok)) rfl ?_
      try simp (maxSteps := 2000000) (disch := omega) only [avR2, avA, datsOf, fillA, seval, ↓List.forall_mem_cons, Op.operands, hA, tiA]
      first | exact ⟨rfl, rfl⟩ | ((repeat' first | refine And.intro ?_ ?_ | intro _) <;> first | with_reducible rfl | assumption | omega | rfl | (rename_i hq; rw [hq]; rfl) | (simp_all; done))
    apply aw_ret
    simp only [QRet, QRetM, QRetX, retsX_nil, retsX_cons, objsAre, Tryd.results8, resA, mapO_nil, mapO_cons, vD_dat, vD_nils, vD_rp, vD_osl, vD_ptr, vD_agg, vD_fn, vL_dat, vL_app, viewL, avA, datsOf, fillA, seval, ↓List.forall_mem_cons, Op.operands, hP, hG, tiA]

end Go.Proofs.YthcfjdkflmkhbaaDoor

namespace Go.Proofs.YthcfjdkflmkhbaaDoor
open Go.Av

/-- The rows of a case, of which the one with the number k is an object. -/
def yRow (c : CaseM) (k i : Nat) : List AV := (List.range i).map fun j => if j = k then AV.osl 40 2 0 (c.items.getD k default).length else .dat (osD (c.items.getD j default))
def kRow (c : CaseM) (k i : Nat) : List (Int × Int) := if k < i then c.items.getD k default else []
theorem yRow_len (c : CaseM) (k i : Nat) : (yRow c k i).length = i := by simp [yRow]
theorem yRow_zero (c : CaseM) (k : Nat) : yRow c k 0 = [] := rfl
theorem kRow_zero (c : CaseM) (k : Nat) : kRow c k 0 = [] := by simp [kRow]
theorem yRow_kill (c : CaseM) (k i : Nat) {d : Nat} (h : 40 ≠ d) : (yRow c k i).map (AV.kill d) = yRow c k i := by
  simp only [yRow, List.map_map]
  apply List.map_congr_left
  intro j _
  simp only [Function.comp]
  split <;> simp [AV.kill, h]
theorem yRow_frz (c : CaseM) (k i : Nat) {d es : Nat} {ds : List Dat} (h : 40 ≠ d) : (yRow c k i).map (AV.frz d es ds) = yRow c k i := by
  simp only [yRow, List.map_map]
  apply List.map_congr_left
  intro j _
  simp only [Function.comp]
  split <;> simp [AV.frz, h]
theorem yRow_ren (c : CaseM) {k i : Nat} (m : Nat → Nat) (h : i ≤ k) : (yRow c k i).map (AV.ren m) = yRow c k i := by
  simp only [yRow, List.map_map]
  apply List.map_congr_left
  intro j hj
  have : j < i := by simpa using hj
  simp only [Function.comp]
  rw [if_neg (by omega)]
  rfl
theorem yRow_here (c : CaseM) (k : Nat) : yRow c k (k + 1) = yRow c k k ++ [.osl 40 2 0 (c.items.getD k default).length] := by simp [yRow, List.range_succ]
theorem yRow_else (c : CaseM) {k i : Nat} (h : i ≠ k) : yRow c k (i + 1) = yRow c k i ++ [.dat (osD (c.items.getD i default))] := by simp [yRow, List.range_succ, h]
theorem kRow_here (c : CaseM) (k : Nat) : kRow c k (k + 1) = c.items.getD k default := by simp [kRow]
theorem kRow_else (c : CaseM) {k i : Nat} (h : i ≠ k) : kRow c k (i + 1) = kRow c k i := by
  unfold kRow
  by_cases h1 : k < i
  · rw [if_pos h1, if_pos (by omega)]
  · rw [if_neg h1, if_neg (by omega)]
theorem kRow_low (c : CaseM) (k : Nat) : kRow c k k = [] := by simp [kRow]
theorem yRow_only (c : CaseM) (k i : Nat) (p : Nat → Bool) (h : p 40 = true) : onlyL p (yRow c k i) = true := by
  unfold yRow
  induction List.range i with
  | nil => rfl
  | cons j l ih =>
    simp only [List.map_cons, onlyL, ih, Bool.and_true]
    split
    · exact h
    · rfl


theorem own_okX (G) (c : CaseM) (hs : SzC c) : GivesX Tryd.prog G 14 [.dat (caseD c)] [] [.agg [.osl 57 1 0 c.items.length, .osl 10 1 0 c.weights.length, .dat (iD c.room)]] [(57, ⟨1, (c.items.map osD).map .dat⟩), (10, ⟨1, (c.weights.map iD).map .dat⟩)] := by
  have hni := hs.ni
  have hnw := hs.nw
  refine gives_introX' [] [] [10] Tryd.func14 rfl (by rfl) (by simp [Tryd.ntmps14]) (by kernel_rfl) (by simp [onlyL_nil, onlyL_cons, AV.only, inIds]) (by simp only [onlyOs, onlyL_nil, onlyL_cons, onlyL_append, onlyL_dats, onlyL_row, AV.only, Bool.and_true] <;> simp [inIds]) fun F hP hG hN hR => ?_
  rw [Tryd.ntmps14] at hN
  have hA := And.intro hN (And.intro hP (And.intro hG (And.intro hR.1 (And.intro hR.2.1 hR.2.2.1))))
  apply aw_regs [1, 2] [1, 2, 7, 10, 51, 52, 56, 57]
  · simp (disch := omega) only [avR2, avA, datsOf, fillA, seval, ↓List.forall_mem_cons, Op.operands, hA, tiA]
    first | exact ⟨rfl, rfl⟩ | ((repeat' first | refine And.intro ?_ ?_ | intro _) <;> first | with_reducible rfl | assumption | omega | rfl | (rename_i hq; rw [hq]; rfl) | (simp_all; done))
  apply aw_rgds [1, 2, 3] [1, 2, 3, 7, 10, 51, 52, 56, 57] [0, 1, 2, 3, 4, 5, 6, 7, 8] [10, 3]
  · rw [hP]; kernel_rfl
  · exact hR
  · kernel_rfl
  · (repeat (apply PickL.cons; exact rfl)); exact PickL.nil _
  · simp (disch := omega) only [avR2, avA, datsOf, fillA, seval, ↓List.forall_mem_cons, Op.operands, hA, tiA]
    first | exact ⟨rfl, rfl⟩ | ((repeat' first | refine And.intro ?_ ?_ | intro _) <;> first | with_reducible rfl | assumption | omega | rfl | (rename_i hq; rw [hq]; rfl) | (simp_all; done))
  apply aw_seq
  apply aw_regs [1, 2, 3, 4] [1, 2, 3, 7, 10, 51, 52, 56, 57]
  · simp (disch := omega) only [avR2, avA, datsOf, fillA, seval, ↓List.forall_mem_cons, Op.operands, hA, tiA]
    first | exact ⟨rfl, rfl⟩ | ((repeat' first | refine And.intro ?_ ?_ | intro _) <;> first | with_reducible rfl | assumption | omega | rfl | (rename_i hq; rw [hq]; rfl) | (simp_all; done))
  apply aw_block
  refine aw_new0 57 1 (by omega) ?_
  refine aw_nilO 3 57 1 0 rfl rfl rfl rfl ?_
  refine aw_loop (ι := {i : Nat // i ≤ c.items.length}) (fun ⟨i, hi⟩ => .of [(1, .ptr 1 3 0 0), (2, .ptr 2 3 0 0), (3, .ptr 3 3 0 0), (4, .dat (iD i))] [(1, ⟨3, [.dat (caseD c)]⟩), (2, ⟨3, [.agg [.nils, .nils, .dat (iD 0)]]⟩), (3, ⟨3, [.agg [.osl 57 1 0 i, .osl 10 1 0 c.weights.length, .dat (iD c.room)]]⟩), (10, ⟨1, (c.weights.map iD).map .dat⟩), (57, ⟨1, ((preM c.items i).map osD).map .dat⟩)]) (fun ⟨i, hi⟩ => c.items.length - i) (⟨0, by omega⟩) (Le.of ?_ ?_) fun ix => ?_
  · try simp (disch := omega) only [LeE, LeO, avA, datsOf, fillA, seval, ↓List.forall_mem_cons, Op.operands, preM_zero, preM_succ, preM_all, preM_len]
    all_goals first | done | (repeat' apply And.intro) <;> first | rfl | omega | assumption | (simp only [AV.dat.injEq, Dat.int.injEq, true_and]; omega) | (congr <;> omega)
  · try simp (disch := omega) only [LeE, LeO, avA, datsOf, fillA, seval, ↓List.forall_mem_cons, Op.operands, preM_zero, preM_succ, preM_all, preM_len]
    all_goals first | done | (repeat' apply And.intro) <;> first | rfl | omega | assumption | (simp only [AV.dat.injEq, Dat.int.injEq, true_and]; omega) | (congr <;> omega)
  obtain ⟨i, hi⟩ := ix
  dsimp only
  apply aw_seq
  apply aw_regs [1, 2, 3, 4, 18] [1, 2, 3, 7, 10, 51, 52, 56, 57]
  · simp (disch := omega) only [avR2, avA, datsOf, fillA, seval, ↓List.forall_mem_cons, Op.operands, hA, tiA]
    first | exact ⟨rfl, rfl⟩ | ((repeat' first | refine And.intro ?_ ?_ | intro _) <;> first | with_reducible rfl | assumption | omega | rfl | (rename_i hq; rw [hq]; rfl) | (simp_all; done))
  refine aw_if _ rfl (fun hb => ?_) (fun hb => ?_) <;> (try simp only [pickB_true, pickB_false, Bool.false_or, Bool.false_and, Bool.true_and, decide_eq_true_eq, decide_eq_false_iff_not, Bool.or_eq_true, Bool.and_eq_true, Bool.or_eq_false_iff, Bool.and_eq_false_imp, Bool.not_eq_true, Bool.not_eq_false, Bool.not_eq_eq_eq_not, Bool.not_true, Bool.not_false, Int.not_lt, Int.not_le, beq_iff_eq, beq_eq_false_iff_ne, bne_iff_ne, bne_eq_false_iff_eq, ne_eq, Bool.true_eq_false, Bool.false_eq_true, if_false_left, if_true_left, Bool.not_eq_eq_eq_not, Bool.decide_eq_true, Classical.not_not] at hb)
  · skip
    have hli := hs.nl i (by omega)
    simp only [itemM] at hli
    have hpl := preM_len c.items i (by omega)
    apply aw_skip
    apply q_seq
    apply aw_seq
    apply aw_block
    apply aw_regs [1, 2, 3, 4, 5] [1, 2, 3, 7, 10, 51, 52, 56, 57]
    · simp (disch := omega) only [avR2, avA, datsOf, fillA, seval, ↓List.forall_mem_cons, Op.operands, hA, tiA]
      first | exact ⟨rfl, rfl⟩ | ((repeat' first | refine And.intro ?_ ?_ | intro _) <;> first | with_reducible rfl | assumption | omega | rfl | (rename_i hq; rw [hq]; rfl) | (simp_all; done))
    apply aw_seq
    apply aw_regs [1, 2, 3, 4, 5, 6] [1, 2, 3, 7, 10, 51, 52, 56, 57]
    · simp (disch := omega) only [avR2, avA, datsOf, fillA, seval, ↓List.forall_mem_cons, Op.operands, hA, tiA]
      first | exact ⟨rfl, rfl⟩ | ((repeat' first | refine And.intro ?_ ?_ | intro _) <;> first | with_reducible rfl | assumption | omega | rfl | (rename_i hq; rw [hq]; rfl) | (simp_all; done))
    apply aw_block
    refine aw_new0 52 2 (by omega) ?_
    refine aw_nilE 5 52 2 rfl rfl ?_
    refine aw_loop (ι := {k : Nat // k ≤ (c.items.getD i default).length}) (fun ⟨k, hk⟩ => .of [(1, .ptr 1 3 0 0), (2, .ptr 2 3 0 0), (3, .ptr 3 3 0 0), (4, .dat (iD i)), (5, .osl 52 2 0 k), (6, .dat (iD k))] [(1, ⟨3, [.dat (caseD c)]⟩), (2, ⟨3, [.agg [.nils, .nils, .dat (iD 0)]]⟩), (3, ⟨3, [.agg [.osl 57 1 0 i, .osl 10 1 0 c.weights.length, .dat (iD c.room)]]⟩), (10, ⟨1, (c.weights.map iD).map .dat⟩), (57, ⟨1, ((preM c.items i).map osD).map .dat⟩), (52, ⟨2, ((preM (c.items.getD i default) k).map oD).map .dat⟩)]) (fun ⟨k, hk⟩ => (c.items.getD i default).length - k) (⟨0, by omega⟩) (Le.of ?_ ?_) fun ix => ?_
    · try simp (disch := omega) only [LeE, LeO, avA, datsOf, fillA, seval, ↓List.forall_mem_cons, Op.operands, preM_zero, preM_succ]
      all_goals first | done | (repeat' apply And.intro) <;> first | rfl | omega | assumption | (simp only [AV.dat.injEq, Dat.int.injEq, true_and]; omega) | (congr <;> omega)
    · try simp (disch := omega) only [LeE, LeO, avA, datsOf, fillA, seval, ↓List.forall_mem_cons, Op.operands, preM_zero, preM_succ]
      all_goals first | done | (repeat' apply And.intro) <;> first | rfl | omega | assumption | (simp only [AV.dat.injEq, Dat.int.injEq, true_and]; omega) | (congr <;> omega)
    obtain ⟨k, hk⟩ := ix
    dsimp only
    apply aw_seq
    apply aw_regs [1, 2, 3, 4, 5, 6, 28] [1, 2, 3, 7, 10, 51, 52, 56, 57]
    · simp (disch := omega) only [avR2, avA, datsOf, fillA, seval, ↓List.forall_mem_cons, Op.operands, hA, tiA]
      first | exact ⟨rfl, rfl⟩ | ((repeat' first | refine And.intro ?_ ?_ | intro _) <;> first | with_reducible rfl | assumption | omega | rfl | (rename_i hq; rw [hq]; rfl) | (simp_all; done))
    refine aw_if _ rfl (fun hb => ?_) (fun hb => ?_) <;> (try simp only [pickB_true, pickB_false, Bool.false_or, Bool.false_and, Bool.true_and, decide_eq_true_eq, decide_eq_false_iff_not, Bool.or_eq_true, Bool.and_eq_true, Bool.or_eq_false_iff, Bool.and_eq_false_imp, Bool.not_eq_true, Bool.not_eq_false, Bool.not_eq_eq_eq_not, Bool.not_true, Bool.not_false, Int.not_lt, Int.not_le, beq_iff_eq, beq_eq_false_iff_ne, bne_iff_ne, bne_eq_false_iff_eq, ne_eq, Bool.true_eq_false, Bool.false_eq_true, if_false_left, if_true_left, Bool.not_eq_eq_eq_not, Bool.decide_eq_true, Classical.not_not] at hb)
    · skip
      have hpk := preM_len (c.items.getD i default) k (by omega)
      apply aw_skip
      apply q_seq
      apply aw_seq
      apply aw_block
      apply aw_rgd [1, 2, 3, 4, 5, 6] [1, 2, 3, 7, 10, 51, 52, 56, 57] [0, 1, 2, 3, 4, 5, 6, 7, 8, 9, 10, 11, 12, 13, 14, 15, 16, 17, 18, 19, 20, 21, 22] []
      · rw [hP]; kernel_rfl
      · exact hR
      · kernel_rfl
      · (repeat (apply PickL.cons; exact rfl)); exact PickL.nil _
      · simp (maxSteps := 2000000) (disch := omega) only [avR2, avA, datsOf, fillA, seval, ↓List.forall_mem_cons, Op.operands, hA, tiA, preM_len]
        first | exact ⟨rfl, rfl⟩ | ((repeat' first | refine And.intro ?_ ?_ | intro _) <;> first | with_reducible rfl | assumption | omega | rfl | (rename_i hq; rw [hq]; rfl) | (simp_all; done))
      apply q_block
      apply q_seq
      apply aw_reg [1, 2, 3, 4, 5, 6] [1, 2, 3, 7, 10, 51, 52, 56, 57]
      · simp (disch := omega) only [avR2, avA, datsOf, fillA, seval, ↓List.forall_mem_cons, Op.operands, hA, tiA]
        first | exact ⟨rfl, rfl⟩ | ((repeat' first | refine And.intro ?_ ?_ | intro _) <;> first | with_reducible rfl | assumption | omega | rfl | (rename_i hq; rw [hq]; rfl) | (simp_all; done))
      refine q_loop (⟨k + 1, by omega⟩) (Le.of ?_ ?_) (by dsimp only; omega)
      · try simp (disch := omega) only [LeE, LeO, avA, datsOf, fillA, seval, ↓List.forall_mem_cons, Op.operands, preM_zero, preM_succ]
        all_goals first | done | (repeat' apply And.intro) <;> first | rfl | omega | assumption | (simp only [AV.dat.injEq, Dat.int.injEq, true_and]; omega) | (congr <;> omega)
      · try simp (disch := omega) only [LeE, LeO, avA, datsOf, fillA, seval, ↓List.forall_mem_cons, Op.operands, preM_zero, preM_succ]
        all_goals first | done | (repeat' apply And.intro) <;> first | rfl | omega | assumption | (simp only [AV.dat.injEq, Dat.int.injEq, true_and]; omega) | (congr <;> omega)
    · skip
      have hkk : k = (c.items.getD i default).length := by omega
      subst hkk
      refine aw_frzX 52 hR.2.2.2 rfl (datE_map _) rfl ?_
      apply aw_exit
      apply q_exit_seq
      apply q_exit_loop
      apply q_exit
      apply q_seq
      apply aw_reg [1, 2, 3, 4] [1, 2, 3, 7, 10, 51, 52, 56, 57]
      · simp (disch := omega) only [avR2, avA, datsOf, fillA, seval, ↓List.forall_mem_cons, Op.operands, hA, tiA, preM_len, preM_all]
        first | exact ⟨rfl, rfl⟩ | ((repeat' first | refine And.intro ?_ ?_ | intro _) <;> first | with_reducible rfl | assumption | omega | rfl | (rename_i hq; rw [hq]; rfl) | (simp_all; done))
      apply q_block
      apply q_seq
      apply aw_reg [1, 2, 3, 4] [1, 2, 3, 7, 10, 51, 52, 56, 57]
      · simp (disch := omega) only [avR2, avA, datsOf, fillA, seval, ↓List.forall_mem_cons, Op.operands, hA, tiA]
        first | exact ⟨rfl, rfl⟩ | ((repeat' first | refine And.intro ?_ ?_ | intro _) <;> first | with_reducible rfl | assumption | omega | rfl | (rename_i hq; rw [hq]; rfl) | (simp_all; done))
      refine q_loop (⟨i + 1, by omega⟩) (Le.of ?_ ?_) (by dsimp only; omega)
      · try simp (disch := omega) only [LeE, LeO, avA, datsOf, fillA, seval, ↓List.forall_mem_cons, Op.operands, preM_zero, preM_succ, preM_all, preM_len]
        all_goals first | done | (repeat' apply And.intro) <;> first | rfl | omega | assumption | (simp only [AV.dat.injEq, Dat.int.injEq, true_and]; omega) | (congr <;> omega)
      · try simp (disch := omega) only [LeE, LeO, avA, datsOf, fillA, seval, ↓List.forall_mem_cons, Op.operands, preM_zero, preM_succ, preM_all, preM_len]
        all_goals first | done | (repeat' apply And.intro) <;> first | rfl | omega | assumption | (simp only [AV.dat.injEq, Dat.int.injEq, true_and]; omega) | (congr <;> omega)
  · skip
    have hii : i = c.items.length := by omega
    subst hii
    apply aw_exit
    apply q_exit_seq
    apply q_exit_loop
    apply q_exit
    apply q_seq
    apply aw_regs [2] [2, 7, 10, 51, 52, 56, 57]
    · simp (disch := omega) only [avR2, avA, datsOf, fillA, seval, ↓List.forall_mem_cons, Op.operands, hA, tiA]
      first | exact ⟨rfl, rfl⟩ | ((repeat' first | refine And.intro ?_ ?_ | intro _) <;> first | with_reducible rfl | assumption | omega | rfl | (rename_i hq; rw [hq]; rfl) | (simp_all; done))
    apply aw_ret
    simp only [QRet, QRetM, QRetX, retsX_nil, retsX_cons, objsAre, Tryd.results14, resA, mapO_nil, mapO_cons, vD_dat, vD_nils, vD_rp, vD_osl, vD_ptr, vD_agg, vD_fn, vL_dat, vL_app, viewL, avA, datsOf, fillA, seval, ↓List.forall_mem_cons, Op.operands, hP, hG, tiA]
    simp [preM_all]
    

theorem own_okK (G) (c : CaseM) (kk : Nat) (hs : SzC c) : GivesX Tryd.prog G 14 [.dat (caseD c)] [] [.agg [.osl 57 1 0 c.items.length, .osl 10 1 0 c.weights.length, .dat (iD c.room)]] [(57, ⟨1, yRow c kk c.items.length⟩), (10, ⟨1, (c.weights.map iD).map .dat⟩), (40, ⟨2, ((kRow c kk c.items.length).map oD).map .dat⟩)] := by
  have hni := hs.ni
  have hnw := hs.nw
  have hst : (0 : Nat) = 0 := rfl
  have hst2 : (0 : Nat) = 0 := rfl
  skip
  refine gives_introX' [56] [] [10] Tryd.func14 rfl (by rfl) (by simp [Tryd.ntmps14]) (by kernel_rfl) (by simp [onlyL_nil, onlyL_cons, AV.only, inIds]) (by simp only [onlyOs, onlyL_nil, onlyL_cons, onlyL_append, onlyL_dats, onlyL_row, AV.only, Bool.and_true] <;> simp [inIds, yRow_only]) fun F hP hG hN hR => ?_
  rw [Tryd.ntmps14] at hN
  have hA := And.intro hN (And.intro hP (And.intro hG (And.intro hR.1 (And.intro hR.2.1 hR.2.2.1))))
  apply aw_regs [1, 2] [1, 2, 7, 10, 51, 52, 56, 57, 40]
  · simp (disch := omega) only [avR2, avA, datsOf, fillA, seval, ↓List.forall_mem_cons, Op.operands, hA, tiA]
    first | exact ⟨rfl, rfl⟩ | ((repeat' first | refine And.intro ?_ ?_ | intro _) <;> first | with_reducible rfl | assumption | omega | rfl | (rename_i hq; rw [hq]; rfl) | (simp_all; done))
  apply aw_rgds [1, 2, 3] [1, 2, 3, 7, 10, 51, 52, 56, 57, 40] [0, 1, 2, 3, 4, 5, 6, 7, 8] [10, 3]
  · rw [hP]; kernel_rfl
  · exact hR
  · kernel_rfl
  · (repeat (apply PickL.cons; exact rfl)); exact PickL.nil _
  · simp (disch := omega) only [avR2, avA, datsOf, fillA, seval, ↓List.forall_mem_cons, Op.operands, hA, tiA]
    first | exact ⟨rfl, rfl⟩ | ((repeat' first | refine And.intro ?_ ?_ | intro _) <;> first | with_reducible rfl | assumption | omega | rfl | (rename_i hq; rw [hq]; rfl) | (simp_all; done))
  apply aw_seq
  apply aw_regs [1, 2, 3, 4] [1, 2, 3, 7, 10, 51, 52, 56, 57, 40]
  · simp (disch := omega) only [avR2, avA, datsOf, fillA, seval, ↓List.forall_mem_cons, Op.operands, hA, tiA]
    first | exact ⟨rfl, rfl⟩ | ((repeat' first | refine And.intro ?_ ?_ | intro _) <;> first | with_reducible rfl | assumption | omega | rfl | (rename_i hq; rw [hq]; rfl) | (simp_all; done))
  apply aw_block
  refine aw_new0 57 1 (by omega) ?_
  refine aw_nilO 3 57 1 0 rfl rfl rfl rfl ?_
  refine aw_new0 40 2 (by omega) ?_
  refine aw_loop (ι := {i : Nat // i ≤ c.items.length}) (fun ⟨i, hi⟩ => .of [(1, .ptr 1 3 0 0), (2, .ptr 2 3 0 0), (3, .ptr 3 3 0 0), (4, .dat (iD i))] [(1, ⟨3, [.dat (caseD c)]⟩), (2, ⟨3, [.agg [.nils, .nils, .dat (iD 0)]]⟩), (3, ⟨3, [.agg [.osl 57 1 0 i, .osl 10 1 0 c.weights.length, .dat (iD c.room)]]⟩), (10, ⟨1, (c.weights.map iD).map .dat⟩), (57, ⟨1, yRow c kk i⟩), (40, ⟨2, ((kRow c kk i).map oD).map .dat⟩)]) (fun ⟨i, hi⟩ => c.items.length - i) (⟨0, by omega⟩) (Le.of ?_ ?_) fun ix => ?_
  · try simp (disch := omega) only [LeE, LeO, avA, datsOf, fillA, seval, ↓List.forall_mem_cons, Op.operands, hst, hst2, yRow_zero, kRow_zero, List.map_nil]
    all_goals first | done | (repeat' apply And.intro) <;> first | rfl | omega | assumption | (simp only [AV.dat.injEq, Dat.int.injEq, true_and]; omega) | (congr <;> omega)
  · try simp (disch := omega) only [LeE, LeO, avA, datsOf, fillA, seval, ↓List.forall_mem_cons, Op.operands, hst, hst2, yRow_zero, kRow_zero, List.map_nil]
    all_goals first | done | (repeat' apply And.intro) <;> first | rfl | omega | assumption | (simp only [AV.dat.injEq, Dat.int.injEq, true_and]; omega) | (congr <;> omega)
  obtain ⟨i, hi⟩ := ix
  dsimp only
  apply aw_seq
  apply aw_regs [1, 2, 3, 4, 18] [1, 2, 3, 7, 10, 51, 52, 56, 57, 40]
  · simp (disch := omega) only [avR2, avA, datsOf, fillA, seval, ↓List.forall_mem_cons, Op.operands, hA, tiA]
    first | exact ⟨rfl, rfl⟩ | ((repeat' first | refine And.intro ?_ ?_ | intro _) <;> first | with_reducible rfl | assumption | omega | rfl | (rename_i hq; rw [hq]; rfl) | (simp_all; done))
  refine aw_if _ rfl (fun hb => ?_) (fun hb => ?_) <;> (try simp only [pickB_true, pickB_false, Bool.false_or, Bool.false_and, Bool.true_and, decide_eq_true_eq, decide_eq_false_iff_not, Bool.or_eq_true, Bool.and_eq_true, Bool.or_eq_false_iff, Bool.and_eq_false_imp, Bool.not_eq_true, Bool.not_eq_false, Bool.not_eq_eq_eq_not, Bool.not_true, Bool.not_false, Int.not_lt, Int.not_le, beq_iff_eq, beq_eq_false_iff_ne, bne_iff_ne, bne_eq_false_iff_eq, ne_eq, Bool.true_eq_false, Bool.false_eq_true, if_false_left, if_true_left, Bool.not_eq_eq_eq_not, Bool.decide_eq_true, Classical.not_not] at hb)
  · skip
    have hli := hs.nl i (by omega)
    simp only [itemM] at hli
    have hyl := yRow_len c kk i
    apply aw_skip
    apply q_seq
    apply aw_seq
    apply aw_block
    apply aw_regs [1, 2, 3, 4, 5] [1, 2, 3, 7, 10, 51, 52, 56, 57, 40]
    · simp (disch := omega) only [avR2, avA, datsOf, fillA, seval, ↓List.forall_mem_cons, Op.operands, hA, tiA]
      first | exact ⟨rfl, rfl⟩ | ((repeat' first | refine And.intro ?_ ?_ | intro _) <;> first | with_reducible rfl | assumption | omega | rfl | (rename_i hq; rw [hq]; rfl) | (simp_all; done))
    apply aw_seq
    apply aw_regs [1, 2, 3, 4, 5, 6] [1, 2, 3, 7, 10, 51, 52, 56, 57, 40]
    · simp (disch := omega) only [avR2, avA, datsOf, fillA, seval, ↓List.forall_mem_cons, Op.operands, hA, tiA]
      first | exact ⟨rfl, rfl⟩ | ((repeat' first | refine And.intro ?_ ?_ | intro _) <;> first | with_reducible rfl | assumption | omega | rfl | (rename_i hq; rw [hq]; rfl) | (simp_all; done))
    apply aw_block
    refine aw_new0 52 2 (by omega) ?_
    refine aw_nilE 5 52 2 rfl rfl ?_
    refine aw_loop (ι := {k : Nat // k ≤ (c.items.getD i default).length}) (fun ⟨k, hk⟩ => .of [(1, .ptr 1 3 0 0), (2, .ptr 2 3 0 0), (3, .ptr 3 3 0 0), (4, .dat (iD i)), (5, .osl 52 2 0 k), (6, .dat (iD k))] [(1, ⟨3, [.dat (caseD c)]⟩), (2, ⟨3, [.agg [.nils, .nils, .dat (iD 0)]]⟩), (3, ⟨3, [.agg [.osl 57 1 0 i, .osl 10 1 0 c.weights.length, .dat (iD c.room)]]⟩), (10, ⟨1, (c.weights.map iD).map .dat⟩), (57, ⟨1, yRow c kk i⟩), (40, ⟨2, ((kRow c kk i).map oD).map .dat⟩), (52, ⟨2, ((preM (c.items.getD i default) k).map oD).map .dat⟩)]) (fun ⟨k, hk⟩ => (c.items.getD i default).length - k) (⟨0, by omega⟩) (Le.of ?_ ?_) fun ix => ?_
    · try simp (disch := omega) only [LeE, LeO, avA, datsOf, fillA, seval, ↓List.forall_mem_cons, Op.operands, preM_zero, preM_succ, yRow_kill]
      all_goals first | done | (repeat' apply And.intro) <;> first | rfl | omega | assumption | (simp only [AV.dat.injEq, Dat.int.injEq, true_and]; omega) | (congr <;> omega)
    · try simp (disch := omega) only [LeE, LeO, avA, datsOf, fillA, seval, ↓List.forall_mem_cons, Op.operands, preM_zero, preM_succ, yRow_kill]
      all_goals first | done | (repeat' apply And.intro) <;> first | rfl | omega | assumption | (simp only [AV.dat.injEq, Dat.int.injEq, true_and]; omega) | (congr <;> omega)
    obtain ⟨k, hk⟩ := ix
    dsimp only
    apply aw_seq
    apply aw_regs [1, 2, 3, 4, 5, 6, 28] [1, 2, 3, 7, 10, 51, 52, 56, 57, 40]
    · simp (disch := omega) only [avR2, avA, datsOf, fillA, seval, ↓List.forall_mem_cons, Op.operands, hA, tiA]
      first | exact ⟨rfl, rfl⟩ | ((repeat' first | refine And.intro ?_ ?_ | intro _) <;> first | with_reducible rfl | assumption | omega | rfl | (rename_i hq; rw [hq]; rfl) | (simp_all; done))
    refine aw_if _ rfl (fun hb => ?_) (fun hb => ?_) <;> (try simp only [pickB_true, pickB_false, Bool.false_or, Bool.false_and, Bool.true_and, decide_eq_true_eq, decide_eq_false_iff_not, Bool.or_eq_true, Bool.and_eq_true, Bool.or_eq_false_iff, Bool.and_eq_false_imp, Bool.not_eq_true, Bool.not_eq_false, Bool.not_eq_eq_eq_not, Bool.not_true, Bool.not_false, Int.not_lt, Int.not_le, beq_iff_eq, beq_eq_false_iff_ne, bne_iff_ne, bne_eq_false_iff_eq, ne_eq, Bool.true_eq_false, Bool.false_eq_true, if_false_left, if_true_left, Bool.not_eq_eq_eq_not, Bool.decide_eq_true, Classical.not_not] at hb)
    · skip
      have hpk := preM_len (c.items.getD i default) k (by omega)
      apply aw_skip
      apply q_seq
      apply aw_seq
      apply aw_block
      apply aw_rgd [1, 2, 3, 4, 5, 6] [1, 2, 3, 7, 10, 51, 52, 56, 57, 40] [0, 1, 2, 3, 4, 5, 6, 7, 8, 9, 10, 11, 12, 13, 14, 15, 16, 17, 18, 19, 20, 21, 22] []
      · rw [hP]; kernel_rfl
      · exact hR
      · kernel_rfl
      · (repeat (apply PickL.cons; exact rfl)); exact PickL.nil _
      · simp (maxSteps := 2000000) (disch := omega) only [avR2, avA, datsOf, fillA, seval, ↓List.forall_mem_cons, Op.operands, hA, tiA, preM_len, yRow_kill]
        first | exact ⟨rfl, rfl⟩ | ((repeat' first | refine And.intro ?_ ?_ | intro _) <;> first | with_reducible rfl | assumption | omega | rfl | (rename_i hq; rw [hq]; rfl) | (simp_all; done))
      apply q_block
      apply q_seq
      apply aw_reg [1, 2, 3, 4, 5, 6] [1, 2, 3, 7, 10, 51, 52, 56, 57, 40]
      · simp (disch := omega) only [avR2, avA, datsOf, fillA, seval, ↓List.forall_mem_cons, Op.operands, hA, tiA]
        first | exact ⟨rfl, rfl⟩ | ((repeat' first | refine And.intro ?_ ?_ | intro _) <;> first | with_reducible rfl | assumption | omega | rfl | (rename_i hq; rw [hq]; rfl) | (simp_all; done))
      refine q_loop (⟨k + 1, by omega⟩) (Le.of ?_ ?_) (by dsimp only; omega)
      · try simp (disch := omega) only [LeE, LeO, avA, datsOf, fillA, seval, ↓List.forall_mem_cons, Op.operands, preM_zero, preM_succ, yRow_kill]
        all_goals first | done | (repeat' apply And.intro) <;> first | rfl | omega | assumption | (simp only [AV.dat.injEq, Dat.int.injEq, true_and]; omega) | (congr <;> omega)
      · try simp (disch := omega) only [LeE, LeO, avA, datsOf, fillA, seval, ↓List.forall_mem_cons, Op.operands, preM_zero, preM_succ, yRow_kill]
        all_goals first | done | (repeat' apply And.intro) <;> first | rfl | omega | assumption | (simp only [AV.dat.injEq, Dat.int.injEq, true_and]; omega) | (congr <;> omega)
    · skip
      have hkk : k = (c.items.getD i default).length := by omega
      subst hkk
      apply aw_exit
      apply q_exit_seq
      apply q_exit_loop
      apply q_exit
      apply q_seq
      by_cases hik : i = kk
      · skip
        subst hik
        have hst := yRow_here c i
        have hst2 := kRow_here c i
        refine aw_swap 52 40 (by omega) (by omega) ?_
        apply aw_reg [1, 2, 3, 4] [1, 2, 3, 7, 10, 51, 52, 56, 57, 40]
        · simp (disch := omega) only [avR2, avA, datsOf, fillA, seval, ↓List.forall_mem_cons, Op.operands, hA, tiA, yRow_len, preM_all, yRow_kill, yRow_frz, yRow_ren c _ (Nat.le_refl _), kRow_low, List.map_append, List.map_nil]
          first | exact ⟨rfl, rfl⟩ | ((repeat' first | refine And.intro ?_ ?_ | intro _) <;> first | with_reducible rfl | assumption | omega | rfl | (rename_i hq; rw [hq]; rfl) | (simp_all; done))
        apply q_block
        apply q_seq
        apply aw_reg [1, 2, 3, 4] [1, 2, 3, 7, 10, 51, 52, 56, 57, 40]
        · simp (disch := omega) only [avR2, avA, datsOf, fillA, seval, ↓List.forall_mem_cons, Op.operands, hA, tiA]
          first | exact ⟨rfl, rfl⟩ | ((repeat' first | refine And.intro ?_ ?_ | intro _) <;> first | with_reducible rfl | assumption | omega | rfl | (rename_i hq; rw [hq]; rfl) | (simp_all; done))
        refine q_loop (⟨i + 1, by omega⟩) (Le.of ?_ ?_) (by dsimp only; omega)
        · try simp (disch := omega) only [LeE, LeO, avA, datsOf, fillA, seval, ↓List.forall_mem_cons, Op.operands, hst, hst2, yRow_zero, kRow_zero, List.map_nil]
          all_goals first | done | (repeat' apply And.intro) <;> first | rfl | omega | assumption | (simp only [AV.dat.injEq, Dat.int.injEq, true_and]; omega) | (congr <;> omega)
        · try simp (disch := omega) only [LeE, LeO, avA, datsOf, fillA, seval, ↓List.forall_mem_cons, Op.operands, hst, hst2, yRow_zero, kRow_zero, List.map_nil]
          all_goals first | done | (repeat' apply And.intro) <;> first | rfl | omega | assumption | (simp only [AV.dat.injEq, Dat.int.injEq, true_and]; omega) | (congr <;> omega)
      · skip
        have hst := yRow_else c hik
        have hst2 := kRow_else c hik
        refine aw_frzX 52 hR.2.2.2 rfl (datE_map _) rfl ?_
        apply aw_reg [1, 2, 3, 4] [1, 2, 3, 7, 10, 51, 52, 56, 57, 40]
        · simp (disch := omega) only [avR2, avA, datsOf, fillA, seval, ↓List.forall_mem_cons, Op.operands, hA, tiA, yRow_len, preM_all, yRow_kill, yRow_frz, yRow_ren c _ (Nat.le_refl _), kRow_low, List.map_append, List.map_nil]
          first | exact ⟨rfl, rfl⟩ | ((repeat' first | refine And.intro ?_ ?_ | intro _) <;> first | with_reducible rfl | assumption | omega | rfl | (rename_i hq; rw [hq]; rfl) | (simp_all; done))
        apply q_block
        apply q_seq
        apply aw_reg [1, 2, 3, 4] [1, 2, 3, 7, 10, 51, 52, 56, 57, 40]
        · simp (disch := omega) only [avR2, avA, datsOf, fillA, seval, ↓List.forall_mem_cons, Op.operands, hA, tiA]
          first | exact ⟨rfl, rfl⟩ | ((repeat' first | refine And.intro ?_ ?_ | intro _) <;> first | with_reducible rfl | assumption | omega | rfl | (rename_i hq; rw [hq]; rfl) | (simp_all; done))
        refine q_loop (⟨i + 1, by omega⟩) (Le.of ?_ ?_) (by dsimp only; omega)
        · try simp (disch := omega) only [LeE, LeO, avA, datsOf, fillA, seval, ↓List.forall_mem_cons, Op.operands, hst, hst2, yRow_zero, kRow_zero, List.map_nil]
          all_goals first | done | (repeat' apply And.intro) <;> first | rfl | omega | assumption | (simp only [AV.dat.injEq, Dat.int.injEq, true_and]; omega) | (congr <;> omega)
        · try simp (disch := omega) only [LeE, LeO, avA, datsOf, fillA, seval, ↓List.forall_mem_cons, Op.operands, hst, hst2, yRow_zero, kRow_zero, List.map_nil]
          all_goals first | done | (repeat' apply And.intro) <;> first | rfl | omega | assumption | (simp only [AV.dat.injEq, Dat.int.injEq, true_and]; omega) | (congr <;> omega)
  · skip
    have hii : i = c.items.length := by omega
    subst hii
    
    apply aw_exit
    apply q_exit_seq
    apply q_exit_loop
    apply q_exit
    apply q_seq
    apply aw_regs [2] [2, 7, 10, 51, 52, 56, 57, 40]
    · simp (disch := omega) only [avR2, avA, datsOf, fillA, seval, ↓List.forall_mem_cons, Op.operands, hA, tiA]
      first | exact ⟨rfl, rfl⟩ | ((repeat' first | refine And.intro ?_ ?_ | intro _) <;> first | with_reducible rfl | assumption | omega | rfl | (rename_i hq; rw [hq]; rfl) | (simp_all; done))
    apply aw_ret
    simp only [QRet, QRetM, QRetX, retsX_nil, retsX_cons, objsAre, Tryd.results14, resA, mapO_nil, mapO_cons, vD_dat, vD_nils, vD_rp, vD_osl, vD_ptr, vD_agg, vD_fn, vL_dat, vL_app, viewL, avA, datsOf, fillA, seval, ↓List.forall_mem_cons, Op.operands, hP, hG, tiA]

end Go.Proofs.YthcfjdkflmkhbaaDoor

namespace Go.Proofs.YthcfjdkflmkhbaaDoor
open Go.Av

theorem up_le {B Q T : Int} (hQ : 1 ≤ Q) (hT : 0 ≤ T) (h : B ≤ Q * T) : (if 0 < B ∧ B.tmod Q ≠ 0 then B.tdiv Q + 1 else B.tdiv Q) ≤ T := by
  have he := Int.tdiv_mul_add_tmod B Q
  rw [Int.mul_comm] at he
  split
  · rename_i hh
    have h1 := Int.tmod_nonneg Q (show 0 ≤ B by omega)
    have h2 : Q * B.tdiv Q < Q * T := by omega
    have := Int.lt_of_mul_lt_mul_left h2 (by omega)
    omega
  · rename_i hh
    by_cases hB : 0 < B
    · have h1 : B.tmod Q = 0 := by
        refine Classical.byContradiction fun hn => hh ⟨hB, hn⟩
      have h2 : Q * B.tdiv Q ≤ Q * T := by omega
      exact Int.le_of_mul_le_mul_left h2 (by omega)
    · obtain ⟨m, rfl⟩ : ∃ m, B = -m := ⟨-B, by omega⟩
      rw [Int.neg_tdiv]
      have := Int.tdiv_nonneg (show 0 ≤ m by omega) (show 0 ≤ Q by omega)
      omega

section
variable {c : CaseM}
theorem greedy_err (hc : OkC c) : (greedyM c).2.2 = (dualM c).2 := by
  have hv := validM_ok.2 hc
  have hl := shortM_len c c.items.length
  unfold greedyM dualM
  simp only [hv, hl, ne_eq, not_true_eq_false, if_false]
  split <;> rfl
theorem dual_cert (hc : OkC c) (h : (dualM c).2 = 0) : linesM c (shortM c c.items.length) c.items.length ≤ c.room ∧ (dualM c).1 = dA c c.items.length ∧ ∃ e, okE e ∧ (dualM c).1 = boundM c e.1 e.2 := by
  have hv := validM_ok.2 hc
  have hl := shortM_len c c.items.length
  obtain ⟨⟨e, he, hd⟩, _⟩ := dual_spec hc
  unfold dualM at h ⊢
  rw [if_neg (by omega), hl] at h ⊢
  split at h
  · simp at h
  · rename_i hh
    rw [if_neg hh]
    exact ⟨by omega, rfl, e, (prices_ok hc).1 e he, hd⟩

/-- A choice that fits, checked with a certificate. -/
theorem check_fits (hc : OkC c) {P : List Int} (hp : OkP c P) (hl : P.length = c.items.length) (hr : linesM c P c.items.length ≤ c.room) {p q : Int} (hpq : 0 ≤ p ∧ p ≤ 1048576) (hq : 1 ≤ q ∧ q ≤ 1048576) :
    ∃ b, checkM c P (boundM c p q) = (turnsM c P c.items.length, b, 0) ∧ b ≤ turnsM c P c.items.length := by
  have hcf := cost_fits hc hp hl hr
  have hv := validM_ok.2 hc
  have hs := sums_range hc hp c.items.length (by omega)
  have hbe : boundE c p q = (boundM c p q, 0) := by
    unfold boundE
    rw [if_neg (by omega), if_neg (by omega)]
  have hle := bnd_le (p := p) (q := q) hc hp c.items.length (by omega)
  refine ⟨_, ?_, up_le (B := (boundM c p q).2.2) (Q := q) hq.1 hs.2.1 ?_⟩
  · unfold checkM
    rw [hcf]
    have e1 : (boundM c p q).1 = p := rfl
    have e2 : (boundM c p q).2.1 = q := rfl
    simp only [e1, e2, hbe, ne_eq, not_true_eq_false, or_self, if_false]
  · simp only [boundM]
    have h1 : p * linesM c P c.items.length ≤ p * c.room := Int.mul_le_mul_of_nonneg_left hr hpq.1
    have h2 : (0 - p) * c.room = -(p * c.room) := by rw [Int.zero_sub, Int.neg_mul]
    omega

/-- The choices and the certificates of ChooseBounded. -/
def bpicks (c : CaseM) (n : Int) : List (List Int) := [(bestM c).1, (greedyM c).1, pickNM c (aroundM n (countM c))]
def bcerts (c : CaseM) (p q : Int) : List (Int × Int × Int) := [(dualM c).1, boundM c p q]
theorem bounded (hc : OkC c) (n : Int) (he : (bestM c).2.2 = 0) {p q : Int} (hpq : 0 ≤ p ∧ p ≤ 1048576) (hq : 1 ≤ q ∧ q ≤ 1048576) :
    (greedyM c).2.2 = 0 ∧ (dualM c).2 = 0 ∧ boundE c p q = (boundM c p q, 0) ∧ (bestM c).2.1 ≤ (greedyM c).2.1 ∧ (boundM c p q).2.2 * (dualM c).1.2.1 ≤ (dualM c).1.2.2 * (boundM c p q).2.1 ∧
    ∀ i < 3, (costM c ((bpicks c n).getD i default) = (0, 0, 21) ∧ i = 2) ∨ ∃ L T, costM c ((bpicks c n).getD i default) = (L, T, 0) ∧ (bestM c).2.1 ≤ T ∧ ∀ j < 2, ∃ b, checkM c ((bpicks c n).getD i default) ((bcerts c p q).getD j default) = (T, b, 0) ∧ b ≤ T := by
  have hfb := fits_best hc
  have hge := greedy_err hc
  have hv := validM_ok.2 hc
  have hd0 : (dualM c).2 = 0 := by omega
  obtain ⟨hfit, hdA, e, hoe, hde⟩ := dual_cert hc hd0
  unfold okE at hoe
  have hbe : boundE c p q = (boundM c p q, 0) := by
    unfold boundE
    rw [if_neg (by omega), if_neg (by omega)]
  obtain ⟨P, h1, h2, h3, h4⟩ : ∃ pick, OkP c pick ∧ pick.length = c.items.length ∧ linesM c pick c.items.length ≤ c.room ∧ bestM c = (pick, turnsM c pick c.items.length, 0) ∧ ∀ pick', OkP c pick' → pick'.length = c.items.length → linesM c pick' c.items.length ≤ c.room → turnsM c pick c.items.length ≤ turnsM c pick' c.items.length := by
    rcases best_lists hc with ⟨h1, h2⟩ | h
    · rw [h1] at he; simp at he
    · exact h
  obtain ⟨h4, h5⟩ := h4
  obtain ⟨R, g1, g2, g3, g4⟩ := greedy_ok hc hfit
  have key : ∀ Q, OkP c Q → Q.length = c.items.length → linesM c Q c.items.length ≤ c.room → ∃ L T, costM c Q = (L, T, 0) ∧ (bestM c).2.1 ≤ T ∧ ∀ j < 2, ∃ b, checkM c Q ((bcerts c p q).getD j default) = (T, b, 0) ∧ b ≤ T := fun Q q1 q2 q3 => by
    refine ⟨_, _, cost_fits hc q1 q2 q3, by rw [h4]; exact h5 Q q1 q2 q3, fun j hj => ?_⟩
    match j, hj with
    | 0, _ =>
      show ∃ b, checkM c Q (dualM c).1 = _ ∧ _
      rw [hde]
      exact check_fits hc q1 q2 q3 (by omega) (by omega)
    | 1, _ => exact check_fits hc q1 q2 q3 hpq hq
  refine ⟨by omega, hd0, hbe, ?_, ?_, fun i hi => ?_⟩
  · rw [h4, g1]
    exact h5 R g2 g3 g4
  · rw [hdA]
    exact dual_max hc hfit hpq.1 (by omega)
  · match i, hi with
    | 0, _ =>
      right
      have hP : (bpicks c n).getD 0 default = P := by
        show (bestM c).1 = P
        rw [h4]
      rw [hP]
      exact key P h1 h2 h3
    | 1, _ =>
      right
      have hP : (bpicks c n).getD 1 default = R := by
        show (greedyM c).1 = R
        rw [g1]
      rw [hP]
      exact key R g2 g3 g4
    | 2, _ =>
      have hcr := (cntU_mono hc c.items.length (Nat.le_refl _)).1
      have hcm : 0 < countM c := by unfold countM; split <;> omega
      have har := aroundM_range (n := n) (m := countM c) hcm
      have hnn : aroundM n (countM c) = ((aroundM n (countM c)).toNat : Int) := by omega
      rw [show (bpicks c n).getD 2 default = pickNM c (aroundM n (countM c)) from rfl, hnn]
      have hpo := pickNM_ok hc (aroundM n (countM c)).toNat
      have hpl := pickNM_length c ((aroundM n (countM c)).toNat : Int)
      by_cases hf : linesM c (pickNM c ((aroundM n (countM c)).toNat : Int)) c.items.length ≤ c.room
      · exact .inr (key _ hpo hpl hf)
      · left
        refine ⟨?_, rfl⟩
        unfold costM
        have hb : ¬ BadP c (pickNM c ((aroundM n (countM c)).toNat : Int)) := by
          rintro ⟨i, hi, h⟩
          have := hpo.at_ i hi
          omega
        rw [if_neg (by omega), if_neg (by omega), if_neg hb, hpl, if_pos (by omega)]
end

end Go.Proofs.YthcfjdkflmkhbaaDoor

namespace Go.Proofs.YthcfjdkflmkhbaaDoor
open Go.Av

/-- The first r of n values are new ones. -/
def mixL {α : Type} (f g : Nat → α) (n r : Nat) : List α := (List.range n).map fun q => if q < r then f q else g q
theorem mixL_len {α : Type} (f g : Nat → α) (n r : Nat) : (mixL f g n r).length = n := by simp [mixL]
theorem mixL_zero {α : Type} [Inhabited α] (f : Nat → α) (l : List α) : mixL f (fun i => l.getD i default) l.length 0 = l := by
  apply List.ext_getElem (by simp [mixL])
  intro k h1 h2
  simp [mixL, List.getD_eq_getElem?_getD, h2]
theorem mixL_all {α : Type} (f g : Nat → α) (n : Nat) : mixL f g n n = (List.range n).map f := by
  simp only [mixL]
  apply List.map_congr_left
  intro q hq
  rw [if_pos (by simpa using hq)]
theorem mixL_set {α : Type} (f g : Nat → α) (n r : Nat) : (mixL f g n r).set r (f r) = mixL f g n (r + 1) := by
  apply List.ext_getElem (by simp [mixL])
  intro k h1 h2
  rw [List.getElem_set]
  simp only [mixL, List.getElem_map, List.getElem_range]
  split
  · rename_i e; subst e; rw [if_pos (by omega)]
  · rename_i e
    by_cases h3 : k < r
    · rw [if_pos h3, if_pos (by omega)]
    · rw [if_neg h3, if_neg (by omega)]
theorem mixL_get {α : Type} [Inhabited α] (f g : Nat → α) {n r : Nat} (h : r < n) : (mixL f g n r).getD r default = g r := by
  simp [mixL, List.getD_eq_getElem?_getD, h]
theorem scale_all (c : CaseM) (k : Int) : (List.range c.weights.length).map (fun i => k * c.weights.getD i default) = (scaleM c k).weights := by
  apply List.ext_getElem (by simp [scaleM])
  intro i h1 h2
  have hi : i < c.weights.length := by simpa using h1
  simp [scaleM, List.getD_eq_getElem?_getD, hi]
abbrev scW (c : CaseM) (k : Int) (i : Nat) : List Int := mixL (fun i => k * c.weights.getD i default) (fun i => c.weights.getD i default) c.weights.length i
abbrev roI (c : CaseM) (k : Nat) (i : Nat) : List (List (Int × Int)) := mixL (fun i => c.items.getD ((i + k) % c.items.length) default) (fun i => c.items.getD i default) c.items.length i
abbrev roW (c : CaseM) (k : Nat) (i : Nat) : List Int := mixL (fun i => c.weights.getD ((i + k) % c.items.length) default) (fun i => c.weights.getD i default) c.weights.length i
theorem scW_all (c : CaseM) (k : Int) : scW c k c.weights.length = (scaleM c k).weights := by
  unfold scW
  rw [mixL_all, scale_all]
theorem roI_all (c : CaseM) (k : Nat) : roI c k c.items.length = (rotM c k).items := mixL_all _ _ _
theorem roW_all (c : CaseM) (k : Nat) (h : c.weights.length = c.items.length) : roW c k c.weights.length = (rotM c k).weights := by
  unfold roW
  rw [mixL_all, h]
  rfl
theorem rem_nat (i k n : Nat) : ((i : Int) + (k : Int)).tmod (n : Int) = (((i + k) % n : Nat) : Int) := by
  rw [← Int.natCast_add]; rfl
theorem made_weight (l : List Int) {i : Nat} (hi : i < (madeM l).items.length) : weightM (madeM l) i ≤ 10 := by
  have hlen : (madeM l).items.length = (mCnt l).toNat := mItems_len l _
  have : weightM (madeM l) i = mW l i := getD_map_range _ _ _ (by omega)
  rw [this]
  exact (mW_range l i).2
/-- What ChooseScaled compares. -/
theorem scaled {c : CaseM} (hc : OkC c) {k : Nat} (hk : 1 ≤ k ∧ k ≤ 100) (hw : ∀ i < c.items.length, weightM c i ≤ 10) :
    SzC (scaleM c (k : Int)) ∧ SzC (rotM c k) ∧ bestM (scaleM c (k : Int)) = ((bestM c).1, (k : Int) * (bestM c).2.1, (bestM c).2.2) ∧ (bestM (rotM c k)).2 = (bestM c).2 ∧ dualM (rotM c k) = dualM c ∧ (bestM c).2.2 = (dualM c).2 := by
  have h10 : ∀ i < c.items.length, (k : Int) * weightM c i ≤ 1024 := fun i hi => by
    have h1 := hw i hi
    have h2 := hc.w i hi
    have := Int.mul_le_mul (show (k : Int) ≤ 100 by omega) h1 h2.1 (by omega)
    omega
  exact ⟨(scale_ok hc (by omega) h10).sz, (rot_ok hc k).sz, best_scaled hc (by omega) h10, best_rot hc k, dualM_rot hc k, fits_best hc⟩

end Go.Proofs.YthcfjdkflmkhbaaDoor

namespace Go.Proofs.YthcfjdkflmkhbaaDoor
open Go.Av

theorem datE1 {a b : Nat} {c : List Dat} (l : List Dat) : datE ((l.map .dat).map (AV.frz a b c)) = some l := by rw [frz_dats, datE_map]
theorem datE2 {a b a' b' : Nat} {c c' : List Dat} (l : List Dat) : datE (((l.map .dat).map (AV.frz a b c)).map (AV.frz a' b' c')) = some l := by rw [frz_dats, frz_dats, datE_map]
theorem datE3 {a b a' b' a'' b'' : Nat} {c c' c'' : List Dat} (l : List Dat) : datE ((((l.map .dat).map (AV.frz a b c)).map (AV.frz a' b' c')).map (AV.frz a'' b'' c'')) = some l := by rw [frz_dats, frz_dats, frz_dats, datE_map]


set_option maxHeartbeats 4000000 in
theorem scaled_ok (l : List Int) (y : Int) (hl : ∀ x ∈ l, I64 x) (hy : I64 y) : Gives Tryd.prog gG 7 [isD l, iD y] [.bool true] := by
  have hc := madeM_ok l
  have hst1 : (0 : Nat) = 0 := rfl
  have hst2 : (0 : Nat) = 0 := rfl
  have hst3 : (0 : Nat) = 0 := rfl
  have h6 := madeM_len l
  have hsz := hc.sz
  have hwl := hc.wl
  have i100 : I64 100 := by unfold I64; omega
  have h100 := aroundM_range (n := y) (m := 100) (by omega)
  obtain ⟨k, hk, hk1⟩ : ∃ k : Nat, 1 + aroundM y 100 = (k : Int) ∧ 1 ≤ k ∧ k ≤ 100 := ⟨(1 + aroundM y 100).toNat, by omega, by omega, by omega⟩
  obtain ⟨s1, s2, s3, s4, s5, s6⟩ := scaled hc hk1 (fun i hi => made_weight l hi)
  have hbn := best_nn hc
  have hbl := bestM_len (madeM l)
  have hb1 := best_ok (scaleM (madeM l) (k : Int)) s1
  have hb2 := best_ok (rotM (madeM l) k) s2
  have hd2 := dual_ok gG (rotM (madeM l) k) s2
  rw [s3] at hb1
  rw [s4] at hb2
  rw [s5] at hd2
  have hm1 : 0 ≤ (k : Int) * (bestM (madeM l)).2.1 := Int.mul_nonneg (by omega) hbn.1
  have hm2 : (k : Int) * (bestM (madeM l)).2.1 ≤ 100 * (65536 * 64) := Int.mul_le_mul (by omega) hbn.2 hbn.1 (by omega)
  skip
  refine gives_intro [] [30, 32] [] Tryd.func7 rfl (by rfl) (by simp [Tryd.ntmps7]) fun F hP hG hN hR => ?_
  rw [Tryd.ntmps7] at hN
  have hA := And.intro hN (And.intro hP (And.intro hG (And.intro hR.1 (And.intro hR.2.1 hR.2.2.1))))
  apply aw_regs [0, 1] [140, 141, 142, 143]
  · simp (disch := omega) only [avR2, avA, datsOf, fillA, seval, ↓List.forall_mem_cons, Op.operands, hA, tiA]
    first | exact ⟨rfl, rfl⟩ | ((repeat' first | refine And.intro ?_ ?_ | intro _) <;> first | with_reducible rfl | assumption | omega | rfl | (rename_i hq; rw [hq]; rfl) | (simp_all; done))
  apply aw_regs [1, 5] [5, 140, 141, 142, 143]
  · simp (disch := omega) only [avR2, avA, datsOf, fillA, seval, ↓List.forall_mem_cons, Op.operands, hA, tiA]
    (repeat' refine And.intro ?_ ?_) <;> try first | omega | assumption | with_reducible rfl | exact rfl | (intro hside; (repeat' refine And.intro ?_ ?_) <;> first | exact hside | omega | (rw [hside]; rfl) | (simp_all; done))
    refine CallC.use (gvF hP hG (made_ok gG l hl)) rfl ?_
    try simp (maxSteps := 2000000) (disch := omega) only [avR2, avA, datsOf, fillA, seval, ↓List.forall_mem_cons, Op.operands, hA, tiA]
    first | exact ⟨rfl, rfl⟩ | ((repeat' first | refine And.intro ?_ ?_ | intro _) <;> first | with_reducible rfl | assumption | omega | rfl | (rename_i hq; rw [hq]; rfl) | (simp_all; done))
  apply aw_regs [5, 6] [5, 140, 141, 142, 143]
  · simp (disch := omega) only [avR2, avA, datsOf, fillA, seval, ↓List.forall_mem_cons, Op.operands, hA, tiA, hk]
    (repeat' refine And.intro ?_ ?_) <;> try first | omega | assumption | with_reducible rfl | exact rfl | (intro hside; (repeat' refine And.intro ?_ ?_) <;> first | exact hside | omega | (rw [hside]; rfl) | (simp_all; done))
    refine CallC.use (gvF hP hG (around_ok gG y 100 hy (by omega) i100)) rfl ?_
    try simp (maxSteps := 2000000) (disch := omega) only [avR2, avA, datsOf, fillA, seval, ↓List.forall_mem_cons, Op.operands, hA, tiA, hk]
    first | exact ⟨rfl, rfl⟩ | ((repeat' first | refine And.intro ?_ ?_ | intro _) <;> first | with_reducible rfl | assumption | omega | rfl | (rename_i hq; rw [hq]; rfl) | (simp_all; done))
  apply aw_regs [5, 6, 7] [5, 7, 140, 141, 142, 143]
  · simp (disch := omega) only [avR2, avA, datsOf, fillA, seval, ↓List.forall_mem_cons, Op.operands, hA, tiA]
    (repeat' refine And.intro ?_ ?_) <;> try first | omega | assumption | with_reducible rfl | exact rfl
    refine CallC.useX (fun i => if i = 57 then 140 else 141) [57, 10] (by simp [LitD, hR.2.1]) (gvFX hP hG (own_okX gG (madeM l) hsz)) rfl (lentX_of hN (by first | trivial | ((try simp only [haveL, AObj.ren, AV.ren, renL, ren_row, List.map_cons, List.map_nil, objL_cons, objL_nil]) <;> ((repeat' apply And.intro) <;> first | trivial | rfl))) (by rfl)) ?_
    try simp (maxSteps := 2000000) (disch := omega) only [avR2, avA, datsOf, fillA, seval, ↓List.forall_mem_cons, Op.operands, hA, tiA, avX]
    first | exact ⟨rfl, rfl⟩ | ((repeat' first | refine And.intro ?_ ?_ | intro _) <;> first | with_reducible rfl | assumption | omega | rfl | (rename_i hq; rw [hq]; rfl) | (simp_all; done))
  apply aw_regs [5, 6, 7, 8] [5, 7, 8, 140, 141, 142, 143]
  · simp (disch := omega) only [avR2, avA, datsOf, fillA, seval, ↓List.forall_mem_cons, Op.operands, hA, tiA]
    (repeat' refine And.intro ?_ ?_) <;> try first | omega | assumption | with_reducible rfl | exact rfl
    refine CallC.useX (fun i => if i = 57 then 142 else 143) [57, 10] (by simp [LitD, hR.2.1]) (gvFX hP hG (own_okX gG (madeM l) hsz)) rfl (lentX_of hN (by first | trivial | ((try simp only [haveL, AObj.ren, AV.ren, renL, ren_row, List.map_cons, List.map_nil, objL_cons, objL_nil]) <;> ((repeat' apply And.intro) <;> first | trivial | rfl))) (by rfl)) ?_
    try simp (maxSteps := 2000000) (disch := omega) only [avR2, avA, datsOf, fillA, seval, ↓List.forall_mem_cons, Op.operands, hA, tiA, avX]
    first | exact ⟨rfl, rfl⟩ | ((repeat' first | refine And.intro ?_ ?_ | intro _) <;> first | with_reducible rfl | assumption | omega | rfl | (rename_i hq; rw [hq]; rfl) | (simp_all; done))
  apply aw_regs [5, 6, 7, 8, 9] [5, 7, 8, 140, 141, 142, 143]
  · simp (disch := omega) only [avR2, avA, datsOf, fillA, seval, ↓List.forall_mem_cons, Op.operands, hA, tiA]
    first | exact ⟨rfl, rfl⟩ | ((repeat' first | refine And.intro ?_ ?_ | intro _) <;> first | with_reducible rfl | assumption | omega | rfl | (rename_i hq; rw [hq]; rfl) | (simp_all; done))
  apply aw_seq
  apply aw_regs [5, 6, 7, 8, 9, 10] [5, 7, 8, 140, 141, 142, 143]
  · simp (disch := omega) only [avR2, avA, datsOf, fillA, seval, ↓List.forall_mem_cons, Op.operands, hA, tiA]
    first | exact ⟨rfl, rfl⟩ | ((repeat' first | refine And.intro ?_ ?_ | intro _) <;> first | with_reducible rfl | assumption | omega | rfl | (rename_i hq; rw [hq]; rfl) | (simp_all; done))
  apply aw_block
  refine aw_loop (ι := {i : Nat // i ≤ (madeM l).items.length}) (fun ⟨i, hi⟩ => .of [(5, .ptr 5 3 0 0), (6, .dat (iD k)), (7, .ptr 7 3 0 0), (8, .ptr 8 3 0 0), (9, .dat (iD (madeM l).items.length)), (10, .dat (iD i))] [(5, ⟨3, [.dat (caseD (madeM l))]⟩), (7, ⟨3, [.agg [.osl 140 1 0 (madeM l).items.length, .osl 141 1 0 (madeM l).weights.length, .dat (iD (madeM l).room)]]⟩), (8, ⟨3, [.agg [.osl 142 1 0 (madeM l).items.length, .osl 143 1 0 (madeM l).weights.length, .dat (iD (madeM l).room)]]⟩), (140, ⟨1, ((madeM l).items.map osD).map .dat⟩), (141, ⟨1, ((scW (madeM l) k i).map iD).map .dat⟩), (142, ⟨1, ((roI (madeM l) k i).map osD).map .dat⟩), (143, ⟨1, ((roW (madeM l) k i).map iD).map .dat⟩)]) (fun ⟨i, hi⟩ => (madeM l).items.length - i) (⟨0, by omega⟩) (Le.of ?_ ?_) fun ix => ?_
  · try simp (disch := omega) only [LeE, LeO, avA, datsOf, fillA, seval, ↓List.forall_mem_cons, Op.operands, mixL_zero, set_row, hst1, hst2, hst3]
    all_goals first | done | (repeat' apply And.intro) <;> first | rfl | omega | assumption | (simp only [AV.dat.injEq, Dat.int.injEq, true_and]; omega) | (congr <;> omega)
  · try simp (disch := omega) only [LeE, LeO, avA, datsOf, fillA, seval, ↓List.forall_mem_cons, Op.operands, mixL_zero, set_row, hst1, hst2, hst3]
    all_goals first | done | (repeat' apply And.intro) <;> first | rfl | omega | assumption | (simp only [AV.dat.injEq, Dat.int.injEq, true_and]; omega) | (congr <;> omega)
  obtain ⟨i, hi⟩ := ix
  dsimp only
  apply aw_seq
  apply aw_regs [5, 6, 7, 8, 9, 10, 38] [5, 7, 8, 140, 141, 142, 143]
  · simp (disch := omega) only [avR2, avA, datsOf, fillA, seval, ↓List.forall_mem_cons, Op.operands, hA, tiA]
    first | exact ⟨rfl, rfl⟩ | ((repeat' first | refine And.intro ?_ ?_ | intro _) <;> first | with_reducible rfl | assumption | omega | rfl | (rename_i hq; rw [hq]; rfl) | (simp_all; done))
  refine aw_if _ rfl (fun hb => ?_) (fun hb => ?_) <;> (try simp only [pickB_true, pickB_false, Bool.false_or, Bool.false_and, Bool.true_and, decide_eq_true_eq, decide_eq_false_iff_not, Bool.or_eq_true, Bool.and_eq_true, Bool.or_eq_false_iff, Bool.and_eq_false_imp, Bool.not_eq_true, Bool.not_eq_false, Bool.not_eq_eq_eq_not, Bool.not_true, Bool.not_false, Int.not_lt, Int.not_le, beq_iff_eq, beq_eq_false_iff_ne, bne_iff_ne, bne_eq_false_iff_eq, ne_eq, Bool.true_eq_false, Bool.false_eq_true, if_false_left, if_true_left, Bool.not_eq_eq_eq_not, Bool.decide_eq_true, Classical.not_not] at hb)
  · skip
    have hil : i < (madeM l).items.length := by omega
    have hw := hc.w i hil
    have hw10 := made_weight l hil
    simp only [weightM] at hw hw10
    have hme1 : 0 ≤ (k : Int) * (madeM l).weights.getD i default := Int.mul_nonneg (by omega) hw.1
    have hme2 : (k : Int) * (madeM l).weights.getD i default ≤ 100 * 10 := Int.mul_le_mul (by omega) hw10 hw.1 (by omega)
    have hml := Nat.mod_lt (i + k) (show 0 < (madeM l).items.length by omega)
    have hrem := rem_nat i k (madeM l).items.length
    have hl1 : (scW (madeM l) (k : Int) i).length = (madeM l).weights.length := mixL_len _ _ _ _
    have hl2 : (roI (madeM l) k i).length = (madeM l).items.length := mixL_len _ _ _ _
    have hl3 : (roW (madeM l) k i).length = (madeM l).weights.length := mixL_len _ _ _ _
    have hg1 : (scW (madeM l) (k : Int) i).getD i default = (madeM l).weights.getD i default := mixL_get _ _ (by omega)
    have hst1 : (scW (madeM l) (k : Int) i).set i ((k : Int) * (madeM l).weights.getD i default) = scW (madeM l) (k : Int) (i + 1) := mixL_set _ _ _ _
    have hst2 : (roI (madeM l) k i).set i ((madeM l).items.getD ((i + k) % (madeM l).items.length) default) = roI (madeM l) k (i + 1) := mixL_set _ _ _ _
    have hst3 : (roW (madeM l) k i).set i ((madeM l).weights.getD ((i + k) % (madeM l).items.length) default) = roW (madeM l) k (i + 1) := mixL_set _ _ _ _
    apply aw_skip
    apply q_seq
    apply aw_seq
    apply aw_block
    apply aw_rgds [5, 6, 7, 8, 9, 10] [5, 7, 8, 140, 141, 142, 143] [0, 1, 2, 3, 4, 5, 6, 7, 8, 9, 10, 11] []
    · rw [hP]; kernel_rfl
    · exact hR
    · kernel_rfl
    · (repeat (apply PickL.cons; exact rfl)); exact PickL.nil _
    · simp (disch := omega) only [avR2, avA, datsOf, fillA, seval, ↓List.forall_mem_cons, Op.operands, hA, tiA, hg1]
      first | exact ⟨rfl, rfl⟩ | ((repeat' first | refine And.intro ?_ ?_ | intro _) <;> first | with_reducible rfl | assumption | omega | rfl | (rename_i hq; rw [hq]; rfl) | (simp_all; done))
    apply aw_rgds [5, 6, 7, 8, 9, 10] [5, 7, 8, 140, 141, 142, 143] [0, 1, 2, 3, 4, 5, 6, 7, 8, 9, 10, 11, 12, 13, 14] []
    · rw [hP]; kernel_rfl
    · exact hR
    · kernel_rfl
    · (repeat (apply PickL.cons; exact rfl)); exact PickL.nil _
    · simp (maxSteps := 2000000) (disch := omega) only [avR2, avA, datsOf, fillA, seval, ↓List.forall_mem_cons, Op.operands, hA, tiA, hrem]
      (repeat' refine And.intro ?_ ?_) <;> try first | omega | assumption | with_reducible rfl | exact rfl | (intro hside; (repeat' refine And.intro ?_ ?_) <;> first | exact hside | omega | (rw [hside]; rfl) | (simp_all; done))
      refine CallC.use (gvF hP hG (own_ok gG (madeM l) hsz)) rfl ?_
      try simp (maxSteps := 2000000) (disch := omega) only [avR2, avA, datsOf, fillA, seval, ↓List.forall_mem_cons, Op.operands, hA, tiA, hrem]
      first | exact ⟨rfl, rfl⟩ | ((repeat' first | refine And.intro ?_ ?_ | intro _) <;> first | with_reducible rfl | assumption | omega | rfl | (rename_i hq; rw [hq]; rfl) | (simp_all; done))
    apply aw_rgd [5, 6, 7, 8, 9, 10] [5, 7, 8, 140, 141, 142, 143] [0, 1, 2, 3, 4, 5, 6, 7, 8, 9, 10, 11, 12, 13] []
    · rw [hP]; kernel_rfl
    · exact hR
    · kernel_rfl
    · (repeat (apply PickL.cons; exact rfl)); exact PickL.nil _
    · simp (maxSteps := 2000000) (disch := omega) only [avR2, avA, datsOf, fillA, seval, ↓List.forall_mem_cons, Op.operands, hA, tiA, hrem]
      first | exact ⟨rfl, rfl⟩ | ((repeat' first | refine And.intro ?_ ?_ | intro _) <;> first | with_reducible rfl | assumption | omega | rfl | (rename_i hq; rw [hq]; rfl) | (simp_all; done))
    apply q_block
    apply q_seq
    apply aw_reg [5, 6, 7, 8, 9, 10] [5, 7, 8, 140, 141, 142, 143]
    · simp (disch := omega) only [avR2, avA, datsOf, fillA, seval, ↓List.forall_mem_cons, Op.operands, hA, tiA]
      first | exact ⟨rfl, rfl⟩ | ((repeat' first | refine And.intro ?_ ?_ | intro _) <;> first | with_reducible rfl | assumption | omega | rfl | (rename_i hq; rw [hq]; rfl) | (simp_all; done))
    refine q_loop (⟨i + 1, by omega⟩) (Le.of ?_ ?_) (by dsimp only; omega)
    · try simp (disch := omega) only [LeE, LeO, avA, datsOf, fillA, seval, ↓List.forall_mem_cons, Op.operands, mixL_zero, set_row, hst1, hst2, hst3]
      all_goals first | done | (repeat' apply And.intro) <;> first | rfl | omega | assumption | (simp only [AV.dat.injEq, Dat.int.injEq, true_and]; omega) | (congr <;> omega)
    · try simp (disch := omega) only [LeE, LeO, avA, datsOf, fillA, seval, ↓List.forall_mem_cons, Op.operands, mixL_zero, set_row, hst1, hst2, hst3]
      all_goals first | done | (repeat' apply And.intro) <;> first | rfl | omega | assumption | (simp only [AV.dat.injEq, Dat.int.injEq, true_and]; omega) | (congr <;> omega)
  · skip
    have hii : i = (madeM l).items.length := by omega
    subst hii
    refine aw_frz 140 hR.2.2.2 rfl (datE_map _) ?_
    refine aw_frz 141 hR.2.2.2 rfl (datE1 _) ?_
    refine aw_frz 142 hR.2.2.2 rfl (datE2 _) ?_
    refine aw_frz 143 hR.2.2.2 rfl (datE3 _) ?_
    have ha1 : scW (madeM l) (k : Int) (madeM l).items.length = (scaleM (madeM l) (k : Int)).weights := by rw [← hwl]; exact scW_all _ _
    have ha2 : roI (madeM l) k (madeM l).items.length = (rotM (madeM l) k).items := roI_all _ _
    have ha3 : roW (madeM l) k (madeM l).items.length = (rotM (madeM l) k).weights := by rw [← hwl]; exact roW_all _ _ hwl
    have hw1 : (scaleM (madeM l) (k : Int)).weights.length = (madeM l).items.length := by simp only [scaleM, List.length_map]; exact hwl
    have hw2 : (rotM (madeM l) k).items.length = (madeM l).items.length := rot_len k
    have hw3 : (rotM (madeM l) k).weights.length = (madeM l).items.length := by simp [rotM]
    apply aw_exit
    apply q_exit_seq
    apply q_exit_loop
    apply q_exit
    apply q_seq
    apply aw_regs [5, 6, 7, 8, 11, 12, 13] [5, 7, 8, 140, 141, 142, 143]
    · simp (disch := omega) only [avR2, avA, datsOf, fillA, seval, ↓List.forall_mem_cons, Op.operands, hA, tiA, ha1, ha2, ha3, hwl, hw1, hw2, hw3, Nat.le_refl, List.take_of_length_le]
      (repeat' refine And.intro ?_ ?_) <;> try first | omega | assumption | with_reducible rfl | exact rfl | (intro hside; (repeat' refine And.intro ?_ ?_) <;> first | exact hside | omega | (rw [hside]; rfl) | (simp_all; done))
      refine CallC.use (gvF hP hG (own_ok gG (madeM l) hsz)) rfl ?_
      try simp (maxSteps := 2000000) (disch := omega) only [avR2, avA, datsOf, fillA, seval, ↓List.forall_mem_cons, Op.operands, hA, tiA]
      (repeat' refine And.intro ?_ ?_) <;> try first | omega | assumption | with_reducible rfl | exact rfl | (intro hside; (repeat' refine And.intro ?_ ?_) <;> first | exact hside | omega | (rw [hside]; rfl) | (simp_all; done))
      refine CallC.use (gvF hP hG (best_ok (madeM l) hsz)) rfl ?_
      try simp (maxSteps := 2000000) (disch := omega) only [avR2, avA, datsOf, fillA, seval, ↓List.forall_mem_cons, Op.operands, hA, tiA]
      first | exact ⟨rfl, rfl⟩ | ((repeat' first | refine And.intro ?_ ?_ | intro _) <;> first | with_reducible rfl | assumption | omega | rfl | (rename_i hq; rw [hq]; rfl) | (simp_all; done))
    apply aw_regs [5, 6, 8, 11, 12, 13, 14, 15, 16] [5, 8, 140, 141, 142, 143]
    · simp (disch := omega) only [avR2, avA, datsOf, fillA, seval, ↓List.forall_mem_cons, Op.operands, hA, tiA, ha1, hwl]
      (repeat' refine And.intro ?_ ?_) <;> try first | omega | assumption | with_reducible rfl | exact rfl | (intro hside; (repeat' refine And.intro ?_ ?_) <;> first | exact hside | omega | (rw [hside]; rfl) | (simp_all; done))
      refine CallC.use (gvF hP hG (hb1)) rfl ?_
      try simp (maxSteps := 2000000) (disch := omega) only [avR2, avA, datsOf, fillA, seval, ↓List.forall_mem_cons, Op.operands, hA, tiA]
      first | exact ⟨rfl, rfl⟩ | ((repeat' first | refine And.intro ?_ ?_ | intro _) <;> first | with_reducible rfl | assumption | omega | rfl | (rename_i hq; rw [hq]; rfl) | (simp_all; done))
    apply aw_regs [5, 6, 8, 11, 12, 13, 14, 15, 16, 18, 19] [5, 8, 140, 141, 142, 143]
    · simp (disch := omega) only [avR2, avA, datsOf, fillA, seval, ↓List.forall_mem_cons, Op.operands, hA, tiA, ha2, ha3, hwl]
      (repeat' refine And.intro ?_ ?_) <;> try first | omega | assumption | with_reducible rfl | exact rfl | (intro hside; (repeat' refine And.intro ?_ ?_) <;> first | exact hside | omega | (rw [hside]; rfl) | (simp_all; done))
      refine CallC.use (gvF hP hG (hb2)) rfl ?_
      try simp (maxSteps := 2000000) (disch := omega) only [avR2, avA, datsOf, fillA, seval, ↓List.forall_mem_cons, Op.operands, hA, tiA]
      first | exact ⟨rfl, rfl⟩ | ((repeat' first | refine And.intro ?_ ?_ | intro _) <;> first | with_reducible rfl | assumption | omega | rfl | (rename_i hq; rw [hq]; rfl) | (simp_all; done))
    apply aw_regs [6, 8, 11, 12, 13, 14, 15, 16, 18, 19, 20, 21] [8, 20, 140, 141, 142, 143]
    · simp (disch := omega) only [avR2, avA, datsOf, fillA, seval, ↓List.forall_mem_cons, Op.operands, hA, tiA]
      (repeat' refine And.intro ?_ ?_) <;> try first | omega | assumption | with_reducible rfl | exact rfl | (intro hside; (repeat' refine And.intro ?_ ?_) <;> first | exact hside | omega | (rw [hside]; rfl) | (simp_all; done))
      refine CallC.use (gvF hP hG (own_ok gG (madeM l) hsz)) rfl ?_
      try simp (maxSteps := 2000000) (disch := omega) only [avR2, avA, datsOf, fillA, seval, ↓List.forall_mem_cons, Op.operands, hA, tiA]
      (repeat' refine And.intro ?_ ?_) <;> try first | omega | assumption | with_reducible rfl | exact rfl | (intro hside; (repeat' refine And.intro ?_ ?_) <;> first | exact hside | omega | (rw [hside]; rfl) | (simp_all; done))
      refine CallC.use (gvF hP hG (dual_ok gG (madeM l) hsz)) rfl ?_
      try simp (maxSteps := 2000000) (disch := omega) only [avR2, avA, datsOf, fillA, seval, ↓List.forall_mem_cons, Op.operands, hA, tiA]
      first | exact ⟨rfl, rfl⟩ | ((repeat' first | refine And.intro ?_ ?_ | intro _) <;> first | with_reducible rfl | assumption | omega | rfl | (rename_i hq; rw [hq]; rfl) | (simp_all; done))
    apply aw_regs [6, 11, 12, 13, 14, 15, 16, 18, 19, 20, 21, 22, 23] [20, 22, 140, 141, 142, 143]
    · simp (disch := omega) only [avR2, avA, datsOf, fillA, seval, ↓List.forall_mem_cons, Op.operands, hA, tiA, ha2, ha3, hwl]
      (repeat' refine And.intro ?_ ?_) <;> try first | omega | assumption | with_reducible rfl | exact rfl | (intro hside; (repeat' refine And.intro ?_ ?_) <;> first | exact hside | omega | (rw [hside]; rfl) | (simp_all; done))
      refine CallC.use (gvF hP hG (hd2)) rfl ?_
      try simp (maxSteps := 2000000) (disch := omega) only [avR2, avA, datsOf, fillA, seval, ↓List.forall_mem_cons, Op.operands, hA, tiA]
      first | exact ⟨rfl, rfl⟩ | ((repeat' first | refine And.intro ?_ ?_ | intro _) <;> first | with_reducible rfl | assumption | omega | rfl | (rename_i hq; rw [hq]; rfl) | (simp_all; done))
    apply aw_seq
    apply aw_regs [6, 11, 12, 14, 15, 18, 20, 22, 126] [20, 22, 140, 141, 142, 143]
    · simp (maxSteps := 2000000) (disch := omega) only [avR2, avA, datsOf, fillA, seval, ↓List.forall_mem_cons, Op.operands, hA, tiA, bne_self_eq_false, s6]
      first | exact ⟨rfl, rfl⟩ | ((repeat' first | refine And.intro ?_ ?_ | intro _) <;> first | with_reducible rfl | assumption | omega | rfl | (rename_i hq; rw [hq]; rfl) | (simp_all; done))
    refine aw_iff rfl ?_
    apply aw_skip
    apply q_seq
    apply aw_regs [4] [140, 141, 142, 143]
    · simp (maxSteps := 2000000) (disch := omega) only [avR2, avA, datsOf, fillA, seval, ↓List.forall_mem_cons, Op.operands, hA, tiA, beq_self_eq_true, Bool.and_true, decide_true, eq50]
      (repeat' refine And.intro ?_ ?_) <;> try first | omega | assumption | with_reducible rfl | exact rfl | (intro hside; (repeat' refine And.intro ?_ ?_) <;> first | exact hside | omega | (rw [hside]; rfl) | (simp_all; done))
      refine CallC.use (gvF hP hG (same_ok gG (bestM (madeM l)).1 (bestM (madeM l)).1 (by omega))) rfl ?_
      try simp (maxSteps := 2000000) (disch := omega) only [avR2, avA, datsOf, fillA, seval, ↓List.forall_mem_cons, Op.operands, hA, tiA, beq_self_eq_true, Bool.and_true, decide_true, eq50]
      (repeat' refine And.intro ?_ ?_) <;> try first | omega | assumption | with_reducible rfl | exact rfl | (intro hside; (repeat' refine And.intro ?_ ?_) <;> first | exact hside | omega | (rw [hside]; rfl) | (simp_all; done))
      refine CallGC.use rfl (fun hg => ⟨by simp_all [gdAll], gvF hP hG (lives_ok)⟩) ?_
      try simp (maxSteps := 2000000) (disch := omega) only [avR2, avA, datsOf, fillA, seval, ↓List.forall_mem_cons, Op.operands, hA, tiA, beq_self_eq_true, Bool.and_true, decide_true]
      first | exact ⟨rfl, rfl⟩ | ((repeat' first | refine And.intro ?_ ?_ | intro _) <;> first | with_reducible rfl | assumption | omega | rfl | (rename_i hq; rw [hq]; rfl) | (simp_all; done))
    apply aw_ret
    simp only [QRet, QRetM, QRetX, retsX_nil, retsX_cons, objsAre, Tryd.results7, resA, mapO_nil, mapO_cons, vD_dat, vD_nils, vD_rp, vD_osl, vD_ptr, vD_agg, vD_fn, vL_dat, vL_app, viewL, avA, datsOf, fillA, seval, ↓List.forall_mem_cons, Op.operands, hP, hG, tiA]

end Go.Proofs.YthcfjdkflmkhbaaDoor

