/- A part of the proof. -/
import Derived.Test.YtkeopokhnfpgpaaGreatDoorHAv52
set_option linter.all false
namespace Go.Av
def z2a (D : Nat → Bool) (base : Nat → Option AObj) : List (Nat × Nat × AObj) → Nat → Option AObj
 | [] => base
 | (i, id, o) :: l => fun n => if n = id ∧ D i = true then some o else z2a D base l n
def jD (evs : List (Nat × Nat × AV)) (ovs : List (Nat × Nat × AObj)) (st : ASt) (D : Nat → Bool) : ASt := ⟨envD D st.env evs, z2a D st.objs ovs⟩
theorem z4c {D : Nat → Bool} {base : Nat → Option AObj} {i : Nat} : ∀ {l : List (Nat × Nat × AObj)}, i ∉ l.map (·.1) → z2a (vc D i) base l = z2a D base l
 | [], _ => rfl
 | (j, c, u) :: l, h => by
  simp only [List.map_cons, List.mem_cons, not_or] at h
  have := z4c (D := D) (base := base) h.2
  funext n
  simp only [z2a, this, vc, if_neg (Ne.symm h.1)]
theorem z23 {D : Nat → Bool} {base : Nat → AV} {i : Nat} : ∀ {l : List (Nat × Nat × AV)}, i ∉ l.map (·.1) → envD (vc D i) base l = envD D base l
 | [], _ => rfl
 | (j, c, u) :: l, h => by
  simp only [List.map_cons, List.mem_cons, not_or] at h
  have := z23 (D := D) (base := base) h.2
  funext n
  simp only [envD, this, vc, if_neg (Ne.symm h.1)]
def z57 (D : Nat → Bool) (i id : Nat) (o : AObj) : List (Nat × Nat × AObj) → Prop
 | [] => False
 | (j, c, u) :: l => (j = i ∧ c = id ∧ u = o ∧ i ∉ l.map (·.1)) ∨ (j ≠ i ∧ (c ≠ id ∨ D j = false) ∧ z57 D i id o l)
theorem z7b {D : Nat → Bool} {base : Nat → Option AObj} {i id : Nat} {o : AObj} : ∀ {l : List (Nat × Nat × AObj)}, z57 D i id o l → upd (z2a D base l) id (some o) = z2a (vc D i) base l
 | [], h => h.elim
 | (j, c, u) :: l, h => by
  rcases h with ⟨rfl, rfl, rfl, h⟩ | ⟨h1, h2, h3⟩
  ·have hr := z4c (D := D) (base := base) h
   funext n
   simp only [zq, z2a, hr]
   by_cases hn : n = c <;> simp [hn, vc]
  ·have ih := z7b (base := base) h3
   funext n
   have := congrFun ih n
   simp only [zq] at this
   simp only [zq, z2a, ← this]
   by_cases hn : n = id
   ·subst hn
    rcases h2 with h2 | h2
    ·simp [Ne.symm h2]
    ·simp [vc, h1, h2]
   ·simp [hn, vc, h1]
theorem z49 {evs : List (Nat × Nat × AV)} {ovs : List (Nat × Nat × AObj)} {st : ASt} {D : Nat → Bool} {i d : Nat} {v : AV} (h : (i, d, v) ∈ evs) (h1 : (evs.map (·.2.1)).Nodup) (h2 : (evs.map (·.1)).Nodup) (h3 : i ∉ ovs.map (·.1)) :
  (jD evs ovs st D).put (some d) v = jD evs ovs st (vc D i) := by
 unfold jD ASt.put
 simp only [Zl (D := D) (base := st.env) h h1 h2, z4c (D := D) (base := st.objs) h3]
theorem zp6 {evs : List (Nat × Nat × AV)} {ovs : List (Nat × Nat × AObj)} {st : ASt} {D : Nat → Bool} {i id : Nat} {o : AObj} (h : z57 D i id o ovs) (h3 : i ∉ evs.map (·.1)) :
  (jD evs ovs st D).obj id o = jD evs ovs st (vc D i) := by
 unfold jD ASt.obj
 simp only [z7b (D := D) (base := st.objs) h, z23 (D := D) (base := st.env) h3]
theorem zj5 {evs : List (Nat × Nat × AV)} {ovs : List (Nat × Nat × AObj)} {st : ASt} {D : Nat → Bool} {i d id : Nat} {v : AV} {o : AObj} (h : (i, d, v) ∈ evs) (h1 : (evs.map (·.2.1)).Nodup) (h2 : (evs.map (·.1)).Nodup) (h3 : z57 D i id o ovs) :
  ((jD evs ovs st D).obj id o).put (some d) v = jD evs ovs st (vc D i) := by
 unfold jD ASt.obj ASt.put
 simp only [z7b (D := D) (base := st.objs) h3, Zl (D := D) (base := st.env) h h1 h2]
def z5h (id : Nat) (st : ASt) : Prop := (∀ n, (st.env n).kill id = st.env n) ∧ ∀ k o, st.objs k = some o → o.elems.map (AV.kill id) = o.elems
theorem z2w {st : ASt} {id : Nat} (h : z5h id st) (x : AObj) : (st.kill id).obj id x = st.obj id x := by
 unfold ASt.kill ASt.obj
 simp only [h.1]
 congr 1
 funext n
 simp only [zq]
 split
 ·rfl
 ·cases ho : st.objs n with
  | none => simp
  | some o =>
   have := h.2 n o ho
   simp [this]
theorem zgz {evs : List (Nat × Nat × AV)} {ovs : List (Nat × Nat × AObj)} {st : ASt} {D : Nat → Bool} {id : Nat} (h : z5h id st) (h1 : ∀ p ∈ evs, D p.1 = false ∨ p.2.2.kill id = p.2.2) (h2 : ∀ p ∈ ovs, D p.1 = false ∨ p.2.2.elems.map (AV.kill id) = p.2.2.elems) : z5h id (jD evs ovs st D) := by
 refine ⟨fun n => ?_, fun k o ho => ?_⟩
 ·unfold jD
  simp only
  induction evs with
  | nil => exact h.1 n
  | cons p l ih =>
   obtain ⟨i, d, v⟩ := p
   simp only [envD]
   split
   ·rename_i hc
    rcases h1 (i, d, v) (by simp) with hf | hf
    ·rw [hf] at hc; cases hc.2
    ·exact hf
   ·exact ih fun p hp => h1 p (by simp [hp])
 ·unfold jD at ho
  simp only at ho
  induction ovs with
  | nil => exact h.2 k o ho
  | cons p l ih =>
   obtain ⟨i, c, u⟩ := p
   simp only [z2a] at ho
   split at ho
   ·rename_i hc
    cases ho
    rcases h2 (i, c, o) (by simp) with hf | hf
    ·rw [hf] at hc; cases hc.2
    ·exact hf
   ·exact ih (fun p hp => h2 p (by simp [hp])) ho
theorem ztn {evs : List (Nat × Nat × AV)} {ovs : List (Nat × Nat × AObj)} {st : ASt} {D : Nat → Bool} (h1 : ∀ p ∈ evs, D p.1 = false) (h2 : ∀ p ∈ ovs, D p.1 = false) : jD evs ovs st D = st := by
 have e1 := z3z (base := st.env) h1
 have e2 : z2a D st.objs ovs = st.objs := by
  induction ovs with
  | nil => rfl
  | cons p l ih =>
   obtain ⟨i, c, u⟩ := p
   funext n
   simp only [z2a, ih fun p hp => h2 p (by simp [hp])]
   rw [if_neg fun hc => by have := h2 (i, c, u) (by simp); rw [this] at hc; cases hc.2]
 unfold jD
 rw [e1, e2]
theorem z6y {evs : List (Nat × Nat × AV)} {ovs : List (Nat × Nat × AObj)} {st : ASt} {D : Nat → Bool} {n : Nat} (h : n ∉ evs.map (·.2.1)) : (jD evs ovs st D).env n = st.env n :=
 zdm fun p hp e => h (List.mem_map.2 ⟨p, hp, e⟩)
theorem y9 {evs : List (Nat × Nat × AV)} {ovs : List (Nat × Nat × AObj)} {st : ASt} {D : Nat → Bool} {i d : Nat} {v : AV} (hD : D i = true) (h : (i, d, v) ∈ evs) (h1 : (evs.map (·.2.1)).Nodup) : (jD evs ovs st D).env d = v :=
 zdl hD h h1
theorem z6z {evs : List (Nat × Nat × AV)} {ovs : List (Nat × Nat × AObj)} {st : ASt} {D : Nat → Bool} {n : Nat} (h : n ∉ ovs.map (·.2.1)) : (jD evs ovs st D).objs n = st.objs n := by
 unfold jD
 simp only
 induction ovs with
 | nil => rfl
 | cons p l ih =>
  obtain ⟨i, c, u⟩ := p
  simp only [List.map_cons, List.mem_cons, not_or] at h
  simp only [z2a, h.1, false_and, if_false]
  exact ih h.2
theorem zby {id : Nat} {e : List (Nat × AV)} {o : List (Nat × AObj)} (h1 : ∀ p ∈ e, p.2.kill id = p.2) (h2 : ∀ p ∈ o, p.2.elems.map (AV.kill id) = p.2.elems) : z5h id (.of e o) := by
 refine ⟨fun n => ?_, fun k x hx => h2 (k, x) (vx hx)⟩
 show (y0 e n).kill id = y0 e n
 induction e with
 | nil => rfl
 | cons p l ih =>
  obtain ⟨k, v⟩ := p
  simp only [y0]
  split
  ·exact h1 (k, v) (by simp)
  ·exact ih fun p hp => h1 p (by simp [hp])
end Go.Av

