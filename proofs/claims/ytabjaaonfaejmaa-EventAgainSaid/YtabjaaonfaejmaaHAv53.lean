/- A drawn region by what holds for each set of done operations: states written by the operations' effects. -/
import Derived.Test.YtabjaaonfaejmaaHAv52
set_option linter.all false
namespace Go.Av
def objD (D : Nat → Bool) (base : Nat → Option AObj) : List (Nat × Nat × AObj) → Nat → Option AObj
  | [] => base
  | (i, id, o) :: l => fun n => if n = id ∧ D i = true then some o else objD D base l n
def jD (evs : List (Nat × Nat × AV)) (ovs : List (Nat × Nat × AObj)) (st : ASt) (D : Nat → Bool) : ASt := ⟨envD D st.env evs, objD D st.objs ovs⟩
theorem objD_same {D : Nat → Bool} {base : Nat → Option AObj} {i : Nat} : ∀ {l : List (Nat × Nat × AObj)}, i ∉ l.map (·.1) → objD (addD D i) base l = objD D base l
  | [], _ => rfl
  | (j, c, u) :: l, h => by
    simp only [List.map_cons, List.mem_cons, not_or] at h
    have := objD_same (D := D) (base := base) h.2
    funext n
    simp only [objD, this, addD, if_neg (Ne.symm h.1)]
theorem envD_same' {D : Nat → Bool} {base : Nat → AV} {i : Nat} : ∀ {l : List (Nat × Nat × AV)}, i ∉ l.map (·.1) → envD (addD D i) base l = envD D base l
  | [], _ => rfl
  | (j, c, u) :: l, h => by
    simp only [List.map_cons, List.mem_cons, not_or] at h
    have := envD_same' (D := D) (base := base) h.2
    funext n
    simp only [envD, this, addD, if_neg (Ne.symm h.1)]
def objOK (D : Nat → Bool) (i id : Nat) (o : AObj) : List (Nat × Nat × AObj) → Prop
  | [] => False
  | (j, c, u) :: l => (j = i ∧ c = id ∧ u = o ∧ i ∉ l.map (·.1)) ∨ (j ≠ i ∧ (c ≠ id ∨ D j = false) ∧ objOK D i id o l)
theorem objD_add {D : Nat → Bool} {base : Nat → Option AObj} {i id : Nat} {o : AObj} : ∀ {l : List (Nat × Nat × AObj)}, objOK D i id o l → upd (objD D base l) id (some o) = objD (addD D i) base l
  | [], h => h.elim
  | (j, c, u) :: l, h => by
    rcases h with ⟨rfl, rfl, rfl, h⟩ | ⟨h1, h2, h3⟩
    · have hr := objD_same (D := D) (base := base) h
      funext n
      simp only [upd_apply, objD, hr]
      by_cases hn : n = c <;> simp [hn, addD]
    · have ih := objD_add (base := base) h3
      funext n
      have := congrFun ih n
      simp only [upd_apply] at this
      simp only [upd_apply, objD, ← this]
      by_cases hn : n = id
      · subst hn
        rcases h2 with h2 | h2
        · simp [Ne.symm h2]
        · simp [addD, h1, h2]
      · simp [hn, addD, h1]
theorem jD_put {evs : List (Nat × Nat × AV)} {ovs : List (Nat × Nat × AObj)} {st : ASt} {D : Nat → Bool} {i d : Nat} {v : AV} (h : (i, d, v) ∈ evs) (h1 : (evs.map (·.2.1)).Nodup) (h2 : (evs.map (·.1)).Nodup) (h3 : i ∉ ovs.map (·.1)) :
    (jD evs ovs st D).put (some d) v = jD evs ovs st (addD D i) := by
  unfold jD ASt.put
  simp only [envD_add (D := D) (base := st.env) h h1 h2, objD_same (D := D) (base := st.objs) h3]
theorem jD_obj {evs : List (Nat × Nat × AV)} {ovs : List (Nat × Nat × AObj)} {st : ASt} {D : Nat → Bool} {i id : Nat} {o : AObj} (h : objOK D i id o ovs) (h3 : i ∉ evs.map (·.1)) :
    (jD evs ovs st D).obj id o = jD evs ovs st (addD D i) := by
  unfold jD ASt.obj
  simp only [objD_add (D := D) (base := st.objs) h, envD_same' (D := D) (base := st.env) h3]
def FixK (id : Nat) (st : ASt) : Prop := (∀ n, (st.env n).kill id = st.env n) ∧ ∀ k o, st.objs k = some o → o.elems.map (AV.kill id) = o.elems
theorem kill_obj {st : ASt} {id : Nat} (h : FixK id st) (x : AObj) : (st.kill id).obj id x = st.obj id x := by
  unfold ASt.kill ASt.obj
  simp only [h.1]
  congr 1
  funext n
  simp only [upd_apply]
  split
  · rfl
  · cases ho : st.objs n with
    | none => simp
    | some o =>
      have := h.2 n o ho
      simp [this]
theorem jD_fix {evs : List (Nat × Nat × AV)} {ovs : List (Nat × Nat × AObj)} {st : ASt} {D : Nat → Bool} {id : Nat} (h : FixK id st) (h1 : ∀ p ∈ evs, D p.1 = false ∨ p.2.2.kill id = p.2.2) (h2 : ∀ p ∈ ovs, D p.1 = false ∨ p.2.2.elems.map (AV.kill id) = p.2.2.elems) : FixK id (jD evs ovs st D) := by
  refine ⟨fun n => ?_, fun k o ho => ?_⟩
  · unfold jD
    simp only
    induction evs with
    | nil => exact h.1 n
    | cons p l ih =>
      obtain ⟨i, d, v⟩ := p
      simp only [envD]
      split
      · rename_i hc
        rcases h1 (i, d, v) (by simp) with hf | hf
        · rw [hf] at hc; cases hc.2
        · exact hf
      · exact ih fun p hp => h1 p (by simp [hp])
  · unfold jD at ho
    simp only at ho
    induction ovs with
    | nil => exact h.2 k o ho
    | cons p l ih =>
      obtain ⟨i, c, u⟩ := p
      simp only [objD] at ho
      split at ho
      · rename_i hc
        cases ho
        rcases h2 (i, c, o) (by simp) with hf | hf
        · rw [hf] at hc; cases hc.2
        · exact hf
      · exact ih (fun p hp => h2 p (by simp [hp])) ho
theorem jD_none {evs : List (Nat × Nat × AV)} {ovs : List (Nat × Nat × AObj)} {st : ASt} {D : Nat → Bool} (h1 : ∀ p ∈ evs, D p.1 = false) (h2 : ∀ p ∈ ovs, D p.1 = false) : jD evs ovs st D = st := by
  have e1 := envD_none (base := st.env) h1
  have e2 : objD D st.objs ovs = st.objs := by
    induction ovs with
    | nil => rfl
    | cons p l ih =>
      obtain ⟨i, c, u⟩ := p
      funext n
      simp only [objD, ih fun p hp => h2 p (by simp [hp])]
      rw [if_neg fun hc => by have := h2 (i, c, u) (by simp); rw [this] at hc; cases hc.2]
  unfold jD
  rw [e1, e2]
theorem of_fix {id : Nat} {e : List (Nat × AV)} {o : List (Nat × AObj)} (h1 : ∀ p ∈ e, p.2.kill id = p.2) (h2 : ∀ p ∈ o, p.2.elems.map (AV.kill id) = p.2.elems) : FixK id (.of e o) := by
  refine ⟨fun n => ?_, fun k x hx => h2 (k, x) (objL_mem hx)⟩
  show (envL e n).kill id = envL e n
  induction e with
  | nil => rfl
  | cons p l ih =>
    obtain ⟨k, v⟩ := p
    simp only [envL]
    split
    · exact h1 (k, v) (by simp)
    · exact ih fun p hp => h1 p (by simp [hp])
end Go.Av

