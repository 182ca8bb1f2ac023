/- A part of the proof. -/
import Derived.Test.YtkeopokhnfpgpaaGreatDoorHAv47
set_option linter.all false
namespace Go.Av
def vc (D : Nat → Bool) (i : Nat) : Nat → Bool := fun j => if j = i then true else D j
def kf (ops : Array Oper) (D : Nat → Bool) : Prop := ∀ i o, ops[i]? = some o → D i = true → ∀ e ∈ o.after.toList, Region.binds .any e = true → D e.on = true
def StepG (F : FC) (ops : Array Oper) (o : Oper) (st st' : ASt) : Prop :=
 match o.guard with
 | none => StepOK F o st st'
 | some (j, want) => (x9 ops st.env j want = some true ∧ StepOK F o st st') ∨ (x9 ops st.env j want = some false ∧ ∃ d v, o.dst = some d ∧ d < F.N ∧ st' = st.put (some d) (.cond false v))
theorem zo6 {F : FC} {ops : Array Oper} {Q : Exit → Act → World → Prop} (I : (Nat → Bool) → ASt)
  (hedge : ∀ i o, ops[i]? = some o → ∀ e ∈ o.after.toList, Region.binds .any e = true → e.on < i)
  (hstep : ∀ (D : Nat → Bool) i o, ops[i]? = some o → D i = false → (∀ e ∈ o.after.toList, Region.binds .any e = true → D e.on = true) → kf ops D → StepG F ops o (I D) (I (vc D i)))
  (hend : ∀ a w, Sim F (I fun _ => true) a w → Q .normal a w) : ∀ (n : Nat) (R : List Nat) (listed : Array Bool) (a : Act) (w : World), R.length = n → listed.size = ops.size → (∀ j, listed.getD j true = false ↔ j ∈ R) → R.Nodup →
  kf ops (fun j => listed.getD j true) → Sim F (I fun j => listed.getD j true) a w → wpAnyIn F.fence 0 F.P .any ops Q n listed a w := by
 intro n
 induction n with
 | zero =>
  intro R listed a w hlen hsz hl hnd hcl hs
  have hRn : R = [] := List.eq_nil_of_length_eq_zero hlen
  subst hRn
  refine ⟨?_, hend a w ?_⟩
  ·apply List.eq_nil_iff_forall_not_mem.2
   intro j hj
   obtain ⟨h0, _⟩ := mem_ready.1 hj
   have := (hl j).1 h0
   simp at this
  ·have : (fun j => listed.getD j true) = fun _ => true := funext fun j => by
    cases h : listed.getD j true
    ·have := (hl j).1 h; simp at this
    ·rfl
   rw [this] at hs
   exact hs
 | succ n ih =>
  intro R listed a w hlen hsz hl hnd hcl hs
  have gd : ∀ j, j < ops.size → listed.getD j true = listed.getD j false := fun j hj => by
   simp [Array.getD_eq_getD_getElem?, Array.getElem?_eq_getElem (show j < listed.size by omega)]
  have hin : ∀ j, listed.getD j true = false → j < ops.size := fun j hj => by
   rcases Nat.lt_or_ge j ops.size with h | h
   ·exact h
   ·simp [Array.getD_eq_getD_getElem?, show listed[j]? = none from Array.getElem?_eq_none (by omega)] at hj
  refine ⟨fun hn => ?_, fun i hi => ?_⟩
  ·exfalso
   have hall : ∀ j, j ∉ R := fun j => by
    induction j using Nat.strongRecOn with
    | _ j ihj =>
     intro hj
     have hf := (hl j).2 hj
     have hjs := hin j hf
     have : j ∈ Region.ready .any ops listed := by
      refine mem_ready.2 ⟨hf, ops[j], Array.getElem?_eq_getElem hjs, fun e he hb => ?_⟩
      have hlt := hedge j _ (Array.getElem?_eq_getElem hjs) e (by simpa using he) hb
      rw [← gd e.on (by omega)]
      cases h : listed.getD e.on true
      ·exact absurd ((hl e.on).1 h) (ihj e.on hlt)
      ·rfl
     rw [hn] at this
     simp at this
   cases R with
   | nil => simp at hlen
   | cons r R => exact hall r (by simp)
  ·obtain ⟨h0, oi, hoi, hall⟩ := mem_ready.1 hi
   have hiR := (hl i).1 h0
   have his := hin i h0
   have hdone : ∀ e ∈ oi.after.toList, Region.binds .any e = true → listed.getD e.on true = true := fun e he hb => by
    have hlt := hedge i oi hoi e he hb
    rw [gd e.on (by omega)]
    exact hall e (by simpa using he) hb
   have hD : (fun j => (listed.setIfInBounds i true).getD j true) = vc (fun j => listed.getD j true) i := funext fun j => by
    unfold vc
    by_cases hj : j = i
    ·subst hj
     simp [Array.getD_eq_getD_getElem?, Array.getElem?_setIfInBounds, show j < listed.size by omega]
    ·rw [if_neg hj]
     simp [Array.getD_eq_getD_getElem?, Array.getElem?_setIfInBounds, Ne.symm hj]
   have hst := hstep (fun j => listed.getD j true) i oi hoi h0 hdone hcl
   unfold wpOpIn
   simp only [hoi]
   suffices hnext : ∀ a' w', Sim F (I (vc (fun j => listed.getD j true) i)) a' w' → wpAnyIn F.fence 0 F.P .any ops Q n (listed.setIfInBounds i true) a' w' by
    unfold StepG at hst
    split at hst
    ·rename_i hg
     rw [if_pos (by simp [Region.wanted, hg])]
     exact hst a w hs _ _ hnext
    ·rename_i j want hg
     have hgs : ∀ b, x9 ops (I fun j => listed.getD j true).env j want = some b → (yielded ops a.tmps j == some want) = b := fun b hv => by
      obtain ⟨hdf, β, S, hsim⟩ := hs
      exact j9 (a := a) hsim.env hv
     rcases hst with ⟨hv, hst⟩ | ⟨hv, d, v, hd, hN, he⟩
     ·rw [if_pos (by simp only [Region.wanted, hg, hgs _ hv])]
      exact hst a w hs _ _ hnext
     ·rw [if_neg (by simp only [Region.wanted, hg, hgs _ hv]; simp), hd]
      obtain ⟨hdf, β, S, hsim⟩ := hs
      refine ⟨fun _ _ => trivial, hnext _ _ ?_⟩
      rw [he]
      exact ⟨hdf, β, S, hsim.put hN (by simp [RepA])⟩
   intro a' w' hs'
   obtain ⟨pre, post, hR⟩ := List.append_of_mem hiR
   subst hR
   have hnd' := List.nodup_append.1 hnd
   have hni : i ∉ pre ++ post := by
    intro h
    rcases List.mem_append.1 h with h | h
    ·exact (hnd'.2.2 i h i (by simp)) rfl
    ·exact (List.nodup_cons.1 hnd'.2.1).1 h
   have hsub : (pre ++ post).Sublist (pre ++ i :: post) := (List.Sublist.refl pre).append (List.sublist_cons_self i post)
   refine ih (pre ++ post) (listed.setIfInBounds i true) a' w' (by simp at hlen ⊢; omega) (by simpa using hsz) (fun j => ?_) (hnd.sublist hsub) ?_ (by rw [hD]; exact hs')
   ·rw [show (listed.setIfInBounds i true).getD j true = vc (fun j => listed.getD j true) i j from congrFun hD j]
    unfold vc
    by_cases hj : j = i
    ·subst hj; simp [hni]
    ·rw [if_neg hj, hl j]
     simp [hj]
   ·rw [hD]
    intro j o ho hj e he hb
    unfold vc at hj ⊢
    by_cases he' : e.on = i
    ·rw [if_pos he']
    ·rw [if_neg he']
     by_cases hji : j = i
     ·subst hji
      rw [hoi] at ho
      cases ho
      exact hdone e he hb
     ·rw [if_neg hji] at hj
      exact hcl j o ho hj e he hb
theorem zig {F : FC} (I : (Nat → Bool) → ASt) {l : List Oper} (hm : F.P.follows .mixedOrders = true)
  (hedge : (List.range l.length).all (fun i => match l[i]? with | some o => o.after.toList.all fun e => !Region.binds .any e || decide (e.on < i) | none => true) = true)
  (hstep : ∀ (D : Nat → Bool) i o, l[i]? = some o → D i = false → (∀ e ∈ o.after.toList, Region.binds .any e = true → D e.on = true) → kf l.toArray D → StepG F l.toArray o (I D) (I (vc D i)))
  {id : Nat} {Q : Exit → ASt → Prop} {st : ASt} (h0 : ∀ D : Nat → Bool, (∀ i, i < l.length → D i = false) → Le F st (I D)) (k : Q .normal (I fun _ => true)) : AWp F (.region id l.toArray true) Q st := fun a w hs => by
 refine wpIn_region_any hm ?_
 have hD0 : ∀ j, (Array.replicate l.toArray.size false).getD j true = false ↔ j ∈ List.range l.length := fun j => by
  simp only [Array.getD_eq_getD_getElem?, Array.getElem?_replicate, List.mem_range, List.size_toArray]
  split <;> simp [*]
 refine zo6 I (fun i o ho e he hb => ?_) (fun D i o ho => hstep D i o (by simpa using ho)) (fun a' w' hs' => ⟨_, k, hs'⟩) _ (List.range l.length) _ a _ (by simp) (by simp) hD0 List.nodup_range ?_ (h0 _ (fun i hi => (hD0 i).2 (List.mem_range.2 hi)) a _ hs.drew)
 ·have ho' : l[i]? = some o := by simpa using ho
  have hi : i < l.length := (List.getElem?_eq_some_iff.1 ho').1
  have := List.all_eq_true.1 hedge i (List.mem_range.2 hi)
  rw [ho'] at this
  simp only [List.all_eq_true, Bool.or_eq_true, Bool.not_eq_true', decide_eq_true_eq] at this
  rcases this e he with h | h
  ·rw [hb] at h; cases h
  ·exact h
 ·intro i o ho hi e he hb
  have hi' : i < l.length := by have := (Array.getElem?_eq_some_iff.1 ho).1; simpa using this
  have := ((hD0 i).2 (List.mem_range.2 hi')).symm.trans hi
  cases this
theorem zvy {F : FC} (I : (Nat → Bool) → ASt) {l : List Oper} (hm : F.P.follows .mixedOrders = true)
  (hng : l.all (fun o => o.guard.isNone) = true) (hedge : (List.range l.length).all (fun i => match l[i]? with | some o => o.after.toList.all fun e => !Region.binds .any e || decide (e.on < i) | none => true) = true)
  (hstep : ∀ (D : Nat → Bool) i o, l[i]? = some o → D i = false → (∀ e ∈ o.after.toList, Region.binds .any e = true → D e.on = true) → kf l.toArray D → StepOK F o (I D) (I (vc D i)))
  {id : Nat} {Q : Exit → ASt → Prop} {st : ASt} (h0 : ∀ D : Nat → Bool, (∀ i, i < l.length → D i = false) → Le F st (I D)) (k : Q .normal (I fun _ => true)) : AWp F (.region id l.toArray true) Q st :=
 zig I hm hedge (fun D i o ho h1 h2 h3 => by
  have := List.all_eq_true.1 hng o (List.mem_of_getElem? ho)
  unfold StepG
  rw [Option.isNone_iff_eq_none.1 this]
  exact hstep D i o ho h1 h2 h3) h0 k
def envD (D : Nat → Bool) (base : Nat → AV) : List (Nat × Nat × AV) → Nat → AV
 | [] => base
 | (i, d, v) :: l => fun n => if n = d ∧ D i = true then v else envD D base l n
theorem zdm {D : Nat → Bool} {base : Nat → AV} {n : Nat} : ∀ {l : List (Nat × Nat × AV)}, (∀ p ∈ l, p.2.1 ≠ n) → envD D base l n = base n
 | [], _ => rfl
 | (i, d, v) :: l, h => by
  have h0 : n ≠ d := fun e => h (i, d, v) (by simp) e.symm
  simp only [envD, h0, false_and, if_false]
  exact zdm fun p hp => h p (List.mem_cons_of_mem _ hp)
theorem zdl {D : Nat → Bool} {base : Nat → AV} {i d : Nat} {v : AV} (hD : D i = true) : ∀ {l : List (Nat × Nat × AV)}, (i, d, v) ∈ l → (l.map (·.2.1)).Nodup → envD D base l d = v
 | [], h, _ => by simp at h
 | (j, c, u) :: l, h, hn => by
  simp only [List.map_cons, List.nodup_cons] at hn
  rcases List.mem_cons.1 h with h | h
  ·cases h
   simp [envD, hD]
  ·have hne : d ≠ c := fun e => hn.1 (List.mem_map.2 ⟨(i, d, v), h, e⟩)
   simp only [envD, hne, false_and, if_false]
   exact zdl hD h hn.2
theorem Zl {D : Nat → Bool} {base : Nat → AV} {i d : Nat} {v : AV} : ∀ {l : List (Nat × Nat × AV)}, (i, d, v) ∈ l → (l.map (·.2.1)).Nodup → (l.map (·.1)).Nodup → upd (envD D base l) d v = envD (vc D i) base l
 | [], h, _, _ => by simp at h
 | (j, c, u) :: l, h, hn, hi => by
  simp only [List.map_cons, List.nodup_cons] at hn hi
  rcases List.mem_cons.1 h with h | h
  ·cases h
   have hr : envD (vc D i) base l = envD D base l := envD_same hi.1
   funext n
   simp only [zq, envD, hr]
   by_cases hnd : n = d
   ·simp [hnd, vc]
   ·simp [hnd]
  ·have hne : d ≠ c := fun e => hn.1 (List.mem_map.2 ⟨(i, d, v), h, e⟩)
   have hji : j ≠ i := fun e => hi.1 (List.mem_map.2 ⟨(i, d, v), h, e.symm⟩)
   have ih := Zl (D := D) (base := base) h hn.2 hi.2
   funext n
   have := congrFun ih n
   simp only [zq] at this
   simp only [zq, envD, ← this]
   by_cases hnd : n = d
   ·subst hnd; simp [hne]
   ·simp [hnd, vc, hji]
where envD_same {D : Nat → Bool} {base : Nat → AV} {i : Nat} : ∀ {l : List (Nat × Nat × AV)}, i ∉ l.map (·.1) → envD (vc D i) base l = envD D base l
 | [], _ => rfl
 | (j, c, u) :: l, h => by
  simp only [List.map_cons, List.mem_cons, not_or] at h
  have := envD_same (D := D) (base := base) h.2
  funext n
  simp only [envD, this, vc, if_neg (Ne.symm h.1)]
theorem zmj {F : FC} {o : Oper} {st st' : ASt} (h : j3 F o st (fun s => s = st')) : StepOK F o st st' := fun a w hs K Q hK => Qo h hs fun s a' w' hs' hsim => hK a' w' (hs' ▸ hsim)
theorem j1 {F : FC} {ops : Array Oper} {o : Oper} {st st' : ASt} (hg : o.guard = none) (h : zh F ops [o] st (fun s => s = st')) : StepOK F o st st' := fun a w hs K Q hK => by
 simp only [zh] at h
 unfold wn at h
 split at h
 ·exact Qo h hs fun s a' w' hs' hsim => hK a' w' (hs' ▸ hsim)
 ·rename_i hg'
  rw [hg] at hg'; cases hg'
end Go.Av

