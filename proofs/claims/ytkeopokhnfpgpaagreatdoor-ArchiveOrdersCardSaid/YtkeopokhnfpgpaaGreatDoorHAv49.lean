/- A part of the proof. -/
import Derived.Test.YtkeopokhnfpgpaaGreatDoorHAv48
set_option linter.all false
namespace Go.Av
theorem zxo {F : FC} {ops : Array Oper} {o : Oper} {l : List Oper} {Q : Exit → ASt → Prop} {st st' : ASt} {j : Nat} {want : Bool} (hg : o.guard = some (j, want)) (hv : x9 ops st.env j want = some true) (h : StepOK F o st st') (k : AList F ops l Q st') : AList F ops (o :: l) Q st := fun a w hs => by
 unfold wpListIn
 have hgs : (yielded ops a.tmps j == some want) = true := by
  obtain ⟨hdf, β, S, hsim⟩ := hs
  exact j9 (a := a) hsim.env hv
 rw [if_pos (by simp only [Region.wanted, hg, hgs])]
 exact (h a w hs _ _ fun a' w' hs' => k a' w' hs')
theorem zvw {F : FC} {ops : Array Oper} {o : Oper} {l : List Oper} {Q : Exit → ASt → Prop} {st : ASt} {j d : Nat} {want : Bool} (v : AV) (hg : o.guard = some (j, want)) (hd : o.dst = some d) (hN : d < F.N) (hv : x9 ops st.env j want = some false) (k : AList F ops l Q (st.put (some d) (.cond false v))) : AList F ops (o :: l) Q st := fun a w hs => by
 unfold wpListIn
 obtain ⟨hdf, β, S, hsim⟩ := hs
 have hgs : (yielded ops a.tmps j == some want) = false := j9 (a := a) hsim.env hv
 rw [if_neg (by simp only [Region.wanted, hg, hgs]; simp), hd]
 refine ⟨fun _ _ => trivial, k _ _ ⟨hdf, β, S, hsim.put hN ?_⟩⟩
 simp [RepA]
theorem zsf {F : FC} (ns ids : List Nat) (J : ASt → (Nat → Bool) → ASt) {e : List (Nat × AV)} {o : List (Nat × AObj)} {l : List Oper} {id : Nat} {y : Code} {Q : Exit → ASt → Prop} {st : ASt} (hm : F.P.follows .mixedOrders = true)
  (hng : l.all (fun o => o.guard.isNone) = true) (hedge : (List.range l.length).all (fun i => match l[i]? with | some o => o.after.toList.all fun e => !Region.binds .any e || decide (e.on < i) | none => true) = true)
  (hstep : ∀ (D : Nat → Bool) (i : Nat) (o : Oper), l[i]? = some o → D i = false → (∀ e ∈ o.after.toList, Region.binds .any e = true → D e.on = true) → kf l.toArray D → StepOK F o (J st D) (J st (vc D i)))
  (h0 : ∀ D : Nat → Bool, (∀ i, i < l.length → D i = false) → J st D = st) (hk : Kept ns ids e o (J st fun _ => true)) (k : AWp F y Q (.of e o)) : AWp F (.seq (.region id l.toArray true) y) Q st :=
 z3 fun a w hs => by
  refine wpIn_mono (zvy (Q := fun ex st' => ex = Exit.normal ∧ st' = J st fun _ => true) (J st) hm hng hedge hstep (fun D hD => Le.eq (h0 D hD).symm) ⟨rfl, rfl⟩ a w hs) fun ex a' w' ⟨st', ⟨h1, h2⟩, hs'⟩ => ?_
  subst h1; subst h2
  refine ⟨.of e o, k, ?_⟩
  have := Le.keep F (J st fun _ => true) ns ids a' w' hs'
  unfold ASt.keep at this
  rw [hk.1, hk.2] at this
  exact this
theorem z3z {D : Nat → Bool} {base : Nat → AV} : ∀ {l : List (Nat × Nat × AV)}, (∀ p ∈ l, D p.1 = false) → envD D base l = base
 | [], _ => rfl
 | (i, d, v) :: l, h => by
  have h0 := h (i, d, v) (by simp)
  have ih := z3z (D := D) (base := base) (l := l) fun p hp => h p (List.mem_cons_of_mem _ hp)
  funext n
  simp only [envD, ih]
  rw [if_neg (fun hh => by rw [h0] at hh; cases hh.2)]
theorem zpl {d : Dat} : ∀ {ks vs : List Dat}, ks.length = vs.length → lkp ks vs d = none → z5m ks d = ks ++ [d] ∧ ∀ x, z5n ks vs d x = vs ++ [x]
 | [], [], _, _ => ⟨rfl, fun _ => rfl⟩
 | [], _ :: _, h, _ => by simp at h
 | _ :: _, [], h, _ => by simp at h
 | k :: ks, v :: vs, hl, h => by
  by_cases hk : Xe d k = true
  ·simp [lkp, hk] at h
  ·have := zpl (d := d) (ks := ks) (vs := vs) (by simpa using hl) (by simpa [lkp, hk] using h)
   simp [z5m, z5n, hk, this]
theorem jn (d i : Nat) (h : i ≠ d) : AV.kill d (.mp i) = .mp i := by simp [AV.kill, h]
theorem Zc (d es i : Nat) (ds : List Dat) (h : i ≠ d) : AV.frz d es ds (.mp i) = .mp i := by simp [AV.frz, h]
end Go.Av

