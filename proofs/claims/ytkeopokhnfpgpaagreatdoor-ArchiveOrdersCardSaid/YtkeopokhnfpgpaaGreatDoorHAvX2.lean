/- A part of the proof. -/
import Derived.Test.YtkeopokhnfpgpaaGreatDoorHAvM2
import Derived.Test.YtkeopokhnfpgpaaGreatDoorHP2
set_option linter.all false
namespace Go.Av
def z0t : List AV → List AV → Prop
 | [], rs => rs = []
 | x :: xs, rs => ∃ r rs', rs = r :: rs' ∧ (x = r ∨ ∃ d, r = .dat d ∧ wb (fun _ => none) 6 x = some d) ∧ z0t xs rs'
theorem zai {F : FC} {β : zg} {S : Nat → Nat → Prop} {st : ASt} {tm : Array Value} {w : World} (hs : SimB F β S st tm w) : ∀ {xs rs : List AV} {vs : List Value}, z0t xs rs → RepAL β S w xs vs → RepAL β S w rs vs
 | [], rs, vs, h, hr => by
  simp only [z0t] at h
  subst h
  exact hr
 | x :: xs, rs, vs, h, hr => by
  simp only [z0t] at h
  obtain ⟨r, rs', rfl, h1, h2⟩ := h
  simp only [RepAL] at hr ⊢
  obtain ⟨v, vs', rfl, h3, h4⟩ := hr
  refine ⟨v, vs', rfl, ?_, zai hs h2 h4⟩
  rcases h1 with rfl | ⟨d, rfl, hd⟩
  ·exact h3
  ·have hless : SimB F β S ⟨st.env, fun _ => none⟩ tm w := hs.less (fun n => .inl rfl) (fun i o h => by simp at h)
   have := (kd hless 6 x d hd).1 v h3
   simp only [RepA]
   refine RepX.mono (fun b i hA => ⟨?_, rfl⟩) d v this
   rcases hA with hA | ⟨id, o, s, ho, _⟩
   ·exact hA
   ·simp at ho
def vk (F : FC) (res : List ResultVar) (rs : List AV) (os' : List (Nat × AObj)) : Exit → ASt → Prop
 | .normal, st | .ret, st => (vb F st res).1 ∧ z0t (vb F st res).2 rs ∧ x5 st.objs os'
 | _, _ => False
def PinM (F : FC) (L : List Nat) (r : Bool := true) : Prop := (∀ b, F.M0 b → F.frb b ∨ ∃ i ∈ L, F.N ≤ i ∧ ∃ s, F.pin i = some (b, s)) ∧ (r = true → F.rnd = none)
theorem zbo {P : Program} {G : List (Nat × Dat)} {f : FuncId} {fn : Func} {c : Code} {xs rs : List AV} {os os' : List (Nat × AObj)} (rows lits apps : List Nat) (hf : P.funcs[f]? = some fn) (hb : fn.body = some c) (hname : (fn.name == "runtime.NumGoroutine") = false) (hn : xs.length ≤ fn.ntmps)
  (hid : ∀ p ∈ os, fn.ntmps ≤ p.1) (hnew : ∀ p ∈ os', fn.ntmps ≤ p.1 → p.1 ∈ os.map (·.1)) (hrs : wl (kl os') rs = true) (hos : ∀ p ∈ os', wl (kl os') p.2.elems = true)
  (h : ∀ F : FC, F.P = P → F.G = G → F.N = fn.ntmps → (F.rows = rows ∧ F.lits = lits ∧ F.apps = apps ∧ PinM F (os.map (·.1))) → AWp F c (vk F fn.results.toList rs os') (.initM xs os)) : GivesX P G f xs os rs os' := by
 refine ⟨⟨⟨fn, c, hf, hb, hname⟩, hrs, hos⟩, fun w β S vals hs hv => ?_⟩
 let F : FC := ⟨P, fn.ntmps, G, w, MB os β, S, rows, lits, apps, β, none, [], w.heap.size, fun _ => False, []⟩
 have hvl : ∀ {l : List AV} {us : List Value}, RepAL β S w l us → us.length = l.length ∧ ∀ (i : Nat) (d : AV), l[i]? = some d → ∃ v, us[i]? = some v ∧ RepA β S w d v := by
  intro l us h
  exact ⟨zy h, fun i d hd => xu h hd⟩
 obtain ⟨hlen, hget⟩ := hvl hv
 have hsim : SimB F β S (.initM xs os) (vals ++ Array.replicate (fn.ntmps - vals.size) undef) w := by
  refine ⟨hs.ext, hs.glob, hs.sub, hs.lt, hs.sep, hs.inj, hs.obj, fun n => ?_, ⟨by simp [F]; omega, fun _ _ => rfl⟩⟩
  simp only [ASt.initM, Av.initM]
  split
  ·rename_i d hd
   obtain ⟨v, hv', hr⟩ := hget n d hd
   have hnl : n < vals.size := by have := (List.getElem?_eq_some_iff.1 hv').1; simpa using this
   have hv2 : vals[n]? = some v := by simpa using hv'
   simp only [Array.getD_eq_getD_getElem?]
   rw [Array.getElem?_append_left hnl, hv2]
   exact hr
  ·simp [RepA]
 have hM : PinM F (os.map (·.1)) := ⟨fun b ⟨id, o, s, ho, hb⟩ => .inr ⟨id, z1f ho, hid _ (vx ho), s, hb⟩, fun _ => rfl⟩
 refine callsIn_wide.1 (callsIn_of_wp_marks (n := 0) hf hb trivial ?_)
 refine wpIn_mono (h F rfl rfl rfl ⟨rfl, rfl, rfl, hM⟩ { tmps := vals ++ Array.replicate (fn.ntmps - vals.size) undef, defers := [] } w ⟨⟨rfl, .nil rfl⟩, _, S, hsim⟩) ?_
 intro e a' w1 hq
 obtain ⟨st', hq, hsx⟩ := hq
 have he : e = .normal ∨ e = .ret := by cases e <;> first | exact .inl rfl | exact .inr rfl | exact hq.elim
 have hq' : (vb F st' fn.results.toList).1 ∧ z0t (vb F st' fn.results.toList).2 rs ∧ x5 st'.objs os' := by rcases he with rfl | rfl <;> exact hq
 have hsr : SimR F st' a' w1 := by
  rcases he with rfl | rfl
  ·exact Sim.ret hsx
  ·exact hsx
 have hgoal : ∀ R, LeavesInM Fence.wide 0 P fn a'.tmps R a'.defers .returning w1 → bodyPostM Fence.wide 0 P fn R e a' w1 := fun R h => by rcases he with rfl | rfl <;> exact h
 refine hgoal _ ?_
 obtain ⟨Ds, w', hds, hnd, hDs, hw', β', S', hs'⟩ := hsr.shut rfl
 rw [hds, show F.db = [] from rfl, List.append_nil]
 refine Xg Ds w1 hnd hDs ?_
 rw [← hw']
 clear hw' hDs hds
 obtain ⟨h1, h2, h3⟩ := hq'
 let S2 : Nat → Nat → Prop := fun b i => S b i ∨ S' b i
 have hk : Keeps S' S2 w' w' := Keeps.wider w' fun b i hA => .inr hA
 obtain ⟨vs, hrun, hrep⟩ := Z6 hs' fn.results.toList h1
 have hm : (fn.results.mapM (z2e a'.tmps)).run P w' = .ok vs.toArray w' := by
  rw [Array.mapM_eq_mapM_toList, Sem.run_map]
  have : F.P = P := rfl
  rw [this] at hrun
  rw [hrun]
  rfl
 have hRV : RepAL β' S2 w' rs vs := RepAL.mono hk (.refl w') _ _ (zai hs' h2 hrep)
 have hpin : ∀ i, fn.ntmps ≤ i → β' i = β i := hs'.size.2
 have hplace : ∀ id o b s, qm os' id = some o → β' id = some (b, s) → w.heap.size ≤ b ∨ ∃ k q t, qm os k = some q ∧ β k = some (b, t) := fun id o b s ho hb => by
  rcases hs'.obj id o (k8 h3 ho) with ⟨hn, _⟩ | ⟨b', s', arr, e, hb', hw, _⟩ | hm
  rotate_left 2
  ·exact (hm.place hb).1.elim .inl fun ⟨k, q, t, h3, h4⟩ => .inr ⟨k, q, t, h3, h4⟩
  ·rw [hn] at hb; cases hb
  ·rw [hb'] at hb
   simp only [Option.some.injEq, Prod.mk.injEq] at hb
   rcases hw with h | h
   ·exact .inl (hb.1 ▸ h)
   ·obtain ⟨k, q, t, h3, h4⟩ := h
    exact .inr ⟨k, q, t, h3, hb.1 ▸ h4⟩
 refine ⟨if h : vs.toArray.size = 1 then vs.toArray[0] else .tuple vs.toArray, ?_, _, β', S2, rfl, fun b i h => .inl h, fun i hi => ?_, ?_, ?_⟩
 ·rw [z7r, Sem.run_bind, hm]
  rfl
 ·obtain ⟨p, hp, rfl⟩ := List.mem_map.1 hi
  exact hpin _ (hid p hp)
 ·refine ⟨hs'.ext, hs.glob, fun b i hA => ?_, fun b i hA => ?_, fun id o b s i ho hb' hA => ?_, fun id id' o o' b s s' ho ho' hb1 hb2 => ?_, fun id o ho => ?_, fun n => ?_, ⟨by simp [FCX], fun _ _ => rfl⟩⟩
  ·rcases hA with hA | hA
   ·exact .inl hA
   ·exact hs'.sub b i hA
  ·rcases hA with hA | hA
   ·exact Nat.lt_of_lt_of_le (hs.lt b i hA) hs'.ext.size
   ·exact hs'.lt b i hA
  ·replace ho : qm os' id = some o := ho
   rcases hA with hA | hA
   ·rcases hplace id o b s ho hb' with h | ⟨k, q, t, h4, h5⟩
    ·have := hs.lt b i hA; omega
    ·exact hs.sep k q b t i h4 h5 hA
   ·exact hs'.sep id o b s i (k8 h3 ho) hb' hA
  ·replace ho : qm os' id = some o := ho
   replace ho' : qm os' id' = some o' := ho'
   exact hs'.inj id id' o o' b s s' (k8 h3 ho) (k8 h3 ho') hb1 hb2
  ·replace ho : qm os' id = some o := ho
   rcases hs'.obj id o (k8 h3 ho) with h | ⟨b', s', arr, e, hb', hw, hh, hz, hel⟩ | hm
   ·exact .inl h
   ·exact .inr (.inl ⟨b', s', arr, e, hb', hw, hh, hz, fun k x hx => ⟨(hel k x hx).1, (hel k x hx).2.mono hk (.refl w') rfl⟩⟩)
   ·exact .inr (.inr (hm.mono rfl hk fun _ _ => rfl))
  ·simp [ASt.os, RepA]
 ·unfold RetRA
  split
  ·rename_i r
   simp only [RepAL] at hRV
   obtain ⟨v, vs', rfl, h3, h4⟩ := hRV
   subst h4
   simpa using h3
  ·rename_i hne
   have hl : vs.length = rs.length := zy hRV
   rw [dif_neg]
   ·exact ⟨vs.toArray, rfl, by simpa using hRV⟩
   ·intro h1
    simp at h1
    rw [hl] at h1
    obtain ⟨r, hr⟩ := List.length_eq_one_iff.1 h1
    exact hne r hr
end Go.Av

