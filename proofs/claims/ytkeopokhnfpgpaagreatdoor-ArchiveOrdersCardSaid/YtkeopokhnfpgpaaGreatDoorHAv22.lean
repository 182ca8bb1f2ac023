/- A part of the proof. -/
import Derived.Test.YtkeopokhnfpgpaaGreatDoorHAv21
set_option linter.all false
namespace Go.Av
def Kept (ns ids : List Nat) (e : List (Nat × AV)) (o : List (Nat × AObj)) (st : ASt) : Prop := keepE st.env ns = e ∧ keepO st.objs ids = o
theorem yp {F : FC} (ns ids : List Nat) {e : List (Nat × AV)} {o : List (Nat × AObj)} {id : Nat} {l : List Oper} {Q : Exit → ASt → Prop} {st : ASt} (h : zh F l.toArray l st (Kept ns ids e o)) (k : Q .normal (.of e o)) : AWp F (.region id l.toArray false) Q st :=
 fun a w hs => wpIn_region_lit (Xq l st _ h a w hs fun st' a' w' h1 h2 => ⟨.of e o, k, by
  have := Le.keep F st' ns ids a' w' h2
  unfold ASt.keep at this
  rw [h1.1, h1.2] at this
  exact this⟩)
theorem zm {F : FC} (ns ids : List Nat) {e : List (Nat × AV)} {o : List (Nat × AObj)} {id : Nat} {l : List Oper} {y : Code} {Q : Exit → ASt → Prop} {st : ASt} (h : zh F l.toArray l st (Kept ns ids e o)) (k : AWp F y Q (.of e o)) : AWp F (.seq (.region id l.toArray false) y) Q st :=
 z3 (yp ns ids h k)
theorem wv {F : FC} (m : ASt) {x y : Code} {Q : Exit → ASt → Prop} {st : ASt} (h : AWp F x (fun e st' => match e with
  | .normal => Le F st' m
  | e => Q e st') st) (k : AWp F y Q m) : AWp F (.seq x y) Q st :=
 z3 (h.mono fun e st' hq => by cases e <;> first | exact k.le hq | exact hq)
theorem z5 {F : FC} {y : Code} {Q : Exit → ASt → Prop} {st : ASt} (h : AWp F y Q st) : zcq F y Q .normal st := h
theorem ze {id : Nat} {Q : Exit → ASt → Prop} {st : ASt} (h : Q .normal st) : z3q id Q .normal st := h
theorem zn {id : Nat} {Q : Exit → ASt → Prop} {st : ASt} (h : Q .normal st) : z3q id Q (.exit id) st := by
 show (if id = id then _ else _)
 rw [if_pos rfl]; exact h
theorem zc2 {id id' : Nat} {Q : Exit → ASt → Prop} {st : ASt} (hne : id' ≠ id) (h : Q (.exit id') st) : z3q id Q (.exit id') st := by
 show (if id' = id then _ else _)
 rw [if_neg hne]; exact h
theorem zd {F : FC} {y : Code} {Q : Exit → ASt → Prop} {st : ASt} {id : Nat} (h : Q (.exit id) st) : zcq F y Q (.exit id) st := h
theorem zb {ι : Type} {F : FC} {I : ι → ASt} {μ : ι → Nat} {i : ι} {Q : Exit → ASt → Prop} {st : ASt} {id : Nat} (h : Q (.exit id) st) : z8z F I μ i Q (.exit id) st := h
theorem za {F : FC} {y : Code} {Q : Exit → ASt → Prop} {st : ASt} (h : Q .ret st) : zcq F y Q .ret st := h
theorem zf {id : Nat} {Q : Exit → ASt → Prop} {st : ASt} (h : Q .ret st) : z3q id Q .ret st := h
theorem zw {ι : Type} {F : FC} {I : ι → ASt} {μ : ι → Nat} {i : ι} {Q : Exit → ASt → Prop} {st : ASt} (h : Q .ret st) : z8z F I μ i Q .ret st := h
theorem zxr {F : FC} {c : Operand} {x y : Code} {Q : Exit → ASt → Prop} {st : ASt} (b : Bool) (hc : evA st.env c = .dat (.bool b)) (ht : b = true → AWp F x Q st) (hf : b = false → AWp F y Q st) : AWp F (.cond c x y) Q st :=
 zif (b := b) (by simp [zim, hc, asB]) ht hf
def LeE (f : Nat → AV) : List (Nat × AV) → Prop
 | [] => True
 | (n, v) :: l => f n = v ∧ LeE f l
def LeO (f : Nat → Option AObj) : List (Nat × AObj) → Prop
 | [] => True
 | (n, v) :: l => f n = some v ∧ LeO f l
theorem LeE.get {f : Nat → AV} : ∀ {l : List (Nat × AV)}, LeE f l → ∀ n, y0 l n = f n ∨ y0 l n = .junk
 | [], _, n => .inr rfl
 | (k, v) :: l, h, n => by
  simp only [LeE] at h
  simp only [y0]
  split
  ·rename_i hk; subst hk; exact .inl h.1.symm
  ·exact LeE.get h.2 n
theorem LeO.get {f : Nat → Option AObj} : ∀ {l : List (Nat × AObj)}, LeO f l → ∀ n o, qm l n = some o → f n = some o
 | [], _, n, o, h => by simp [qm] at h
 | (k, v) :: l, h, n, o, ho => by
  simp only [LeO] at h
  simp only [qm] at ho
  split at ho
  ·rename_i hk
   subst hk
   simp only [Option.some.injEq] at ho
   subst ho
   exact h.1
  ·exact LeO.get h.2 n o ho
theorem Le.of {F : FC} {st : ASt} {e : List (Nat × AV)} {o : List (Nat × AObj)} (h1 : LeE st.env e) (h2 : LeO st.objs o) : Le F st (.of e o) :=
 .less (fun n => h1.get n) (fun i ob h => h2.get i ob h)
theorem Le.eq {F : FC} {st st' : ASt} (h : st = st') : Le F st st' := h ▸ Le.refl F st
mutual
/-- An object that has become data: what refers to it refers to the data. -/
def AV.frz (id es : Nat) (ds : List Dat) : AV → AV
 | .junk => .junk
 | .dat d => .dat d
 | .agg l => .agg (frzL id es ds l)
 | .tup l => .tup (frzL id es ds l)
 | .osl i es' off len => if i = id then (if es' = es ∧ off + len ≤ ds.length then .dat (.sl ((ds.drop off).take len)) else .junk) else .osl i es' off len
 | .nils => .nils
 | .lits l => .lits l
 | .ptr i es' k off => if i = id then (if es' = es then (match ds[k]? with
   | some d => .rp d off
   | none => .junk) else .junk) else .ptr i es' k off
 | .gl g off => .gl g off
 | .rp d off => .rp d off
 | .fn f caps => .fn f (frzL id es ds caps)
 | .cond b v => .cond b (v.frz id es ds)
 | .raw v => .raw v
 | .mp i => if i = id then .junk else .mp i
 | .isl i es' k off len cap => if i = id then .junk else .isl i es' k off len cap
def frzL (id es : Nat) (ds : List Dat) : List AV → List AV
 | [] => []
 | v :: l => v.frz id es ds :: frzL id es ds l
end
theorem ziv (id es : Nat) (ds : List Dat) : ∀ l, frzL id es ds l = l.map (AV.frz id es ds)
 | [] => by simp [frzL]
 | v :: l => by simp [frzL, ziv id es ds l]
theorem zds (id es : Nat) (ds l : List Dat) : (l.map AV.dat).map (AV.frz id es ds) = l.map AV.dat := by
 simp [List.map_map, Function.comp_def, AV.frz]
def ASt.frz (st : ASt) (id es : Nat) (ds : List Dat) : ASt :=
 { env := fun n => (st.env n).frz id es ds, objs := fun i => if i = id then none else (st.objs i).map fun o => { o with elems := o.elems.map (AV.frz id es ds) } }
theorem z8q (id es : Nat) (ds : List Dat) (x : AV) : (x.frz id es ds).cells.length = x.cells.length ∧ (x.frz id es ds).cells = x.cells.map (AV.frz id es ds) := by
 cases x with
 | dat d => cases d <;> simp [AV.frz, AV.cells]
 | agg l => simp [AV.frz, AV.cells, ziv]
 | osl i es' off len => by_cases h : i = id <;> by_cases h2 : es' = es ∧ off + len ≤ ds.length <;> simp [AV.frz, AV.cells, h, h2]
 | ptr i es' k off => by_cases h : i = id <;> by_cases h2 : es' = es <;> cases h3 : ds[k]? <;> simp [AV.frz, AV.cells, h, h2, h3]
 | mp i => by_cases h : i = id <;> simp [AV.frz, AV.cells, h]
 | isl i es' k off len cap => by_cases h : i = id <;> simp [AV.frz, AV.cells, h]
 | _ => simp [AV.frz, AV.cells]
theorem IsMap.noDat {F : FC} {β : zg} {S : Nat → Nat → Prop} {w : World} {id : Nat} {o : AObj} {ds : List Dat} (h : IsMap F β S w id o) (hd : vz o.elems = some ds) : False := by
 obtain ⟨b, en, ck, ks, vs, _, _, _, rfl, _⟩ := h
 simp [vz] at hd
theorem IsMap.frz {F : FC} {β : zg} {S : Nat → Nat → Prop} {w : World} {id : Nat} {o : AObj} (h : IsMap F β S w id o) (i es : Nat) (ds : List Dat) : IsMap F β S w id { o with elems := o.elems.map (AV.frz i es ds) } := by
 obtain ⟨b, en, ck, ks, vs, hb', hw, hh, rfl, hm⟩ := h
 exact ⟨b, en, ck, ks, vs, hb', hw, hh, by simp [AV.frz, frzL], hm⟩
structure FrzOK (β : zg) (S S' : Nat → Nat → Prop) (w : World) (id es : Nat) (ds : List Dat) : Prop where
 keeps : Keeps S S' w w
 none : β id = none → ds = []
 some : ∀ b s, β id = some (b, s) → ∀ (k : Nat) (d : Dat), ds[k]? = some d → d.cells.length = es ∧ RepC S' w d.cells b (s + k * es)
mutual
theorem RepA.frz {β : zg} {S S' : Nat → Nat → Prop} {w : World} {id es : Nat} {ds : List Dat} (hz : FrzOK β S S' w id es ds) : ∀ (x : AV) (v : Value), RepA β S w x v → RepA β S' w (x.frz id es ds) v
 | .junk, _, _ => by simp [RepA, AV.frz]
 | .dat d, v, h => by simp only [RepA, AV.frz] at h ⊢; exact RepX.mono hz.keeps d v h
 | .agg l, v, h => by
  simp only [RepA, AV.frz] at h ⊢
  obtain ⟨cs, hv, hr⟩ := h
  exact ⟨cs, hv, RepAL.frz hz l _ hr⟩
 | .tup l, v, h => by
  simp only [RepA, AV.frz] at h ⊢
  obtain ⟨cs, hv, hr⟩ := h
  exact ⟨cs, hv, RepAL.frz hz l _ hr⟩
 | .osl i es' off len, v, h => by
  by_cases hi : i = id
  ·by_cases h2 : es' = es ∧ off + len ≤ ds.length
   ·simp only [AV.frz, if_pos hi, if_pos h2]
    obtain ⟨rfl, h3⟩ := h2
    subst hi
    have hlen : ((ds.drop off).take len).length = len := by simp; omega
    simp only [RepA, RepX] at h ⊢
    rcases h with ⟨hn, rfl, a, rfl⟩ | ⟨b, s, cap, arr, e, a, hb, rfl, ha, hc, hh, _⟩
    ·have := hz.none hn
     subst this
     exact ⟨0, a, 0, by simp, by simp, by simp [RepS]⟩
    ·refine ⟨es', a, cap, by rw [hlen], by omega, ?_⟩
     by_cases hl0 : len = 0
     ·subst hl0; simp [RepS]
     ·have ha' := ha (by omega)
      subst ha'
      refine Q4 fun k d hd => ?_
      rw [List.getElem?_take] at hd
      split at hd
      ·rw [List.getElem?_drop] at hd
       obtain ⟨h4, h5⟩ := hz.some b s hb _ d hd
       refine ⟨h4, ?_⟩
       rwa [Nat.add_mul, ← Nat.add_assoc] at h5
      ·simp at hd
   ·simp only [AV.frz, if_pos hi, if_neg h2]
    simp [RepA]
  ·simp only [AV.frz, if_neg hi]
   simp only [RepA] at h ⊢
   exact h
 | .nils, v, h => by simpa [RepA, AV.frz] using h
 | .lits l, v, h => by
  simp only [RepA, AV.frz] at h ⊢
  obtain ⟨es', a, hv, hr⟩ := h
  exact ⟨es', a, hv, RepS.mono hz.keeps es' l a hr⟩
 | .ptr i es' k off, v, h => by
  by_cases hi : i = id
  ·by_cases h2 : es' = es
   ·simp only [AV.frz, if_pos hi, if_pos h2]
    subst h2
    subst hi
    cases hd : ds[k]? with
    | none => simp [RepA]
    | some d =>
     simp only [RepA] at h ⊢
     obtain ⟨b, s, hb, rfl, _⟩ := h
     exact ⟨b, s + k * es', by simp [Nat.add_assoc], (vn _ _ _).2 (hz.some b s hb k d hd).2⟩
   ·simp only [AV.frz, if_pos hi, if_neg h2]
    simp [RepA]
  ·simp only [AV.frz, if_neg hi]
   simp only [RepA] at h ⊢
   exact h
 | .gl g off, v, h => by simpa [RepA, AV.frz] using h
 | .rp d off, v, h => by
  simp only [RepA, AV.frz] at h ⊢
  obtain ⟨b, o, hv, hr⟩ := h
  exact ⟨b, o, hv, RepAt.mono hz.keeps d b o hr⟩
 | .fn f caps, v, h => by
  simp only [RepA, AV.frz] at h ⊢
  obtain ⟨vs, hv, hr⟩ := h
  exact ⟨vs, hv, RepAL.frz hz caps _ hr⟩
 | .cond c x, v, h => by
  simp only [RepA, AV.frz] at h ⊢
  exact ⟨fun hc => RepA.frz hz x v (h.1 hc), h.2⟩
 | .raw x, v, h => by simpa [RepA, AV.frz] using h
 | .mp i, v, h => by
  by_cases hi : i = id
  ·simp [AV.frz, hi, RepA]
  ·simp only [AV.frz, if_neg hi]
   simp only [RepA] at h ⊢
   exact h
 | .isl i es' k off len cap, v, h => by
  by_cases hi : i = id
  ·simp [AV.frz, hi, RepA]
  ·simp only [AV.frz, if_neg hi]
   simp only [RepA] at h ⊢
   exact h
theorem RepAL.frz {β : zg} {S S' : Nat → Nat → Prop} {w : World} {id es : Nat} {ds : List Dat} (hz : FrzOK β S S' w id es ds) : ∀ (l : List AV) (vs : List Value), RepAL β S w l vs → RepAL β S' w (frzL id es ds l) vs
 | [], _, h => by simpa [RepAL, frzL] using h
 | x :: xs, vs, h => by
  simp only [RepAL, frzL] at h ⊢
  obtain ⟨v, vs', hv, h1, h2⟩ := h
  exact ⟨v, vs', hv, RepA.frz hz x v h1, RepAL.frz hz xs vs' h2⟩
end
theorem Le.frz' {F : FC} {st : ASt} {id : Nat} {o : AObj} {ds : List Dat} (hM : ∀ b, F.M0 b → F.frb b ∨ ∃ i, i ≠ id ∧ (∃ p, st.objs i = some p) ∧ F.N ≤ i ∧ ∃ s, F.pin i = some (b, s)) (ho : st.objs id = some o) (hd : vz o.elems = some ds) : Le F st (st.frz id o.es ds) := fun a w hsim => by
 obtain ⟨hdf, β, S, hs⟩ := hsim
 have hel := z2p hd
 let S' : Nat → Nat → Prop := fun b i => S b i ∨ ∃ s, β id = some (b, s)
 have hkeep : Keeps S S' w w := Keeps.wider w fun b i h => .inl h
 have hz : FrzOK β S S' w id o.es ds := by
  refine ⟨hkeep, fun hn => ?_, fun b s hb k d hdk => ?_⟩
  ·rcases hs.obj id o ho with ⟨_, he⟩ | ⟨b, s, arr, e, hb, _⟩ | hm
   rotate_left 2
   ·exact (hm.none hn).elim
   ·rw [he] at hel; simpa using hel.symm
   ·rw [hn] at hb; cases hb
  ·rcases hs.obj id o ho with ⟨hn, _⟩ | ⟨b', s', arr, e, hb', hw, hh, hz', hel'⟩ | hm
   rotate_left 2
   ·exact (hm.noDat hd).elim
   ·rw [hn] at hb; cases hb
   ·rw [hb'] at hb
    simp only [Option.some.injEq, Prod.mk.injEq] at hb
    obtain ⟨rfl, rfl⟩ := hb
    obtain ⟨h1, h2⟩ := hel' k (.dat d) (by rw [hel]; simp [hdk])
    rw [xt] at h1 h2
    refine ⟨by simpa using h1, Q3 fun j c hc => ⟨.inr ⟨s', hb'⟩, ?_⟩⟩
    obtain ⟨v, hv, h3, hr⟩ := h2 j (.dat c) (by simp [hc])
    simp only [RepA] at hr
    refine ⟨v, hv, Rep1.mono hkeep c v (xf ?_ hr)⟩
    cases c <;> simp [Dat.isAgg]
    simp only [RepX] at hr
    obtain ⟨cs, rfl, _⟩ := hr
    simp [Value.oneCell'] at h3
 have back : ∀ i o', (st.frz id o.es ds).objs i = some o' → i ≠ id ∧ ∃ p, st.objs i = some p ∧ o' = { p with elems := p.elems.map (AV.frz id o.es ds) } := fun i o' h => by
  simp only [ASt.frz] at h
  split at h
  ·simp at h
  ·rename_i hi
   cases hp : st.objs i with
   | none => simp [hp] at h
   | some p =>
    simp only [hp, Option.map_some, Option.some.injEq] at h
    exact ⟨hi, p, rfl, h.symm⟩
 have hfresh : ∀ b s, β id = some (b, s) → F.w0.heap.size ≤ b ∨ F.frb b := fun b s hb => by
  rcases hs.obj id o ho with ⟨hn, _⟩ | ⟨b', s', arr, e, hb', hw, _⟩ | hm
  rotate_left 2
  ·exact (hm.noDat hd).elim
  ·rw [hn] at hb; cases hb
  ·rw [hb'] at hb
   simp only [Option.some.injEq, Prod.mk.injEq] at hb
   obtain ⟨rfl, rfl⟩ := hb
   refine hw.elim .inl (fun h => ?_)
   rcases hM _ h with h | ⟨i, hne, ⟨p, hp⟩, hN, s2, hpin⟩
   ·exact .inr h
   exact absurd (hs.inj i id p o b' s2 s' hp ho ((hs.size.2 i hN).trans hpin) hb') hne
 refine ⟨hdf, β, S', hs.ext, hs.glob, fun b i h => h.elim (hs.sub b i) (fun ⟨s, hb⟩ => .inr (hfresh b s hb)), fun b i h => h.elim (hs.lt b i) (fun ⟨s, hb⟩ => hs.block_lt ho hb), ?_, ?_, ?_, fun n => (hs.env n).frz hz, hs.size⟩
 ·intro i o' b s k hi hb hS
  obtain ⟨hne, p, hp, _⟩ := back i o' hi
  rcases hS with hS | ⟨s', hb'⟩
  ·exact hs.sep i p b s k hp hb hS
  ·exact hne (hs.inj i id p o b s s' hp ho hb hb')
 ·intro i i' o1 o2 b s1 s2 h1 h2 hb1 hb2
  obtain ⟨_, p1, hp1, _⟩ := back i o1 h1
  obtain ⟨_, p2, hp2, _⟩ := back i' o2 h2
  exact hs.inj i i' p1 p2 b s1 s2 hp1 hp2 hb1 hb2
 ·intro i o' hi
  obtain ⟨hne, p, hp, rfl⟩ := back i o' hi
  rcases hs.obj i p hp with ⟨hn, he⟩ | ⟨b, s, arr, e, hb, hw, hh, hz', hel'⟩ | hm
  rotate_left 2
  ·exact .inr (.inr ((hm.mono rfl hkeep fun _ _ => rfl).frz id o.es ds))
  ·exact .inl ⟨hn, by simp [he]⟩
  ·refine .inr (.inl ⟨b, s, arr, e, hb, hw, hh, by simpa using hz', fun k x hx => ?_⟩)
   rw [List.getElem?_map] at hx
   cases hy : p.elems[k]? with
   | none => simp [hy] at hx
   | some y =>
    simp only [hy, Option.map_some, Option.some.injEq] at hx
    subst hx
    obtain ⟨hc, hm⟩ := hel' k y hy
    obtain ⟨hcl, hce⟩ := z8q id o.es ds y
    refine ⟨by rw [hcl]; exact hc, fun j c hj => ?_⟩
    rw [hce, List.getElem?_map] at hj
    cases hcj : y.cells[j]? with
    | none => simp [hcj] at hj
    | some c' =>
     simp only [hcj, Option.map_some, Option.some.injEq] at hj
     subst hj
     obtain ⟨v, hv, h1, hr⟩ := hm j c' hcj
     exact ⟨v, hv, h1, hr.frz hz⟩
theorem Le.frz {F : FC} {st : ASt} {id : Nat} {o : AObj} {ds : List Dat} (hM : TopF F) (ho : st.objs id = some o) (hd : vz o.elems = some ds) : Le F st (st.frz id o.es ds) := Le.frz' (fun b h => .inl (hM.1 b h)) ho hd
theorem Le.nil {F : FC} {st : ASt} (id es : Nat) {n : Nat} (hid : id < F.N) (hn : n < F.N) (hv : st.env n = .nils) : Le F st (((st.kill id).obj id ⟨es, []⟩).put (some n) (.osl id es 0 0)) := fun a w hsim => by
 obtain ⟨hdf, β, S, hs⟩ := hsim
 have hr := hs.env n
 rw [hv] at hr
 simp only [RepA] at hr
 obtain ⟨ad, hav⟩ := hr
 have h1 := hs.introNil id es hid
 have h2 : RepA (upd β id none) S w (.osl id es 0 0) (a.tmps.getD n undef) := by
  simp only [RepA]
  exact .inl ⟨upd_same _ _ _, trivial, ad, hav⟩
 have h3 := h1.put hn h2
 have hset : a.tmps.setIfInBounds n (a.tmps.getD n undef) = a.tmps := by
  apply Array.ext_getElem?
  intro i
  rw [Array.getElem?_setIfInBounds]
  split
  ·rename_i h
   subst h
   split
   ·rename_i h2
    simp [Array.getElem?_eq_getElem h2]
   ·rename_i h2
    exact (Array.getElem?_eq_none (by omega)).symm
  ·rfl
 rw [hset] at h3
 exact ⟨hdf, _, S, h3⟩
end Go.Av

