/- A part of the proof. -/
import Derived.Test.YtkeopokhnfpgpaaGreatDoorHAv19
import Derived.Sort.LoopGhostIn
set_option linter.all false
namespace Go.Av
def AWp (F : FC) (c : Code) (Q : Exit → ASt → Prop) (st : ASt) : Prop :=
 ∀ (a : Act) (w : World), Sim F st a w → c.wpIn F.fence 0 F.P (fun e a' w' => ∃ st', Q e st' ∧ SimX F e st' a' w') a w
def Le (F : FC) (st st' : ASt) : Prop := ∀ (a : Act) (w : World), Sim F st a w → Sim F st' a w
theorem Le.refl (F : FC) (st : ASt) : Le F st st := fun _ _ h => h
theorem Le.trans {F : FC} {a b c : ASt} (h : Le F a b) (k : Le F b c) : Le F a c := fun x w hs => k x w (h x w hs)
def y0 : List (Nat × AV) → Nat → AV
 | [], _ => .junk
 | (k, v) :: l, n => if n = k then v else y0 l n
def ASt.of (e : List (Nat × AV)) (o : List (Nat × AObj)) : ASt := ⟨y0 e, qm o⟩
def keepE (env : Nat → AV) : List Nat → List (Nat × AV)
 | [] => []
 | n :: l => (n, env n) :: keepE env l
def keepO (objs : Nat → Option AObj) : List Nat → List (Nat × AObj)
 | [] => []
 | n :: l => match objs n with
  | some o => (n, o) :: keepO objs l
  | none => keepO objs l
def ASt.keep (st : ASt) (ns ids : List Nat) : ASt := .of (keepE st.env ns) (keepO st.objs ids)
theorem SimB.less {F : FC} {β : zg} {S : Nat → Nat → Prop} {st st' : ASt} {tm : Array Value} {w : World} (hs : SimB F β S st tm w) (he : ∀ n, st'.env n = st.env n ∨ st'.env n = .junk) (ho : ∀ i o, st'.objs i = some o → st.objs i = some o) : SimB F β S st' tm w :=
 ⟨hs.ext, hs.glob, hs.sub, hs.lt, fun i o b s k h => hs.sep i o b s k (ho i o h), fun i i' o o' b s s' h h' => hs.inj i i' o o' b s s' (ho i o h) (ho i' o' h'), fun i o h => hs.obj i o (ho i o h),
   fun n => by
    rcases he n with h | h
    ·rw [h]; exact hs.env n
    ·rw [h]; simp [RepA], hs.size⟩
theorem Le.less {F : FC} {st st' : ASt} (he : ∀ n, st'.env n = st.env n ∨ st'.env n = .junk) (ho : ∀ i o, st'.objs i = some o → st.objs i = some o) : Le F st st' :=
 fun _ _ ⟨hd, β, S, hs⟩ => ⟨hd, β, S, hs.less he ho⟩
theorem z40 (env : Nat → AV) (n : Nat) : ∀ l, y0 (keepE env l) n = env n ∨ y0 (keepE env l) n = .junk
 | [] => .inr rfl
 | k :: l => by
  simp only [keepE, y0]
  split
  ·rename_i h; subst h; exact .inl rfl
  ·exact z40 env n l
theorem z4e (objs : Nat → Option AObj) (i : Nat) (o : AObj) : ∀ l, qm (keepO objs l) i = some o → objs i = some o
 | [], h => by simp [keepO, qm] at h
 | k :: l, h => by
  simp only [keepO] at h
  split at h
  ·rename_i o' ho'
   simp only [qm] at h
   split at h
   ·rename_i hk
    subst hk
    simp only [Option.some.injEq] at h
    subst h
    exact ho'
   ·exact z4e objs i o l h
  ·exact z4e objs i o l h
theorem Le.keep (F : FC) (st : ASt) (ns ids : List Nat) : Le F st (st.keep ns ids) :=
 .less (fun n => z40 st.env n ns) (fun i o h => z4e st.objs i o ids h)
theorem AWp.mono {F : FC} {c : Code} {Q Q' : Exit → ASt → Prop} {st : ASt} (h : AWp F c Q st) (hq : ∀ e st, Q e st → Q' e st) : AWp F c Q' st :=
 fun a w hs => wpIn_mono (h a w hs) fun _ _ _ ⟨st', h1, h2⟩ => ⟨st', hq _ _ h1, h2⟩
theorem AWp.le {F : FC} {c : Code} {Q : Exit → ASt → Prop} {st st' : ASt} (hl : Le F st st') (h : AWp F c Q st') : AWp F c Q st :=
 fun a w hs => h a w (hl a w hs)
def zcq (F : FC) (y : Code) (Q : Exit → ASt → Prop) : Exit → ASt → Prop
 | .normal, st => AWp F y Q st
 | e, st => Q e st
theorem z3 {F : FC} {x y : Code} {Q : Exit → ASt → Prop} {st : ASt} (h : AWp F x (zcq F y Q) st) : AWp F (.seq x y) Q st := fun a w hs => by
 refine wpIn_seq (wpIn_mono (h a w hs) fun e a' w' h => ?_)
 obtain ⟨st', hq, hs'⟩ := h
 cases e <;> simp only [Exit.then, zcq] at hq ⊢
 case normal => exact hq a' w' hs'
 all_goals exact ⟨st', hq, hs'⟩
theorem z6 {F : FC} {Q : Exit → ASt → Prop} {st : ASt} (h : Q .normal st) : AWp F .skip Q st := fun a w hs => wpIn_skip ⟨st, h, hs⟩
theorem zj {F : FC} {id : Nat} {Q : Exit → ASt → Prop} {st : ASt} (h : Q (.exit id) st) : AWp F (.exit id) Q st := fun a w hs => wpIn_exit ⟨st, h, hs⟩
theorem z9 {F : FC} {Q : Exit → ASt → Prop} {st : ASt} (h : Q .ret st) : AWp F .ret Q st := fun a w hs => wpIn_ret ⟨st, h, hs.ret⟩
def z3q (id : Nat) (Q : Exit → ASt → Prop) : Exit → ASt → Prop
 | .exit id', st => if id' = id then Q .normal st else Q (.exit id') st
 | e, st => Q e st
theorem z7 {F : FC} {id : Nat} {c : Code} {Q : Exit → ASt → Prop} {st : ASt} (h : AWp F c (z3q id Q) st) : AWp F (.block id c) Q st := fun a w hs => by
 refine wpIn_block (wpIn_mono (h a w hs) fun e a' w' h => ?_)
 obtain ⟨st', hq, hs'⟩ := h
 cases e <;> simp only [Exit.inBlock, z3q] at hq ⊢
 case exit id' =>
  split at hq
  ·rename_i h; rw [if_pos h]; exact ⟨st', hq, hs'⟩
  ·rename_i h; rw [if_neg h]; exact ⟨st', hq, hs'⟩
 all_goals exact ⟨st', hq, hs'⟩
def zim (env : Nat → AV) (c : Operand) : Option Bool := asB (evA env c)
theorem zif {F : FC} {c : Operand} {x y : Code} {Q : Exit → ASt → Prop} {st : ASt} {b : Bool} (hc : zim st.env c = some b) (ht : b = true → AWp F x Q st) (hf : b = false → AWp F y Q st) : AWp F (.cond c x y) Q st := fun a w hs => by
 obtain ⟨hdf, β, S, hsim⟩ := hs
 have hr := qj (a := a) hsim.env c
 have : evA st.env c = .dat (.bool b) := by
  unfold zim asB at hc
  split at hc
  ·rename_i b' hb
   simp only [Option.some.injEq] at hc
   subst hc
   exact hb
  ·simp at hc
 rw [this] at hr
 simp only [RepA, RepX] at hr
 cases b
 ·exact wpIn_cond_false hr (hf rfl a w ⟨hdf, β, S, hsim⟩)
 ·exact wpIn_cond_true hr (ht rfl a w ⟨hdf, β, S, hsim⟩)
def z8z {ι : Type} (F : FC) (I : ι → ASt) (μ : ι → Nat) (i : ι) (Q : Exit → ASt → Prop) : Exit → ASt → Prop
 | .normal, st => ∃ i', Le F st (I i') ∧ μ i' < μ i
 | e, st => Q e st
theorem zsh {F : FC} {c : Code} {Q : Exit → ASt → Prop} {st : ASt} {ι : Type} (I : ι → ASt) (μ : ι → Nat) (i0 : ι) (h0 : Le F st (I i0)) (hround : ∀ i, AWp F c (z8z F I μ i Q) (I i)) : AWp F (.loop c) Q st := fun a w hs => by
 refine wpIn_loop_ghost (fun n a w => ∃ i, μ i = n ∧ Sim F (I i) a w) (μ i0) ⟨i0, rfl, h0 a w hs⟩ fun n a w ⟨i, hn, hi⟩ => ?_
 refine wpIn_mono (hround i a w hi) fun e a' w' h => ?_
 obtain ⟨st', hq, hs'⟩ := h
 cases e <;> simp only [Exit.then, z8z] at hq ⊢
 case normal =>
  obtain ⟨i', h1, h2⟩ := hq
  exact ⟨μ i', by omega, i', rfl, h1 a' w' hs'⟩
 all_goals exact ⟨st', hq, hs'⟩
def shut : List Nat → World → World
 | [], w => w
 | D :: Ds, w => shut Ds (w.putObj D (.deferred none))
theorem SimB.put_deferred {F : FC} {β : zg} {S : Nat → Nat → Prop} {st : ASt} {tm : Array Value} {w : World} (hs : SimB F β S st tm w) {D : Nat} {c : Option (List Deferred)} (c' : Option (List Deferred)) (h : w.heap[D]? = some (.deferred c)) (hD : F.w0.heap.size ≤ D) : SimB F β S st tm (w.putObj D (.deferred c')) := by
 have hlt : D < w.heap.size := (Array.getElem?_eq_some_iff.1 h).1
 have hoth : ∀ k, k ≠ D → (w.putObj D (.deferred c')).heap[k]? = w.heap[k]? := fun k hk => World.putObj_heap_other hk
 have hnew : (w.putObj D (.deferred c')).heap[D]? = some (.deferred c') := World.putObj_heap_same hlt
 have hsz : (w.putObj D (.deferred c')).heap.size = w.heap.size := by simp [World.putObj]
 have hext : Ext (fun b => b = D) w (w.putObj D (.deferred c')) := ⟨rfl, rfl, rfl, by rw [hsz]; exact Nat.le_refl _, fun k _ hk => hoth k hk, fun b arr e hb => ⟨arr, by rw [hoth b (fun e' => by subst e'; rw [h] at hb; cases hb)]; exact hb, rfl⟩⟩
 refine hs.world hext (fun k hk hM => absurd hk (by omega)) (fun b i hS => ⟨hS, ?_⟩) hs.sub (fun b i h => by rw [hsz]; exact hs.lt b i h) hs.sep (fun id o b s hio hb => hoth b ?_)
 ·by_cases hb : b = D
  ·subst hb
   simp [World.cell?, h, hnew]
  ·simp [World.cell?, hoth b hb]
 ·intro hbD
  subst hbD
  rcases hs.obj id o hio with ⟨hn, _⟩ | ⟨b, s', arr, e, hb', hw, hh, _⟩ | hm
  ·rw [hn] at hb; cases hb
  ·rw [hb'] at hb
   simp only [Option.some.injEq, Prod.mk.injEq] at hb
   obtain ⟨rfl, _⟩ := hb
   rw [h] at hh; cases hh
  ·obtain ⟨b', en, ck, ks, vs, hb', _, hh, _⟩ := hm
   rw [hb'] at hb
   simp only [Option.some.injEq, Prod.mk.injEq] at hb
   obtain ⟨rfl, _⟩ := hb
   rw [h] at hh; cases hh
theorem Xg {P : Program} {fn : Func} {tmps : Array Value} {R : Ending → World → Prop} : ∀ (Ds : List Nat) (w : World), Ds.Nodup → (∀ D ∈ Ds, w.heap[D]? = some (.deferred (some []))) → (∃ v, (results fn tmps).run P (shut Ds w) = .ok v (shut Ds w) ∧ R (.returned v) (shut Ds w)) → LeavesInM Fence.wide 0 P fn tmps R (Ds.map zja) .returning w
 | [], w, _, _, h => h
 | D :: Ds, w, hn, hD, h => by
  refine ⟨by simp, .inl ⟨D, w.putObj D (.deferred none), rfl, run_takeDeferred (hD D (by simp)), ?_⟩⟩
  refine Xg Ds _ (List.nodup_cons.1 hn).2 (fun E hE => ?_) h
  have hne : E ≠ D := fun e => (List.nodup_cons.1 hn).1 (e ▸ hE)
  exact (World.putObj_heap_other hne).trans (hD E (by simp [hE]))
theorem SimR.shut {F : FC} {st : ASt} {a : Act} {w : World} (h : SimR F st a w) (hb : F.b0 = F.w0.heap.size) : ∃ Ds w', a.defers = Ds.map zja ++ F.db ∧ Ds.Nodup ∧ (∀ D ∈ Ds, w.heap[D]? = some (.deferred (some []))) ∧ w' = Av.shut Ds w ∧ ∃ β S, SimB F β S st a.tmps w' := by
 obtain ⟨⟨Ds, h1, h2, h3⟩, β, S, hs⟩ := h
 refine ⟨Ds, _, h1, h2, fun D hD => (h3 D hD).1, rfl, β, S, ?_⟩
 clear h1
 induction Ds generalizing w with
 | nil => exact hs
 | cons D Ds ih =>
  have hD := h3 D (by simp)
  refine ih (List.nodup_cons.1 h2).2 (fun E hE => ?_) (hs.put_deferred none hD.1 (by rw [← hb]; exact hD.2))
  have hne : E ≠ D := fun e => (List.nodup_cons.1 h2).1 (e ▸ hE)
  exact ⟨(World.putObj_heap_other hne).trans (h3 E (by simp [hE])).1, (h3 E (by simp [hE])).2⟩
def vb (F : FC) (st : ASt) : List ResultVar → Prop × List AV
 | [] => (True, [])
 | .tmp t :: l => let r := vb F st l; (r.1, st.env t :: r.2)
 | .cell a t :: l => let r := vb F st l; ((match st.env a with
   | .ptr _ _ _ _ => True
   | _ => False) ∧ (loadA F.P F.G st.objs t (st.env a)).1 ∧ r.1, (loadA F.P F.G st.objs t (st.env a)).2 :: r.2)
def kj (F : FC) (res : List ResultVar) (rs : List Dat) : Exit → ASt → Prop
 | .normal, st | .ret, st => (vb F st res).1 ∧ km (wb st.objs 6) (vb F st res).2 = some rs
 | _, _ => False
def ziz (args : List Dat) : Nat → AV := fun n => match args[n]? with
 | some d => .dat d
 | none => .junk
def ASt.init (args : List Dat) : ASt := ⟨ziz args, fun _ => none⟩
def z2e (tm : Array Value) : ResultVar → Sem Value
 | .tmp t => pure (tm.getD t undef)
 | .cell a t => do loadVar t (← asAddr (tm.getD a undef))
theorem z7r (fn : Func) (tm : Array Value) : results fn tm = (do let vs ← fn.results.mapM (z2e tm); pure (if h : vs.size = 1 then vs[0] else .tuple vs)) := by
 unfold results
 congr 1
theorem Z6 {F : FC} {β : zg} {S : Nat → Nat → Prop} {st : ASt} {tm : Array Value} {w : World} (hs : SimB F β S st tm w) : ∀ (res : List ResultVar), (vb F st res).1 →
  ∃ vs : List Value, (res.mapM (z2e tm)).run F.P w = .ok vs w ∧ RepAL β S w (vb F st res).2 vs
 | [], _ => ⟨[], by simp, by simp [vb, RepAL]⟩
 | .tmp t :: l, h => by
  simp only [vb] at h
  obtain ⟨vs, h1, h2⟩ := Z6 hs l h
  refine ⟨tm.getD t undef :: vs, ?_, ?_⟩
  ·simp only [List.mapM_cons, Sem.run_bind, show (z2e tm (.tmp t)).run F.P w = .ok (tm.getD t undef) w from rfl, Result.andThen_ok, h1, Sem.run_pure]
  ·simp only [vb, RepAL]; exact ⟨_, _, rfl, hs.env t, h2⟩
 | .cell a t :: l, h => by
  simp only [vb] at h
  obtain ⟨hp, hl, hr⟩ := h
  obtain ⟨vs, h1, h2⟩ := Z6 hs l hr
  have hrep := hs.env a
  obtain ⟨r, hrun, hrr⟩ := z9z hs hrep hl
  have hptr : ∃ ad, tm.getD a undef = .pointer (some ad) := by
   split at hp
   ·rename_i id es k off he
    rw [he] at hrep
    simp only [RepA] at hrep
    obtain ⟨b, s, _, hv, _⟩ := hrep
    exact ⟨_, hv⟩
   ·exact hp.elim
  obtain ⟨ad, had⟩ := hptr
  have hrun' : (loadVar t ad).run F.P w = .ok r w := by
   simpa [Instr.loadAt, Instr.sureAddr, had] using hrun
  refine ⟨r :: vs, ?_, ?_⟩
  ·have h3 : (z2e tm (.cell a t)).run F.P w = .ok r w := by simp [z2e, had, asAddr, hrun']
   simp only [List.mapM_cons, Sem.run_bind, h3, Result.andThen_ok, h1, Sem.run_pure]
  ·simp only [vb, RepAL]; exact ⟨_, _, rfl, hrr, h2⟩
theorem z54 {P : Program} {G : List (Nat × Dat)} {f : FuncId} {fn : Func} {c : Code} {args rs : List Dat} (rows lits apps : List Nat) (hf : P.funcs[f]? = some fn) (hb : fn.body = some c) (hname : (fn.name == "runtime.NumGoroutine") = false) (hn : args.length ≤ fn.ntmps)
  (h : ∀ F : FC, F.P = P → F.G = G → F.N = fn.ntmps → (F.rows = rows ∧ F.lits = lits ∧ F.apps = apps ∧ TopF F) → AWp F c (kj F fn.results.toList rs) (.init args)) : zl P G f args rs := by
 refine ⟨⟨fn, c, hf, hb, hname⟩, fun w S vals hlt hg hv => ?_⟩
 let F : FC := ⟨P, fn.ntmps, G, w, fun _ => False, S, rows, lits, apps, fun _ => none, none, [], w.heap.size, fun _ => False, []⟩
 have hvl : ∀ {l : List Dat} {us : List Value}, RepV S w l us → us.length = l.length ∧ ∀ (i : Nat) (d : Dat), l[i]? = some d → ∃ v, us[i]? = some v ∧ RepX S w d v := by
  intro l
  induction l with
  | nil => intro us h; simp [RepV] at h; subst h; simp
  | cons d l ih =>
   intro us h
   simp only [RepV] at h
   obtain ⟨u, us', rfl, h1, h2⟩ := h
   obtain ⟨h3, h4⟩ := ih h2
   refine ⟨by simp [h3], fun i d' hd => ?_⟩
   cases i with
   | zero => simp at hd; subst hd; exact ⟨u, by simp, h1⟩
   | succ i => simpa using h4 i d' (by simpa using hd)
 obtain ⟨hlen, hget⟩ := hvl hv
 have hsim : SimB F (fun _ => none) S (.init args) (vals ++ Array.replicate (fn.ntmps - vals.size) undef) w := by
  refine ⟨Ext.refl _ _, fun p hp => ⟨(hg p hp).1, fun f => f, (hg p hp).2⟩, fun b i h => .inl h, hlt, fun _ _ _ _ _ h => by simp [ASt.init] at h, fun _ _ _ _ _ _ _ h => by simp [ASt.init] at h, fun _ _ h => by simp [ASt.init] at h, fun n => ?_, ⟨by simp [F]; omega, fun _ _ => rfl⟩⟩
  simp only [ASt.init, ziz]
  split
  ·rename_i d hd
   obtain ⟨v, hv', hr⟩ := hget n d hd
   have hnl : n < vals.size := by have := (List.getElem?_eq_some_iff.1 hv').1; simpa using this
   have hv2 : vals[n]? = some v := by simpa using hv'
   simp only [RepA, Array.getD_eq_getD_getElem?]
   rw [Array.getElem?_append_left hnl, hv2]
   exact hr
  ·simp [RepA]
 refine callsIn_wide.1 (callsIn_of_wp_marks (n := 0) hf hb trivial ?_)
 refine wpIn_mono (h F rfl rfl rfl ⟨rfl, rfl, rfl, fun _ h => h.elim, rfl⟩ { tmps := vals ++ Array.replicate (fn.ntmps - vals.size) undef, defers := [] } w ⟨⟨rfl, .nil rfl⟩, _, S, hsim⟩) ?_
 intro e a' w1 hq
 obtain ⟨st', hq, hsx⟩ := hq
 have he : e = .normal ∨ e = .ret := by cases e <;> first | exact .inl rfl | exact .inr rfl | exact hq.elim
 have hq' : (vb F st' fn.results.toList).1 ∧ km (wb st'.objs 6) (vb F st' fn.results.toList).2 = some rs := by rcases he with rfl | rfl <;> exact hq
 have hsr : SimR F st' a' w1 := by
  rcases he with rfl | rfl
  ·exact Sim.ret hsx
  ·exact hsx
 have hgoal : ∀ R, LeavesInM Fence.wide 0 P fn a'.tmps R a'.defers .returning w1 → bodyPostM Fence.wide 0 P fn R e a' w1 := fun R h => by rcases he with rfl | rfl <;> exact h
 refine hgoal _ ?_
 obtain ⟨Ds, w', hds, hnd, hDs, hw', β, S', hs'⟩ := hsr.shut rfl
 rw [hds, show F.db = [] from rfl, List.append_nil]
 refine Xg Ds w1 hnd hDs ?_
 rw [← hw']
 clear hw' hDs hds
 obtain ⟨h1, h2⟩ := hq'
 obtain ⟨vs, hrun, hrep⟩ := Z6 hs' fn.results.toList h1
 have hkeep : Keeps (Ze st' β S') (fun b i => S b i ∨ (w.heap.size ≤ b ∧ b < w'.heap.size)) w' w' := Keeps.wider w' fun b i hA => by
  rcases hA with hA | ⟨id, o, s, ho, hb'⟩
  ·rcases hs'.sub b i hA with h | h | h
   ·exact .inl h
   ·exact .inr ⟨h, hs'.lt b i hA⟩
   ·exact h.elim
  ·rcases hs'.obj id o ho with ⟨hn', _⟩ | ⟨b2, s2, arr, e2, hb2, hw2, hh2, _⟩ | hm2
   rotate_left 2
   ·exact (hm2.place hb').1.elim (fun h => .inr ⟨h, (hm2.place hb').2⟩) (fun h => h.elim)
   ·rw [hn'] at hb'; cases hb'
   ·rw [hb2] at hb'
    simp only [Option.some.injEq, Prod.mk.injEq] at hb'
    obtain ⟨rfl, rfl⟩ := hb'
    rcases hw2 with h | h
    ·exact .inr ⟨h, (Array.getElem?_eq_some_iff.1 hh2).1⟩
    ·exact h.elim
 have hext : Ext (fun _ => False) w w' := hs'.ext
 have hm : (fn.results.mapM (z2e a'.tmps)).run P w' = .ok vs.toArray w' := by
  rw [Array.mapM_eq_mapM_toList, Sem.run_map]
  have : F.P = P := rfl
  rw [this] at hrun
  rw [hrun]
  rfl
 have hRV := Xn (S1 := fun b i => S b i ∨ (w.heap.size ≤ b ∧ b < w'.heap.size)) (fun x d hx v hr => RepX.mono hkeep d v ((kd hs' 6 x d hx).1 v hr)) h2 hrep
 refine ⟨if h : vs.toArray.size = 1 then vs.toArray[0] else .tuple vs.toArray, ?_, _, rfl, hext, ?_⟩
 ·rw [z7r, Sem.run_bind, hm]
  rfl
 ·unfold Qa
  split
  ·rename_i r
   simp only [RepV] at hRV
   obtain ⟨v, vs', rfl, h3, h4⟩ := hRV
   subst h4
   simpa using h3
  ·rename_i hne
   have hl : vs.length = rs.length := by
    clear hm hrun hrep
    induction rs generalizing vs with
    | nil => simp [RepV] at hRV; simp [hRV]
    | cons d rs ih =>
     have hvl2 : ∀ {l : List Dat} {us : List Value}, RepV (fun b i => S b i ∨ (w.heap.size ≤ b ∧ b < w'.heap.size)) w' l us → us.length = l.length := by
      intro l
      induction l with
      | nil => intro us h; simp [RepV] at h; simp [h]
      | cons d l ih =>
       intro us h
       simp only [RepV] at h
       obtain ⟨u, us', rfl, _, h2⟩ := h
       simp [ih h2]
     exact hvl2 hRV
   rw [dif_neg]
   ·exact ⟨vs.toArray, rfl, by simpa using hRV⟩
   ·intro h1
    simp at h1
    rw [hl] at h1
    obtain ⟨r, hr⟩ := List.length_eq_one_iff.1 h1
    exact hne r hr
end Go.Av

