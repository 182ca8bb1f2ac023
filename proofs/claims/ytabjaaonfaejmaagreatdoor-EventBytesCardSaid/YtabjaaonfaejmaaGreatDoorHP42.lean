/- A part of the proof. -/
import Derived.Test.YtabjaaonfaejmaaGreatDoorHAv54
import Derived.RangeFuncSeq
import Derived.RecoverIn
set_option linter.all false
namespace Go.Av
def z07 (o : Oper) : Prop := o.guard = none ∧ ∀ F st K, jv F o st K = ((dstOK F o.dst ∧ (opV F st.objs (evA st.env) o.op).1) ∧ K (st.put o.dst (opV F st.objs (evA st.env) o.op).2))
theorem Xh {F : FC} {ops : Array Oper} {Q : Exit → Act → World → Prop} {β : zk} {S : Nat → Nat → Prop} {w : World} : ∀ (l : List Oper) (st : ASt) (K : ASt → Prop), (∀ o ∈ l, z07 o) → zi F ops l st K → ∀ a : Act, SimB F β S st a.tmps w →
  (∀ st' a', K st' → SimB F β S st' a'.tmps w → a'.defers = a.defers → Q .normal a' w) → wpListIn F.fence 0 F.P ops Q l a w
 | [], st, K, _, h, a, hs, hK => hK st a h hs rfl
 | o :: rest, st, K, hp, h, a, hs, hK => by
  have ho := hp o (by simp)
  simp only [zi, ve, ho.1, ho.2] at h
  obtain ⟨⟨hd, h1⟩, hk⟩ := h
  obtain ⟨r, hrun, hrep⟩ := z5f (o := o) hs (ρ := evA st.env) (fun x _ => qc hs.env x) h1
  unfold wpListIn
  rw [if_pos (by simp [Region.wanted, ho.1])]
  refine Zw hrun ?_
  refine Xh rest _ K (fun o' h' => hp o' (by simp [h'])) hk _ ?_ fun st' a' h2 h3 h4 => hK st' a' h2 h3 (h4.trans ?_)
  ·cases hdst : o.dst with
   | none => simpa [Act.put, ASt.put] using hs
   | some d => rw [hdst] at hd; simpa [Act.put] using hs.put hd hrep
  ·cases o.dst <;> rfl
def Z5 : Obj → Bool
 | .loop _ => true
 | .deferred _ => true
 | _ => false
theorem SimB.put_rec {F : FC} {β : zk} {S : Nat → Nat → Prop} {st : ASt} {tm : Array Value} {w : World} (hs : SimB F β S st tm w) {D : Nat} {o o' : Obj} (h : w.heap[D]? = some o) (ho : Z5 o = true) (ho' : Z5 o' = true) (hD : F.w0.heap.size ≤ D) : SimB F β S st tm (w.putObj D o') := by
 have hlt : D < w.heap.size := (Array.getElem?_eq_some_iff.1 h).1
 have hoth : ∀ k, k ≠ D → (w.putObj D o').heap[k]? = w.heap[k]? := fun k hk => World.putObj_heap_other hk
 have hnew : (w.putObj D o').heap[D]? = some o' := World.putObj_heap_same hlt
 have hsz : (w.putObj D o').heap.size = w.heap.size := by simp [World.putObj]
 have hnc : ∀ b arr e f, w.heap[b]? = some (.cells arr e f) → b ≠ D := fun b arr e f hb e' => by
  subst e'; rw [h] at hb; cases hb; simp [Z5] at ho
 have hext : Ext (fun b => b = D) w (w.putObj D o') := ⟨rfl, rfl, rfl, by rw [hsz]; exact Nat.le_refl _, fun k _ hk => hoth k hk, fun b arr e hb => ⟨arr, by rw [hoth b (hnc b arr e _ hb)]; exact hb, rfl⟩⟩
 refine hs.world hext (fun k hk hM => absurd hk (by omega)) (fun b i hS => ⟨hS, ?_⟩) hs.sub (fun b i h => by rw [hsz]; exact hs.lt b i h) hs.sep (fun id ob b s hio hb => hoth b ?_)
 ·by_cases hb : b = D
  ·subst hb
   unfold World.cell?
   simp only [h, hnew]
   cases o <;> simp [Z5] at ho <;> cases o' <;> simp [Z5] at ho' <;> rfl
  ·simp [World.cell?, hoth b hb]
 ·intro hbD
  subst hbD
  rcases hs.obj id ob hio with ⟨hn, _⟩ | ⟨b, s', arr, e, hb', hw, hh, _⟩ | hm
  ·rw [hn] at hb; cases hb
  ·rw [hb'] at hb
   simp only [Option.some.injEq, Prod.mk.injEq] at hb
   obtain ⟨rfl, _⟩ := hb
   rw [h] at hh; cases hh; simp [Z5] at ho
  ·obtain ⟨b', en, ck, ks, vs, hb', _, hh, _⟩ := hm
   rw [hb'] at hb
   simp only [Option.some.injEq, Prod.mk.injEq] at hb
   obtain ⟨rfl, _⟩ := hb
   rw [h] at hh; cases hh; simp [Z5] at ho
theorem SimB.grow {F : FC} {β : zk} {S : Nat → Nat → Prop} {st : ASt} {tm : Array Value} {w w' : World} (hs : SimB F β S st tm w) (h : Ext (fun _ => False) w w') : SimB F β S st tm w' :=
 hs.world h (fun _ _ hf => hf.elim) (fun b i hS => ⟨hS, xc (h.block b (hs.lt b i hS) fun f => f)⟩) hs.sub (fun b i h1 => Nat.lt_of_lt_of_le (hs.lt b i h1) h.size) hs.sep
  (fun _ _ b _ hio hb => h.block b (hs.block_lt hio hb) fun f => f)
def LeB (F : FC) (st st' : ASt) : Prop := ∀ (β : zk) (S : Nat → Nat → Prop) (tm : Array Value) (w : World), SimB F β S st tm w → ∃ β', SimB F β' S st' tm w
theorem LeB.refl (F : FC) (st : ASt) : LeB F st st := fun β _ _ _ h => ⟨β, h⟩
theorem LeB.trans {F : FC} {a b c : ASt} (h : LeB F a b) (k : LeB F b c) : LeB F a c := fun β S tm w hs => let ⟨β1, h1⟩ := h β S tm w hs; k β1 S tm w h1
theorem LeB.of {F : FC} {st : ASt} {e : List (Nat × AV)} {o : List (Nat × AObj)} (h1 : LeE st.env e) (h2 : LeO st.objs o) : LeB F st (.of e o) := fun β _ _ _ hs => ⟨β, hs.less (fun n => h1.get n) (fun i ob h => h2.get i ob h)⟩
theorem LeB.swap {F : FC} {e : List (Nat × AV)} {o : List (Nat × AObj)} (a b : Nat) (ha : a < F.N) (hb : b < F.N) : LeB F (.of e o) (.of (renE a b e) (renO a b o)) := fun _ _ _ _ hs => ⟨_, by rw [← zm9]; exact hs.swap a b ha hb⟩
structure Held (S : Nat → Nat → Prop) (w w' : World) : Prop where
 os : w'.os = w.os
 tape : w'.tape = w.tape
 output : w'.output = w.output
 size : w.heap.size ≤ w'.heap.size
 keeps : Keeps S S w w'
 shape : Shapes w w'
def zpi (P : Program) (gf : FuncId) (caps : List Dat) (xs : List (List Dat)) : Prop :=
 (∃ fn c, P.funcs[gf]? = some fn ∧ fn.body = some c ∧ (fn.name == "runtime.NumGoroutine") = false) ∧
 ∀ (W1 : World) (S : Nat → Nat → Prop) (lb : Array Value) (l : Nat) (J Jx : Nat → World → Prop), (∀ b i, S b i → b < W1.heap.size) → RepV S W1 caps lb.toList →
  (∀ k W W', J k W → Ext (fun _ => False) W W' → J k W') → (∀ k W W', Jx k W → Ext (fun _ => False) W W' → Jx k W') →
  (∀ k x W (vals : Array Value), xs[k]? = some x → J k W → RepV S W x vals.toList → YieldAt Fence.wide 0 P l vals W fun e W' =>
    (e = .returned (.bool true) ∧ J (k + 1) W' ∧ Held S W W') ∨ (e = .returned (.bool false) ∧ Jx k W' ∧ Held S W W')) →
  J 0 W1 → Calls P gf (#[.func (.yield l) #[] #[]] ++ lb) W1 fun e W' => (∃ v, e = .returned v) ∧ (J xs.length W' ∨ ∃ k, k < xs.length ∧ Jx k W')
def z77 (os' : List (Nat × AObj)) : Exit → ASt → Prop
 | .normal, st => qr st.objs os'
 | _, _ => False
def QTail (Q : Exit → ASt → Prop) : Exit → ASt → Prop
 | .ret, st => Q .ret st
 | _, _ => False
theorem Ze {n : Nat} : ∀ {l : List (Nat × Value)} {tm : Array Value}, n ∉ l.map (·.1) → (l.foldl (fun t (p : Nat × Value) => t.setIfInBounds p.1 p.2) tm).getD n undef = tm.getD n undef
 | [], _, _ => rfl
 | p :: l, tm, h => by
  simp only [List.map_cons, List.mem_cons, not_or] at h
  rw [List.foldl_cons, Ze h.2]
  simp [Array.getD_eq_getD_getElem?, Array.getElem?_setIfInBounds, Ne.symm h.1]
theorem z22 : ∀ {l : List (Nat × Value)} {tm : Array Value}, (l.foldl (fun t (p : Nat × Value) => t.setIfInBounds p.1 p.2) tm).size = tm.size
 | [], _ => rfl
 | p :: l, tm => by rw [List.foldl_cons, z22]; simp
theorem z4x {n : Nat} {v : Value} : ∀ {l : List (Nat × Value)} {tm : Array Value}, (l.map (·.1)).Nodup → (n, v) ∈ l → n < tm.size → (l.foldl (fun t (p : Nat × Value) => t.setIfInBounds p.1 p.2) tm).getD n undef = v
 | p :: l, tm, hn, h, hlt => by
  simp only [List.map_cons, List.nodup_cons] at hn
  rw [List.foldl_cons]
  rcases List.mem_cons.1 h with rfl | h
  ·rw [Ze hn.1]
   simp [Array.getD_eq_getD_getElem?, Array.getElem?_setIfInBounds, hlt]
  ·exact z4x hn.2 h (by simpa using hlt)
def zpg (st : ASt) (β : zk) : Nat → Prop := fun b => ∃ id o s, st.objs id = some o ∧ β id = some (b, s)
theorem SimB.ownB {F : FC} {β : zk} {S : Nat → Nat → Prop} {st : ASt} {tm : Array Value} {w : World} (hs : SimB F β S st tm w) {b : Nat} (h : zpg st β b) : (F.w0.heap.size ≤ b ∨ F.M0 b) ∧ b < w.heap.size ∧ ∀ o, w.heap[b]? = some o → Z5 o = false := by
 obtain ⟨id, o, s, hio, hb⟩ := h
 rcases hs.obj id o hio with ⟨hn, _⟩ | ⟨b', s', arr, e, hb', hw, hh, _⟩ | hm
 ·rw [hn] at hb; cases hb
 ·rw [hb'] at hb
  simp only [Option.some.injEq, Prod.mk.injEq] at hb
  obtain ⟨rfl, _⟩ := hb
  exact ⟨hw, (Array.getElem?_eq_some_iff.1 hh).1, fun o' ho' => by rw [hh] at ho'; cases ho'; rfl⟩
 ·obtain ⟨b', en, ck, ks, vs, hb', hw, hh, _⟩ := hm
  rw [hb'] at hb
  simp only [Option.some.injEq, Prod.mk.injEq] at hb
  obtain ⟨rfl, _⟩ := hb
  exact ⟨hw, (Array.getElem?_eq_some_iff.1 hh).1, fun o' ho' => by rw [hh] at ho'; cases ho'; rfl⟩
def FC.at_ (F : FC) (w : World) (st : ASt) (β : zk) (S : Nat → Nat → Prop) (ds : List Deferred) : FC := { F with w0 := w, M0 := zpg st β, S0 := S, ds := ds, frb := fun b => F.w0.heap.size ≤ b ∨ F.frb b }
theorem SimB.into {F : FC} {β : zk} {S : Nat → Nat → Prop} {st : ASt} {tm : Array Value} {w : World} (hs : SimB F β S st tm w) (ds : List Deferred) : SimB (F.at_ w st β S ds) β S st tm w := by
 refine ⟨.refl _ _, fun p hp => ?_, fun b i h => .inl h, hs.lt, hs.sep, hs.inj, fun id o ho => ?_, hs.env, hs.size⟩
 ·obtain ⟨h1, h2, _⟩ := hs.glob p hp
  obtain ⟨h3, h4⟩ := hs.gok p hp
  exact ⟨h3, fun h => ((hs.ownB h).1.elim (fun h => by omega) h2), h4⟩
 ·rcases hs.obj id o ho with h | ⟨b, s, arr, e, hb, hw, hh, hz, hel⟩ | ⟨b, en, ck, ks, vs, hb, hw, h3, h4, h5⟩
  ·exact .inl h
  ·exact .inr (.inl ⟨b, s, arr, e, hb, .inr ⟨id, o, s, ho, hb⟩, hh, hz, hel⟩)
  ·exact .inr (.inr ⟨b, en, ck, ks, vs, hb, .inr ⟨id, o, 0, ho, hb⟩, h3, h4, h5⟩)
theorem SimB.outOf {F : FC} {β β' : zk} {S S' : Nat → Nat → Prop} {st st' : ASt} {tm tm' : Array Value} {w w' : World} {ds : List Deferred} (hs : SimB F β S st tm w) (h : SimB (F.at_ w st β S ds) β' S' st' tm' w') : SimB F β' S' st' tm' w' := by
 have hsz : F.w0.heap.size ≤ w.heap.size := hs.ext.size
 have hM : ∀ b, w.heap.size ≤ b ∨ zpg st β b → F.w0.heap.size ≤ b ∨ F.M0 b := fun b h => h.elim (fun h => .inl (Nat.le_trans hsz h)) fun h => (hs.ownB h).1
 refine ⟨hs.ext.trans h.ext (fun k hk hm => (hs.ownB hm).1.elim (fun h => by omega) fun h => h), hs.glob, fun b i hb => (h.sub b i hb).elim (hs.sub b i) fun h => .inr (h.elim (fun h => .inl (Nat.le_trans hsz h)) id), h.lt, h.sep, h.inj, fun id o ho => ?_, h.env, h.size⟩
 rcases h.obj id o ho with h | ⟨b, s, arr, e, hb, hw, hh, hz, hel⟩ | ⟨b, en, ck, ks, vs, hb, hw, h3, h4, h5⟩
 ·exact .inl h
 ·exact .inr (.inl ⟨b, s, arr, e, hb, hM b hw, hh, hz, hel⟩)
 ·exact .inr (.inr ⟨b, en, ck, ks, vs, hb, hM b hw, h3, h4, h5⟩)
theorem zuc {w : World} {o o' : Obj} : Ext (fun _ => False) w ((w.alloc o).alloc o') := (Ext.alloc _ w o).trans (Ext.alloc _ _ o') fun _ _ h => h
def Z7 (fn : FuncId) (tm : Array Value) (ps : Array Tmp) (as body : Code) (D : Nat) (st : LoopState) (pe : Option Code) : Loop := { state := st, pending := pe, fn, tmps := tm, params := ps, assign := as, body, defers := D }
def zfv (w : World) (r : Loop) : World := (w.alloc (.deferred (some []))).alloc (.loop r)
theorem zpz (w : World) (r : Loop) : Ext (fun _ => False) w (zfv w r) := zuc
theorem zmk (w : World) (r : Loop) : (zfv w r).heap[w.heap.size + 1]? = some (.loop r) := by
 have := heap_alloc_new (w.alloc (.deferred (some []))) (.loop r)
 rwa [World.size_alloc] at this
theorem zpy (w : World) (r : Loop) : (zfv w r).heap[w.heap.size]? = some (.deferred (some [])) :=
 (RowKit.Below.heap_alloc _ _ _ (by simp)).trans (heap_alloc_new w _)
theorem ze7 {F : FC} {P : Program} {f : FuncId} {args : Array Value} {w : World} {R : Ending → World → Prop} (h : Calls P f args w R) : CallsIn F.fence (0 - 1) P f args w R := callsIn_wide.2 h
theorem zhi {F : FC} (hrnd : F.rnd = none) {g : Operand} {ps : Array Tmp} {as body : Code} {Q : Exit → Act → World → Prop} {a : Act} {w : World} {gf : FuncId} {lb : Array Value} (hgv : a.eval g = .func (.func gf) #[] lb)
  (hfn : ∃ fn c, F.P.funcs[gf]? = some fn ∧ fn.body = some c ∧ (fn.name == "runtime.NumGoroutine") = false)
  (h : ∀ fn, Calls F.P gf (#[.func (.yield (w.heap.size + 1)) #[] #[]] ++ lb) (zfv w (Z7 fn a.tmps ps as body w.heap.size .ready none)) (rangePost F.fence 0 F.P (w.heap.size + 1) Q { a with defers := [z29 w.heap.size] ++ a.defers })) :
  (Code.rangeFunc g ps as body).wpIn F.fence 0 F.P Q a w := by
 obtain ⟨gfn, gc, hgf, hgb, hgn⟩ := hfn
 have eg : ∀ args W, (callFunc gf args).run F.P W = .ok (.enter gf args) W := fun args W => by
  have hn' : ¬ gfn.name = "runtime.NumGoroutine" := by simpa using hgn
  simp [callFunc, hgf, hn', hgb]
 refine wpIn_rangeFunc fun fn _ => ?_
 refine ⟨w.heap.size + 1, [z29 w.heap.size], zfv w (Z7 fn a.tmps ps as body w.heap.size .ready none), { target := .fn (.func gf) lb, args := #[.func (.yield (w.heap.size + 1)) #[] #[]] }, zfv w (Z7 fn a.tmps ps as body w.heap.size .ready none), gf, #[.func (.yield (w.heap.size + 1)) #[] #[]] ++ lb, zfv w (Z7 fn a.tmps ps as body w.heap.size .ready none), ?_, ?_, fun _ _ => trivial, ?_, fun hf => by simp [FC.fence, Fence.wide] at hf, ?_⟩
 ·have : F.fence.round = none := hrnd
  rw [this]
  exact run_enterLoop_outer _ _ _ _ _
 ·simp only [resolve, hgv]
  simp [go_sem]
 ·simp [invoke, go_sem, eg]
 ·have h1 := ze7 (F := F) (h fn)
  exact h1
def z2n (F : FC) (l : Nat) (w : World) (os : List (Nat × AObj)) (β : zk) (S : Nat → Nat → Prop) (rows lits apps : List Nat) : FC := ⟨F.P, F.N, F.G, w, MB os β, S, rows, lits, apps, β, some l, [], 0, fun _ => False, []⟩
theorem zdg {F : FC} {β : zk} {S : Nat → Nat → Prop} {st : ASt} {tm tm' : Array Value} {w : World} (hs : SimB F β S st tm w) {m : Nat → Nat} {os : List (Nat × AObj)} (hl : Lent st.objs m os os) {e0 : List (Nat × AV)} (l : Nat) (rows lits apps : List Nat) (hN : F.N ≤ tm'.size)
  (henv : ∀ n, RepA (fun i => β (m i)) S w (xl e0 n) (tm'.getD n undef)) : SimB (z2n F l w os (fun i => β (m i)) S rows lits apps) (fun i => β (m i)) S (.of e0 os) tm' w := by
 have h := hs.lent hl
 exact ⟨h.ext, h.glob, h.sub, h.lt, h.sep, h.inj, h.obj, henv, ⟨hN, fun _ _ => rfl⟩⟩
theorem zk6 {F : FC} {β β' : zk} {S S' : Nat → Nat → Prop} {st : ASt} {tm : Array Value} {w w' : World} {os os' : List (Nat × AObj)} {l : Nat} {rows lits apps : List Nat} (h0 : SimB (FC0 F.P F.G w os β S) β S (.os os) #[] w)
  (hs' : SimB (z2n F l w os β S rows lits apps) β' S' st tm w') (h3 : qr st.objs os') :
  SimB (FCX F.P F.G w os β β' S) β' (fun b i => S b i ∨ S' b i) (.os os') #[] w' := by
 have hk : Keeps S' (fun b i => S b i ∨ S' b i) w' w' := Keeps.wider w' fun b i hA => .inr hA
 have hplace : ∀ id o b s, qm os' id = some o → β' id = some (b, s) → w.heap.size ≤ b ∨ ∃ k q t, qm os k = some q ∧ β k = some (b, t) := fun id o b s ho hb => by
  rcases hs'.obj id o (wi h3 ho) with ⟨hn, _⟩ | ⟨b', s', arr, e, hb', hw, _⟩ | hm
  rotate_left 2
  ·exact (hm.place hb).1.elim .inl fun ⟨k, q, t, h3, h4⟩ => .inr ⟨k, q, t, h3, h4⟩
  ·rw [hn] at hb; cases hb
  ·rw [hb'] at hb
   simp only [Option.some.injEq, Prod.mk.injEq] at hb
   rcases hw with h | h
   ·exact .inl (hb.1 ▸ h)
   ·obtain ⟨k, q, t, h3, h4⟩ := h
    exact .inr ⟨k, q, t, h3, hb.1 ▸ h4⟩
 refine ⟨hs'.ext, h0.glob, fun b i hA => ?_, fun b i hA => ?_, fun id o b s i ho hb' hA => ?_, fun id id' o o' b s s' ho ho' hb1 hb2 => ?_, fun id o ho => ?_, fun n => by simp [ASt.os, RepA], ⟨by simp [FCX], fun _ _ => rfl⟩⟩
 ·rcases hA with hA | hA
  ·exact .inl hA
  ·exact hs'.sub b i hA
 ·rcases hA with hA | hA
  ·exact Nat.lt_of_lt_of_le (h0.lt b i hA) hs'.ext.size
  ·exact hs'.lt b i hA
 ·replace ho : qm os' id = some o := ho
  rcases hA with hA | hA
  ·rcases hplace id o b s ho hb' with h | ⟨k, q, t, h4, h5⟩
   ·have := h0.lt b i hA; omega
   ·exact h0.sep k q b t i h4 h5 hA
  ·exact hs'.sep id o b s i (wi h3 ho) hb' hA
 ·replace ho : qm os' id = some o := ho
  replace ho' : qm os' id' = some o' := ho'
  exact hs'.inj id id' o o' b s s' (wi h3 ho) (wi h3 ho') hb1 hb2
 ·replace ho : qm os' id = some o := ho
  rcases hs'.obj id o (wi h3 ho) with h | ⟨b', s', arr, e, hb', hw, hh, hz, hel⟩ | hm
  ·exact .inl h
  ·exact .inr (.inl ⟨b', s', arr, e, hb', hw, hh, hz, fun k x hx => ⟨(hel k x hx).1, (hel k x hx).2.mono hk (.refl w') rfl⟩⟩)
  ·exact .inr (.inr (hm.mono rfl hk fun _ _ => rfl))
theorem zex {w : World} {D : Nat} {o o' : Obj} (h : w.heap[D]? = some o) (ho : Z5 o = true) : Shapes w (w.putObj D o') := fun b arr e hb => by
 have hne : b ≠ D := fun e' => by subst e'; rw [h] at hb; cases hb; simp [Z5] at ho
 exact ⟨arr, (World.putObj_heap_other hne).trans hb, rfl⟩
theorem z7w {w : World} {D : Nat} {o o' : Obj} (h : w.heap[D]? = some o) (ho : Z5 o = true) (ho' : Z5 o' = true) (b i : Nat) : (w.putObj D o').cell? ⟨b, i, none⟩ = w.cell? ⟨b, i, none⟩ := by
 have hlt : D < w.heap.size := (Array.getElem?_eq_some_iff.1 h).1
 by_cases hb : b = D
 ·subst hb
  unfold World.cell?
  simp only [h, World.putObj_heap_same hlt]
  cases o <;> simp [Z5] at ho <;> cases o' <;> simp [Z5] at ho' <;> rfl
 ·simp [World.cell?, World.putObj_heap_other hb]
theorem z7x {S : Nat → Nat → Prop} {w : World} {D : Nat} {o o' : Obj} (h : w.heap[D]? = some o) (ho : Z5 o = true) (ho' : Z5 o' = true) : Held S w (w.putObj D o') :=
 ⟨rfl, rfl, rfl, by simp [World.putObj], fun b i hS => ⟨hS, z7w h ho ho' b i⟩, zex h ho⟩
theorem Held.trans {S : Nat → Nat → Prop} {a b c : World} (h : Held S a b) (k : Held S b c) : Held S a c :=
 ⟨k.os.trans h.os, k.tape.trans h.tape, k.output.trans h.output, Nat.le_trans h.size k.size, h.keeps.trans k.keeps, h.shape.trans k.shape⟩
theorem z3e {S : Nat → Nat → Prop} {w : World} : ∀ {l : List Dat} {vs : List Value}, RepV S w l vs → vs.length = l.length
 | [], vs, h => by simp [RepV] at h; simp [h]
 | d :: ds, vs, h => by
  simp only [RepV] at h
  obtain ⟨v, vs', rfl, _, h2⟩ := h
  simp [z3e h2]
theorem zho {S : Nat → Nat → Prop} {w : World} {n : Nat} {d : Dat} : ∀ {ps : List Nat} {l : List Dat} {vs : List Value}, RepV S w l vs → (n, d) ∈ ps.zip l → ∃ v, (n, v) ∈ ps.zip vs ∧ RepX S w d v
 | [], _, _, _, h => by simp at h
 | p :: ps, [], _, _, h => by simp at h
 | p :: ps, x :: l, vs, hv, h => by
  simp only [RepV] at hv
  obtain ⟨v, vs', rfl, h1, h2⟩ := hv
  simp only [List.zip_cons_cons, List.mem_cons] at h
  rcases h with h | h
  ·cases h; exact ⟨v, by simp, h1⟩
  ·obtain ⟨u, hu, hr⟩ := zho h2 h
   exact ⟨u, by simp [hu], hr⟩
theorem z9a {n : Nat} {v : AV} : ∀ {l : List (Nat × AV)}, xl l n = v → (n, v) ∈ l ∨ v = .junk
 | [], h => .inr h.symm
 | (k, x) :: l, h => by
  simp only [xl] at h
  split at h
  ·rename_i hk; subst hk; subst h; exact .inl (by simp)
  ·exact (z9a h).imp (fun h => by simp [h]) id
theorem zgj {n : Nat} : ∀ {l l' : List (Nat × AV)}, (n ∈ l.map (·.1) ∧ xl (l ++ l') n = xl l n) ∨ (n ∉ l.map (·.1) ∧ xl (l ++ l') n = xl l' n)
 | [], _ => .inr ⟨by simp, rfl⟩
 | (k, x) :: l, l' => by
  simp only [List.cons_append, xl, List.map_cons, List.mem_cons]
  by_cases hk : n = k
  ·exact .inl ⟨.inl hk, by simp [hk]⟩
  ·simp only [if_neg hk]
   rcases zgj (n := n) (l := l) (l' := l') with ⟨h1, h2⟩ | ⟨h1, h2⟩
   ·exact .inl ⟨.inr h1, h2⟩
   ·exact .inr ⟨fun h => h.elim hk h1, h2⟩
theorem zop {F : FC} {β : zk} {S S' : Nat → Nat → Prop} {e sl : List (Nat × AV)} {oI : List (Nat × AObj)} {tm : Array Value} {w : World} {m : Nat → Nat} {ps : Array Tmp} {x : List Dat} {vals : Array Value} (hs : SimB F β S' (.of e oI) tm w) (hSS : ∀ b i, S b i → S' b i)
  (hpn : ps.toList.Nodup) (hpN : ∀ p ∈ ps.toList, p < F.N) (hz : vals.size = ps.size) (hsl : ∀ p ∈ sl, xl e p.1 = p.2.ren m) (hv : RepV S w x vals.toList) (n : Nat) :
  RepA (fun i => β (m i)) S' w (xl (ps.toList.zip (x.map .dat) ++ sl) n) (((ps.zip vals).foldl (fun t (p : Nat × Value) => t.setIfInBounds p.1 p.2) tm).getD n undef) := by
 have hxl : x.length = ps.toList.length := by
  have := z3e hv
  simp at this ⊢
  omega
 have hlst : (ps.zip vals).foldl (fun t (p : Nat × Value) => t.setIfInBounds p.1 p.2) tm = (ps.toList.zip vals.toList).foldl (fun t (p : Nat × Value) => t.setIfInBounds p.1 p.2) tm := by
  rw [← Array.foldl_toList, Array.toList_zip]
 have hk1 : (ps.toList.zip vals.toList).map (·.1) = ps.toList := by
  rw [List.map_fst_zip]; simp; omega
 have hk2 : (ps.toList.zip (x.map AV.dat)).map (·.1) = ps.toList := by
  rw [List.map_fst_zip]; simp [hxl]
 rw [hlst]
 rcases zgj (n := n) (l := ps.toList.zip (x.map AV.dat)) (l' := sl) with ⟨h1, h2⟩ | ⟨h1, h2⟩
 ·rw [h2]
  rcases z9a (n := n) (l := ps.toList.zip (x.map AV.dat)) rfl with h | h
  ·obtain ⟨d, hd, he⟩ : ∃ d, (n, d) ∈ ps.toList.zip x ∧ xl (ps.toList.zip (x.map AV.dat)) n = .dat d := by
    rw [List.zip_map_right] at h
    obtain ⟨⟨n', d⟩, hd, he⟩ := List.mem_map.1 h
    simp only [Prod.map, id, Prod.mk.injEq] at he
    obtain ⟨rfl, he⟩ := he
    refine ⟨d, hd, ?_⟩
    rw [List.zip_map_right]
    exact he.symm
   obtain ⟨v, hvm, hr⟩ := zho hv hd
   rw [he]
   have hn : n ∈ ps.toList := by rw [← hk1]; exact List.mem_map.2 ⟨_, hvm, rfl⟩
   rw [z4x (by rw [hk1]; exact hpn) hvm (Nat.lt_of_lt_of_le (hpN n hn) hs.size.1)]
   simp only [RepA]
   exact RepX.mono (Keeps.wider w hSS) d v hr
  ·rw [h]; simp [RepA]
 ·rw [h2]
  have h1' : n ∉ (ps.toList.zip vals.toList).map (·.1) := by rw [hk1, ← hk2]; exact h1
  rw [Ze h1']
  rcases z9a (n := n) (l := sl) rfl with h | h
  ·have := hs.env n
   rw [show (ASt.of e oI).env n = (xl sl n).ren m from hsl _ h] at this
   exact (RepA.ren m _ _).1 this
  ·rw [h]; simp [RepA]
theorem zhj {F : FC} {D l ia : Nat} {ps : Array Tmp} {la : List Oper} {body : Code} {fn : FuncId} {a : Act} {e sl e1 : List (Nat × AV)} {oI o2 os os' : List (Nat × AObj)} {m : Nat → Nat} {news rows lits apps : List Nat} {x : List Dat} {β : zk} {S S' : Nat → Nat → Prop} {W : World} {vals : Array Value}
  (hs : SimB F β S' (.of e oI) a.tmps W) (hSS : ∀ b i, S b i → S' b i) (hlt : F.w0.heap.size ≤ l) (hrec : W.heap[l]? = some (.loop (Z7 fn a.tmps ps (.region ia la.toArray false) body D .ready none))) (hdef : W.heap[D]? = some (.deferred (some [])))
  (hpz : x.length = ps.size) (hpn : ps.toList.Nodup) (hpN : ∀ p ∈ ps.toList, p < F.N) (hl : LentX F (qm oI) m news os os') (hon : ∀ p ∈ os', v7 (v6 os') p.2.elems = true) (hN : ∀ p ∈ os, F.N ≤ p.1)
  (hsl : ∀ p ∈ sl, xl e p.1 = p.2.ren m) (hle : LeB F ((ASt.of e oI).backX m news os os') (.of e o2)) (hpure : ∀ o ∈ la, z07 o)
  (hround : ∀ F' : FC, F'.P = F.P → F'.G = F.G → F'.N = F.N → (F'.rows = rows ∧ F'.lits = lits ∧ F'.apps = apps ∧ PinM F' (os.map (·.1)) false) →
    zi F' la.toArray la (.of (ps.toList.zip (x.map .dat) ++ sl) os) (fun st => st = .of e1 os) ∧ AWp F' body (z77 os') (.of e1 os))
  (hv : RepV S W x vals.toList) :
  YieldAt Fence.wide 0 F.P l vals W fun e' W' => e' = .returned (.bool true) ∧ (∃ β'' S'', (∀ b i, S' b i → S'' b i) ∧ SimB F β'' S'' (.of e o2) a.tmps W') ∧
   W'.heap[l]? = some (.loop (Z7 fn a.tmps ps (.region ia la.toArray false) body D .ready none)) ∧ W'.heap[D]? = some (.deferred (some [])) ∧ Held S W W' := by
 have hvz : vals.size = ps.size := by
  have := z3e hv
  simp at this
  omega
 have hpin : ∀ (w : World) (S1 : Nat → Nat → Prop), PinM (z2n F l w os (fun i => β (m i)) S1 rows lits apps) (os.map (·.1)) false := fun w S1 => ⟨fun b ⟨id, o, s, ho, hb⟩ => .inr ⟨id, Zp ho, hN _ (vl ho), s, hb⟩, fun h => by simp at h⟩
 refine ⟨_, _, _, _, run_yield (P := F.P) (args := vals) hrec hvz, roundIn_of_wpIn (F := Fence.wide) trivial ?_⟩
 have hsim0 : SimB (z2n F l W os (fun i => β (m i)) S' rows lits apps) (fun i => β (m i)) S' (.of (ps.toList.zip (x.map .dat) ++ sl) os) ((ps.zip vals).foldl (fun t (p : Nat × Value) => t.setIfInBounds p.1 p.2) a.tmps) W :=
  zdg hs hl.lent l rows lits apps (by rw [← Array.foldl_toList, Array.toList_zip, z22]; exact hs.size.1) (zop hs hSS hpn hpN hvz hsl hv)
 obtain ⟨hr0, _⟩ := hround (z2n F l W os (fun i => β (m i)) S' rows lits apps) rfl rfl rfl ⟨rfl, rfl, rfl, hpin W S'⟩
 refine wpIn_region_lit (F := (z2n F l W os (fun i => β (m i)) S' rows lits apps).fence) (Xh la _ _ hpure hr0 { tmps := (ps.zip vals).foldl (fun t (p : Nat × Value) => t.setIfInBounds p.1 p.2) a.tmps, defers := [] } hsim0 ?_)
 intro st' a1 hst hs1 hd1
 subst hst
 refine ⟨_, run_beginRound hrec rfl, ?_⟩
 have hs2 := hs.put_rec (o' := .loop { Z7 fn a.tmps ps (.region ia la.toArray false) body D .ready none with state := .busy }) hrec rfl rfl hlt
 generalize hW2 : W.putObj l (.loop { Z7 fn a.tmps ps (.region ia la.toArray false) body D .ready none with state := .busy }) = W2 at hs2 ⊢
 have hheld2 : Held S W W2 := hW2 ▸ z7x hrec rfl rfl
 have hcell2 : Keeps S' S' W W2 := hW2 ▸ fun b i h => ⟨h, z7w hrec rfl rfl b i⟩
 have hlW : l < W.heap.size := (Array.getElem?_eq_some_iff.1 hrec).1
 have hrec2 : W2.heap[l]? = some (.loop { Z7 fn a.tmps ps (.region ia la.toArray false) body D .ready none with state := .busy }) := hW2 ▸ World.putObj_heap_same hlW
 have hDl : D ≠ l := fun h => by subst h; rw [hrec] at hdef; cases hdef
 have hdef2 : W2.heap[D]? = some (.deferred (some [])) := hW2 ▸ (World.putObj_heap_other hDl).trans hdef
 have hsim1 : SimB (z2n F l W2 os (fun i => β (m i)) S' rows lits apps) (fun i => β (m i)) S' (.of e1 os) a1.tmps W2 :=
  zdg hs2 hl.lent l rows lits apps hs1.size.1 fun n => RepA.mono hcell2 hheld2.shape _ _ (hs1.env n)
 obtain ⟨_, hb⟩ := hround (z2n F l W2 os (fun i => β (m i)) S' rows lits apps) rfl rfl rfl ⟨rfl, rfl, rfl, hpin W2 S'⟩
 refine wpIn_mono (hb a1 W2 ⟨⟨hd1, DsOK.nil rfl (Nat.zero_le _)⟩, _, _, hsim1⟩) ?_
 rintro e' a2 w3 ⟨st3, hq, hsx⟩
 cases e' <;> try exact hq.elim
 obtain ⟨_, β3, S3, hs3⟩ := hsx
 have hown : ∀ {b : Nat}, MB os (fun i => β (m i)) b → zpg (.of e oI) β b := fun ⟨id, o, s, ho, hb⟩ => ⟨m id, _, s, hl.lent.obj ho, hb⟩
 have hnM : ∀ {b : Nat} {o : Obj}, W2.heap[b]? = some o → Z5 o = true → ¬ MB os (fun i => β (m i)) b := fun hb ho hM => by
  have := (hs2.ownB (hown hM)).2.2 _ hb
  rw [ho] at this; cases this
 have hrec3 := (hs3.ext.block l (Array.getElem?_eq_some_iff.1 hrec2).1 (hnM hrec2 rfl)).trans hrec2
 have hdef3 := (hs3.ext.block D (Array.getElem?_eq_some_iff.1 hdef2).1 (hnM hdef2 rfl)).trans hdef2
 have hback := zk6 (hs2.lent hl.lent) hs3 hq
 obtain ⟨_, hrep⟩ := hs2.repaidX hl (fun b i h => Or.inl h) hon (fun i hi => by
  obtain ⟨p, hp, rfl⟩ := List.mem_map.1 hi
  exact hs3.size.2 _ (hN p hp)) hback
 obtain ⟨β5, h5⟩ := hle _ _ _ _ hrep
 refine ⟨_, _, run_endRound none hrec3, rfl, ⟨β5, _, fun b i h => .inl h, h5.put_rec hrec3 rfl rfl hlt⟩, World.putObj_heap_same (Array.getElem?_eq_some_iff.1 hrec3).1, (World.putObj_heap_other hDl).trans hdef3, ?_⟩
 refine hheld2.trans (Held.trans ⟨hs3.ext.os, hs3.ext.tape, hs3.ext.output, hs3.ext.size, fun b i h => ⟨h, xc (hs3.ext.block b (hs2.lt b i (hSS b i h)) ?_)⟩, hs3.ext.shape⟩ (z7x hrec3 rfl rfl))
 rintro ⟨id, o, s, ho, hb'⟩
 exact hs2.sep (m id) _ b s i (hl.lent.obj ho) hb' (hSS b i h)
theorem zt9 {F : FC} {β : zk} {S : Nat → Nat → Prop} {st st0 : ASt} {a : Act} {tm : Array Value} {w w' : World} {D : Nat} {β0 : zk} {S0 : Nat → Nat → Prop} (hd : zpf F a) (h0 : SimB F β0 S0 st0 tm w) (hs : SimB F β S st a.tmps w') (hD : w.heap.size ≤ D) (hdef : w'.heap[D]? = some (.deferred (some []))) :
  zpf (F.at_ w' st β S (z29 D :: F.ds)) { a with defers := [z29 D] ++ a.defers } := by
 obtain ⟨hda, hb, Ds, hDs, hnd, hall⟩ := hd
 have hlt : ∀ D' ∈ Ds, D' < F.w0.heap.size := fun D' h => (Array.getElem?_eq_some_iff.1 (hall D' h).1).1
 have hwsz : F.w0.heap.size ≤ w.heap.size := h0.ext.size
 refine ⟨by simp [hda, FC.at_], Nat.le_trans hb (Nat.le_trans hs.ext.size (Nat.le_refl _)), D :: Ds, by simp [FC.at_, hDs], ?_, ?_⟩
 ·refine List.nodup_cons.2 ⟨fun h => ?_, hnd⟩
  have := hlt D h
  omega
 ·have hno : ∀ b, w'.heap[b]? = some (.deferred (some [])) → ¬ zpg st β b := fun b h ho => by
   have := (hs.ownB ho).2.2 _ h
   cases this
  intro D' hD'
  rcases List.mem_cons.1 hD' with rfl | h
  ·exact ⟨hdef, hno _ hdef, Nat.le_trans hb (Nat.le_trans hwsz hD)⟩
  ·obtain ⟨h1, h2, h3⟩ := hall D' h
   have h4 := (hs.ext.block D' (hlt D' h) h2).trans h1
   exact ⟨h4, hno _ h4, h3⟩
theorem QTail.out {F : FC} {β : zk} {S : Nat → Nat → Prop} {st : ASt} {tm : Array Value} {w : World} {ds : List Deferred} {Q : Exit → ASt → Prop} (hs : SimB F β S st tm w) {e : Exit} {a' : Act} {w' : World} (h : ∃ st', QTail Q e st' ∧ SimX (F.at_ w st β S ds) e st' a' w') : ∃ st', Q e st' ∧ SimX F e st' a' w' := by
 obtain ⟨st', hq, hx⟩ := h
 cases e <;> try exact hq.elim
 obtain ⟨h1, β', S', h2⟩ := hx
 exact ⟨st', hq, h1, β', S', hs.outOf h2⟩
theorem TopF.at_ {F : FC} {β : zk} {S : Nat → Nat → Prop} {st : ASt} {tm : Array Value} {w : World} {ds : List Deferred} (hs : SimB F β S st tm w) (h : TopF F) : TopF (F.at_ w st β S ds) :=
 ⟨fun _ hb => (hs.ownB hb).1.elim .inl fun hm => .inr (h.1 _ hm), h.2⟩
theorem PinM.at_ {F : FC} {β : zk} {S : Nat → Nat → Prop} {st : ASt} {tm : Array Value} {w : World} {ds : List Deferred} (hs : SimB F β S st tm w) (L : List Nat) (h : PinM F L) : PinM (F.at_ w st β S ds) L :=
 ⟨fun _ hb => (hs.ownB hb).1.elim (fun h => .inl (.inl h)) fun hm => (h.1 _ hm).imp .inr id, h.2⟩
theorem zag {Q : Exit → ASt → Prop} {st : ASt} (h : Q .ret st) : QTail Q .ret st := h
def zwh (F : FC) (c y : Code) (Q : Exit → ASt → Prop) (st : ASt) : Prop := ∀ a w, Sim F st a w → c.wpIn F.fence 0 F.P (Exit.then (y.wpIn F.fence 0 F.P fun e a' w' => ∃ st', Q e st' ∧ SimX F e st' a' w') fun e a' w' => ∃ st', Q e st' ∧ SimX F e st' a' w') a w
theorem zfs {F : FC} (ns ids : List Nat) {e : List (Nat × AV)} {o : List (Nat × AObj)} {i : Nat} {l : List Oper} {c y : Code} {Q : Exit → ASt → Prop} {st : ASt} (h : zi F l.toArray l st (Kept ns ids e o)) (hc : zwh F c y Q (.of e o)) : AWp F (.seq (.seq (.region i l.toArray false) c) y) Q st := fun a w hs =>
 wpIn_seq (wpIn_seq (wpIn_mono (kf (Q := fun ex st' => ex = .normal ∧ st' = .of e o) ns ids h ⟨rfl, rfl⟩ a w hs) fun ex a' w' ⟨st', ⟨h1, h2⟩, hs'⟩ => by subst h1; subst h2; exact hc a' w' hs'))
theorem zah {F : FC} (hrnd : F.rnd = none) {g : Operand} {ps : Array Tmp} {id ia : Nat} {la : List Oper} {body y : Code} {Q : Exit → ASt → Prop} {e sl : List (Nat × AV)} {o : List (Nat × AObj)} {gf : FuncId} {caps : List Dat} {xs : List (List Dat)}
  (hg : evA (xl e) g = .dat (.fn gf caps)) (hseq : zpi F.P gf caps xs) (hpz : ∀ x ∈ xs, x.length = ps.size) (hpn : ps.toList.Nodup) (hpN : ∀ p ∈ ps.toList, p < F.N)
  (I : Nat → List (Nat × AObj)) (e1 : Nat → List Dat → List (Nat × AV)) (os os' : Nat → List (Nat × AObj)) (m : Nat → Nat) (news rows lits apps : List Nat)
  (h0 : LeB F (.of e o) (.of e (I 0))) (hl : ∀ k, k < xs.length → LentX F (qm (I k)) m news (os k) (os' k)) (hon : ∀ k, k < xs.length → ∀ p ∈ os' k, v7 (v6 (os' k)) p.2.elems = true) (hN : ∀ k, k < xs.length → ∀ p ∈ os k, F.N ≤ p.1)
  (hsl : ∀ p ∈ sl, xl e p.1 = p.2.ren m) (hle : ∀ k, k < xs.length → LeB F ((ASt.of e (I k)).backX m news (os k) (os' k)) (.of e (I (k + 1)))) (hpure : ∀ o ∈ la, z07 o)
  (hround : ∀ k x, xs[k]? = some x → ∀ F' : FC, F'.P = F.P → F'.G = F.G → F'.N = F.N → (F'.rows = rows ∧ F'.lits = lits ∧ F'.apps = apps ∧ PinM F' ((os k).map (·.1)) false) →
    zi F' la.toArray la (.of (ps.toList.zip (x.map .dat) ++ sl) (os k)) (fun st => st = .of (e1 k x) (os k)) ∧ AWp F' body (z77 (os' k)) (.of (e1 k x) (os k)))
  (hk : ∀ F' : FC, F'.P = F.P → F'.G = F.G → F'.N = F.N → (F'.rows = F.rows ∧ F'.lits = F.lits ∧ F'.apps = F.apps) → F'.rnd = none → (TopF F → TopF F') → (∀ L, PinM F L → PinM F' L) → AWp F' y (QTail Q) (.of e (I xs.length))) :
  zwh F (.block id (.rangeFunc g ps (.region ia la.toArray false) body)) y Q (.of e o) := by
 rintro a w ⟨hdef, β, S, hs⟩
 have hgr := qc hs.env g
 rw [show (ASt.of e o).env = xl e from rfl, hg] at hgr
 simp only [RepA, RepX] at hgr
 obtain ⟨lb, hgv, hcaps⟩ := hgr
 obtain ⟨β0, hs0⟩ := h0 β S a.tmps w hs
 refine wpIn_block (zhi hrnd hgv hseq.1 fun fn => ?_)
 have hbe := zpz w (Z7 fn a.tmps ps (.region ia la.toArray false) body w.heap.size .ready none)
 have hb1 := zmk w (Z7 fn a.tmps ps (.region ia la.toArray false) body w.heap.size .ready none)
 have hb2 := zpy w (Z7 fn a.tmps ps (.region ia la.toArray false) body w.heap.size .ready none)
 generalize zfv w (Z7 fn a.tmps ps (.region ia la.toArray false) body w.heap.size .ready none) = W1 at hbe hb1 hb2 ⊢
 have hcalls := hseq.2 W1 S lb (w.heap.size + 1)
  (fun k W => (∃ (β' : zk) (S' : Nat → Nat → Prop), (∀ b i, S b i → S' b i) ∧ SimB F β' S' (.of e (I k)) a.tmps W) ∧ W.heap[w.heap.size + 1]? = some (.loop (Z7 fn a.tmps ps (.region ia la.toArray false) body w.heap.size .ready none)) ∧ W.heap[w.heap.size]? = some (.deferred (some [])))
  (fun _ _ => False)
  (fun b i h => Nat.lt_of_lt_of_le (hs.lt b i h) hbe.size)
  (RepV.mono (fun b i h => ⟨h, xc (hbe.block b (hs.lt b i h) fun f => f)⟩) _ _ hcaps)
  (fun k W W' ⟨⟨β', S', h1, h2⟩, h3, h4⟩ hx => ⟨⟨β', S', h1, h2.grow hx⟩, (hx.block _ (Array.getElem?_eq_some_iff.1 h3).1 fun f => f).trans h3, (hx.block _ (Array.getElem?_eq_some_iff.1 h4).1 fun f => f).trans h4⟩)
  (fun _ _ _ h _ => h)
  (fun k x W vals hx ⟨⟨β', S', h1, h2⟩, h3, h4⟩ hv => by
    have hkl : k < xs.length := (List.getElem?_eq_some_iff.1 hx).1
    obtain ⟨fn1, t1, b1, b2, hy, hr⟩ := zhj (o2 := I (k + 1)) h2 h1 (Nat.le_trans hs.ext.size (Nat.le_succ _)) h3 h4 (hpz x (List.mem_of_getElem? hx)) hpn hpN (hl k hkl) (hon k hkl) (hN k hkl) hsl (hle k hkl) hpure (hround k x hx) hv
    exact ⟨fn1, t1, b1, b2, hy, hr.mono fun e' W' ⟨hv', ⟨β'', S'', h5, h6⟩, h7, h8, h9⟩ => .inl ⟨hv', ⟨⟨β'', S'', fun b i h => h5 b i (h1 b i h), h6⟩, h7, h8⟩, h9⟩⟩)
  ⟨⟨β0, S, fun _ _ h => h, hs0.grow hbe⟩, hb1, hb2⟩
 refine hcalls.mono ?_
 rintro e' W3 ⟨⟨v, rfl⟩, hJ⟩
 rcases hJ with ⟨⟨β3, S3, h1, h2⟩, h3, h4⟩ | ⟨_, _, hf⟩
 rotate_left
 ·exact hf.elim
 refine ⟨none, _, run_endLoop h3 (by simp [Z7]), ?_⟩
 have hsz : F.w0.heap.size ≤ w.heap.size := hs.ext.size
 have h5 := h2.put_rec (o' := .loop { Z7 fn a.tmps ps (.region ia la.toArray false) body w.heap.size .ready none with state := .exhausted }) h3 rfl rfl (Nat.le_trans hsz (Nat.le_succ _))
 have h6 := (World.putObj_heap_other (w := W3) (o := .loop { Z7 fn a.tmps ps (.region ia la.toArray false) body w.heap.size .ready none with state := .exhausted }) (show w.heap.size ≠ w.heap.size + 1 by omega)).trans h4
 have h7 := zt9 hdef hs h5 (Nat.le_refl _) h6
 have h8 := hk (F.at_ _ _ β3 S3 (z29 w.heap.size :: F.ds)) rfl rfl rfl ⟨rfl, rfl, rfl⟩ hrnd (TopF.at_ h5) (PinM.at_ h5) { a with defers := [z29 w.heap.size] ++ a.defers } _ ⟨h7, β3, S3, h5.into _⟩
 exact wpIn_mono h8 fun e' a' w' hq => QTail.out h5 hq
def itF (P : Program) (N : Nat) (W : World) (S : Nat → Nat → Prop) (rows lits apps : List Nat) : FC := ⟨P, N, [], W, fun _ => True, S, rows, lits, apps, fun _ => none, none, [], 0, fun _ => False, []⟩
def JSim (F : FC) (S : Nat → Nat → Prop) (e : List (Nat × AV)) (a : Act) (w : World) : Prop := a.defers = [] ∧ SimB F (fun _ => none) S (.of e []) a.tmps w
def JWp (F : FC) (S : Nat → Nat → Prop) (c : Code) (Q : Exit → List (Nat × AV) → (World → Prop) → Prop) (e : List (Nat × AV)) (J : World → Prop) : Prop :=
 ∀ a w, JSim F S e a w → J w → c.wpIn F.fence 0 F.P (fun ex a' w' => ∃ e' J', Q ex e' J' ∧ JSim F S e' a' w' ∧ J' w') a w
variable {F : FC} {S : Nat → Nat → Prop} {Q : Exit → List (Nat × AV) → (World → Prop) → Prop} {e : List (Nat × AV)} {J : World → Prop}
def zwy (F : FC) (S : Nat → Nat → Prop) (y : Code) (Q : Exit → List (Nat × AV) → (World → Prop) → Prop) : Exit → List (Nat × AV) → (World → Prop) → Prop
 | .normal, e, J => JWp F S y Q e J
 | ex, e, J => Q ex e J
theorem z9z {x y : Code} (h : JWp F S x (zwy F S y Q) e J) : JWp F S (.seq x y) Q e J := fun a w hs hJ => by
 refine wpIn_seq (wpIn_mono (h a w hs hJ) fun ex a' w' h => ?_)
 obtain ⟨e', J', hq, hs', hJ'⟩ := h
 cases ex <;> simp only [Exit.then, zwy] at hq ⊢
 case normal => exact hq a' w' hs' hJ'
 all_goals exact ⟨e', J', hq, hs', hJ'⟩
theorem zlk (h : Q .normal e J) : JWp F S .skip Q e J := fun a w hs hJ => wpIn_skip ⟨e, J, h, hs, hJ⟩
theorem zup {id : Nat} (h : Q (.exit id) e J) : JWp F S (.exit id) Q e J := fun a w hs hJ => wpIn_exit ⟨e, J, h, hs, hJ⟩
theorem zy1 (h : Q .ret e J) : JWp F S .ret Q e J := fun a w hs hJ => wpIn_ret ⟨e, J, h, hs, hJ⟩
def zie (id : Nat) (Q : Exit → List (Nat × AV) → (World → Prop) → Prop) : Exit → List (Nat × AV) → (World → Prop) → Prop
 | .exit id', e, J => if id' = id then Q .normal e J else Q (.exit id') e J
 | ex, e, J => Q ex e J
theorem zgw {id : Nat} {c : Code} (h : JWp F S c (zie id Q) e J) : JWp F S (.block id c) Q e J := fun a w hs hJ => by
 refine wpIn_block (wpIn_mono (h a w hs hJ) fun ex a' w' h => ?_)
 obtain ⟨e', J', hq, hs', hJ'⟩ := h
 cases ex <;> simp only [Exit.inBlock, zie] at hq ⊢
 case exit id' =>
  split at hq
  ·rename_i h; rw [if_pos h]; exact ⟨e', J', hq, hs', hJ'⟩
  ·rename_i h; rw [if_neg h]; exact ⟨e', J', hq, hs', hJ'⟩
 all_goals exact ⟨e', J', hq, hs', hJ'⟩
theorem zuo {c : Operand} {x y : Code} (b : Bool) (hc : evA (xl e) c = .dat (.bool b)) (ht : b = true → JWp F S x Q e J) (hf : b = false → JWp F S y Q e J) : JWp F S (.cond c x y) Q e J := fun a w hs hJ => by
 have hr := qc (a := a) hs.2.env c
 rw [show (ASt.of e []).env = xl e from rfl, hc] at hr
 simp only [RepA, RepX] at hr
 cases b
 ·exact wpIn_cond_false hr (hf rfl a w hs hJ)
 ·exact wpIn_cond_true hr (ht rfl a w hs hJ)
def zwg {ι : Type} (I : ι → List (Nat × AV)) (K : ι → World → Prop) (μ : ι → Nat) (i : ι) (Q : Exit → List (Nat × AV) → (World → Prop) → Prop) : Exit → List (Nat × AV) → (World → Prop) → Prop
 | .normal, e, J => ∃ i', LeE (xl e) (I i') ∧ (∀ w, J w → K i' w) ∧ μ i' < μ i
 | ex, e, J => Q ex e J
theorem JSim.less {e' : List (Nat × AV)} {a : Act} {w : World} (h : LeE (xl e) e') (hs : JSim F S e a w) : JSim F S e' a w := ⟨hs.1, hs.2.less (fun n => h.get n) fun _ _ h => h⟩
theorem zuq {c : Code} {ι : Type} (I : ι → List (Nat × AV)) (K : ι → World → Prop) (μ : ι → Nat) (i0 : ι) (h0 : LeE (xl e) (I i0)) (hJ0 : ∀ w, J w → K i0 w) (hround : ∀ i, JWp F S c (zwg I K μ i Q) (I i) (K i)) : JWp F S (.loop c) Q e J := fun a w hs hJ => by
 refine wpIn_loop_ghost (fun n a w => ∃ i, μ i = n ∧ JSim F S (I i) a w ∧ K i w) (μ i0) ⟨i0, rfl, hs.less h0, hJ0 w hJ⟩ fun n a w ⟨i, hn, hi, hk⟩ => ?_
 refine wpIn_mono (hround i a w hi hk) fun ex a' w' h => ?_
 obtain ⟨e', J', hq, hs', hJ'⟩ := h
 cases ex <;> simp only [Exit.then, zwg] at hq ⊢
 case normal =>
  obtain ⟨i', h1, h2, h3⟩ := hq
  exact ⟨μ i', by omega, i', rfl, hs'.less h1, h2 w' hJ'⟩
 all_goals exact ⟨e', J', hq, hs', hJ'⟩
theorem zlx {F : FC} {ops : Array Oper} {Q : Exit → Act → World → Prop} {β : zk} {S : Nat → Nat → Prop} {w : World} (l' : List Oper) : ∀ (l : List Oper) (st : ASt) (K : ASt → Prop), (∀ o ∈ l, z07 o) → zi F ops l st K → ∀ a : Act, SimB F β S st a.tmps w →
  (∀ st' a', K st' → SimB F β S st' a'.tmps w → a'.defers = a.defers → wpListIn F.fence 0 F.P ops Q l' a' w) → wpListIn F.fence 0 F.P ops Q (l ++ l') a w
 | [], st, K, _, h, a, hs, hK => hK st a h hs rfl
 | o :: rest, st, K, hp, h, a, hs, hK => by
  have ho := hp o (by simp)
  simp only [zi, ve, ho.1, ho.2] at h
  obtain ⟨⟨hd, h1⟩, hk⟩ := h
  obtain ⟨r, hrun, hrep⟩ := z5f (o := o) hs (ρ := evA st.env) (fun x _ => qc hs.env x) h1
  rw [List.cons_append]
  unfold wpListIn
  rw [if_pos (by simp [Region.wanted, ho.1])]
  refine Zw hrun ?_
  refine zlx l' rest _ K (fun o' h' => hp o' (by simp [h'])) hk _ ?_ fun st' a' h2 h3 h4 => hK st' a' h2 h3 (h4.trans ?_)
  ·cases hdst : o.dst with
   | none => simpa [Act.put, ASt.put] using hs
   | some d => rw [hdst] at hd; simpa [Act.put] using hs.put hd hrep
  ·cases o.dst <;> rfl
theorem JSim.keep {ns : List Nat} {e' : List (Nat × AV)} {st : ASt} {a : Act} {w : World} (hd : a.defers = []) (hs : SimB F (fun _ => none) S st a.tmps w) (hk : Kept ns [] e' [] st) : JSim F S e' a w := by
 refine ⟨hd, hs.less (fun n => ?_) fun i o h => by simp [ASt.of, qm] at h⟩
 have := z67 st.env n ns
 rw [hk.1] at this
 exact this
theorem zcz (ns : List Nat) {e' : List (Nat × AV)} {id : Nat} {l : List Oper} (hp : ∀ o ∈ l, z07 o) (h : zi F l.toArray l (.of e []) (Kept ns [] e' [])) (k : Q .normal e' J) : JWp F S (.region id l.toArray false) Q e J := fun a w hs hJ =>
 wpIn_region_lit (Xh l _ _ hp h a hs.2 fun st' a' h1 h2 h3 => ⟨e', J, k, .keep (h3.trans hs.1) h2 h1, hJ⟩)
theorem zur (ns : List Nat) (perm : List Nat) {e' : List (Nat × AV)} {rows lits apps : List Nat} {id : Nat} {l l' : List Oper} (hm : F.P.follows .mixedOrders = true) {Pm : Prop} (hR : F.rows = rows ∧ F.lits = lits ∧ F.apps = apps ∧ Pm) (hj : ∀ w w', J w → Ext (fun _ => False) w w' → J w')
  (hp : (Xf rows lits apps l.toArray perm && ksB rows lits apps l []) = true) (hl : perm.filterMap (fun i => l.toArray[i]?) = l') (hpu : ∀ o ∈ l, z07 o) (h : zi F l.toArray l' (.of e []) (Kept ns [] e' [])) (k : Q .normal e' J) : JWp F S (.region id l.toArray true) Q e J := fun a w hs hJ => by
 obtain ⟨h1, h2, h3, _⟩ := hR
 subst h1; subst h2; subst h3; subst hl
 simp only [Bool.and_eq_true] at hp
 obtain ⟨hp, hk⟩ := hp
 unfold Xf at hp
 simp only [Bool.and_eq_true, decide_eq_true_eq] at hp
 obtain ⟨⟨⟨⟨⟨p1, p2⟩, p3⟩, p4⟩, p5⟩, p6⟩ := hp
 have hnd : perm.Nodup := (vy p3).imp fun {a b} h => by simpa using h
 have hlt : ∀ i ∈ perm, i < l.toArray.size := fun i hi => by simpa using List.all_eq_true.1 p2 i hi
 have hall : ∀ i, i < l.toArray.size → i ∈ perm := by
  exact fun i hi => by simpa using List.all_eq_true.1 p6 i (List.mem_range.2 hi)
 have hdr : Ext (fun _ => False) w { w with drawn := w.drawn + 1 } := ⟨rfl, rfl, rfl, Nat.le_refl _, fun _ _ _ => rfl, fun b arr e h => ⟨arr, h, rfl⟩⟩
 refine wpIn_region_any hm ?_
 refine zgg (K := Kept ns [] e' []) (Sm := fun st a' w' => w' = { w with drawn := w.drawn + 1 } ∧ a'.defers = [] ∧ SimB F (fun _ => none) S st a'.tmps w') (fun i o ho st K h a1 w1 R hs1 hn => ?_) (fun i o ho e he hb => ?_) (fun st' a' w' hk hs' => ⟨e', J, k, .keep hs'.2.1 hs'.2.2 hk, hs'.1 ▸ hj _ _ hJ hdr⟩) _ perm _ (.of e []) a _ p1 (by simp) (fun j hj => ?_) hlt hnd (vy p5) (fun i o ho hi => absurd (hall i (Array.getElem?_eq_some_iff.1 ho).1) hi) (fun i hi o ho hc d hd => ?_) h ⟨rfl, hs.1, hs.2.grow hdr⟩
 ·have hpo := hpu o (by simpa using Array.mem_of_getElem? ho)
  simp only [ve, hpo.1, hpo.2] at h
  obtain ⟨⟨hd, h1⟩, hk⟩ := h
  obtain ⟨r, hrun, hrep⟩ := z5f (o := o) hs1.2.2 (ρ := evA st.env) (fun x _ => qc hs1.2.2.env x) h1
  unfold wpOpIn
  simp only [ho]
  rw [if_pos (by simp [Region.wanted, hpo.1])]
  refine Zw hrun (hn _ _ _ hk ⟨hs1.1, ?_, ?_⟩)
  ·refine Eq.trans ?_ hs1.2.1
   cases o.dst <;> rfl
  ·cases hdst : o.dst with
   | none => simpa [Act.put, ASt.put] using hs1.2.2
   | some d => rw [hdst] at hd; simpa [Act.put] using hs1.2.2.put hd hrep
 ·have := List.all_eq_true.1 p4 i (hall i (Array.getElem?_eq_some_iff.1 ho).1)
  rw [ho] at this
  simp only [List.all_eq_true, Bool.or_eq_true, Bool.not_eq_true', Bool.and_eq_true, decide_eq_true_eq] at this
  rcases this e he with h | h
  ·rw [hb] at h; cases h
  ·exact ⟨by simpa using h.1, h.2⟩
 ·have : j ∈ perm := hall j hj
  simp only [Array.getD_eq_getD_getElem?, this, not_true_eq_false, iff_false, Array.getElem?_replicate]
  split <;> simp
 ·have hmem : o ∈ l := by
   have := Array.mem_of_getElem? ho
   simpa using this
  have := List.all_eq_true.1 hk o hmem
  have hcc : (isC F.rows F.lits F.apps o || Zg F.rows F.lits F.apps o) = true := by simpa using hc
  rw [hcc, hd] at this
  simp at this
def z8n (P : Program) (S : Nat → Nat → Prop) (l : Nat) (x : List Dat) (J JT JF : World → Prop) : Prop := ∀ W (vals : Array Value), J W → RepV S W x vals.toList → YieldAt Fence.wide 0 P l vals W fun e W' =>
 (e = .returned (.bool true) ∧ JT W' ∧ Held S W W') ∨ (e = .returned (.bool false) ∧ JF W' ∧ Held S W W')
theorem zr0 {P : Program} {N : Nat} {W1 W W' : World} {S : Nat → Nat → Prop} {rows lits apps : List Nat} {e : List (Nat × AV)} {tm : Array Value} (hs : SimB (itF P N W1 S rows lits apps) (fun _ => none) S (.of e []) tm W) (h : Held S W W') : SimB (itF P N W1 S rows lits apps) (fun _ => none) S (.of e []) tm W' := by
 refine ⟨⟨h.os.trans hs.ext.os, h.tape.trans hs.ext.tape, h.output.trans hs.ext.output, Nat.le_trans hs.ext.size h.size, fun _ _ hf => absurd trivial hf, hs.ext.shape.trans h.shape⟩, hs.glob, hs.sub, fun b i hb => Nat.lt_of_lt_of_le (hs.lt b i hb) h.size, fun id o b s i ho => by simp [ASt.of, qm] at ho, fun id id' o o' b s s' ho => by simp [ASt.of, qm] at ho, fun id o ho => by simp [ASt.of, qm] at ho, fun n => (hs.env n).mono h.keeps h.shape, hs.size⟩
theorem zre {P : Program} {N : Nat} {W1 : World} {S : Nat → Nat → Prop} {rows lits apps : List Nat} {Q : Exit → List (Nat × AV) → (World → Prop) → Prop} {e e1 eT eF : List (Nat × AV)} {J JT JF : World → Prop} (na ns ns' : List Nat) {id l y v d t : Nat} {x : Dat} {la lb ops : List Oper} {o : Oper}
  (ho : o.op = .call ⟨.value (.tmp y), #[.tmp v], #[t]⟩ ∧ o.dst = some d ∧ o.guard = none ∧ d < N) (hops : ops = la ++ o :: lb)
  (hpa : ∀ o ∈ la, z07 o) (hpb : ∀ o ∈ lb, z07 o) (ha : zi (itF P N W1 S rows lits apps) ops.toArray la (.of e []) (Kept na [] e1 []))
  (hy : xl e1 y = .raw (.func (.yield l) #[] #[])) (hx : xl e1 v = .dat x)
  (hT : zi (itF P N W1 S rows lits apps) ops.toArray lb (.of ((d, .dat (.bool true)) :: e1) []) (Kept ns [] eT [])) (hF : zi (itF P N W1 S rows lits apps) ops.toArray lb (.of ((d, .dat (.bool false)) :: e1) []) (Kept ns' [] eF []))
  (hJ : z8n P S l [x] J JT JF) (kT : Q .normal eT JT) (kF : Q .normal eF JF) : JWp (itF P N W1 S rows lits apps) S (.region id ops.toArray false) Q e J := fun a w hs hJw => by
 subst hops
 obtain ⟨ho1, ho2, ho3, ho4⟩ := ho
 refine wpIn_region_lit (zlx (o :: lb) la _ _ hpa ha a hs.2 fun st' a' h1 h2 h3 => ?_)
 have hd' : a'.defers = [] := h3.trans hs.1
 replace h2 := (JSim.keep hd' h2 h1).2
 have hry := h2.env y
 rw [show (ASt.of e1 []).env = xl e1 from rfl, hy] at hry
 simp only [RepA] at hry
 have hrx := h2.env v
 rw [show (ASt.of e1 []).env = xl e1 from rfl, hx] at hrx
 simp only [RepA] at hrx
 have hyv : a'.eval (.tmp y) = .func (.yield l) #[] #[] := hry.1
 obtain ⟨fn, t1, b1, b2, hrun, hround⟩ := hJ w #[a'.tmps.getD v undef] hJw (by simp only [RepV]; exact ⟨_, [], rfl, hrx, rfl⟩)
 have hex : (execOp a'.eval o).run P w = .ok (.round l fn t1 b1 b2) w := by
  unfold execOp
  rw [ho1]
  simp only [Sem.run_bind, resolve, hyv]
  simp [go_sem, invoke]
  simpa using hrun
 unfold wpListIn
 rw [if_pos (by simp [Region.wanted, ho3])]
 refine ⟨fun _ _ => trivial, ?_⟩
 rw [Oper.semAt_eq _ _ _ (z39 hex (by simp))]
 rw [show (itF P N W1 S rows lits apps).P = P from rfl, hex, Oper.uponIn_round]
 refine ⟨fun hf => by simp [FC.fence, Fence.wide] at hf, ?_⟩
 have hround' : RoundIn (itF P N W1 S rows lits apps).fence (0 - 1) P l fn t1 b1 b2 w _ := hround
 refine hround'.mono fun e' W' hr => ?_
 have hput : ∀ b : Bool, Held S w W' → SimB (itF P N W1 S rows lits apps) (fun _ => none) S (.of ((d, .dat (.bool b)) :: e1) []) (a'.put o.dst (.bool b)).tmps W' := fun b hh => by
  have h4 := (zr0 h2 hh).put (d := d) (v := .bool b) (x := .dat (.bool b)) ho4 (by simp [RepA, RepX])
  rw [ho2]
  refine h4.less (fun n => .inl ?_) fun _ _ h => h
  simp [ASt.put, ASt.of, xl, upd]
 have hdf : ∀ b : Bool, (a'.put o.dst (.bool b)).defers = [] := fun b => by rw [ho2]; exact hd'
 rcases hr with ⟨rfl, hj, hh⟩ | ⟨rfl, hj, hh⟩
 ·exact Xh (F := itF P N W1 S rows lits apps) lb _ _ hpb hT _ (hput true hh) fun st' a'' h5 h6 h7 => ⟨eT, JT, kT, .keep (h7.trans (hdf true)) h6 h5, hj⟩
 ·exact Xh (F := itF P N W1 S rows lits apps) lb _ _ hpb hF _ (hput false hh) fun st' a'' h5 h6 h7 => ⟨eF, JF, kF, .keep (h7.trans (hdf false)) h6 h5, hj⟩
theorem zhn {S : Nat → Nat → Prop} {w : World} : ∀ {l : List Dat} {us : List Value}, RepV S w l us → ∀ (i : Nat) (d : Dat), l[i]? = some d → ∃ v, us[i]? = some v ∧ RepX S w d v
 | [], _, _, i, d, hd => by simp at hd
 | x :: l, us, h, i, d, hd => by
  simp only [RepV] at h
  obtain ⟨u, us', rfl, h1, h2⟩ := h
  cases i with
  | zero => simp at hd; subst hd; exact ⟨u, by simp, h1⟩
  | succ i => simpa using zhn h2 i d (by simpa using hd)
def zw3 (l : Nat) (caps : List Dat) : List (Nat × AV) := (0, .raw (.func (.yield l) #[] #[])) :: initL 1 (caps.map .dat)
def zzv (n : Nat) (J Jx : Nat → World → Prop) : Exit → List (Nat × AV) → (World → Prop) → Prop
 | .normal, _, J' => ∀ w, J' w → J n w ∨ ∃ k, k < n ∧ Jx k w
 | .ret, _, J' => ∀ w, J' w → J n w ∨ ∃ k, k < n ∧ Jx k w
 | _, _, _ => False
theorem zp0 {P : Program} {gf : FuncId} {fn : Func} {c : Code} {caps : List Dat} {xs : List (List Dat)} (rows lits apps : List Nat) (hf : P.funcs[gf]? = some fn) (hb : fn.body = some c) (hname : (fn.name == "runtime.NumGoroutine") = false) (hres : fn.results = #[]) (hn : caps.length + 1 ≤ fn.ntmps)
  (h : ∀ (l : Nat) (W1 : World) (S : Nat → Nat → Prop) (J Jx : Nat → World → Prop), (∀ k W W', J k W → Ext (fun _ => False) W W' → J k W') → (∀ k W W', Jx k W → Ext (fun _ => False) W W' → Jx k W') →
    (∀ k x, xs[k]? = some x → z8n P S l x (J k) (J (k + 1)) (Jx k)) → JWp (itF P fn.ntmps W1 S rows lits apps) S c (zzv xs.length J Jx) (zw3 l caps) (J 0)) : zpi P gf caps xs := by
 refine ⟨⟨fn, c, hf, hb, hname⟩, fun W1 S lb l J Jx hlt hcaps hJ hJx hy hJ0 => ?_⟩
 have hlen : lb.size = caps.length := by simpa using z3e hcaps
 have hsim : JSim (itF P fn.ntmps W1 S rows lits apps) S (zw3 l caps) { tmps := (#[Value.func (.yield l) #[] #[]] ++ lb) ++ Array.replicate (fn.ntmps - (#[Value.func (.yield l) #[] #[]] ++ lb).size) undef, defers := [] } W1 := by
  refine ⟨rfl, Ext.refl _ _, fun p hp => by simp [itF] at hp, fun b i h => .inl h, hlt, fun _ _ _ _ _ h => by simp [ASt.of, qm] at h, fun _ _ _ _ _ _ _ h => by simp [ASt.of, qm] at h, fun _ _ h => by simp [ASt.of, qm] at h, fun n => ?_, ⟨by simp [itF]; omega, fun _ _ => rfl⟩⟩
  show RepA _ S W1 (xl (zw3 l caps) n) _
  unfold zw3
  simp only [xl]
  split
  ·rename_i hn0
   subst hn0
   simp [RepA, Array.getD_eq_getD_getElem?, Array.getElem?_append, Value.oneCell']
  ·rename_i hn0
   rw [z48]
   split
   ·simp [RepA]
   ·unfold Av.initM
    cases hd : caps[n - 1]? with
    | none => simp [hd, RepA]
    | some d =>
     obtain ⟨v, hv, hr⟩ := zhn hcaps (n - 1) d hd
     have hv' : lb[n - 1]? = some v := by simpa using hv
     have hnl : n - 1 < lb.size := (Array.getElem?_eq_some_iff.1 hv').1
     simp only [List.getElem?_map, hd, Option.map_some, RepA, Array.getD_eq_getD_getElem?]
     rw [Array.getElem?_append_left (by simp; omega), Array.getElem?_append_right (by simp; omega)]
     simp only [List.size_toArray, List.length_cons, List.length_nil, Nat.zero_add]
     rw [hv']
     exact hr
 refine callsIn_wide.1 (callsIn_of_wp_marks (n := 0) hf hb trivial ?_)
 refine wpIn_mono (h l W1 S J Jx hJ hJx (fun k x hx W vals hj hv => hy k x W vals hx hj hv) _ W1 hsim hJ0) ?_
 rintro e a' w1 ⟨e', J', hq, ⟨hd, hs⟩, hj⟩
 have he : e = .normal ∨ e = .ret := by cases e <;> first | exact .inl rfl | exact .inr rfl | exact hq.elim
 have hq' : J xs.length w1 ∨ ∃ k, k < xs.length ∧ Jx k w1 := by rcases he with rfl | rfl <;> exact hq w1 hj
 have hgoal : ∀ R, LeavesInM Fence.wide 0 P fn a'.tmps R a'.defers .returning w1 → bodyPostM Fence.wide 0 P fn R e a' w1 := fun R h => by rcases he with rfl | rfl <;> exact h
 refine hgoal _ ?_
 rw [hd]
 refine Zn [] w1 List.nodup_nil (by simp) ?_
 show ∃ v, (results fn a'.tmps).run P w1 = .ok v w1 ∧ _
 refine ⟨.tuple #[], ?_, ⟨_, rfl⟩, hq'⟩
 rw [Xk, hres]
 simp [Sem.run_bind, go_sem]
section
variable {F : FC} {S : Nat → Nat → Prop} {Q : Exit → List (Nat × AV) → (World → Prop) → Prop} {e : List (Nat × AV)} {J : World → Prop}
theorem zen {y : Code} (h : JWp F S y Q e J) : zwy F S y Q .normal e J := h
theorem zrd {id : Nat} (h : Q .normal e J) : zie id Q .normal e J := h
theorem JS (ns : List Nat) {e' : List (Nat × AV)} {id : Nat} {l : List Oper} {y : Code} (k : JWp F S y Q e' J)
  (h : zi F l.toArray l (.of e []) (Kept ns [] e' []) := by
    simp (maxSteps := 2000000) (disch := omega) only [qq, avA, zl, zp, seval, ↓List.forall_mem_cons, Op.operands, hA, tiA, hE]
    first | exact ⟨rfl, rfl⟩ | ((repeat' first | refine And.intro ?_ ?_ | intro _) <;> first | with_reducible rfl | assumption | omega | rfl | (rename_i hq; rw [hq]; rfl) | (rename_i hq; simp only [pickB_true, pickB_false, Bool.false_or, Bool.false_and, Bool.true_and, decide_eq_true_eq, decide_eq_false_iff_not, Bool.or_eq_true, Bool.and_eq_true, Bool.or_eq_false_iff, Bool.and_eq_false_imp, Bool.not_eq_true, Bool.not_eq_false, Bool.not_eq_eq_eq_not, Bool.not_true, Bool.not_false, Int.not_lt, Int.not_le, beq_iff_eq, beq_eq_false_iff_ne, bne_iff_ne, bne_eq_false_iff_eq, ne_eq, Bool.decide_eq_true, Classical.not_not] at hq; omega) | (simp_all; done) | grind))
  (hpu : ∀ o ∈ l, z07 o := by
    repeat (first | exact List.forall_mem_nil _ | refine List.forall_mem_cons.2 ⟨⟨rfl, fun _ _ _ => rfl⟩, ?_⟩)) : JWp F S (.seq (.region id l.toArray false) y) Q e J := z9z (zcz ns hpu h k)
theorem JQ (ns : List Nat) {e' : List (Nat × AV)} {id : Nat} {l : List Oper} (k : Q .normal e' J)
  (h : zi F l.toArray l (.of e []) (Kept ns [] e' []) := by
    simp (maxSteps := 2000000) (disch := omega) only [qq, avA, zl, zp, seval, ↓List.forall_mem_cons, Op.operands, hA, tiA, hE]
    first | exact ⟨rfl, rfl⟩ | ((repeat' first | refine And.intro ?_ ?_ | intro _) <;> first | with_reducible rfl | assumption | omega | rfl | (rename_i hq; rw [hq]; rfl) | (rename_i hq; simp only [pickB_true, pickB_false, Bool.false_or, Bool.false_and, Bool.true_and, decide_eq_true_eq, decide_eq_false_iff_not, Bool.or_eq_true, Bool.and_eq_true, Bool.or_eq_false_iff, Bool.and_eq_false_imp, Bool.not_eq_true, Bool.not_eq_false, Bool.not_eq_eq_eq_not, Bool.not_true, Bool.not_false, Int.not_lt, Int.not_le, beq_iff_eq, beq_eq_false_iff_ne, bne_iff_ne, bne_eq_false_iff_eq, ne_eq, Bool.decide_eq_true, Classical.not_not] at hq; omega) | (simp_all; done) | grind))
  (hpu : ∀ o ∈ l, z07 o := by
    repeat (first | exact List.forall_mem_nil _ | refine List.forall_mem_cons.2 ⟨⟨rfl, fun _ _ _ => rfl⟩, ?_⟩)) : JWp F S (.region id l.toArray false) Q e J := zcz ns hpu h k
theorem JD (ns perm : List Nat) {e' : List (Nat × AV)} {rows lits apps : List Nat} {l l' : List Oper} {Pm : Prop} {id : Nat} {y : Code} (k : JWp F S y Q e' J) (hj : ∀ w w', J w → Ext (fun _ => False) w w' → J w')
  (hm : F.P.follows .mixedOrders = true := by rw [hP]; kernel_rfl) (hR : F.rows = rows ∧ F.lits = lits ∧ F.apps = apps ∧ Pm := by exact hR)
  (hp : (Xf rows lits apps l.toArray perm && ksB rows lits apps l []) = true := by kernel_rfl) (hl : PickL l perm l' := by ((repeat (apply PickL.cons; exact rfl)); exact PickL.nil _))
  (h : zi F l.toArray l' (.of e []) (Kept ns [] e' []) := by
    simp (maxSteps := 2000000) (disch := omega) only [qq, avA, zl, zp, seval, ↓List.forall_mem_cons, Op.operands, hA, tiA, hE]
    first | exact ⟨rfl, rfl⟩ | ((repeat' first | refine And.intro ?_ ?_ | intro _) <;> first | with_reducible rfl | assumption | omega | rfl | (rename_i hq; rw [hq]; rfl) | (rename_i hq; simp only [pickB_true, pickB_false, Bool.false_or, Bool.false_and, Bool.true_and, decide_eq_true_eq, decide_eq_false_iff_not, Bool.or_eq_true, Bool.and_eq_true, Bool.or_eq_false_iff, Bool.and_eq_false_imp, Bool.not_eq_true, Bool.not_eq_false, Bool.not_eq_eq_eq_not, Bool.not_true, Bool.not_false, Int.not_lt, Int.not_le, beq_iff_eq, beq_eq_false_iff_ne, bne_iff_ne, bne_eq_false_iff_eq, ne_eq, Bool.decide_eq_true, Classical.not_not] at hq; omega) | (simp_all; done) | grind))
  (hpu : ∀ o ∈ l, z07 o := by
    repeat (first | exact List.forall_mem_nil _ | refine List.forall_mem_cons.2 ⟨⟨rfl, fun _ _ _ => rfl⟩, ?_⟩)) : JWp F S (.seq (.region id l.toArray true) y) Q e J := z9z (zur ns perm hm hR hj hp hl.eq hpu h k)
theorem JI {c : Operand} {x y : Code} {b : Bool} {p q : Prop} (ht : p → JWp F S x Q e J) (hf : q → JWp F S y Q e J) (hc : evA (xl e) c = .dat (.bool b) := by exact rfl)
  (hp : (b = true) = p := by
    (try simp only [pickB_true, pickB_false, Bool.false_or, Bool.false_and, Bool.true_and, decide_eq_true_eq, decide_eq_false_iff_not, Bool.or_eq_true, Bool.and_eq_true, Bool.or_eq_false_iff, Bool.and_eq_false_imp, Bool.not_eq_true, Bool.not_eq_false, Bool.not_eq_eq_eq_not, Bool.not_true, Bool.not_false, Int.not_lt, Int.not_le, beq_iff_eq, beq_eq_false_iff_ne, bne_iff_ne, bne_eq_false_iff_eq, ne_eq, Bool.true_eq_false, Bool.false_eq_true, if_false_left, if_true_left, Bool.decide_eq_true, Classical.not_not])
    exact rfl)
  (hq : (b = false) = q := by
    (try simp only [pickB_true, pickB_false, Bool.false_or, Bool.false_and, Bool.true_and, decide_eq_true_eq, decide_eq_false_iff_not, Bool.or_eq_true, Bool.and_eq_true, Bool.or_eq_false_iff, Bool.and_eq_false_imp, Bool.not_eq_true, Bool.not_eq_false, Bool.not_eq_eq_eq_not, Bool.not_true, Bool.not_false, Int.not_lt, Int.not_le, beq_iff_eq, beq_eq_false_iff_ne, bne_iff_ne, bne_eq_false_iff_eq, ne_eq, Bool.true_eq_false, Bool.false_eq_true, if_false_left, if_true_left, Bool.decide_eq_true, Classical.not_not])
    exact rfl) : JWp F S (.cond c x y) Q e J := zuo b hc (fun h => ht (hp ▸ h)) (fun h => hf (hq ▸ h))
def SplitL : Nat → List Oper → List Oper → Oper → List Oper → Prop
 | 0, ops, la, o, lb => la = [] ∧ ops = o :: lb
 | n + 1, ops, la, o, lb => ∃ x r la', ops = x :: r ∧ la = x :: la' ∧ SplitL n r la' o lb
theorem SplitL.eq : ∀ {n : Nat} {ops la : List Oper} {o : Oper} {lb : List Oper}, SplitL n ops la o lb → ops = la ++ o :: lb
 | 0, _, _, _, _, h => by obtain ⟨rfl, rfl⟩ := h; rfl
 | n + 1, _, _, _, _, h => by
  obtain ⟨x, r, la', rfl, rfl, h⟩ := h
  rw [h.eq]; rfl
theorem SplitL.next {n : Nat} {x : Oper} {r la lb : List Oper} {o : Oper} (h : SplitL n r la o lb) : SplitL (n + 1) (x :: r) (x :: la) o lb := ⟨x, r, la, rfl, rfl, h⟩
theorem SplitL.here {o : Oper} {lb : List Oper} : SplitL 0 (o :: lb) [] o lb := ⟨rfl, rfl⟩
theorem JY (i : Nat) (na ns ns' : List Nat) {P : Program} {N : Nat} {W1 : World} {rows lits apps : List Nat} {e1 eT eF : List (Nat × AV)} {JT JF : World → Prop} {id l y v d t : Nat} {x : Dat} {la lb ops : List Oper} {o : Oper}
  (hFi : F = itF P N W1 S rows lits apps) (hJ : z8n P S l [x] J JT JF) (kT : Q .normal eT JT) (kF : Q .normal eF JF)
  (hops : SplitL i ops la o lb := by ((repeat apply SplitL.next); exact SplitL.here))
  (ho : o.op = .call ⟨.value (.tmp y), #[.tmp v], #[t]⟩ ∧ o.dst = some d ∧ o.guard = none := by exact ⟨rfl, rfl, rfl⟩)
  (ha : zi F ops.toArray la (.of e []) (Kept na [] e1 []) := by
    simp (maxSteps := 2000000) (disch := omega) only [qq, avA, zl, zp, seval, ↓List.forall_mem_cons, Op.operands, hA, tiA, hE]
    first | exact ⟨rfl, rfl⟩ | ((repeat' first | refine And.intro ?_ ?_ | intro _) <;> first | with_reducible rfl | assumption | omega | rfl | (rename_i hq; rw [hq]; rfl) | (rename_i hq; simp only [pickB_true, pickB_false, Bool.false_or, Bool.false_and, Bool.true_and, decide_eq_true_eq, decide_eq_false_iff_not, Bool.or_eq_true, Bool.and_eq_true, Bool.or_eq_false_iff, Bool.and_eq_false_imp, Bool.not_eq_true, Bool.not_eq_false, Bool.not_eq_eq_eq_not, Bool.not_true, Bool.not_false, Int.not_lt, Int.not_le, beq_iff_eq, beq_eq_false_iff_ne, bne_iff_ne, bne_eq_false_iff_eq, ne_eq, Bool.decide_eq_true, Classical.not_not] at hq; omega) | (simp_all; done) | grind))
  (hy : xl e1 y = .raw (.func (.yield l) #[] #[]) := by exact rfl) (hx : xl e1 v = .dat x := by exact rfl) (hd : d < F.N := by omega)
  (hT : zi F ops.toArray lb (.of ((d, .dat (.bool true)) :: e1) []) (Kept ns [] eT []) := by
    simp (maxSteps := 2000000) (disch := omega) only [qq, avA, zl, zp, seval, ↓List.forall_mem_cons, Op.operands, hA, tiA, hE]
    first | exact ⟨rfl, rfl⟩ | ((repeat' first | refine And.intro ?_ ?_ | intro _) <;> first | with_reducible rfl | assumption | omega | rfl | (rename_i hq; rw [hq]; rfl) | (rename_i hq; simp only [pickB_true, pickB_false, Bool.false_or, Bool.false_and, Bool.true_and, decide_eq_true_eq, decide_eq_false_iff_not, Bool.or_eq_true, Bool.and_eq_true, Bool.or_eq_false_iff, Bool.and_eq_false_imp, Bool.not_eq_true, Bool.not_eq_false, Bool.not_eq_eq_eq_not, Bool.not_true, Bool.not_false, Int.not_lt, Int.not_le, beq_iff_eq, beq_eq_false_iff_ne, bne_iff_ne, bne_eq_false_iff_eq, ne_eq, Bool.decide_eq_true, Classical.not_not] at hq; omega) | (simp_all; done) | grind))
  (hF : zi F ops.toArray lb (.of ((d, .dat (.bool false)) :: e1) []) (Kept ns' [] eF []) := by
    simp (maxSteps := 2000000) (disch := omega) only [qq, avA, zl, zp, seval, ↓List.forall_mem_cons, Op.operands, hA, tiA, hE]
    first | exact ⟨rfl, rfl⟩ | ((repeat' first | refine And.intro ?_ ?_ | intro _) <;> first | with_reducible rfl | assumption | omega | rfl | (rename_i hq; rw [hq]; rfl) | (rename_i hq; simp only [pickB_true, pickB_false, Bool.false_or, Bool.false_and, Bool.true_and, decide_eq_true_eq, decide_eq_false_iff_not, Bool.or_eq_true, Bool.and_eq_true, Bool.or_eq_false_iff, Bool.and_eq_false_imp, Bool.not_eq_true, Bool.not_eq_false, Bool.not_eq_eq_eq_not, Bool.not_true, Bool.not_false, Int.not_lt, Int.not_le, beq_iff_eq, beq_eq_false_iff_ne, bne_iff_ne, bne_eq_false_iff_eq, ne_eq, Bool.decide_eq_true, Classical.not_not] at hq; omega) | (simp_all; done) | grind))
  (hpa : ∀ o ∈ la, z07 o := by
    repeat (first | exact List.forall_mem_nil _ | refine List.forall_mem_cons.2 ⟨⟨rfl, fun _ _ _ => rfl⟩, ?_⟩))
  (hpb : ∀ o ∈ lb, z07 o := by
    repeat (first | exact List.forall_mem_nil _ | refine List.forall_mem_cons.2 ⟨⟨rfl, fun _ _ _ => rfl⟩, ?_⟩)) : JWp F S (.region id ops.toArray false) Q e J := by
 subst hFi
 exact zre na ns ns' ⟨ho.1, ho.2.1, ho.2.2, hd⟩ hops.eq hpa hpb ha hy hx hT hF hJ kT kF
end
def v9 (D : Nat → Bool) : List Nat → Prop
 | [] => True
 | a :: l => D a = true ∧ v9 D l
def NoD (D : Nat → Bool) : List Nat → Prop
 | [] => True
 | a :: l => D a = false ∧ NoD D l
theorem zkl {D : Nat → Bool} : ∀ {l : List Nat}, (∀ a ∈ l, D a = true) → v9 D l
 | [], _ => trivial
 | _ :: _, h => ⟨h _ (by simp), zkl fun a ha => h a (by simp [ha])⟩
theorem zrw {D : Nat → Bool} : ∀ {l : List Nat}, (∀ a ∈ l, D a = false) → NoD D l
 | [], _ => trivial
 | _ :: _, h => ⟨h _ (by simp), zrw fun a ha => h a (by simp [ha])⟩
theorem zy0 (evs : List (Nat × Nat × AV)) (ovs : List (Nat × Nat × AObj)) (st : ASt) (D : Nat → Bool) (n : Nat) : (jD evs ovs st D).env n = kh D st.env evs n := rfl
theorem zun (evs : List (Nat × Nat × AV)) (ovs : List (Nat × Nat × AObj)) (st : ASt) (D : Nat → Bool) (n : Nat) : (jD evs ovs st D).objs n = z19 D st.objs ovs n := rfl
theorem zcf (D : Nat → Bool) (b : Nat → AV) (i d : Nat) (v : AV) (l : List (Nat × Nat × AV)) (n : Nat) : kh D b ((i, d, v) :: l) n = if n = d ∧ D i = true then v else kh D b l n := rfl
theorem zcg (D : Nat → Bool) (b : Nat → AV) (n : Nat) : kh D b [] n = b n := rfl
theorem znt (D : Nat → Bool) (b : Nat → Option AObj) (i d : Nat) (v : AObj) (l : List (Nat × Nat × AObj)) (n : Nat) : z19 D b ((i, d, v) :: l) n = if n = d ∧ D i = true then some v else z19 D b l n := rfl
theorem znu (D : Nat → Bool) (b : Nat → Option AObj) (n : Nat) : z19 D b [] n = b n := rfl
theorem zgh (st : ASt) (i : Nat) (o : AObj) : (st.drop i).obj i o = st.obj i o := by
 unfold ASt.drop ASt.obj
 congr 1
 funext n
 simp only [q9]
 split <;> rfl
def zrc := And.intro @zy0 (And.intro @zun (And.intro @zcf (And.intro @zcg (And.intro @znt (And.intro @znu (And.intro @zgh (And.intro @true_and (And.intro @false_and (And.intro @and_true (And.intro @and_false (@Bool.false_eq_true)))))))))))
def z1r (l : List Oper) (i : Nat) (ancs descs : List Nat) : Bool :=
 ancs.all (fun a => ((z61 l []).getD i 0).testBit a && decide (a < l.length)) && descs.all fun j => ((z61 l []).getD j 0).testBit i && decide (j < l.length)
theorem zfq {l : List Oper} {D : Nat → Bool} (hcl : js l.toArray D) {i : Nat} {o : Oper} (ho : l[i]? = some o) (hd : ∀ e ∈ o.after.toList, Region.binds .any e = true → D e.on = true) {a : Nat} (ha : ((z61 l []).getD i 0).testBit a = true) (hlt : a < l.length) : D a = true := by
 have h := zft (ops := l.toArray) (R := (List.range l.length).filter fun j => !D j) (fun j p hp hj e he hb hm => ?_) (fun j hj => by simp at hj; simpa using hj.1) i o (by simpa using ho) (fun e he hb hm => ?_) a (by simpa using ha)
 ·cases hD : D a
  ·exact absurd (by simp [hD, hlt]) h
  ·rfl
 ·have hjl : j < l.length := by have := (Array.getElem?_eq_some_iff.1 hp).1; simpa using this
  have hDj : D j = true := by
   cases hD : D j
   ·exact absurd (by simp [hD, hjl]) hj
   ·rfl
  have := hcl j p hp hDj e he hb
  simp [this] at hm
 ·have := hd e he hb
  simp [this] at hm
def zg3 (l : List Oper) (es : List (Nat × Nat)) (is : List Nat) : Bool :=
 l.all (fun o => o.guard.isNone) &&
 (List.range l.length).all (fun i => match l[i]? with | some o => o.after.toList.all fun e => !Region.binds .any e || decide (e.on < i) | none => true) &&
 z00 (fun a b => a != b) (es.map (·.2)) && z00 (fun a b => a != b) (es.map (·.1)) && es.all (fun p => decide (p.1 < l.length)) && is.all (fun i => decide (i < l.length))
def OkJ (evs : List (Nat × Nat × AV)) : Prop := (evs.map (·.2.1)).Nodup ∧ (evs.map (·.1)).Nodup
def JOp (F : FC) (l : List Oper) (evs : List (Nat × Nat × AV)) (ovs : List (Nat × Nat × AObj)) (st : ASt) (i : Nat) (o : Oper) : Prop :=
 l[i]? = some o → OkJ evs → ∀ D : Nat → Bool, D i = false → (∀ e ∈ o.after.toList, Region.binds .any e = true → D e.on = true) → js l.toArray D → StepOK F o (jD evs ovs st D) (jD evs ovs st (xn D i))
def JOps (F : FC) (l : List Oper) (evs : List (Nat × Nat × AV)) (ovs : List (Nat × Nat × AObj)) (st : ASt) : Nat → List Oper → Prop
 | _, [] => True
 | i, o :: r => JOp F l evs ovs st i o ∧ JOps F l evs ovs st (i + 1) r
theorem JOps.get {F : FC} {l : List Oper} {evs : List (Nat × Nat × AV)} {ovs : List (Nat × Nat × AObj)} {st : ASt} : ∀ {r : List Oper} {k i : Nat} {o : Oper}, JOps F l evs ovs st k r → r[i]? = some o → JOp F l evs ovs st (k + i) o
 | [], _, _, _, _, h => by simp at h
 | x :: r, k, i, o, hj, h => by
  cases i with
  | zero => simp at h; subst h; exact hj.1
  | succ i => rw [show k + (i + 1) = k + 1 + i by omega]; exact JOps.get hj.2 (by simpa using h)
theorem zjv {l : List Oper} {evs : List (Nat × Nat × AV)} {is : List Nat} (h : zg3 l (evs.map fun p => (p.1, p.2.1)) is = true) : OkJ evs := by
 unfold zg3 at h
 simp only [Bool.and_eq_true] at h
 obtain ⟨⟨⟨⟨_, h1⟩, h2⟩, _⟩, _⟩ := h
 have e1 : (evs.map fun p => (p.1, p.2.1)).map (·.2) = evs.map (·.2.1) := by simp
 have e2 : (evs.map fun p => (p.1, p.2.1)).map (·.1) = evs.map (·.1) := by simp
 rw [e1] at h1; rw [e2] at h2
 exact ⟨(vy h1).imp fun {a b} h => by simpa using h, (vy h2).imp fun {a b} h => by simpa using h⟩
theorem WDJ {F : FC} (ns ids : List Nat) (evs : List (Nat × Nat × AV)) (ovs : List (Nat × Nat × AObj)) {e : List (Nat × AV)} {o : List (Nat × AObj)} {l : List Oper} {id : Nat} {y : Code} {Q : Exit → ASt → Prop} {st : ASt}
  (hs : JOps F l evs ovs st 0 l) (k : AWp F y Q (.of e o)) (hm : F.P.follows .mixedOrders = true := by rw [hP]; kernel_rfl)
  (hc : zg3 l (evs.map fun p => (p.1, p.2.1)) (ovs.map (·.1)) = true := by kernel_rfl)
  (hk : Kept ns ids e o (jD evs ovs st fun _ => true) := by
    simp (maxSteps := 2000000) (disch := omega) only [qq, avA, zl, zp, seval, hE, zrc]
    exact ⟨rfl, rfl⟩) : AWp F (.seq (.region id l.toArray true) y) Q st := by
 have hok := zjv hc
 unfold zg3 at hc
 simp only [Bool.and_eq_true] at hc
 obtain ⟨⟨⟨⟨⟨h1, h2⟩, _⟩, _⟩, h5⟩, h6⟩ := hc
 refine ze3 ns ids (jD evs ovs) hm h1 h2 (fun D i o' ho hD hdep hcd => by have := hs.get ho; rw [Nat.zero_add] at this; exact this ho hok D hD hdep hcd) (fun D hD => zem (fun p hp => hD _ ?_) (fun p hp => hD _ ?_)) hk k
 ·simpa using List.all_eq_true.1 h5 (p.1, p.2.1) (List.mem_map.2 ⟨p, hp, rfl⟩)
 ·simpa using List.all_eq_true.1 h6 p.1 (List.mem_map.2 ⟨p, hp, rfl⟩)
section
variable {F : FC} {l : List Oper} {evs : List (Nat × Nat × AV)} {ovs : List (Nat × Nat × AObj)} {st : ASt} {i : Nat} {o : Oper}
theorem y0 {ancs descs : List Nat} (hb : z1r l i ancs descs = true) (ho : l[i]? = some o) {D : Nat → Bool} (hD : D i = false) (hdep : ∀ e ∈ o.after.toList, Region.binds .any e = true → D e.on = true) (hcd : js l.toArray D) : v9 D ancs ∧ NoD D (i :: descs) := by
 unfold z1r at hb
 simp only [Bool.and_eq_true, List.all_eq_true, decide_eq_true_eq] at hb
 refine ⟨zkl fun a ha => zfq hcd ho hdep (hb.1 a ha).1 (hb.1 a ha).2, zrw fun j hj => ?_⟩
 rcases List.mem_cons.1 hj with rfl | hj
 ·exact hD
 ·cases hDj : D j
  ·rfl
  ·obtain ⟨h1, h2⟩ := hb.2 j hj
   have hoj : l[j]? = some l[j] := List.getElem?_eq_getElem h2
   have hil : i < l.length := (List.getElem?_eq_some_iff.1 ho).1
   have := zfq hcd hoj (fun e he hb => hcd j _ (by simpa using hoj) hDj e he hb) h1 hil
   rw [hD] at this; cases this
theorem DV (k : Nat) (ancs descs : List Nat) {d : Nat} {v : AV} (hv : evs[k]? = some (i, d, v) := by rfl) (hno : (ovs.map (·.1)).contains i = false := by kernel_rfl) (hb : z1r l i ancs descs = true := by kernel_rfl) (hg : o.guard = none := by rfl)
  (h : ∀ D : Nat → Bool, v9 D ancs → NoD D (i :: descs) → zi F #[] [o] (jD evs ovs st D) (fun s => s = (jD evs ovs st D).put (some d) v) := by
    intro D hA1 hA2
    simp only [v9, NoD] at hA1 hA2
    simp (maxSteps := 2000000) (disch := omega) only [qq, avA, zl, zp, seval, ↓List.forall_mem_cons, Op.operands, hA, tiA, hE, zrc, hA1, hA2]
    exact SC) : JOp F l evs ovs st i o := fun ho hok D hD hdep hcd => by
 obtain ⟨h1, h2⟩ := y0 hb ho hD hdep hcd
 rw [← z4f (i := i) (d := d) (v := v) (List.mem_of_getElem? hv) hok.1 hok.2 (by simpa using hno)]
 exact xa hg (h D h1 h2)
theorem DS (k : Nat) (ancs descs : List Nat) {id : Nat} {ob : AObj} (hv : ovs[k]? = some (i, id, ob) := by rfl) (hno : (evs.map (·.1)).contains i = false := by kernel_rfl) (hb : z1r l i ancs descs = true := by kernel_rfl) (hg : o.guard = none := by rfl)
  (hO : ∀ D : Nat → Bool, v9 D ancs → NoD D (i :: descs) → z3w D i id ob ovs := by
    intro D hA1 hA2
    simp only [v9, NoD] at hA1 hA2
    simp [z3w, hA1, hA2])
  (h : ∀ D : Nat → Bool, v9 D ancs → NoD D (i :: descs) → zi F #[] [o] (jD evs ovs st D) (fun s => s = (jD evs ovs st D).obj id ob) := by
    intro D hA1 hA2
    simp only [v9, NoD] at hA1 hA2
    simp (maxSteps := 2000000) (disch := omega) only [qq, avA, zl, zp, seval, ↓List.forall_mem_cons, Op.operands, hA, tiA, hE, zrc, hA1, hA2]
    exact SC) : JOp F l evs ovs st i o := fun ho hok D hD hdep hcd => by
 obtain ⟨h1, h2⟩ := y0 hb ho hD hdep hcd
 rw [← zji (i := i) (id := id) (o := ob) (hO D h1 h2) (by simpa using hno)]
 exact xa hg (h D h1 h2)
end
abbrev Xe (v : Value) : List PanicEntry := [{ v, recovered := false }]
def zfo (P : Program) (G : List (Nat × Dat)) (f : FuncId) (xs : List AV) (os : List (Nat × AObj)) (pv : Value) : Prop :=
 (∃ fn c, P.funcs[f]? = some fn ∧ fn.body = some c ∧ (fn.name == "runtime.NumGoroutine") = false) ∧
 ∀ (w : World) (β : zk) (S : Nat → Nat → Prop) (vals : Array Value), SimB (FC0 P G w os β S) β S (.os os) #[] w → RepAL β S w xs vals.toList →
  Calls P f vals w fun e w' => ∃ S' : Nat → Nat → Prop, e = .panicked (Xe pv) ∧ (∀ b i, S b i → S' b i) ∧ SimB (FCX P G w os β β S) β S' (.os []) #[] w'
def zzw (pv : Value) : Exit → ASt → Prop := fun e _ => e = .panic (Xe pv)
theorem zjy {P : Program} {G : List (Nat × Dat)} {f : FuncId} {fn : Func} {c : Code} {xs : List AV} {os : List (Nat × AObj)} {pv : Value} (rows lits apps : List Nat) (hf : P.funcs[f]? = some fn) (hb : fn.body = some c) (hname : (fn.name == "runtime.NumGoroutine") = false) (hn : xs.length ≤ fn.ntmps)
  (hid : (os.all fun p => decide (fn.ntmps ≤ p.1)) = true)
  (h : ∀ F : FC, F.P = P → F.G = G → F.N = fn.ntmps → (F.rows = rows ∧ F.lits = lits ∧ F.apps = apps ∧ PinM F (os.map (·.1))) → AWp F c (zzw pv) (.of (initL 0 xs) os)) : zfo P G f xs os pv := by
 refine ⟨⟨fn, c, hf, hb, hname⟩, fun w β S vals hs hv => ?_⟩
 have hid' : ∀ p ∈ os, fn.ntmps ≤ p.1 := fun p hp => by simpa using List.all_eq_true.1 hid p hp
 let F : FC := ⟨P, fn.ntmps, G, w, MB os β, S, rows, lits, apps, β, none, [], w.heap.size, fun _ => False, []⟩
 have hvl : ∀ {l : List AV} {us : List Value}, RepAL β S w l us → us.length = l.length ∧ ∀ (i : Nat) (d : AV), l[i]? = some d → ∃ v, us[i]? = some v ∧ RepA β S w d v := by
  intro l us h
  exact ⟨qd h, fun i d hd => wl h hd⟩
 obtain ⟨hlen, hget⟩ := hvl hv
 have hsim : SimB F β S (.initM xs os) (vals ++ Array.replicate (fn.ntmps - vals.size) undef) w := by
  refine ⟨hs.ext, hs.glob, hs.sub, hs.lt, hs.sep, hs.inj, hs.obj, fun n => ?_, ⟨by simp [F]; omega, fun _ _ => rfl⟩⟩
  simp only [ASt.initM, Av.initM]
  split
  ·rename_i d hd
   obtain ⟨v, hv', hr⟩ := hget n d hd
   have hnl : n < vals.size := by have := (List.getElem?_eq_some_iff.1 hv').1; simpa using this
   have hv2 : vals[n]? = some v := by simpa using hv'
   simp only [Array.getD_eq_getD_getElem?]
   rw [Array.getElem?_append_left hnl, hv2]
   exact hr
  ·simp [RepA]
 have hM : PinM F (os.map (·.1)) := ⟨fun b ⟨id, o, s, ho, hb⟩ => .inr ⟨id, Zp ho, hid' _ (vl ho), s, hb⟩, fun _ => rfl⟩
 refine callsIn_wide.1 (callsIn_of_wp_marks (n := 0) hf hb trivial ?_)
 refine wpIn_mono (h F rfl rfl rfl ⟨rfl, rfl, rfl, hM⟩ { tmps := vals ++ Array.replicate (fn.ntmps - vals.size) undef, defers := [] } w ⟨⟨rfl, .nil rfl⟩, β, S, by rw [← z0m]; exact hsim⟩) ?_
 rintro e a' w1 ⟨st', hq, hsx⟩
 have he : e = .panic (Xe pv) := hq
 subst he
 obtain ⟨⟨hd, _⟩, β', S', hs'⟩ := hsx
 show LeavesInM Fence.wide 0 P fn a'.tmps _ a'.defers (.panicking (Xe pv)) w1
 rw [hd]
 show ∃ S' : Nat → Nat → Prop, _ ∧ _
 refine ⟨fun b i => S b i ∨ S' b i, rfl, fun b i h => .inl h, ?_⟩
 refine ⟨hs'.ext, hs.glob, fun b i hA => ?_, fun b i hA => ?_, fun _ _ _ _ _ h => by simp [ASt.os, qm] at h, fun _ _ _ _ _ _ _ h => by simp [ASt.os, qm] at h, fun _ _ h => by simp [ASt.os, qm] at h, fun n => by simp [ASt.os, RepA], ⟨by simp [FCX], fun _ _ => rfl⟩⟩
 ·rcases hA with hA | hA
  ·exact .inl hA
  ·exact hs'.sub b i hA
 ·rcases hA with hA | hA
  ·exact Nat.lt_of_lt_of_le (hs.lt b i hA) hs'.ext.size
  ·exact hs'.lt b i hA
theorem z8x {F : FC} {o : Oper} {β : zk} {S : Nat → Nat → Prop} {st : ASt} {a : Act} {w : World} {f : Operand} {args : Array Operand} {ts : Array TypeId} {g : FuncId} {xs : List AV} {pv : Value} (hs : SimB F β S st a.tmps w)
  (ho : o.op = .call { callee := .value f, args := args, argTypes := ts }) {caps : List AV} (hg : evA st.env f = .fn g caps) {m : Nat → Nat} (hxs : renL m xs = args.toList.map (evA st.env) ++ caps)
  {os : List (Nat × AObj)} (hl : LentX F st.objs m [] os []) (hc : zfo F.P F.G g xs os pv) {K : Act → World → Prop} {Q : Exit → Act → World → Prop}
  (hQ : ∀ S' w', SimB F β S' (st.backX m [] os []) a.tmps w' → Q (.panic (Xe pv)) a w') : o.wpIn F.fence 0 F.P a w K Q := by
 obtain ⟨⟨fn, c, hfn, hbody, hname⟩, hcalls⟩ := hc
 have hrf := qc (a := a) hs.env f
 rw [hg] at hrf
 simp only [RepA] at hrf
 obtain ⟨vs, hvf, hvs⟩ := hrf
 have hargs : RepAL (fun i => β (m i)) S w xs ((args.map a.eval) ++ vs).toList := by
  rw [← RepAL.ren, hxs, Array.toList_append, Array.toList_map]
  exact j4 (jt args.toList fun x _ => qc (a := a) hs.env x) hvs
 have hrun : (execOp a.eval o).run F.P w = .ok (.enter g (args.map a.eval ++ vs)) w := by
  have hn' : ¬ fn.name = "runtime.NumGoroutine" := by simpa using hname
  simp [execOp, ho, resolve, hvf, Deferred.ofValue, invoke, callFunc, hfn, hn', hbody]
 refine z3c hrun ?_
 refine (hcalls w _ S _ (hs.lent hl.lent) hargs).mono fun e w' h => ?_
 obtain ⟨S', rfl, hS, hsim⟩ := h
 obtain ⟨_, hsim'⟩ := hs.repaidX hl hS (fun _ h => by simp at h) (fun _ _ => rfl) hsim
 exact hQ S' w' hsim'
theorem yw {F : FC} {ops : Array Oper} {o : Oper} {l : List Oper} {Q : Exit → ASt → Prop} {st : ASt} {f : Operand} {args : Array Operand} {ts : Array TypeId} {g : FuncId} {xs caps : List AV} {pv : Value} {os : List (Nat × AObj)} (m : Nat → Nat)
  (hc : zfo F.P F.G g xs os pv) (hgd : o.guard = none) (ho : o.op = .call { callee := .value f, args := args, argTypes := ts }) (hg : evA st.env f = .fn g caps) (hxs : renL m xs = args.toList.map (evA st.env) ++ caps)
  (hl : LentX F st.objs m [] os []) (k : Q (.panic (Xe pv)) (st.backX m [] os [])) : Z2 F ops (o :: l) Q st := fun a w ⟨hd, β, S, hs⟩ => by
 unfold wpListIn
 rw [if_pos (by simp [Region.wanted, hgd])]
 exact z8x hs ho hg hxs hl hc fun S' w' hs' => ⟨_, k, hd, β, S', hs'⟩
theorem zo1 {F : FC} {o : Oper} {a : Act} {w w' : World} {v : Value} {K : Act → World → Prop} {Q : Exit → Act → World → Prop} (h : (execOp a.eval o).run F.P w = .halt (.panic v) w') (hno : ∀ c, o.op ≠ .defer c) (k : Q (.panic (Xe v)) a w') : o.wpIn F.fence 0 F.P a w K Q := by
 refine ⟨fun _ _ => trivial, ?_⟩
 rw [Oper.semAt_eq _ _ _ hno, h, Oper.uponIn_panic]
 exact k
theorem zpn {F : FC} {ops : Array Oper} {o : Oper} {l : List Oper} {Q : Exit → ASt → Prop} {st : ASt} {x : Operand} {t : TypeId} {v : Value} (ho : o.op = .panic x) (hgd : o.guard = none) (hx : evA st.env x = .raw (.iface t v)) (k : Q (.panic (Xe (.iface t v))) st) : Z2 F ops (o :: l) Q st := fun a w ⟨hd, β, S, hs⟩ => by
 unfold wpListIn
 rw [if_pos (by simp [Region.wanted, hgd])]
 have hr := qc (a := a) hs.env x
 rw [hx] at hr
 simp only [RepA] at hr
 refine zo1 (v := .iface t v) (w' := w) ?_ (by rw [ho]; simp) ⟨st, k, hd, β, S, hs⟩
 simp [execOp, ho, hr.1, Instr.panic, goPanic]
theorem zy6 {F : FC} {o : Oper} {st : ASt} {d : Nat} {t : TypeId} {i : TI} {v : Value} (ho : o.op = .makeInterface t (.const v)) (hdst : o.dst = some d) (hd : d < F.N) (ht : ti F.P t = some i) (hk : i.tk ≠ .iface) : StepOK F o st (st.put (some d) (.raw (.iface t v))) := by
 refine StepOK.of_value (st1 := st) (by rw [hdst]; exact hd) (by rw [hdst]) fun β S a w hsim => ?_
 obtain ⟨_, u1, _, hu1, _, _, _, hk1⟩ := ti_info ht
 have hni : ∀ m, u1 ≠ .interface m := fun m hm => by subst hm; exact hk (hk1.trans rfl)
 refine ⟨.iface t v, w, β, S, ?_, by simp [RepA, Value.oneCell'], hsim⟩
 have : (underlying t).run F.P w = .ok u1 w := run_underlying hu1 w
 simp only [execOp, ho, Instr.makeInterface, Sem.run_bind, this, Result.andThen_ok]
 cases u1 <;> simp_all [Act.eval]
theorem ziv {F : FC} {ops : Array Oper} {Q : Exit → Act → World → Prop} (I : (Nat → Bool) → ASt) (k : Nat) (hng : ∀ (i : Nat) (o : Oper), ops[i]? = some o → o.guard = none)
  (hedge : ∀ i o, ops[i]? = some o → ∀ e ∈ o.after.toList, Region.binds .any e = true → e.on < i)
  (hstep : ∀ (D : Nat → Bool) i o, ops[i]? = some o → i ≠ k → D k = false → D i = false → (∀ e ∈ o.after.toList, Region.binds .any e = true → D e.on = true) → js ops D → StepOK F o (I D) (I (xn D i)))
  (hpan : ∀ (D : Nat → Bool) o, ops[k]? = some o → D k = false → (∀ e ∈ o.after.toList, Region.binds .any e = true → D e.on = true) → js ops D → ∀ a w, Sim F (I D) a w → ∀ K, o.wpIn F.fence 0 F.P a w K Q) : ∀ (n : Nat) (R : List Nat) (listed : Array Bool) (a : Act) (w : World), R.length = n → listed.size = ops.size → (∀ j, listed.getD j true = false ↔ j ∈ R) → R.Nodup → k ∈ R →
  js ops (fun j => listed.getD j true) → Sim F (I fun j => listed.getD j true) a w → wpAnyIn F.fence 0 F.P .any ops Q n listed a w := by
 intro n
 induction n with
 | zero =>
  intro R listed a w hlen hsz hl hnd hkR hcl hs
  have hRn : R = [] := List.eq_nil_of_length_eq_zero hlen
  subst hRn
  simp at hkR
 | succ n ih =>
  intro R listed a w hlen hsz hl hnd hkR hcl hs
  have gd : ∀ j, j < ops.size → listed.getD j true = listed.getD j false := fun j hj => by
   simp [Array.getD_eq_getD_getElem?, Array.getElem?_eq_getElem (show j < listed.size by omega)]
  have hin : ∀ j, listed.getD j true = false → j < ops.size := fun j hj => by
   rcases Nat.lt_or_ge j ops.size with h | h
   ·exact h
   ·simp [Array.getD_eq_getD_getElem?, show listed[j]? = none from Array.getElem?_eq_none (by omega)] at hj
  refine ⟨fun hn => ?_, fun i hi => ?_⟩
  ·exfalso
   have hall : ∀ j, j ∉ R := fun j => by
    induction j using Nat.strongRecOn with
    | _ j ihj =>
     intro hj
     have hf := (hl j).2 hj
     have hjs := hin j hf
     have : j ∈ Region.ready .any ops listed := by
      refine mem_ready.2 ⟨hf, ops[j], Array.getElem?_eq_getElem hjs, fun e he hb => ?_⟩
      have hlt := hedge j _ (Array.getElem?_eq_getElem hjs) e (by simpa using he) hb
      rw [← gd e.on (by omega)]
      cases h : listed.getD e.on true
      ·exact absurd ((hl e.on).1 h) (ihj e.on hlt)
      ·rfl
     rw [hn] at this
     simp at this
   exact hall k hkR
  ·obtain ⟨h0, oi, hoi, hall⟩ := mem_ready.1 hi
   have hiR := (hl i).1 h0
   have his := hin i h0
   have hdone : ∀ e ∈ oi.after.toList, Region.binds .any e = true → listed.getD e.on true = true := fun e he hb => by
    have hlt := hedge i oi hoi e he hb
    rw [gd e.on (by omega)]
    exact hall e (by simpa using he) hb
   have hk0 : listed.getD k true = false := (hl k).2 hkR
   unfold wpOpIn
   simp only [hoi]
   rw [if_pos (by simp [Region.wanted, hng i oi hoi])]
   by_cases hik : i = k
   ·subst hik
    exact hpan (fun j => listed.getD j true) oi hoi h0 hdone hcl a w hs _
   have hD : (fun j => (listed.setIfInBounds i true).getD j true) = xn (fun j => listed.getD j true) i := funext fun j => by
    unfold xn
    by_cases hj : j = i
    ·subst hj
     simp [Array.getD_eq_getD_getElem?, Array.getElem?_setIfInBounds, show j < listed.size by omega]
    ·rw [if_neg hj]
     simp [Array.getD_eq_getD_getElem?, Array.getElem?_setIfInBounds, Ne.symm hj]
   have hst := hstep (fun j => listed.getD j true) i oi hoi hik hk0 h0 hdone hcl
   refine (hst a w hs _ _ fun a' w' hs' => ?_)
   obtain ⟨pre, post, hR⟩ := List.append_of_mem hiR
   subst hR
   have hnd' := List.nodup_append.1 hnd
   have hni : i ∉ pre ++ post := by
    intro h
    rcases List.mem_append.1 h with h | h
    ·exact (hnd'.2.2 i h i (by simp)) rfl
    ·exact (List.nodup_cons.1 hnd'.2.1).1 h
   have hsub : (pre ++ post).Sublist (pre ++ i :: post) := (List.Sublist.refl pre).append (List.sublist_cons_self i post)
   have hk' : k ∈ pre ++ post := by
    rcases List.mem_append.1 hkR with h | h
    ·exact List.mem_append_left _ h
    ·rcases List.mem_cons.1 h with h | h
     ·exact absurd h.symm hik
     ·exact List.mem_append_right _ h
   refine ih (pre ++ post) (listed.setIfInBounds i true) a' w' (by simp at hlen ⊢; omega) (by simpa using hsz) (fun j => ?_) (hnd.sublist hsub) hk' ?_ (by rw [hD]; exact hs')
   ·rw [show (listed.setIfInBounds i true).getD j true = xn (fun j => listed.getD j true) i j from congrFun hD j]
    unfold xn
    by_cases hj : j = i
    ·subst hj; simp [hni]
    ·rw [if_neg hj, hl j]
     simp [hj]
   ·rw [hD]
    intro j o ho hj e he hb
    unfold xn at hj ⊢
    by_cases he' : e.on = i
    ·rw [if_pos he']
    ·rw [if_neg he']
     by_cases hji : j = i
     ·subst hji
      rw [hoi] at ho
      cases ho
      exact hdone e he hb
     ·rw [if_neg hji] at hj
      exact hcl j o ho hj e he hb
def JOpsP (F : FC) (l : List Oper) (evs : List (Nat × Nat × AV)) (ovs : List (Nat × Nat × AObj)) (st : ASt) (k : Nat) : Nat → List Oper → Prop
 | _, [] => True
 | i, o :: r => (i = k ∨ z1r l i [k] [] = true ∨ JOp F l evs ovs st i o) ∧ JOpsP F l evs ovs st k (i + 1) r
theorem JOpsP.get {F : FC} {l : List Oper} {evs : List (Nat × Nat × AV)} {ovs : List (Nat × Nat × AObj)} {st : ASt} {kk : Nat} : ∀ {r : List Oper} {k i : Nat} {o : Oper}, JOpsP F l evs ovs st kk k r → r[i]? = some o → k + i = kk ∨ z1r l (k + i) [kk] [] = true ∨ JOp F l evs ovs st (k + i) o
 | [], _, _, _, _, h => by simp at h
 | x :: r, k, i, o, hj, h => by
  cases i with
  | zero => simp at h; subst h; exact hj.1
  | succ i => rw [show k + (i + 1) = k + 1 + i by omega]; exact JOpsP.get hj.2 (by simpa using h)
theorem zzz {F : FC} (evs : List (Nat × Nat × AV)) (ovs : List (Nat × Nat × AObj)) (kk : Nat) (ancs descs : List Nat) {l : List Oper} {id : Nat} {Q : Exit → ASt → Prop} {st : ASt} {ok : Oper}
  (hs : JOpsP F l evs ovs st kk 0 l)
  (hp : ∀ D : Nat → Bool, v9 D ancs → NoD D (kk :: descs) → ∀ a w, Sim F (jD evs ovs st D) a w → ∀ K, ok.wpIn F.fence 0 F.P a w K fun e a' w' => ∃ st', Q e st' ∧ SimX F e st' a' w')
  (hok : l[kk]? = some ok := by rfl) (hb : z1r l kk ancs descs = true := by kernel_rfl)
  (hm : F.P.follows .mixedOrders = true := by rw [hP]; kernel_rfl)
  (hc : zg3 l (evs.map fun p => (p.1, p.2.1)) (ovs.map (·.1)) = true := by kernel_rfl) : AWp F (.region id l.toArray true) Q st := fun a w hs' => by
 have hokJ := zjv hc
 unfold zg3 at hc
 simp only [Bool.and_eq_true] at hc
 obtain ⟨⟨⟨⟨⟨h1, h2⟩, _⟩, _⟩, h5⟩, h6⟩ := hc
 refine wpIn_region_any hm ?_
 have hD0 : ∀ j, (Array.replicate l.toArray.size false).getD j true = false ↔ j ∈ List.range l.length := fun j => by
  simp only [Array.getD_eq_getD_getElem?, Array.getElem?_replicate, List.mem_range, List.size_toArray]
  split <;> simp [*]
 have hkl : kk < l.length := (List.getElem?_eq_some_iff.1 hok).1
 refine ziv (jD evs ovs st) kk (fun i o ho => ?_) (fun i o ho e he hb => ?_) (fun D i o ho hik hkD hD hdep hcd => ?_) (fun D o ho hkD hdep hcd a w hsim K => ?_) _ (List.range l.length) _ a _ (by simp) (by simp) hD0 List.nodup_range (List.mem_range.2 hkl) ?_ ?_
 ·have := List.all_eq_true.1 h1 o (List.mem_of_getElem? (by simpa using ho))
  simpa using this
 ·have ho' : l[i]? = some o := by simpa using ho
  have hi : i < l.length := (List.getElem?_eq_some_iff.1 ho').1
  have := List.all_eq_true.1 h2 i (List.mem_range.2 hi)
  rw [ho'] at this
  simp only [List.all_eq_true, Bool.or_eq_true, Bool.not_eq_true', decide_eq_true_eq] at this
  rcases this e he with h | h
  ·rw [hb] at h; cases h
  ·exact h
 ·have ho' : l[i]? = some o := by simpa using ho
  have := hs.get ho'
  rw [Nat.zero_add] at this
  rcases this with h | h | h
  ·exact absurd h hik
  ·have h3 := (y0 h ho' hD hdep hcd).1
   simp only [v9] at h3
   rw [hkD] at h3
   exact absurd h3.1 (by simp)
  ·exact h ho' hokJ D hD hdep hcd
 ·have ho' : l[kk]? = some o := by simpa using ho
  rw [hok] at ho'
  simp only [Option.some.injEq] at ho'
  subst ho'
  obtain ⟨h3, h4⟩ := y0 hb hok hkD hdep hcd
  exact hp D h3 h4 a w hsim K
 ·intro i o ho hi e he hb
  have hi' : i < l.length := by have := (Array.getElem?_eq_some_iff.1 ho).1; simpa using this
  have := ((hD0 i).2 (List.mem_range.2 hi')).symm.trans hi
  cases this
 ·have h0 : jD evs ovs st (fun j => (Array.replicate l.toArray.size false).getD j true) = st := zem (fun p hp => (hD0 _).2 (List.mem_range.2 ?_)) (fun p hp => (hD0 _).2 (List.mem_range.2 ?_))
  ·rw [h0]; exact hs'.drew
  ·simpa using List.all_eq_true.1 h5 (p.1, p.2.1) (List.mem_map.2 ⟨p, hp, rfl⟩)
  ·simpa using List.all_eq_true.1 h6 p.1 (List.mem_map.2 ⟨p, hp, rfl⟩)
def GivesXP {α : Type} (P : Program) (G : List (Nat × Dat)) (f : FuncId) (xs : List AV) (os : List (Nat × AObj)) (r : Option α) (rs : α → List AV) (os' : α → List (Nat × AObj)) (pv : Value) : Prop :=
 match r with
 | none => zfo P G f xs os pv
 | some x => GivesX P G f xs os (rs x) (os' x)
theorem GivesXP.ok {α : Type} {P : Program} {G : List (Nat × Dat)} {f : FuncId} {xs : List AV} {os : List (Nat × AObj)} {r : Option α} {rs : α → List AV} {os' : α → List (Nat × AObj)} {pv : Value} (h : GivesXP P G f xs os r rs os' pv) {x : α} (hr : r = some x) : GivesX P G f xs os (rs x) (os' x) := by
 subst hr; exact h
theorem GivesXP.pan {α : Type} {P : Program} {G : List (Nat × Dat)} {f : FuncId} {xs : List AV} {os : List (Nat × AObj)} {r : Option α} {rs : α → List AV} {os' : α → List (Nat × AObj)} {pv : Value} (h : GivesXP P G f xs os r rs os' pv) (hr : r = none) : zfo P G f xs os pv := by
 subst hr; exact h
def QXP {α : Type} (F : FC) (res : List ResultVar) (r : Option α) (rs : α → List AV) (os' : α → List (Nat × AObj)) (pv : Value) : Exit → ASt → Prop
 | .normal, st | .ret, st => ∃ x, r = some x ∧ vv F res (rs x) (os' x) .ret st
 | .panic ch, _ => r = none ∧ ch = Xe pv
 | _, _ => False
theorem zhh {α : Type} {F : FC} {res : List ResultVar} {r : Option α} {rs : α → List AV} {os' : α → List (Nat × AObj)} {pv : Value} {st : ASt} {x : α} (hr : r = some x) (h : vv F res (rs x) (os' x) .ret st) : QXP F res r rs os' pv .ret st := ⟨x, hr, h⟩
theorem zze {α : Type} {F : FC} {res : List ResultVar} {r : Option α} {rs : α → List AV} {os' : α → List (Nat × AObj)} {pv : Value} {st : ASt} {x : α} (hr : r = some x) (h : vv F res (rs x) (os' x) .ret st) : QXP F res r rs os' pv .normal st := ⟨x, hr, h⟩
theorem jz {α : Type} {P : Program} {G : List (Nat × Dat)} {f : FuncId} {fn : Func} {c : Code} {xs : List AV} {os : List (Nat × AObj)} {r : Option α} {rs : α → List AV} {os' : α → List (Nat × AObj)} {pv : Value} (rows lits apps : List Nat) (hf : P.funcs[f]? = some fn) (hb : fn.body = some c) (hname : (fn.name == "runtime.NumGoroutine") = false) (hn : xs.length ≤ fn.ntmps)
  (hid : (os.all (fun p => decide (fn.ntmps ≤ p.1))) = true) (hid' : ∀ x, ((os' x).all (fun p => !decide (fn.ntmps ≤ p.1) || (os.map (·.1)).contains p.1)) = true) (hrs : ∀ x, v7 (v6 (os' x)) (rs x) = true) (hos : ∀ x, je (v6 (os' x)) (os' x) = true)
  (h : ∀ F : FC, F.P = P → F.G = G → F.N = fn.ntmps → (F.rows = rows ∧ F.lits = lits ∧ F.apps = apps ∧ PinM F (os.map (·.1))) → AWp F c (QXP F fn.results.toList r rs os' pv) (.of (initL 0 xs) os)) : GivesXP P G f xs os r rs os' pv := by
 unfold GivesXP
 cases r with
 | none =>
  refine zjy rows lits apps hf hb hname hn hid fun F h1 h2 h3 h4 a w hs => wpIn_mono (h F h1 h2 h3 h4 a w hs) ?_
  rintro e a' w' ⟨st', hq, hx⟩
  refine ⟨st', ?_, hx⟩
  cases e <;> first | (obtain ⟨_, rfl⟩ := hq; exact rfl) | (obtain ⟨x, hx, _⟩ := hq; cases hx; done) | exact hq.elim
 | some x =>
  refine z3t rows lits apps hf hb hname hn (by rw [Bool.and_eq_true]; exact ⟨hid, hid' x⟩) (hrs x) (hos x) fun F h1 h2 h3 h4 a w hs => wpIn_mono (h F h1 h2 h3 h4 a w hs) ?_
  rintro e a' w' ⟨st', hq, hx⟩
  refine ⟨st', ?_, hx⟩
  cases e <;> first | (obtain ⟨y, hy, h⟩ := hq; cases hy; exact h) | (obtain ⟨hn, _⟩ := hq; cases hn; done) | exact hq.elim
theorem ku {F : FC} {P : Program} {G : List (Nat × Dat)} (hP : F.P = P) (hG : F.G = G) {f : FuncId} {xs : List AV} {os : List (Nat × AObj)} {pv : Value} (h : zfo P G f xs os pv) : zfo F.P F.G f xs os pv := by rw [hP, hG]; exact h
def Xb (D : Nat → Bool) (base : Nat → Option AObj) : List (Nat × Nat × Option AObj) → Nat → Option AObj
 | [] => base
 | (i, id, o) :: l => fun n => if n = id ∧ D i = true then o else Xb D base l n
def eD (evs : List (Nat × Nat × AV)) (ovs : List (Nat × Nat × Option AObj)) (st : ASt) (D : Nat → Bool) : ASt := ⟨kh D st.env evs, Xb D st.objs ovs⟩
theorem zxo (evs : List (Nat × Nat × AV)) (ovs : List (Nat × Nat × Option AObj)) (st : ASt) (D : Nat → Bool) (n : Nat) : (eD evs ovs st D).env n = kh D st.env evs n := rfl
theorem zu5 (evs : List (Nat × Nat × AV)) (ovs : List (Nat × Nat × Option AObj)) (st : ASt) (D : Nat → Bool) (n : Nat) : (eD evs ovs st D).objs n = Xb D st.objs ovs n := rfl
theorem znv (D : Nat → Bool) (b : Nat → Option AObj) (i d : Nat) (v : Option AObj) (l : List (Nat × Nat × Option AObj)) (n : Nat) : Xb D b ((i, d, v) :: l) n = if n = d ∧ D i = true then v else Xb D b l n := rfl
theorem znw (D : Nat → Bool) (b : Nat → Option AObj) (n : Nat) : Xb D b [] n = b n := rfl
def Z3 := And.intro @zxo (And.intro @zu5 (And.intro @zcf (And.intro @zcg (And.intro @znv (And.intro @znw (And.intro @zgh (And.intro @true_and (And.intro @false_and (And.intro @and_true (And.intro @and_false (@Bool.false_eq_true)))))))))))
theorem z5b {D : Nat → Bool} {base : Nat → Option AObj} {n : Nat} : ∀ {l : List (Nat × Nat × Option AObj)}, n ∉ l.map (·.2.1) → Xb D base l n = base n
 | [], _ => rfl
 | (j, c, u) :: l, h => by
  simp only [List.map_cons, List.mem_cons, not_or] at h
  simp only [Xb, h.1, false_and, if_false]
  exact z5b h.2
theorem z8f {D : Nat → Bool} {base : Nat → Option AObj} {i id : Nat} {o : Option AObj} : ∀ {l : List (Nat × Nat × Option AObj)}, (i, id, o) ∈ l → (l.map (·.2.1)).Nodup → Xb D base l id = if D i = true then o else base id
 | [], h, _ => by simp at h
 | (j, c, u) :: l, h, hn => by
  simp only [List.map_cons, List.nodup_cons] at hn
  rcases List.mem_cons.1 h with h | h
  ·cases h
   simp only [Xb, true_and]
   split
   ·rfl
   ·exact z5b hn.1
  ·have hne : id ≠ c := fun e => hn.1 (List.mem_map.2 ⟨(i, id, o), h, e⟩)
   simp only [Xb, hne, false_and, if_false]
   exact z8f h hn.2
theorem z59 {D : Nat → Bool} {base : Nat → Option AObj} {i n : Nat} {l : List (Nat × Nat × Option AObj)} (hn : (l.map (·.2.1)).Nodup) (h : ∀ o, (i, n, o) ∉ l) : Xb (xn D i) base l n = Xb D base l n := by
 by_cases hm : n ∈ l.map (·.2.1)
 ·obtain ⟨⟨j, id, o⟩, hp, rfl⟩ := List.mem_map.1 hm
  have hji : j ≠ i := fun e => h o (e ▸ hp)
  rw [z8f hp hn, z8f hp hn]
  simp [xn, hji]
 ·rw [z5b hm, z5b hm]
theorem z5a {D : Nat → Bool} {base : Nat → Option AObj} {i id : Nat} {o : Option AObj} {l : List (Nat × Nat × Option AObj)} (hn : (l.map (·.2.1)).Nodup) (h : (i, id, o) ∈ l) : Xb (xn D i) base l id = o := by
 rw [z8f h hn]
 simp [xn]
theorem Xc {i n : Nat} {l : List (Nat × Nat × Option AObj)} {ks : List Nat} (h : l.all (fun p => p.1 != i || ks.contains p.2.1) = true) (hn : n ∉ ks) (o : Option AObj) : (i, n, o) ∉ l := fun hp => by
 have := List.all_eq_true.1 h _ hp
 simp [hn] at this
theorem zxq {evs : List (Nat × Nat × AV)} {ovs : List (Nat × Nat × Option AObj)} {st : ASt} {D : Nat → Bool} {i d : Nat} {v : AV} (h : (i, d, v) ∈ evs) (h1 : OkJ evs) (h2 : (ovs.map (·.2.1)).Nodup) (h3 : ovs.all (fun p => p.1 != i || [].contains p.2.1) = true) :
  (eD evs ovs st D).put (some d) v = eD evs ovs st (xn D i) := by
 unfold eD ASt.put
 simp only [envD_add (D := D) (base := st.env) h h1.1 h1.2]
 congr 1
 funext n
 exact (z59 h2 (fun o => Xc h3 (by simp) o)).symm
theorem zxp {evs : List (Nat × Nat × AV)} {ovs : List (Nat × Nat × Option AObj)} {st : ASt} {D : Nat → Bool} {i id : Nat} {o : AObj} (h : (i, id, some o) ∈ ovs) (h2 : (ovs.map (·.2.1)).Nodup) (h3 : ovs.all (fun p => p.1 != i || [id].contains p.2.1) = true) (h4 : i ∉ evs.map (·.1)) :
  (eD evs ovs st D).obj id o = eD evs ovs st (xn D i) := by
 unfold eD ASt.obj
 simp only [z47 (D := D) (base := st.env) h4]
 congr 1
 funext n
 simp only [q9]
 split
 ·rename_i hn; subst hn; exact (z5a h2 h).symm
 ·rename_i hn; exact (z59 h2 (fun o => Xc h3 (by simpa using hn) o)).symm
theorem zu4 {evs : List (Nat × Nat × AV)} {ovs : List (Nat × Nat × Option AObj)} {st : ASt} {D : Nat → Bool} {i d id : Nat} {v : AV} {o : AObj} (h : (i, d, v) ∈ evs) (h1 : OkJ evs) (h' : (i, id, some o) ∈ ovs) (h2 : (ovs.map (·.2.1)).Nodup) (h3 : ovs.all (fun p => p.1 != i || [id].contains p.2.1) = true) :
  ((eD evs ovs st D).obj id o).put (some d) v = eD evs ovs st (xn D i) := by
 unfold eD ASt.obj ASt.put
 simp only [envD_add (D := D) (base := st.env) h h1.1 h1.2]
 congr 1
 funext n
 simp only [q9]
 split
 ·rename_i hn; subst hn; exact (z5a h2 h').symm
 ·rename_i hn; exact (z59 h2 (fun o => Xc h3 (by simpa using hn) o)).symm
theorem zxn {evs : List (Nat × Nat × AV)} {ovs : List (Nat × Nat × Option AObj)} {st : ASt} {D : Nat → Bool} {i d id old : Nat} {v : AV} {o : AObj} (hno : old ≠ id) (h : (i, d, v) ∈ evs) (h1 : OkJ evs) (h' : (i, id, some o) ∈ ovs) (h'' : (i, old, none) ∈ ovs) (h2 : (ovs.map (·.2.1)).Nodup) (h3 : ovs.all (fun p => p.1 != i || [id, old].contains p.2.1) = true) :
  (((eD evs ovs st D).drop old).obj id o).put (some d) v = eD evs ovs st (xn D i) := by
 unfold eD ASt.drop ASt.obj ASt.put
 simp only [envD_add (D := D) (base := st.env) h h1.1 h1.2]
 congr 1
 funext n
 simp only [q9]
 split
 ·rename_i hn; subst hn; exact (z5a h2 h').symm
 ·rename_i hn
  split
  ·rename_i hn'; subst hn'; exact (z5a h2 h'').symm
  ·rename_i hn'
   exact (z59 h2 (fun o => Xc h3 (by simp [hn, hn']) o)).symm
theorem zkx {evs : List (Nat × Nat × AV)} {ovs : List (Nat × Nat × Option AObj)} {st : ASt} {D : Nat → Bool} (h1 : ∀ p ∈ evs, D p.1 = false) (h2 : ∀ p ∈ ovs, D p.1 = false) : eD evs ovs st D = st := by
 have e1 := z2z (base := st.env) h1
 have e2 : Xb D st.objs ovs = st.objs := by
  induction ovs with
  | nil => rfl
  | cons p l ih =>
   obtain ⟨i, c, u⟩ := p
   funext n
   simp only [Xb, ih fun p hp => h2 p (by simp [hp])]
   rw [if_neg fun hc => by have := h2 (i, c, u) (by simp); rw [this] at hc; cases hc.2]
 unfold eD
 rw [e1, e2]
theorem zcp {st : ASt} {d old : Nat} (h : z8m d st) : z8m d (st.drop old) := by
 refine ⟨h.1, fun k o ho => ?_⟩
 simp only [ASt.drop, q9] at ho
 split at ho
 ·simp at ho
 ·exact h.2 k o ho
theorem zeb {evs : List (Nat × Nat × AV)} {ovs : List (Nat × Nat × Option AObj)} {st : ASt} {D : Nat → Bool} {id : Nat} (h : z8m id st) (h1 : ∀ p ∈ evs, D p.1 = false ∨ p.2.2.kill id = p.2.2) (h2 : ∀ p ∈ ovs, D p.1 = false ∨ ∀ o, p.2.2 = some o → o.elems.map (AV.kill id) = o.elems) : z8m id (eD evs ovs st D) := by
 refine ⟨fun n => ?_, fun k o ho => ?_⟩
 ·have := (zjh (ovs := []) h h1 (by simp)).1 n
  exact this
 ·unfold eD at ho
  simp only at ho
  induction ovs with
  | nil => exact h.2 k o ho
  | cons p l ih =>
   obtain ⟨i, c, u⟩ := p
   simp only [Xb] at ho
   split at ho
   ·rename_i hc
    subst ho
    rcases h2 (i, c, some o) (by simp) with hf | hf
    ·rw [hf] at hc; cases hc.2
    ·exact hf o rfl
   ·exact ih (fun p hp => h2 p (by simp [hp])) ho
def zyx (l : List Oper) (es : List (Nat × Nat)) (is : List (Nat × Nat)) : Bool := zg3 l es (is.map (·.1)) && z00 (fun a b => a != b) (is.map (·.2))
def EOp (F : FC) (l : List Oper) (evs : List (Nat × Nat × AV)) (ovs : List (Nat × Nat × Option AObj)) (st : ASt) (i : Nat) (o : Oper) : Prop :=
 l[i]? = some o → OkJ evs → (ovs.map (·.2.1)).Nodup → ∀ D : Nat → Bool, D i = false → (∀ e ∈ o.after.toList, Region.binds .any e = true → D e.on = true) → js l.toArray D → StepOK F o (eD evs ovs st D) (eD evs ovs st (xn D i))
def EOps (F : FC) (l : List Oper) (evs : List (Nat × Nat × AV)) (ovs : List (Nat × Nat × Option AObj)) (st : ASt) : Nat → List Oper → Prop
 | _, [] => True
 | i, o :: r => EOp F l evs ovs st i o ∧ EOps F l evs ovs st (i + 1) r
theorem EOps.get {F : FC} {l : List Oper} {evs : List (Nat × Nat × AV)} {ovs : List (Nat × Nat × Option AObj)} {st : ASt} : ∀ {r : List Oper} {k i : Nat} {o : Oper}, EOps F l evs ovs st k r → r[i]? = some o → EOp F l evs ovs st (k + i) o
 | [], _, _, _, _, h => by simp at h
 | x :: r, k, i, o, hj, h => by
  cases i with
  | zero => simp at h; subst h; exact hj.1
  | succ i => rw [show k + (i + 1) = k + 1 + i by omega]; exact EOps.get hj.2 (by simpa using h)
theorem zzx {F : FC} (ns ids : List Nat) (evs : List (Nat × Nat × AV)) (ovs : List (Nat × Nat × Option AObj)) {e : List (Nat × AV)} {o : List (Nat × AObj)} {l : List Oper} {id : Nat} {Q : Exit → ASt → Prop} {st : ASt}
  (hs : EOps F l evs ovs st 0 l) (k : Q .normal (.of e o)) (hm : F.P.follows .mixedOrders = true := by rw [hP]; kernel_rfl)
  (hc : zyx l (evs.map fun p => (p.1, p.2.1)) (ovs.map fun p => (p.1, p.2.1)) = true := by kernel_rfl)
  (hk : Kept ns ids e o (eD evs ovs st fun _ => true) := by
    simp (maxSteps := 2000000) (disch := omega) only [qq, avA, zl, zp, seval, hE, Z3]
    exact ⟨rfl, rfl⟩) : AWp F (.region id l.toArray true) Q st := fun a w hs' => by
 unfold zyx at hc
 simp only [Bool.and_eq_true] at hc
 obtain ⟨hc, hn⟩ := hc
 have hnd : (ovs.map (·.2.1)).Nodup := by
  have e2 : (ovs.map fun p => (p.1, p.2.1)).map (·.2) = ovs.map (·.2.1) := by simp
  rw [e2] at hn
  exact (vy hn).imp fun {a b} h => by simpa using h
 have hok := zjv hc
 unfold zg3 at hc
 simp only [Bool.and_eq_true] at hc
 obtain ⟨⟨⟨⟨⟨h1, h2⟩, _⟩, _⟩, h5⟩, h6⟩ := hc
 refine wpIn_mono (zpr (Q := fun ex st' => ex = Exit.normal ∧ st' = eD evs ovs st fun _ => true) (eD evs ovs st) hm h1 h2 (fun D i o' ho hD hdep hcd => by have := hs.get ho; rw [Nat.zero_add] at this; exact this ho hok hnd D hD hdep hcd) (fun D hD => Le.eq (zkx (fun p hp => hD _ ?_) (fun p hp => hD _ ?_)).symm) ⟨rfl, rfl⟩ a w hs') fun ex a' w' ⟨st', ⟨g1, g2⟩, hs'⟩ => ?_
 ·simpa using List.all_eq_true.1 h5 (p.1, p.2.1) (List.mem_map.2 ⟨p, hp, rfl⟩)
 ·simpa using List.all_eq_true.1 h6 p.1 (List.mem_map.2 ⟨(p.1, p.2.1), List.mem_map.2 ⟨p, hp, rfl⟩, rfl⟩)
 ·subst g1; subst g2
  refine ⟨.of e o, k, ?_⟩
  have := Le.keep F (eD evs ovs st fun _ => true) ns ids a' w' hs'
  unfold ASt.keep at this
  rw [hk.1, hk.2] at this
  exact this
section
variable {F : FC} {l : List Oper} {evs : List (Nat × Nat × AV)} {ovs : List (Nat × Nat × Option AObj)} {st : ASt} {i : Nat} {o : Oper}
theorem EV (k : Nat) (ancs descs : List Nat) {d : Nat} {v : AV} (hv : evs[k]? = some (i, d, v) := by rfl) (hno : ovs.all (fun p => p.1 != i || [].contains p.2.1) = true := by kernel_rfl) (hb : z1r l i ancs descs = true := by kernel_rfl) (hg : o.guard = none := by rfl)
  (h : ∀ D : Nat → Bool, v9 D ancs → NoD D (i :: descs) → zi F #[] [o] (eD evs ovs st D) (fun s => s = (eD evs ovs st D).put (some d) v) := by
    intro D hA1 hA2
    simp only [v9, NoD] at hA1 hA2
    simp (maxSteps := 2000000) (disch := omega) only [qq, avA, zl, zp, seval, ↓List.forall_mem_cons, Op.operands, hA, tiA, hE, Z3, hA1, hA2]
    exact SC) : EOp F l evs ovs st i o := fun ho hok hnd D hD hdep hcd => by
 obtain ⟨h1, h2⟩ := y0 hb ho hD hdep hcd
 rw [← zxq (i := i) (d := d) (v := v) (List.mem_of_getElem? hv) hok hnd hno]
 exact xa hg (h D h1 h2)
theorem ES (k : Nat) (ancs descs : List Nat) {id : Nat} {ob : AObj} (hv : ovs[k]? = some (i, id, some ob) := by rfl) (h3 : ovs.all (fun p => p.1 != i || [id].contains p.2.1) = true := by kernel_rfl) (hno : (evs.map (·.1)).contains i = false := by kernel_rfl) (hb : z1r l i ancs descs = true := by kernel_rfl) (hg : o.guard = none := by rfl)
  (h : ∀ D : Nat → Bool, v9 D ancs → NoD D (i :: descs) → zi F #[] [o] (eD evs ovs st D) (fun s => s = (eD evs ovs st D).obj id ob) := by
    intro D hA1 hA2
    simp only [v9, NoD] at hA1 hA2
    simp (maxSteps := 2000000) (disch := omega) only [qq, avA, zl, zp, seval, ↓List.forall_mem_cons, Op.operands, hA, tiA, hE, Z3, hA1, hA2]
    exact SC) : EOp F l evs ovs st i o := fun ho hok hnd D hD hdep hcd => by
 obtain ⟨h1, h2⟩ := y0 hb ho hD hdep hcd
 rw [← zxp (i := i) (id := id) (o := ob) (List.mem_of_getElem? hv) hnd h3 (by simpa using hno)]
 exact xa hg (h D h1 h2)
theorem EB (k k' : Nat) (ancs descs : List Nat) {d id : Nat} {v : AV} {ob : AObj} (hv : evs[k]? = some (i, d, v) := by rfl) (hv' : ovs[k']? = some (i, id, some ob) := by rfl) (h3 : ovs.all (fun p => p.1 != i || [id].contains p.2.1) = true := by kernel_rfl) (hb : z1r l i ancs descs = true := by kernel_rfl) (hg : o.guard = none := by rfl)
  (h : ∀ D : Nat → Bool, v9 D ancs → NoD D (i :: descs) → zi F #[] [o] (eD evs ovs st D) (fun s => s = ((eD evs ovs st D).obj id ob).put (some d) v)) : EOp F l evs ovs st i o := fun ho hok hnd D hD hdep hcd => by
 obtain ⟨h1, h2⟩ := y0 hb ho hD hdep hcd
 rw [← zu4 (i := i) (d := d) (v := v) (id := id) (o := ob) (List.mem_of_getElem? hv) hok (List.mem_of_getElem? hv') hnd h3]
 exact xa hg (h D h1 h2)
theorem EA (k k' k'' : Nat) (ancs descs : List Nat) {d id old : Nat} {v : AV} {ob : AObj} (hv : evs[k]? = some (i, d, v) := by rfl) (hv' : ovs[k']? = some (i, id, some ob) := by rfl) (hv'' : ovs[k'']? = some (i, old, none) := by rfl) (hne : old ≠ id := by decide) (h3 : ovs.all (fun p => p.1 != i || [id, old].contains p.2.1) = true := by kernel_rfl) (hb : z1r l i ancs descs = true := by kernel_rfl) (hg : o.guard = none := by rfl)
  (hfix : ∀ D : Nat → Bool, v9 D ancs → NoD D (i :: descs) → z8m id (eD evs ovs st D))
  (h : ∀ D : Nat → Bool, v9 D ancs → NoD D (i :: descs) → zi F #[] [o] (eD evs ovs st D) (fun s => s = (((((eD evs ovs st D).drop old).kill id).obj id ob).put (some d) v))) : EOp F l evs ovs st i o := fun ho hok hnd D hD hdep hcd => by
 obtain ⟨h1, h2⟩ := y0 hb ho hD hdep hcd
 rw [← zxn (i := i) (d := d) (v := v) (id := id) (o := ob) hne (List.mem_of_getElem? hv) hok (List.mem_of_getElem? hv') (List.mem_of_getElem? hv'') hnd h3, ← z27 (zcp (hfix D h1 h2))]
 exact xa hg (h D h1 h2)
end
def z01 : FrameMode → Value
 | .panicking ({ v, recovered := false, goexit := false } :: _) => v
 | _ => .nilIface
def z6q : FrameMode → FrameMode
 | .panicking ({ v, recovered := false, goexit := false } :: older) => .panicking ({ v, recovered := true } :: older)
 | u => u
theorem zbw (c : Frame) (cs : List Frame) : (∃ v, recoverD (c :: cs) = some (v, { c with mode := z6q c.mode } :: cs) ∧ z01 c.mode = v) ∨ (recoverD (c :: cs) = none ∧ z01 c.mode = .nilIface ∧ z6q c.mode = c.mode) := by
 obtain ⟨fn, tmps, todo, mode, kind, defers, ro⟩ := c
 unfold recoverD
 simp only
 split
 ·rename_i v older
  exact .inl ⟨v, rfl, rfl⟩
 ·rename_i h
  refine .inr ⟨rfl, ?_, ?_⟩
  ·unfold z01
   split
   ·rename_i v older; exact absurd rfl (h v older)
   ·rfl
  ·unfold z6q
   split
   ·rename_i v older; exact absurd rfl (h v older)
   ·rfl
def z4p (P : Program) (G : List (Nat × Dat)) (f : FuncId) (xs : List AV) (os : List (Nat × AObj)) (u : FrameMode) (os' : List (Nat × AObj)) : Prop :=
 (∃ fn c, P.funcs[f]? = some fn ∧ fn.body = some c ∧ (fn.name == "runtime.NumGoroutine") = false) ∧ (∀ p ∈ os', v7 (v6 os') p.2.elems = true) ∧
 ∀ (w : World) (β : zk) (S : Nat → Nat → Prop) (vals : Array Value), SimB (FC0 P G w os β S) β S (.os os) #[] w → RepAL β S w xs vals.toList →
  CallsDIn Fence.wide 0 P f vals u w fun e u' w' => ∃ v β' S', e = .returned v ∧ u' = z6q u ∧ (∀ b i, S b i → S' b i) ∧ (∀ i ∈ os.map (·.1), β' i = β i) ∧ SimB (FCX P G w os β β' S) β' S' (.os os') #[] w'
theorem z9h {P : Program} {G : List (Nat × Dat)} {f : FuncId} {fn : Func} {rest : Code} {xs : List AV} {os os' : List (Nat × AObj)} {id d0 d1 ty0 ty1 : Nat} {p0 p1 : String} {a1 : Array Edge} {u : FrameMode} (hf : P.funcs[f]? = some fn)
  (hb : fn.body = some (.seq (.region id #[⟨some d0, .call ⟨.builtin .recover, #[], #[]⟩, ty0, p0, #[], none⟩, ⟨some d1, .assign (.tmp d0), ty1, p1, a1, none⟩] false) rest)) (hname : (fn.name == "runtime.NumGoroutine") = false) (hn : xs.length ≤ fn.ntmps) (hd0 : d0 < fn.ntmps) (hd1 : d1 < fn.ntmps) (hone : (z01 u).oneCell' = true) (hres : fn.results = #[])
  (hid : (os.all (fun p => decide (fn.ntmps ≤ p.1)) && os'.all (fun p => !decide (fn.ntmps ≤ p.1) || (os.map (·.1)).contains p.1)) = true) (hos : je (v6 os') os' = true)
  (h : ∀ F : FC, F.P = P → F.G = G → F.N = fn.ntmps → (F.rows = [] ∧ F.lits = [] ∧ F.apps = [] ∧ PinM F (os.map (·.1))) → AWp F rest (z77 os') (.of ((d1, .raw (z01 u)) :: (d0, .raw (z01 u)) :: initL 0 xs) os)) : z4p P G f xs os u os' := by
 simp only [Bool.and_eq_true] at hid
 refine ⟨⟨fn, _, hf, hb, hname⟩, Xd hos, fun w β S vals hs hv => ?_⟩
 have hid1 : ∀ p ∈ os, fn.ntmps ≤ p.1 := fun p hp => by simpa using List.all_eq_true.1 hid.1 p hp
 let F : FC := ⟨P, fn.ntmps, G, w, MB os β, S, [], [], [], β, none, [], w.heap.size, fun _ => False, []⟩
 obtain ⟨hlen, hget⟩ : vals.toList.length = xs.length ∧ ∀ (i : Nat) (d : AV), xs[i]? = some d → ∃ v, vals.toList[i]? = some v ∧ RepA β S w d v := ⟨qd hv, fun i d hd => wl hv hd⟩
 have hsim : SimB F β S (.initM xs os) (vals ++ Array.replicate (fn.ntmps - vals.size) undef) w := by
  refine ⟨hs.ext, hs.glob, hs.sub, hs.lt, hs.sep, hs.inj, hs.obj, fun n => ?_, ⟨by simp [F]; omega, fun _ _ => rfl⟩⟩
  simp only [ASt.initM, Av.initM]
  split
  ·rename_i d hd
   obtain ⟨v, hv', hr⟩ := hget n d hd
   have hnl : n < vals.size := by have := (List.getElem?_eq_some_iff.1 hv').1; simpa using this
   have hv2 : vals[n]? = some v := by simpa using hv'
   simp only [Array.getD_eq_getD_getElem?]
   rw [Array.getElem?_append_left hnl, hv2]
   exact hr
  ·simp [RepA]
 have hM : PinM F (os.map (·.1)) := ⟨fun b ⟨id, o, s, ho, hb⟩ => .inr ⟨id, Zp ho, hid1 _ (vl ho), s, hb⟩, fun _ => rfl⟩
 rw [z0m] at hsim
 refine callsDIn_of_wpSIn hf hb trivial fun c₀ cs hu => wpSIn_seq (wpSIn_region ?_)
 subst hu
 generalize htm : (vals ++ Array.replicate (fn.ntmps - vals.size) undef) = tm at hsim ⊢
 -- behind recover and the assignment
 have hbody : ∀ cs', cs' = { c₀ with mode := z6q c₀.mode } :: cs → Exit.thenS (rest.wpSIn Fence.wide 0 P (bodyPostS P fn c₀ cs fun e u' w' => ∃ v β' S', e = .returned v ∧ u' = z6q c₀.mode ∧ (∀ b i, S b i → S' b i) ∧ (∀ i ∈ os.map (·.1), β' i = β i) ∧ SimB (FCX P G w os β β' S) β' S' (.os os') #[] w'))
   (bodyPostS P fn c₀ cs fun e u' w' => ∃ v β' S', e = .returned v ∧ u' = z6q c₀.mode ∧ (∀ b i, S b i → S' b i) ∧ (∀ i ∈ os.map (·.1), β' i = β i) ∧ SimB (FCX P G w os β β' S) β' S' (.os os') #[] w') .normal
   (((({ tmps := tm, defers := [] } : Act).put (some d0) (z01 c₀.mode)).put (some d1) (z01 c₀.mode))) cs' w := by
  rintro cs' rfl
  refine wpSIn_of_wpIn rfl ?_
  have hsim2 : SimB F β S (.of ((d1, .raw (z01 c₀.mode)) :: (d0, .raw (z01 c₀.mode)) :: initL 0 xs) os) (((({ tmps := tm, defers := [] } : Act).put (some d0) (z01 c₀.mode)).put (some d1) (z01 c₀.mode))).tmps w := by
   have h1 := (hsim.put (d := d0) (v := z01 c₀.mode) (x := .raw (z01 c₀.mode)) hd0 (by simp [RepA, hone])).put (d := d1) (v := z01 c₀.mode) (x := .raw (z01 c₀.mode)) hd1 (by simp [RepA, hone])
   simpa [ww, Act.put] using h1
  refine wpIn_mono (h F rfl rfl rfl ⟨rfl, rfl, rfl, hM⟩ _ w ⟨⟨rfl, .nil rfl⟩, β, S, hsim2⟩) ?_
  rintro e a' w1 ⟨st', hq, hsx⟩
  cases e <;> try exact hq.elim
  obtain ⟨⟨hdef, _⟩, β', S', hs'⟩ := hsx
  have h3 : qr st'.objs os' := hq
  let S2 : Nat → Nat → Prop := fun b i => S b i ∨ S' b i
  have hk : Keeps S' S2 w1 w1 := Keeps.wider w1 fun b i hA => .inr hA
  have hpin : ∀ i, fn.ntmps ≤ i → β' i = β i := hs'.size.2
  have hplace : ∀ id o b s, qm os' id = some o → β' id = some (b, s) → w.heap.size ≤ b ∨ ∃ k q t, qm os k = some q ∧ β k = some (b, t) := fun id o b s ho hb => by
   rcases hs'.obj id o (wi h3 ho) with ⟨hn, _⟩ | ⟨b', s', arr, e, hb', hw, _⟩ | hm
   rotate_left 2
   ·exact (hm.place hb).1.elim .inl fun ⟨k, q, t, h3, h4⟩ => .inr ⟨k, q, t, h3, h4⟩
   ·rw [hn] at hb; cases hb
   ·rw [hb'] at hb
    simp only [Option.some.injEq, Prod.mk.injEq] at hb
    rcases hw with h | h
    ·exact .inl (hb.1 ▸ h)
    ·obtain ⟨k, q, t, h3, h4⟩ := h
     exact .inr ⟨k, q, t, h3, hb.1 ▸ h4⟩
  refine ⟨hdef, z6q c₀.mode, rfl, .tuple #[], ?_, .tuple #[], β', S2, rfl, rfl, fun b i h => .inl h, fun i hi => ?_, ?_⟩
  ·rw [Xk, hres]
   simp [Sem.run_bind, go_sem]
  ·obtain ⟨p, hp, rfl⟩ := List.mem_map.1 hi
   exact hpin _ (hid1 p hp)
  ·refine ⟨hs'.ext, hs.glob, fun b i hA => ?_, fun b i hA => ?_, fun id o b s i ho hb' hA => ?_, fun id id' o o' b s s' ho ho' hb1 hb2 => ?_, fun id o ho => ?_, fun n => ?_, ⟨by simp [FCX], fun _ _ => rfl⟩⟩
   ·rcases hA with hA | hA
    ·exact .inl hA
    ·exact hs'.sub b i hA
   ·rcases hA with hA | hA
    ·exact Nat.lt_of_lt_of_le (hs.lt b i hA) hs'.ext.size
    ·exact hs'.lt b i hA
   ·replace ho : qm os' id = some o := ho
    rcases hA with hA | hA
    ·rcases hplace id o b s ho hb' with h | ⟨k, q, t, h4, h5⟩
     ·have := hs.lt b i hA; omega
     ·exact hs.sep k q b t i h4 h5 hA
    ·exact hs'.sep id o b s i (wi h3 ho) hb' hA
   ·replace ho : qm os' id = some o := ho
    replace ho' : qm os' id' = some o' := ho'
    exact hs'.inj id id' o o' b s s' (wi h3 ho) (wi h3 ho') hb1 hb2
   ·replace ho : qm os' id = some o := ho
    rcases hs'.obj id o (wi h3 ho) with h | ⟨b', s', arr, e, hb', hw, hh, hz, hel⟩ | hm
    ·exact .inl h
    ·exact .inr (.inl ⟨b', s', arr, e, hb', hw, hh, hz, fun k x hx => ⟨(hel k x hx).1, (hel k x hx).2.mono hk (.refl w1) rfl⟩⟩)
    ·exact .inr (.inr (hm.mono rfl hk fun _ _ => rfl))
   ·simp [ASt.os, RepA]
 have hw0 : Region.wanted (⟨some d0, .call ⟨.builtin .recover, #[], #[]⟩, ty0, p0, #[], none⟩ : Oper) (yielded #[⟨some d0, .call ⟨.builtin .recover, #[], #[]⟩, ty0, p0, #[], none⟩, ⟨some d1, .assign (.tmp d0), ty1, p1, a1, none⟩] tm) = true := rfl
 have hr0 : ∀ a : Act, (execOp a.eval (⟨some d0, .call ⟨.builtin .recover, #[], #[]⟩, ty0, p0, #[], none⟩ : Oper)).run P w = .ok .recover w := fun a => by simp [execOp, resolve, invoke, builtin]
 show wpOpsSIn Fence.wide 0 P _ _ [0, 1] _ _ _
 unfold wpOpsSIn
 simp only [List.getElem?_toArray, List.getElem?_cons_zero]
 refine ⟨fun _ _ => trivial, ?_⟩
 rw [if_pos (show Region.wanted _ _ = true from rfl)]
 simp only [hr0]
 have hsz : tm.size = fn.ntmps := by rw [← htm]; have := hlen; simp at this ⊢; omega
 have hlast : ∀ cs', cs' = { c₀ with mode := z6q c₀.mode } :: cs → wpOpsSIn Fence.wide 0 P #[⟨some d0, .call ⟨.builtin .recover, #[], #[]⟩, ty0, p0, #[], none⟩, ⟨some d1, .assign (.tmp d0), ty1, p1, a1, none⟩] (Exit.thenS (rest.wpSIn Fence.wide 0 P (bodyPostS P fn c₀ cs fun e u' w' => ∃ v β' S', e = .returned v ∧ u' = z6q c₀.mode ∧ (∀ b i, S b i → S' b i) ∧ (∀ i ∈ os.map (·.1), β' i = β i) ∧ SimB (FCX P G w os β β' S) β' S' (.os os') #[] w'))
   (bodyPostS P fn c₀ cs fun e u' w' => ∃ v β' S', e = .returned v ∧ u' = z6q c₀.mode ∧ (∀ b i, S b i → S' b i) ∧ (∀ i ∈ os.map (·.1), β' i = β i) ∧ SimB (FCX P G w os β β' S) β' S' (.os os') #[] w')) [1]
   (({ tmps := tm, defers := [] } : Act).put (some d0) (z01 c₀.mode)) cs' w := fun cs' hcs => by
  unfold wpOpsSIn
  simp only [List.getElem?_toArray, List.getElem?_cons_zero, List.getElem?_cons_succ]
  refine ⟨fun _ _ => trivial, ?_⟩
  rw [if_pos (show Region.wanted _ _ = true from rfl)]
  have hev : ((({ tmps := tm, defers := [] } : Act).put (some d0) (z01 c₀.mode))).eval (.tmp d0) = z01 c₀.mode := by
   simp [Act.put, Act.eval, Array.getD_eq_getD_getElem?, Array.getElem?_setIfInBounds, hsz, hd0]
  have hr1 : (execOp ((({ tmps := tm, defers := [] } : Act).put (some d0) (z01 c₀.mode))).eval (⟨some d1, .assign (.tmp d0), ty1, p1, a1, none⟩ : Oper)).run P w = .ok (.value (z01 c₀.mode)) w := by simp [execOp, hev]
  simp only [hr1]
  exact hbody cs' hcs
 rcases zbw c₀ cs with ⟨v, h1, h2⟩ | ⟨h1, h2, h3⟩
 ·rw [h1]
  simp only
  rw [← h2]
  exact hlast _ rfl
 ·rw [h1]
  simp only
  rw [← h2]
  refine hlast _ ?_
  rw [h3]
def FC.dfr (F : FC) (β : zk) (d : Deferred) : FC := { F with pin := β, ds := [d], db := [d] }
theorem zn5 {e : List (Nat × AV)} {n : Nat} : (∃ v, (n, v) ∈ e ∧ xl e n = v) ∨ xl e n = .junk := by
 induction e with
 | nil => exact .inr rfl
 | cons p l ih =>
  obtain ⟨k, v⟩ := p
  simp only [xl]
  by_cases h : n = k
  ·subst h; rw [if_pos rfl]; exact .inl ⟨v, by simp, rfl⟩
  ·rw [if_neg h]
   rcases ih with ⟨v', h1, h2⟩ | h1
   ·exact .inl ⟨v', by simp [h1], h2⟩
   ·exact .inr h1
theorem SimB.dfr {F : FC} {β : zk} {S : Nat → Nat → Prop} {st : ASt} {tm : Array Value} {w : World} (hs : SimB F β S st tm w) {m : Nat → Nat} {e : List (Nat × AV)} {os : List (Nat × AObj)} (hl : Lent st.objs m os os) (he : ∀ p ∈ e, st.env p.1 = p.2.ren m) (d : Deferred) :
  SimB (F.dfr (fun i => β (m i)) d) (fun i => β (m i)) S (.of e os) tm w := by
 refine ⟨hs.ext, hs.glob, hs.sub, hs.lt, fun id o b s i ho hb => hs.sep (m id) _ b s i (hl.obj ho) hb, fun id id' o o' b s s' ho ho' hb hb' => ?_, fun id o ho => ?_, fun n => ?_, hs.size.1, fun _ _ => rfl⟩
 ·have := hs.inj (m id) (m id') _ _ b s s' (hl.obj ho) (hl.obj ho') hb hb'
  exact hl.inj _ (vl ho) _ (vl ho') this
 ·rcases hs.obj (m id) _ (hl.obj ho) with ⟨hn, he⟩ | ⟨b', s', arr, e, hb', hw, hh, hz, hel⟩ | hm
  ·exact .inl ⟨hn, by simpa [AObj.ren] using he⟩
  ·refine .inr (.inl ⟨b', s', arr, e, hb', hw, hh, by simpa [AObj.ren] using hz, fun k x hx => ?_⟩)
   obtain ⟨h1, h2⟩ := hel k (x.ren m) (by simp [AObj.ren, hx])
   rw [z0c] at h1 h2
   exact ⟨by simpa [AObj.ren] using h1, MemC.ren.1 h2⟩
  ·obtain ⟨b, en, ck, ks, vs, h1, h2, h3, h4, h5⟩ := hm
   exact .inr (.inr ⟨b, en, ck, ks, vs, h1, h2, h3, z2g.1 h4, h5⟩)
 ·show RepA (fun i => β (m i)) S w (xl e n) _
  rcases zn5 (e := e) (n := n) with ⟨v, h1, h2⟩ | h1
  ·rw [h2, ← RepA.ren]
   have := hs.env n
   rw [he _ h1] at this
   exact this
  ·rw [h1]; simp [RepA]
theorem z3u {P : Program} {fn : Func} {tmps : Array Value} {R : Ending → World → Prop} {rest : List Deferred} : ∀ (Ds : List Nat) (w : World), Ds.Nodup → (∀ D ∈ Ds, w.heap[D]? = some (.deferred (some []))) → LeavesInM Fence.wide 0 P fn tmps R rest .returning (Av.shut Ds w) → LeavesInM Fence.wide 0 P fn tmps R (Ds.map z29 ++ rest) .returning w
 | [], w, _, _, h => h
 | D :: Ds, w, hn, hD, h => by
  refine ⟨by simp, .inl ⟨D, w.putObj D (.deferred none), rfl, run_takeDeferred (hD D (by simp)), ?_⟩⟩
  refine z3u Ds _ (List.nodup_cons.1 hn).2 (fun E hE => ?_) h
  have hne : E ≠ D := fun e => (List.nodup_cons.1 hn).1 (e ▸ hE)
  exact (World.putObj_heap_other hne).trans (hD E (by simp [hE]))
theorem zvk {F : FC} {β : zk} {S S' : Nat → Nat → Prop} {st : ASt} {tm : Array Value} {w w' : World} {fn : Func} {rs : List Dat} (hs' : SimB F β S' st tm w') (hw : F.w0 = w) (hM : ∀ b, ¬ F.M0 b) (hfrb : ∀ b, ¬ F.frb b) (hS : F.S0 = S) (h1 : (vn F st fn.results.toList).1) (h2 : Qf (vc st.objs 6) (vn F st fn.results.toList).2 = some rs) :
  ∃ v, (results fn tm).run F.P w' = .ok v w' ∧ ∃ v', Ending.returned v = .returned v' ∧ Ext (fun _ => False) w w' ∧ Q0 (fun b i => S b i ∨ (w.heap.size ≤ b ∧ b < w'.heap.size)) w' rs v' := by
 subst hw; subst hS
 obtain ⟨vs, hrun, hrep⟩ := Za hs' fn.results.toList h1
 have hkeep : Keeps (z06 st β S') (fun b i => F.S0 b i ∨ (F.w0.heap.size ≤ b ∧ b < w'.heap.size)) w' w' := Keeps.wider w' fun b i hA => by
  rcases hA with hA | ⟨id, o, s, ho, hb'⟩
  ·rcases hs'.sub b i hA with h | h | h
   ·exact .inl h
   ·exact .inr ⟨h, hs'.lt b i hA⟩
   ·exact (hfrb b h).elim
  ·rcases hs'.obj id o ho with ⟨hn', _⟩ | ⟨b2, s2, arr, e2, hb2, hw2, hh2, _⟩ | hm2
   rotate_left 2
   ·exact (hm2.place hb').1.elim (fun h => .inr ⟨h, (hm2.place hb').2⟩) (fun h => (hM b h).elim)
   ·rw [hn'] at hb'; cases hb'
   ·rw [hb2] at hb'
    simp only [Option.some.injEq, Prod.mk.injEq] at hb'
    obtain ⟨rfl, rfl⟩ := hb'
    rcases hw2 with h | h
    ·exact .inr ⟨h, (Array.getElem?_eq_some_iff.1 hh2).1⟩
    ·exact (hM _ h).elim
 have hext : Ext (fun _ => False) F.w0 w' := ⟨hs'.ext.os, hs'.ext.tape, hs'.ext.output, hs'.ext.size, fun k hk _ => hs'.ext.block k hk (hM k), hs'.ext.shape⟩
 have hm : (fn.results.mapM (z2j tm)).run F.P w' = .ok vs.toArray w' := by
  rw [Array.mapM_eq_mapM_toList, Sem.run_map, hrun]
  rfl
 have hRV := Xj (S1 := fun b i => F.S0 b i ∨ (F.w0.heap.size ≤ b ∧ b < w'.heap.size)) (fun x d hx v hr => RepX.mono hkeep d v ((Qs hs' 6 x d hx).1 v hr)) h2 hrep
 refine ⟨if h : vs.toArray.size = 1 then vs.toArray[0] else .tuple vs.toArray, ?_, _, rfl, hext, ?_⟩
 ·rw [Xk, Sem.run_bind, hm]
  rfl
 ·unfold Q0
  split
  ·rename_i r
   simp only [RepV] at hRV
   obtain ⟨v, vs', rfl, h3, h4⟩ := hRV
   subst h4
   simpa using h3
  ·rename_i hne
   have hl : vs.length = rs.length := by
    clear hm hrun hrep
    induction rs generalizing vs with
    | nil => simp [RepV] at hRV; simp [hRV]
    | cons d rs ih =>
     have hvl2 : ∀ {l : List Dat} {us : List Value}, RepV (fun b i => F.S0 b i ∨ (F.w0.heap.size ≤ b ∧ b < w'.heap.size)) w' l us → us.length = l.length := by
      intro l
      induction l with
      | nil => intro us h; simp [RepV] at h; simp [h]
      | cons d l ih =>
       intro us h
       simp only [RepV] at h
       obtain ⟨u, us', rfl, _, h2⟩ := h
       simp [ih h2]
     exact hvl2 hRV
   rw [dif_neg]
   ·exact ⟨vs.toArray, rfl, by simpa using hRV⟩
   ·intro h1
    simp at h1
    rw [hl] at h1
    obtain ⟨r, hr⟩ := List.length_eq_one_iff.1 h1
    exact hne r hr
def zc3 (F : FC) (res : List ResultVar) (gf : FuncId) (cs : List AV) (rs : List Dat) (u : FrameMode) (st : ASt) : Prop :=
 ∃ os os', LentX F st.objs (fun i => i) [] os os' ∧ (∀ c ∈ cs, ∃ i es o, c = .ptr i es 0 0 ∧ F.N ≤ i ∧ st.objs i = some o ∧ o.elems ≠ [] ∧ (∀ ks vs, o ≠ wg ks vs)) ∧ z4p F.P F.G gf cs os u os' ∧ settle (z6q u) = .returning ∧
  (vn F (st.backX (fun i => i) [] os os') res).1 ∧ Qf (vc (st.backX (fun i => i) [] os os').objs 6) (vn F (st.backX (fun i => i) [] os os') res).2 = some rs
def QD (F : FC) (res : List ResultVar) (gf : FuncId) (cs : List AV) (rs : List Dat) : Exit → ASt → Prop
 | .ret, st => zc3 F res gf cs rs .returning st
 | .panic ch, st => zc3 F res gf cs rs (.panicking ch) st
 | _, _ => False
theorem zll {F : FC} {β2 : zk} {S1 : Nat → Nat → Prop} {w1 : World} {tm1 : Array Value} {st1 : ASt} {d : Deferred} {gf : FuncId} {cs : List AV} {vs : Array Value} {fn : Func} {rs : List Dat} {u : FrameMode} (hu : u ≠ .run)
  (hd : d = { target := .fn (.func gf) vs, args := #[] }) (hpin : F.pin = β2) (h1 : SimB F β2 S1 st1 tm1 w1) (hcs : RepAL β2 S1 w1 cs vs.toList) {S : Nat → Nat → Prop} {w : World} (hw : F.w0 = w) (hM : ∀ b, ¬ F.M0 b) (hfrb : ∀ b, ¬ F.frb b) (hS : F.S0 = S)
  {β3 : zk} {S3 : Nat → Nat → Prop} {st3 : ASt} {tm3 : Array Value} {w3 : World} (h3 : SimB F β3 S3 st3 tm3 w3) (hq : zc3 F fn.results.toList gf cs rs u st3) :
  LeavesInM Fence.wide 0 F.P fn tm3 (fun e w' => ∃ v, e = .returned v ∧ Ext (fun _ => False) w w' ∧ Q0 (fun b i => S b i ∨ (w.heap.size ≤ b ∧ b < w'.heap.size)) w' rs v) [d] u w3 := by
 obtain ⟨os, os', hl, hc, hg, hset, hr1, hr2⟩ := hq
 obtain ⟨⟨fn', c', hfn, hbody, hname⟩, hos', hcalls⟩ := hg
 subst hd
 have hvs : RepAL β3 S3 w3 cs vs.toList := by
  have : ∀ {cs : List AV} {us : List Value}, (∀ c ∈ cs, ∃ i es o, c = .ptr i es 0 0 ∧ F.N ≤ i ∧ st3.objs i = some o ∧ o.elems ≠ [] ∧ (∀ ks vs, o ≠ wg ks vs)) → RepAL β2 S1 w1 cs us → RepAL β3 S3 w3 cs us := by
   intro cs
   induction cs with
   | nil => intro us _ h; simpa [RepAL] using h
   | cons c cs ih =>
    intro us hc h
    simp only [RepAL] at h ⊢
    obtain ⟨v, vs', rfl, g1, g2⟩ := h
    refine ⟨v, vs', rfl, ?_, ih (fun c hc' => hc c (by simp [hc'])) g2⟩
    obtain ⟨i, es, o, rfl, hi, ho, hne, hnm⟩ := hc c (by simp)
    simp only [RepA] at g1 ⊢
    obtain ⟨b, s, g3, g4, _⟩ := g1
    have g5 : β3 i = some (b, s) := by rw [h3.size.2 i hi, hpin]; exact g3
    refine ⟨b, s, g5, g4, ?_⟩
    rcases h3.obj i o ho with ⟨hn, _⟩ | ⟨b', s', arr, e, hb', _, hh, _⟩ | ⟨b', en, ck, ks, vs, _, _, _, ho', _⟩
    ·rw [hn] at g5; cases g5
    ·rw [hb'] at g5
     simp only [Option.some.injEq, Prod.mk.injEq] at g5
     exact ⟨arr, e, g5.1 ▸ hh⟩
    ·exact (hnm ks vs ho').elim
  exact this hc hcs
 have hlent := h3.lent hl.lent
 refine ⟨hu, .inr ⟨by simp [Fence.wide], .func gf, vs, gf, vs, rfl, ?_, fun _ _ => trivial, ?_⟩⟩
 ·have hn' : ¬ fn'.name = "runtime.NumGoroutine" := by simpa using hname
  simp [invoke, callFunc, hfn, hn', hbody]
 ·refine (hcalls w3 β3 S3 vs hlent hvs).mono fun e u' w4 h => ?_
  obtain ⟨v, β4, S4, rfl, rfl, hS4, hp4, h4⟩ := h
  show LeavesInM Fence.wide 0 F.P fn tm3 _ [] (settle (z6q u)) w4
  rw [hset]
  obtain ⟨_, h5⟩ := h3.repaidX (β' := β4) hl hS4 hos' (fun i hi => hp4 i hi) h4
  exact zvk h5 hw hM hfrb hS hr1 hr2
theorem zei {P : Program} {G : List (Nat × Dat)} {f : FuncId} {fn : Func} {rest : Code} {args rs : List Dat} {id0 id1 t ty0 ty1 : Nat} {l0 : List Oper} {gf : FuncId} {cap : Array Operand} {p0 p1 : String} {a0 e1 : Array Edge} (rows lits apps : List Nat) (hf : P.funcs[f]? = some fn)
  (hb : fn.body = some (.seq (.region id0 l0.toArray false) (.seq (.region id1 #[⟨some t, .makeFunc (.func gf) #[] cap, ty0, p0, a0, none⟩, ⟨none, .defer ⟨.value (.tmp t), #[], #[]⟩, ty1, p1, e1, none⟩] false) rest))) (hname : (fn.name == "runtime.NumGoroutine") = false) (hn : args.length ≤ fn.ntmps) (ht : t < fn.ntmps)
  {e0 e2 : List (Nat × AV)} {o0 os2 : List (Nat × AObj)} (m : Nat → Nat) (cs : List AV)
  (h0 : ∀ F : FC, F.P = P → F.G = G → F.N = fn.ntmps → (F.rows = rows ∧ F.lits = lits ∧ F.apps = apps ∧ TopF F) → AWp F (.region id0 l0.toArray false) (fun ex st => ex = .normal ∧ st = .of e0 o0) (.init args))
  (hcap : cap.toList.map (evA (xl e0)) = renL m cs) (hl : Lent (qm o0) m os2 os2) (he : ∀ p ∈ e2, p.1 ≠ t ∧ xl e0 p.1 = p.2.ren m)
  (h : ∀ F : FC, F.P = P → F.G = G → F.N = fn.ntmps → (F.rows = rows ∧ F.lits = lits ∧ F.apps = apps ∧ TopF F) → AWp F rest (QD F fn.results.toList gf cs rs) (.of e2 os2)) : zo P G f args rs := by
 refine ⟨⟨fn, _, hf, hb, hname⟩, fun w S vals hlt hg hv => ?_⟩
 let F : FC := ⟨P, fn.ntmps, G, w, fun _ => False, S, rows, lits, apps, fun _ => none, none, [], w.heap.size, fun _ => False, []⟩
 have hvl : ∀ {l : List Dat} {us : List Value}, RepV S w l us → us.length = l.length ∧ ∀ (i : Nat) (d : Dat), l[i]? = some d → ∃ v, us[i]? = some v ∧ RepX S w d v := by
  intro l
  induction l with
  | nil => intro us h; simp [RepV] at h; subst h; simp
  | cons d l ih =>
   intro us h
   simp only [RepV] at h
   obtain ⟨u, us', rfl, h1, h2⟩ := h
   obtain ⟨h3, h4⟩ := ih h2
   refine ⟨by simp [h3], fun i d' hd => ?_⟩
   cases i with
   | zero => simp at hd; subst hd; exact ⟨u, by simp, h1⟩
   | succ i => simpa using h4 i d' (by simpa using hd)
 obtain ⟨hlen, hget⟩ := hvl hv
 have hsim : SimB F (fun _ => none) S (.init args) (vals ++ Array.replicate (fn.ntmps - vals.size) undef) w := by
  refine ⟨Ext.refl _ _, fun p hp => ⟨(hg p hp).1, fun f => f, (hg p hp).2⟩, fun b i h => .inl h, hlt, fun _ _ _ _ _ h => by simp [ASt.init] at h, fun _ _ _ _ _ _ _ h => by simp [ASt.init] at h, fun _ _ h => by simp [ASt.init] at h, fun n => ?_, ⟨by simp [F]; omega, fun _ _ => rfl⟩⟩
  simp only [ASt.init, zgs]
  split
  ·rename_i d hd
   obtain ⟨v, hv', hr⟩ := hget n d hd
   have hnl : n < vals.size := by have := (List.getElem?_eq_some_iff.1 hv').1; simpa using this
   have hv2 : vals[n]? = some v := by simpa using hv'
   simp only [RepA, Array.getD_eq_getD_getElem?]
   rw [Array.getElem?_append_left hnl, hv2]
   exact hr
  ·simp [RepA]
 refine callsIn_wide.1 (callsIn_of_wp_marks (n := 0) hf hb trivial ?_)
 refine wpIn_seq (wpIn_mono (h0 F rfl rfl rfl ⟨rfl, rfl, rfl, fun _ h => h.elim, rfl⟩ { tmps := vals ++ Array.replicate (fn.ntmps - vals.size) undef, defers := [] } w ⟨⟨rfl, .nil rfl⟩, _, S, hsim⟩) ?_)
 rintro ex a1 w1 ⟨st, ⟨hex, hst⟩, hsx⟩
 subst hex; subst hst
 obtain ⟨⟨hd1, hds⟩, β1, S1, hs1⟩ := hsx
 refine wpIn_seq (wpIn_region_lit ?_)
 -- the closure, and that it is deferred
 have hcs : RepAL (fun i => β1 (m i)) S1 w1 cs (cap.map a1.eval).toList := by
  rw [← RepAL.ren, ← hcap, Array.toList_map]
  exact jt cap.toList fun x _ => qc (a := a1) hs1.env x
 have hr1 : (execOp a1.eval (⟨some t, .makeFunc (.func gf) #[] cap, ty0, p0, a0, none⟩ : Oper)).run P w1 = .ok (.value (.func (.func gf) #[] (cap.map a1.eval))) w1 := by
  simp [execOp, Instr.makeFunc]
 unfold wpListIn
 rw [if_pos (show Region.wanted _ _ = true from rfl)]
 refine Zw (F := F) hr1 ?_
 unfold wpListIn
 rw [if_pos (show Region.wanted _ _ = true from rfl)]
 have hsz : t < a1.tmps.size := Nat.lt_of_lt_of_le ht hs1.size.1
 have hev : (a1.put (some t) (.func (.func gf) #[] (cap.map a1.eval))).eval (.tmp t) = .func (.func gf) #[] (cap.map a1.eval) := by
  simp [Act.put, Act.eval, Array.getD_eq_getD_getElem?, Array.getElem?_setIfInBounds, hsz]
 have hr2 : (execOp (a1.put (some t) (.func (.func gf) #[] (cap.map a1.eval))).eval (⟨none, .defer ⟨.value (.tmp t), #[], #[]⟩, ty1, p1, e1, none⟩ : Oper)).run P w1 = .ok (.defer { target := .fn (.func gf) (cap.map a1.eval), args := #[] }) w1 := by
  simp [execOp, resolve, hev, Deferred.ofValue]
 refine ⟨fun _ _ => trivial, ?_⟩
 show Oper.uponIn Fence.wide 0 P _ (a1.put (some t) (.func (.func gf) #[] (cap.map a1.eval))) _ _ ((execOp (a1.put (some t) (.func (.func gf) #[] (cap.map a1.eval))).eval (⟨none, .defer ⟨.value (.tmp t), #[], #[]⟩, ty1, p1, e1, none⟩ : Oper)).run P w1)
 rw [hr2, Oper.uponIn_defer]
 unfold wpListIn
 -- the rest
 generalize hd : ({ target := .fn (.func gf) (cap.map a1.eval), args := #[] } : Deferred) = d
 have hs2 := hs1.put (d := t) (v := .func (.func gf) #[] (cap.map a1.eval)) (x := .junk) ht (by simp [RepA])
 rw [ww] at hs2
 have hs3 := hs2.dfr (m := m) (e := e2) (os := os2) hl (fun p hp => by
  obtain ⟨g1, g2⟩ := he p hp
  show (if p.1 = t then AV.junk else xl e0 p.1) = _
  rw [if_neg g1, g2]) d
 have hdef : a1.defers = [] := hd1
 refine wpIn_mono (h (F.dfr (fun i => β1 (m i)) d) rfl rfl rfl ⟨rfl, rfl, rfl, fun _ h => h.elim, rfl⟩ _ w1 ⟨⟨?_, .nil rfl⟩, _, S1, hs3⟩) ?_
 ·simp [Act.put, FC.dfr, hdef]
 ·rintro e a3 w3 ⟨st3, hq, hsx⟩
  cases e <;> try exact hq.elim
  ·obtain ⟨Ds, w4, hds, hnd, hDs, hw', β3, S3, hs4⟩ := SimR.shut hsx rfl
   show LeavesInM Fence.wide 0 P fn a3.tmps _ a3.defers .returning w3
   rw [hds]
   refine z3u Ds w3 hnd hDs ?_
   rw [← hw']
   exact zll (by simp) hd.symm rfl hs3 hcs rfl (fun _ h => h) (fun _ h => h) rfl hs4 hq
  ·obtain ⟨⟨hds, _⟩, β3, S3, hs4⟩ := hsx
   show LeavesInM Fence.wide 0 P fn a3.tmps _ a3.defers (.panicking _) w3
   rw [hds]
   exact zll (by simp) hd.symm rfl hs3 hcs rfl (fun _ h => h) (fun _ h => h) rfl hs4 hq
theorem zet {F : FC} {o : Oper} {st : ASt} {d : Nat} {t t' : TypeId} {x : Operand} {v : Value} {i : TI} (b : Bool) (ho : o.op = .binOp .neq t x (.const .nilIface) t') (hdst : o.dst = some d) (hd : d < F.N) (ht : ti F.P t = some i) (hk : i.tk = .iface) (hx : evA st.env x = .raw v) (hv : (v = .nilIface ∧ b = false) ∨ ∃ k u, v = .iface k u ∧ b = true) :
  StepOK F o st (st.put (some d) (.dat (.bool b))) := by
 refine StepOK.of_value (st1 := st) (by rw [hdst]; exact hd) (by rw [hdst]) fun β S a w hsim => ?_
 obtain ⟨_, u1, _, hu1, _, _, _, hk1⟩ := ti_info ht
 rw [hk] at hk1
 obtain ⟨ms, rfl⟩ : ∃ ms, u1 = .interface ms := by
  cases u1 <;> simp [z1l] at hk1
  exact ⟨_, rfl⟩
 have hr := qc (a := a) hsim.env x
 rw [hx] at hr
 simp only [RepA] at hr
 have hun := run_underlying hu1 w
 refine ⟨.bool b, w, β, S, ?_, by simp [RepA, RepX], hsim⟩
 rcases hv with ⟨rfl, rfl⟩ | ⟨k, u, rfl, rfl⟩
 ·have h1 : eqGuard .neq t x (.const .nilIface) .nilIface .nilIface = pure () := by cases x <;> rfl
  have h2 : binOp .neq t .nilIface .nilIface = (do pure (Value.bool (!(← Op.equal t .nilIface .nilIface)))) := rfl
  have h3 : (Op.equal t .nilIface .nilIface).run F.P w = .ok true w := by
   show (Op.equalIn Op.maxDepth t .nilIface .nilIface).run F.P w = _
   rw [show Op.maxDepth = (Op.maxDepth - 1) + 1 from rfl, Op.equalIn, Sem.run_bind, hun]
   rfl
  unfold execOp
  rw [ho]
  simp only [hr.1, show a.eval (.const .nilIface) = .nilIface from rfl, h1, h2, Sem.run_bind, Sem.run_pure, Result.andThen_ok, h3]
  rfl
 ·have h1 : eqGuard .neq t x (.const .nilIface) (.iface k u) .nilIface = pure () := rfl
  have h2 : binOp .neq t (.iface k u) .nilIface = (do pure (Value.bool (!(← Op.equal t (.iface k u) .nilIface)))) := rfl
  have h3 : (Op.equal t (.iface k u) .nilIface).run F.P w = .ok false w := by
   show (Op.equalIn Op.maxDepth t (.iface k u) .nilIface).run F.P w = _
   rw [show Op.maxDepth = (Op.maxDepth - 1) + 1 from rfl, Op.equalIn, Sem.run_bind, hun]
   rfl
  unfold execOp
  rw [ho]
  simp only [hr.1, show a.eval (.const .nilIface) = .nilIface from rfl, h1, h2, Sem.run_bind, Sem.run_pure, Result.andThen_ok, h3]
  rfl
theorem zc6 {F : FC} {o : Oper} {st : ASt} {d : Nat} {t a : TypeId} {x : Operand} {v : Value} {i : TI} {dv : Dat} (ho : o.op = .typeAssert x t a true) (hdst : o.dst = some d) (hd : d < F.N) (ht : ti F.P a = some i) (hk : i.tk ≠ .iface) (hx : evA st.env x = .raw (.iface a v)) (hv : ∀ S w, RepX S w dv v) :
  StepOK F o st (st.put (some d) (.tup [.dat dv, .dat (.bool true)])) := by
 refine StepOK.of_value (st1 := st) (by rw [hdst]; exact hd) (by rw [hdst]) fun β S ac w hsim => ?_
 obtain ⟨_, u1, _, hu1, _, _, _, hk1⟩ := ti_info ht
 have hni : ∀ m, u1 ≠ .interface m := fun m hm => by subst hm; exact hk (hk1.trans rfl)
 have hr := qc (a := ac) hsim.env x
 rw [hx] at hr
 simp only [RepA] at hr
 have hun := run_underlying hu1 w
 refine ⟨.tuple #[v, .bool true], w, β, S, ?_, ?_, hsim⟩
 ·simp only [execOp, ho, hr.1, Instr.typeAssert, Sem.run_bind, hun, Result.andThen_ok]
  cases u1 <;> simp_all
 ·simp only [RepA]
  exact ⟨#[v, .bool true], rfl, by simp only [RepAL]; exact ⟨v, _, rfl, by simp only [RepA]; exact hv S w, ⟨.bool true, _, rfl, by simp [RepA, RepX], rfl⟩⟩⟩
theorem z3a {D : Nat → Bool} {base : Nat → Option AObj} {i n : Nat} : ∀ {l : List (Nat × Nat × Option AObj)}, (∀ o, (i, n, o) ∉ l) → Xb (xn D i) base l n = Xb D base l n
 | [], _ => rfl
 | (j, c, u) :: l, h => by
  have ih := z3a (D := D) (base := base) (i := i) (n := n) (l := l) fun o ho => h o (List.mem_cons_of_mem _ ho)
  simp only [Xb, ih]
  by_cases hc : n = c
  ·have hj : j ≠ i := fun e => h u (by rw [← e, hc]; exact List.mem_cons_self)
   simp [xn, hj]
  ·simp [hc]
def za7 (D : Nat → Bool) (i id : Nat) (o : Option AObj) : List (Nat × Nat × Option AObj) → Prop
 | [] => False
 | (j, c, u) :: l => (j = i ∧ c = id ∧ u = o) ∨ ((c ≠ id ∨ (j ≠ i ∧ D j = false)) ∧ za7 D i id o l)
theorem z3b {D : Nat → Bool} {base : Nat → Option AObj} {i id : Nat} {o : Option AObj} : ∀ {l : List (Nat × Nat × Option AObj)}, za7 D i id o l → Xb (xn D i) base l id = o
 | [], h => h.elim
 | (j, c, u) :: l, h => by
  rcases h with ⟨rfl, rfl, rfl⟩ | ⟨h1, h2⟩
  ·simp [Xb, xn]
  ·have ih := z3b (base := base) h2
   simp only [Xb, ih]
   rcases h1 with h1 | ⟨h1, h3⟩
   ·rw [if_neg fun hc => h1 hc.1.symm]
   ·rw [if_neg]
    rintro ⟨_, hc⟩
    simp [xn, h1, h3] at hc
def zqa (l : List Oper) (es : List (Nat × Nat)) (is : List Nat) : Bool :=
 (List.range l.length).all (fun i => match l[i]? with | some o => o.after.toList.all fun e => !Region.binds .any e || decide (e.on < i) | none => true) &&
 z00 (fun a b => a != b) (es.map (·.2)) && z00 (fun a b => a != b) (es.map (·.1)) && es.all (fun p => decide (p.1 < l.length)) && is.all (fun i => decide (i < l.length))
theorem zy9 {l : List Oper} {evs : List (Nat × Nat × AV)} {is : List Nat} (h : zqa l (evs.map fun p => (p.1, p.2.1)) is = true) : OkJ evs := by
 unfold zqa at h
 simp only [Bool.and_eq_true] at h
 obtain ⟨⟨⟨⟨_, h1⟩, h2⟩, _⟩, _⟩ := h
 have e1 : (evs.map fun p => (p.1, p.2.1)).map (·.2) = evs.map (·.2.1) := by simp
 have e2 : (evs.map fun p => (p.1, p.2.1)).map (·.1) = evs.map (·.1) := by simp
 rw [e1] at h1; rw [e2] at h2
 exact ⟨(vy h1).imp fun {a b} h => by simpa using h, (vy h2).imp fun {a b} h => by simpa using h⟩
theorem StepG.of {F : FC} {ops : Array Oper} {o : Oper} {st st' : ASt} (hg : o.guard = none) (h : StepOK F o st st') : StepG F ops o st st' := by
 unfold StepG; rw [hg]; exact h
def FOp (F : FC) (l : List Oper) (evs : List (Nat × Nat × AV)) (ovs : List (Nat × Nat × Option AObj)) (st : ASt) (i : Nat) (o : Oper) : Prop :=
 l[i]? = some o → OkJ evs → ∀ D : Nat → Bool, D i = false → (∀ e ∈ o.after.toList, Region.binds .any e = true → D e.on = true) → js l.toArray D → StepG F l.toArray o (eD evs ovs st D) (eD evs ovs st (xn D i))
def FOps (F : FC) (l : List Oper) (evs : List (Nat × Nat × AV)) (ovs : List (Nat × Nat × Option AObj)) (st : ASt) : Nat → List Oper → Prop
 | _, [] => True
 | i, o :: r => FOp F l evs ovs st i o ∧ FOps F l evs ovs st (i + 1) r
theorem FOps.get {F : FC} {l : List Oper} {evs : List (Nat × Nat × AV)} {ovs : List (Nat × Nat × Option AObj)} {st : ASt} : ∀ {r : List Oper} {k i : Nat} {o : Oper}, FOps F l evs ovs st k r → r[i]? = some o → FOp F l evs ovs st (k + i) o
 | [], _, _, _, _, h => by simp at h
 | x :: r, k, i, o, hj, h => by
  cases i with
  | zero => simp at h; subst h; exact hj.1
  | succ i => rw [show k + (i + 1) = k + 1 + i by omega]; exact FOps.get hj.2 (by simpa using h)
theorem zzy {F : FC} (ns ids : List Nat) (evs : List (Nat × Nat × AV)) (ovs : List (Nat × Nat × Option AObj)) {e : List (Nat × AV)} {o : List (Nat × AObj)} {l : List Oper} {id : Nat} {Q : Exit → ASt → Prop} {st : ASt}
  (hs : FOps F l evs ovs st 0 l) (k : Q .normal (.of e o)) (hm : F.P.follows .mixedOrders = true := by rw [hP]; kernel_rfl)
  (hc : zqa l (evs.map fun p => (p.1, p.2.1)) (ovs.map (·.1)) = true := by kernel_rfl)
  (hk : Kept ns ids e o (eD evs ovs st fun _ => true) := by
    simp (maxSteps := 2000000) (disch := omega) only [qq, avA, zl, zp, seval, hE, Z3]
    exact ⟨rfl, rfl⟩) : AWp F (.region id l.toArray true) Q st := fun a w hs' => by
 have hok := zy9 hc
 unfold zqa at hc
 simp only [Bool.and_eq_true] at hc
 obtain ⟨⟨⟨⟨h2, _⟩, _⟩, h5⟩, h6⟩ := hc
 refine wpIn_mono (zkm (Q := fun ex st' => ex = Exit.normal ∧ st' = eD evs ovs st fun _ => true) (eD evs ovs st) hm h2 (fun D i o' ho hD hdep hcd => by have := hs.get ho; rw [Nat.zero_add] at this; exact this ho hok D hD hdep hcd) (fun D hD => Le.eq (zkx (fun p hp => hD _ ?_) (fun p hp => hD _ ?_)).symm) ⟨rfl, rfl⟩ a w hs') fun ex a' w' ⟨st', ⟨g1, g2⟩, hs'⟩ => ?_
 ·simpa using List.all_eq_true.1 h5 (p.1, p.2.1) (List.mem_map.2 ⟨p, hp, rfl⟩)
 ·simpa using List.all_eq_true.1 h6 p.1 (List.mem_map.2 ⟨p, hp, rfl⟩)
 ·subst g1; subst g2
  refine ⟨.of e o, k, ?_⟩
  have := Le.keep F (eD evs ovs st fun _ => true) ns ids a' w' hs'
  unfold ASt.keep at this
  rw [hk.1, hk.2] at this
  exact this
theorem WDF {F : FC} (ns ids : List Nat) (evs : List (Nat × Nat × AV)) (ovs : List (Nat × Nat × Option AObj)) {e : List (Nat × AV)} {o : List (Nat × AObj)} {l : List Oper} {id : Nat} {y : Code} {Q : Exit → ASt → Prop} {st : ASt}
  (hs : FOps F l evs ovs st 0 l) (k : AWp F y Q (.of e o)) (hm : F.P.follows .mixedOrders = true := by rw [hP]; kernel_rfl)
  (hc : zqa l (evs.map fun p => (p.1, p.2.1)) (ovs.map (·.1)) = true := by kernel_rfl)
  (hk : Kept ns ids e o (eD evs ovs st fun _ => true) := by
    simp (maxSteps := 2000000) (disch := omega) only [qq, avA, zl, zp, seval, hE, Z3]
    exact ⟨rfl, rfl⟩) : AWp F (.seq (.region id l.toArray true) y) Q st := z6 (zzy (Q := zif F y Q) ns ids evs ovs hs k hm hc hk)
theorem zec {evs : List (Nat × Nat × AV)} {ovs : List (Nat × Nat × Option AObj)} {st : ASt} {D : Nat → Bool} {i d : Nat} {v : AV} (h : (i, d, v) ∈ evs) (h1 : OkJ evs) (h3 : ovs.all (fun p => p.1 != i || [].contains p.2.1) = true) :
  (eD evs ovs st D).put (some d) v = eD evs ovs st (xn D i) := by
 unfold eD ASt.put
 simp only [envD_add (D := D) (base := st.env) h h1.1 h1.2]
 congr 1
 funext n
 exact (z3a (fun o => Xc h3 (by simp) o)).symm
theorem zqo {evs : List (Nat × Nat × AV)} {ovs : List (Nat × Nat × Option AObj)} {st : ASt} {D : Nat → Bool} {i d id : Nat} {v : AV} {o : AObj} (h : (i, d, v) ∈ evs) (h1 : OkJ evs) (h' : za7 D i id (some o) ovs) (h3 : ovs.all (fun p => p.1 != i || [id].contains p.2.1) = true) :
  ((eD evs ovs st D).obj id o).put (some d) v = eD evs ovs st (xn D i) := by
 unfold eD ASt.obj ASt.put
 simp only [envD_add (D := D) (base := st.env) h h1.1 h1.2]
 congr 1
 funext n
 simp only [q9]
 split
 ·rename_i hn; subst hn; exact (z3b h').symm
 ·rename_i hn; exact (z3a (fun o => Xc h3 (by simpa using hn) o)).symm
theorem zu3 {evs : List (Nat × Nat × AV)} {ovs : List (Nat × Nat × Option AObj)} {st : ASt} {D : Nat → Bool} {i d id old : Nat} {v : AV} {o : AObj} (hno : old ≠ id) (h : (i, d, v) ∈ evs) (h1 : OkJ evs) (h' : za7 D i id (some o) ovs) (h'' : za7 D i old none ovs) (h3 : ovs.all (fun p => p.1 != i || [id, old].contains p.2.1) = true) :
  (((eD evs ovs st D).drop old).obj id o).put (some d) v = eD evs ovs st (xn D i) := by
 unfold eD ASt.drop ASt.obj ASt.put
 simp only [envD_add (D := D) (base := st.env) h h1.1 h1.2]
 congr 1
 funext n
 simp only [q9]
 split
 ·rename_i hn; subst hn; exact (z3b h').symm
 ·rename_i hn
  split
  ·rename_i hn'; subst hn'; exact (z3b h'').symm
  ·rename_i hn'
   exact (z3a (fun o => Xc h3 (by simp [hn, hn']) o)).symm
section
variable {F : FC} {l : List Oper} {evs : List (Nat × Nat × AV)} {ovs : List (Nat × Nat × Option AObj)} {st : ASt} {i : Nat} {o : Oper}
theorem FV (k : Nat) (ancs descs : List Nat) {d : Nat} {v : AV} (hv : evs[k]? = some (i, d, v) := by rfl) (hno : ovs.all (fun p => p.1 != i || [].contains p.2.1) = true := by kernel_rfl) (hb : z1r l i ancs descs = true := by kernel_rfl) (hg : o.guard = none := by rfl)
  (h : ∀ D : Nat → Bool, v9 D ancs → NoD D (i :: descs) → zi F #[] [o] (eD evs ovs st D) (fun s => s = (eD evs ovs st D).put (some d) v) := by
    intro D hA1 hA2
    simp only [v9, NoD] at hA1 hA2
    simp (maxSteps := 2000000) (disch := omega) only [qq, avA, zl, zp, seval, ↓List.forall_mem_cons, Op.operands, hA, tiA, hE, Z3, hA1, hA2]
    all_goals exact SC) : FOp F l evs ovs st i o := fun ho hok D hD hdep hcd => by
 obtain ⟨h1, h2⟩ := y0 hb ho hD hdep hcd
 rw [← zec (i := i) (d := d) (v := v) (List.mem_of_getElem? hv) hok hno]
 exact .of hg (xa hg (h D h1 h2))
theorem FA (k k' k'' : Nat) (ancs descs : List Nat) {d id old : Nat} {v : AV} {ob : AObj} (hv : evs[k]? = some (i, d, v) := by rfl) (hv' : ovs[k']? = some (i, id, some ob) := by rfl) (hv'' : ovs[k'']? = some (i, old, none) := by rfl) (hne : old ≠ id := by decide) (h3 : ovs.all (fun p => p.1 != i || [id, old].contains p.2.1) = true := by kernel_rfl) (hb : z1r l i ancs descs = true := by kernel_rfl) (hg : o.guard = none := by rfl)
  (hO : ∀ D : Nat → Bool, v9 D ancs → NoD D (i :: descs) → za7 D i id (some ob) ovs := by
    intro D hA1 hA2
    simp only [v9, NoD] at hA1 hA2
    simp [za7, hA1, hA2])
  (hO' : ∀ D : Nat → Bool, v9 D ancs → NoD D (i :: descs) → za7 D i old none ovs := by
    intro D hA1 hA2
    simp only [v9, NoD] at hA1 hA2
    simp [za7, hA1, hA2])
  (hfix : ∀ D : Nat → Bool, v9 D ancs → NoD D (i :: descs) → z8m id (eD evs ovs st D))
  (h : ∀ D : Nat → Bool, v9 D ancs → NoD D (i :: descs) → zi F #[] [o] (eD evs ovs st D) (fun s => s = (((((eD evs ovs st D).drop old).kill id).obj id ob).put (some d) v))) : FOp F l evs ovs st i o := fun ho hok D hD hdep hcd => by
 obtain ⟨h1, h2⟩ := y0 hb ho hD hdep hcd
 rw [← zu3 (i := i) (d := d) (v := v) (id := id) (o := ob) hne (List.mem_of_getElem? hv) hok (hO D h1 h2) (hO' D h1 h2) h3, ← z27 (zcp (hfix D h1 h2))]
 exact .of hg (xa hg (h D h1 h2))
theorem FN (k k' : Nat) (ancs descs : List Nat) {d id : Nat} {v : AV} {ob : AObj} (hv : evs[k]? = some (i, d, v) := by rfl) (hv' : ovs[k']? = some (i, id, some ob) := by rfl) (h3 : ovs.all (fun p => p.1 != i || [id].contains p.2.1) = true := by kernel_rfl) (hb : z1r l i ancs descs = true := by kernel_rfl) (hg : o.guard = none := by rfl)
  (hO : ∀ D : Nat → Bool, v9 D ancs → NoD D (i :: descs) → za7 D i id (some ob) ovs := by
    intro D hA1 hA2
    simp only [v9, NoD] at hA1 hA2
    simp [za7, hA1, hA2])
  (hfix : ∀ D : Nat → Bool, v9 D ancs → NoD D (i :: descs) → z8m id (eD evs ovs st D))
  (h : ∀ D : Nat → Bool, v9 D ancs → NoD D (i :: descs) → zi F #[] [o] (eD evs ovs st D) (fun s => s = (((eD evs ovs st D).kill id).obj id ob).put (some d) v)) : FOp F l evs ovs st i o := fun ho hok D hD hdep hcd => by
 obtain ⟨h1, h2⟩ := y0 hb ho hD hdep hcd
 rw [← zqo (i := i) (d := d) (v := v) (id := id) (o := ob) (List.mem_of_getElem? hv) hok (hO D h1 h2) h3, ← z27 (hfix D h1 h2)]
 exact .of hg (xa hg (h D h1 h2))
theorem FG (k : Nat) (ancs descs : List Nat) {d j : Nat} {want : Bool} {v : AV} (hv : evs[k]? = some (i, d, v) := by rfl) (hno : ovs.all (fun p => p.1 != i || [].contains p.2.1) = true := by kernel_rfl) (hb : z1r l i ancs descs = true := by kernel_rfl) (hg : o.guard = some (j, want) := by rfl)
  (hw : ∀ D : Nat → Bool, v9 D ancs → NoD D (i :: descs) → wb l.toArray (eD evs ovs st D).env j want = some true := by
    intro D hA1 hA2
    simp only [v9, NoD] at hA1 hA2
    simp (maxSteps := 2000000) (disch := omega) only [qq, avA, zl, zp, seval, ↓List.forall_mem_cons, Op.operands, hA, tiA, hE, Z3, hA1, hA2]
    all_goals exact rfl)
  (h : ∀ D : Nat → Bool, v9 D ancs → NoD D (i :: descs) → zi F #[] [{ o with guard := none }] (eD evs ovs st D) (fun s => s = (eD evs ovs st D).put (some d) v) := by
    intro D hA1 hA2
    simp only [v9, NoD] at hA1 hA2
    simp (maxSteps := 2000000) (disch := omega) only [qq, avA, zl, zp, seval, ↓List.forall_mem_cons, Op.operands, hA, tiA, hE, Z3, hA1, hA2]
    all_goals exact SC) : FOp F l evs ovs st i o := fun ho hok D hD hdep hcd => by
 obtain ⟨h1, h2⟩ := y0 hb ho hD hdep hcd
 rw [← zec (i := i) (d := d) (v := v) (List.mem_of_getElem? hv) hok hno]
 unfold StepG
 rw [hg]
 exact .inl ⟨hw D h1 h2, zp5 (o := o) (h D h1 h2)⟩
theorem FVc (k : Nat) (ancs descs : List Nat) {d : Nat} {v : AV} (hv : evs[k]? = some (i, d, v) := by rfl) (hno : ovs.all (fun p => p.1 != i || [].contains p.2.1) = true := by kernel_rfl) (hb : z1r l i ancs descs = true := by kernel_rfl) (hg : o.guard = none := by rfl)
  (h : ∀ D : Nat → Bool, v9 D ancs → NoD D (i :: descs) → zi F #[] [o] (eD evs ovs st D) (fun s => s = (eD evs ovs st D).put (some d) v) := by
    intro D hA1 hA2
    simp only [v9, NoD] at hA1 hA2
    simp (maxSteps := 2000000) (disch := omega) only [qq, avA, zl, zp, seval, ↓List.forall_mem_cons, Op.operands, hA, tiA, hE, Z3, hA1, hA2]
    (repeat' refine And.intro ?_ ?_) <;> try exact SD
    refine CallC.use hc rfl ?_
    try simp (maxSteps := 2000000) (disch := omega) only [qq, avA, zl, zp, seval, ↓List.forall_mem_cons, Op.operands, hA, tiA, hE, Z3, hA1, hA2]
    all_goals exact SC) : FOp F l evs ovs st i o := FV k ancs descs hv hno hb hg h
theorem FGc (k : Nat) (ancs descs : List Nat) {d j : Nat} {want : Bool} {v : AV} (hv : evs[k]? = some (i, d, v) := by rfl) (hno : ovs.all (fun p => p.1 != i || [].contains p.2.1) = true := by kernel_rfl) (hb : z1r l i ancs descs = true := by kernel_rfl) (hg : o.guard = some (j, want) := by rfl)
  (hw : ∀ D : Nat → Bool, v9 D ancs → NoD D (i :: descs) → wb l.toArray (eD evs ovs st D).env j want = some true := by
    intro D hA1 hA2
    simp only [v9, NoD] at hA1 hA2
    simp (maxSteps := 2000000) (disch := omega) only [qq, avA, zl, zp, seval, ↓List.forall_mem_cons, Op.operands, hA, tiA, hE, Z3, hA1, hA2]
    all_goals exact rfl)
  (h : ∀ D : Nat → Bool, v9 D ancs → NoD D (i :: descs) → zi F #[] [{ o with guard := none }] (eD evs ovs st D) (fun s => s = (eD evs ovs st D).put (some d) v) := by
    intro D hA1 hA2
    simp only [v9, NoD] at hA1 hA2
    simp (maxSteps := 2000000) (disch := omega) only [qq, avA, zl, zp, seval, ↓List.forall_mem_cons, Op.operands, hA, tiA, hE, Z3, hA1, hA2]
    (repeat' refine And.intro ?_ ?_) <;> try exact SD
    refine CallC.use hc rfl ?_
    try simp (maxSteps := 2000000) (disch := omega) only [qq, avA, zl, zp, seval, ↓List.forall_mem_cons, Op.operands, hA, tiA, hE, Z3, hA1, hA2]
    all_goals exact SC) : FOp F l evs ovs st i o := FG k ancs descs hv hno hb hg hw h
end
theorem z2p {P : Program} {w : World} {e : TypeId} {k k' : IntKind} (h2 : P.underlying e = some (.int k)) (d : Nat) (a b : List Int) : ∀ (m s : Nat), s + m ≤ a.length → s + m ≤ b.length →
  Sem.run P (forIn (List.range' s m) ((none : Option Bool), ()) fun i __s => do
      let __do_lift ← part e (List.map (Value.int k') a).toArray i
      let __do_lift_1 ← part e (List.map (Value.int k') b).toArray i
      let __do_lift ← Op.equalIn (d + 1) e __do_lift __do_lift_1
      if __do_lift = false then pure (ForInStep.done (some false, ())) else pure (ForInStep.yield (none, ()))) w = .ok (if (a.drop s).take m == (b.drop s).take m then (none, ()) else (some false, ())) w
 | 0, s, _, _ => by simp
 | m + 1, s, h1, h3 => by
  have ih := z2p (w := w) (k' := k') h2 d a b m (s + 1) (by omega) (by omega)
  have ea : (List.map (Value.int k') a).toArray[s]? = some (.int k' (a[s]'(by omega))) := by simp [List.getElem?_eq_getElem (show s < a.length by omega)]
  have eb : (List.map (Value.int k') b).toArray[s]? = some (.int k' (b[s]'(by omega))) := by simp [List.getElem?_eq_getElem (show s < b.length by omega)]
  have da : a.drop s = a[s]'(by omega) :: a.drop (s + 1) := List.drop_eq_getElem_cons (by omega)
  have db : b.drop s = b[s]'(by omega) :: b.drop (s + 1) := List.drop_eq_getElem_cons (by omega)
  simp only [List.range'_succ, List.forIn_cons, Sem.run_bind, vk h2 ea, vk h2 eb, vt d _ _ h2, Result.andThen_ok]
  rw [da, db, List.take_succ_cons, List.take_succ_cons]
  by_cases hq : a[s]'(by omega) = b[s]'(by omega)
  ·simp only [hq, beq_self_eq_true, Bool.true_eq_false, if_false, Sem.run_pure, Result.andThen_ok]
   rw [ih]
   simp
  ·simp [hq, beq_eq_false_iff_ne.2 hq]
theorem zc0 {P : Program} {w : World} {t e : TypeId} {k k' : IntKind} {n : Nat} {i : TypeInfo} (h1 : P.underlying t = some (.array n e)) (h2 : P.underlying e = some (.int k)) (h3 : P.info? e = some i) (h4 : i.size = 1) (d : Nat) (a b : List Int) (ha : a.length = n) (hb : b.length = n) :
  (Op.equalIn (d + 2) t (.agg (a.map (Value.int k')).toArray) (.agg (b.map (Value.int k')).toArray)).run P w = .ok (a == b) w := by
 have hs : (sizeOf e).run P w = .ok 1 w := by simp [sizeOf, typeInfo, h3, h4]
 unfold Op.equalIn
 simp only [Sem.run_bind, run_underlying h1, Result.andThen_ok, hs]
 have := z2p (w := w) (k' := k') h2 d a b n 0 (by omega) (by omega)
 simp only [List.drop_zero, List.take_of_length_le (Nat.le_of_eq ha), List.take_of_length_le (Nat.le_of_eq hb)] at this
 simp [this]
 by_cases hq : a = b <;> simp [hq]
def zn6 (P : Program) (n : Nat) (t : TypeId) : Prop := (match P.underlying t with
 | some (.array m e) => m == n && z15 P e && ((P.info? e).map (·.size) == some 1) && !P.eqGuardType P.depth t
 | _ => false) = true
theorem zn7 {P : Program} {n : Nat} {t : TypeId} (h : zn6 P n t) : ∃ e k i, P.underlying t = some (.array n e) ∧ P.underlying e = some (.int k) ∧ P.info? e = some i ∧ i.size = 1 ∧ P.eqGuardType P.depth t = false := by
 unfold zn6 at h
 split at h
 ·rename_i m e he
  simp only [Bool.and_eq_true, Bool.not_eq_true', beq_iff_eq] at h
  obtain ⟨⟨⟨h0, h1⟩, h2⟩, h3⟩ := h
  obtain ⟨k, hk⟩ := kj h1
  cases hi : P.info? e with
  | none => simp [hi] at h2
  | some i => exact ⟨e, k, i, h0 ▸ he, hk, hi, by simpa [hi] using h2, h3⟩
 ·simp at h
theorem zpq {F : FC} {o : Oper} {st : ASt} {d n : Nat} {t t' : TypeId} {x y : Operand} {k : IntKind} {op : BinOp} {a b : List Int} (hop : op = .eql ∨ op = .neq) (ho : o.op = .binOp op t x y t') (hdst : o.dst = some d) (hd : d < F.N) (he : zn6 F.P n t) (hx : evA st.env x = .dat (.agg (a.map (Dat.int k)))) (hy : evA st.env y = .dat (.agg (b.map (Dat.int k)))) (ha : a.length = n) (hb : b.length = n) :
  StepOK F o st (st.put (some d) (.dat (.bool (if op = .eql then a == b else !(a == b))))) := by
 refine StepOK.of_value (st1 := st) (by rw [hdst]; exact hd) (by rw [hdst]) fun β S ac w hsim => ?_
 obtain ⟨e, ke, i, h1, h2, h3, h4, h5⟩ := zn7 he
 have rl : ∀ (l : List Int) (us : List Value), RepL S w (l.map (Dat.int k)) us → us = l.map (Value.int k) := by
  intro l
  induction l with
  | nil => intro us h; simpa [RepL] using h
  | cons z l ih =>
   intro us h
   simp only [List.map_cons, RepL, Rep1] at h
   obtain ⟨u, us', rfl, rfl, h⟩ := h
   rw [ih _ h]; rfl
 have hr : ∀ {z : Operand} {l : List Int}, evA st.env z = .dat (.agg (l.map (Dat.int k))) → ac.eval z = .agg (l.map (Value.int k)).toArray := fun {z l} hz => by
  have := qc (a := ac) hsim.env z
  rw [hz] at this
  simp only [RepA, RepX] at this
  obtain ⟨cs, h, hl⟩ := this
  rw [h, ← rl l _ hl]
 have hq : (Op.equal t (.agg (a.map (Value.int k)).toArray) (.agg (b.map (Value.int k)).toArray)).run F.P w = .ok (a == b) w := zc0 h1 h2 h3 h4 9998 a b ha hb
 have hx := hr hx
 have hy := hr hy
 refine ⟨_, w, β, S, ?_, by simp only [RepA, RepX]; rfl, hsim⟩
 simp only [execOp, ho, hx, hy, Sem.run_bind, z2o h5 hop, Result.andThen_ok]
 rcases hop with rfl | rfl
 ·simp only [binOp, Sem.run_bind, hq, Result.andThen_ok, Sem.run_pure, if_true]
 ·simp only [binOp, Sem.run_bind, hq, Result.andThen_ok, Sem.run_pure]
  rfl
theorem z8s {F : FC} {o : Oper} {st : ASt} {d n : Nat} {t t' : TypeId} {x y : Operand} {k : IntKind} {a : List Int} (ho : o.op = .binOp .neq t x y t') (hdst : o.dst = some d) (hd : d < F.N) (he : zn6 F.P n t) (hx : evA st.env x = .dat (.agg (a.map (Dat.int k)))) (hy : evA st.env y = .dat (.agg (a.map (Dat.int k)))) (ha : a.length = n) : StepOK F o st (st.put (some d) (.dat (.bool false))) := by
 have := zpq (op := .neq) (.inr rfl) ho hdst hd he hx hy ha ha
 rw [if_neg (by decide), beq_self_eq_true] at this
 exact this
section
variable {F : FC} {l : List Oper} {evs : List (Nat × Nat × AV)} {ovs : List (Nat × Nat × Option AObj)} {st : ASt} {i : Nat} {o : Oper}
theorem FGs (k : Nat) (ancs descs : List Nat) {d j : Nat} {want : Bool} {v : AV} (h : ∀ D : Nat → Bool, v9 D ancs → NoD D (i :: descs) → StepOK F o (eD evs ovs st D) ((eD evs ovs st D).put (some d) v))
  (hv : evs[k]? = some (i, d, v) := by rfl) (hno : ovs.all (fun p => p.1 != i || [].contains p.2.1) = true := by kernel_rfl) (hb : z1r l i ancs descs = true := by kernel_rfl) (hg : o.guard = some (j, want) := by rfl)
  (hw : ∀ D : Nat → Bool, v9 D ancs → NoD D (i :: descs) → wb l.toArray (eD evs ovs st D).env j want = some true := by
    intro D hA1 hA2
    simp only [v9, NoD] at hA1 hA2
    simp (maxSteps := 2000000) (disch := omega) only [qq, avA, zl, zp, seval, ↓List.forall_mem_cons, Op.operands, hA, tiA, hE, Z3, hA1, hA2]
    all_goals exact rfl) : FOp F l evs ovs st i o := fun ho hok D hD hdep hcd => by
 obtain ⟨h1, h2⟩ := y0 hb ho hD hdep hcd
 rw [← zec (i := i) (d := d) (v := v) (List.mem_of_getElem? hv) hok hno]
 unfold StepG
 rw [hg]
 exact .inl ⟨hw D h1 h2, h D h1 h2⟩
end
theorem EV' {p : Prop} (h : p := by
  simp (maxSteps := 2000000) (disch := omega) only [qq, avA, zl, zp, seval, hE, Z3, hA1, hA2]
  all_goals exact rfl) : p := h
end Go.Av

