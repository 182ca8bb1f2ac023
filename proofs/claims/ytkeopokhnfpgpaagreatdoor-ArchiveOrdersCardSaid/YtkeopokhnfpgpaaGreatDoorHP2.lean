/- A part of the proof. -/
import Derived.Test.YtkeopokhnfpgpaaGreatDoorHP1
set_option linter.all false
namespace Go.Av
mutual
/-- Objects under other names. -/
def AV.ren (m : Nat → Nat) : AV → AV
 | .junk => .junk
 | .dat d => .dat d
 | .agg l => .agg (renL m l)
 | .tup l => .tup (renL m l)
 | .osl i es off len => .osl (m i) es off len
 | .nils => .nils
 | .lits l => .lits l
 | .ptr i es k off => .ptr (m i) es k off
 | .gl g off => .gl g off
 | .rp d off => .rp d off
 | .fn f caps => .fn f (renL m caps)
 | .cond b v => .cond b (v.ren m)
 | .raw v => .raw v
 | .mp i => .mp (m i)
 | .isl i es k off len cap => .isl (m i) es k off len cap
def renL (m : Nat → Nat) : List AV → List AV
 | [] => []
 | v :: l => v.ren m :: renL m l
end
theorem zjl (m : Nat → Nat) : ∀ l, renL m l = l.map (AV.ren m)
 | [] => by simp [renL]
 | v :: l => by simp [renL, zjl m l]
theorem z14 (m : Nat → Nat) (x : AV) : (x.ren m).cells = x.cells.map (AV.ren m) := by
 cases x with
 | dat d => cases d <;> simp [AV.ren, AV.cells]
 | agg l => simp [AV.ren, AV.cells, zjl]
 | _ => simp [AV.ren, AV.cells]
mutual
theorem RepA.ren {β : zg} {S : Nat → Nat → Prop} {w : World} (m : Nat → Nat) : ∀ (x : AV) (v : Value), RepA β S w (x.ren m) v ↔ RepA (fun i => β (m i)) S w x v
 | .junk, _ => by simp [RepA, AV.ren]
 | .dat d, v => by simp only [RepA, AV.ren]
 | .agg l, v => by simp only [RepA, AV.ren, RepAL.ren m l]
 | .tup l, v => by simp only [RepA, AV.ren, RepAL.ren m l]
 | .osl id es off len, v => by simp only [RepA, AV.ren]
 | .nils, v => by simp only [RepA, AV.ren]
 | .lits l, v => by simp only [RepA, AV.ren]
 | .ptr id es i off, v => by simp only [RepA, AV.ren]
 | .gl g off, v => by simp only [RepA, AV.ren]
 | .rp d off, v => by simp only [RepA, AV.ren]
 | .fn f caps, v => by simp only [RepA, AV.ren, RepAL.ren m caps]
 | .cond c x, v => by simp only [RepA, AV.ren, RepA.ren m x]
 | .raw x, v => by simp only [RepA, AV.ren]
 | .mp i, v => by simp only [RepA, AV.ren]
 | .isl i es k off len cap, v => by simp only [RepA, AV.ren]
theorem RepAL.ren {β : zg} {S : Nat → Nat → Prop} {w : World} (m : Nat → Nat) : ∀ (l : List AV) (vs : List Value), RepAL β S w (renL m l) vs ↔ RepAL (fun i => β (m i)) S w l vs
 | [], _ => by simp [RepAL, renL]
 | x :: xs, vs => by simp only [RepAL, renL, RepA.ren m x, RepAL.ren m xs]
end
def AObj.ren (m : Nat → Nat) (o : AObj) : AObj := ⟨o.es, o.elems.map (AV.ren m)⟩
theorem zqs {m : Nat → Nat} {a : AV} (h : a.ren m = .tup []) : a = .tup [] := by
 cases a with
 | tup l =>
  cases l with
  | nil => rfl
  | cons x t => simp [AV.ren, renL] at h
 | _ => simp [AV.ren] at h
theorem zev {m : Nat → Nat} {a : AV} {d : Dat} (h : a.ren m = .dat d) : a = .dat d := by
 cases a with
 | dat e => simpa [AV.ren] using h
 | _ => simp [AV.ren] at h
theorem z3b {m : Nat → Nat} {o : AObj} {ks vs : List Dat} : o.ren m = yy ks vs ↔ o = yy ks vs := by
 constructor
 ·intro h
  obtain ⟨es, l⟩ := o
  simp only [AObj.ren, AObj.mk.injEq] at h ⊢
  obtain ⟨he, h⟩ := h
  refine ⟨he, ?_⟩
  obtain ⟨a, l, rfl, h1, h⟩ := List.map_eq_cons_iff.1 h
  obtain ⟨b, l, rfl, h2, h⟩ := List.map_eq_cons_iff.1 h
  obtain ⟨c, l, rfl, h3, h⟩ := List.map_eq_cons_iff.1 h
  obtain rfl := List.map_eq_nil_iff.1 h
  rw [zqs h1, zev h2, zev h3]
 ·rintro rfl
  simp [AObj.ren, AV.ren, renL]
theorem IsMap.renamed {F F' : FC} {β : zg} {S : Nat → Nat → Prop} {w : World} {m : Nat → Nat} {id : Nat} {o : AObj} (h : IsMap F β S w (m id) (o.ren m)) (hw : ∀ b, β (m id) = some (b, 0) → F'.w0.heap.size ≤ b ∨ F'.M0 b) : IsMap F' (fun i => β (m i)) S w id o := by
 obtain ⟨b, en, ck, ks, vs, hb', _, hh, ho, hm⟩ := h
 exact ⟨b, en, ck, ks, vs, hb', hw b hb', hh, z3b.1 ho, hm⟩
theorem IsMap.back {F F' : FC} {β : zg} {S : Nat → Nat → Prop} {w : World} {m : Nat → Nat} {id : Nat} {o : AObj} (h : IsMap F' (fun i => β (m i)) S w id o) (hw : ∀ b, β (m id) = some (b, 0) → F'.w0.heap.size ≤ b ∨ F'.M0 b → F.w0.heap.size ≤ b ∨ F.M0 b) : IsMap F β S w (m id) (o.ren m) := by
 obtain ⟨b, en, ck, ks, vs, hb', h0, hh, ho, hm⟩ := h
 exact ⟨b, en, ck, ks, vs, hb', hw b hb' h0, hh, z3b.2 ho, hm⟩
def qm : List (Nat × AObj) → Nat → Option AObj
 | [], _ => none
 | (k, v) :: l, n => if n = k then some v else qm l n
theorem vx {i : Nat} {o : AObj} : ∀ {l : List (Nat × AObj)}, qm l i = some o → (i, o) ∈ l
 | [], h => by simp [qm] at h
 | (k, v) :: l, h => by
  simp only [qm] at h
  split at h
  ·rename_i hk; subst hk; simp at h; subst h; simp
  ·exact List.mem_cons_of_mem _ (vx h)
def MB (os : List (Nat × AObj)) (β : zg) : Nat → Prop := fun b => ∃ id o s, qm os id = some o ∧ β id = some (b, s)
def FC0 (P : Program) (G : List (Nat × Dat)) (w : World) (os : List (Nat × AObj)) (β : zg) (S : Nat → Nat → Prop) : FC := ⟨P, 0, G, w, MB os β, S, [], [], [], β, none, [], 0, fun _ => False, []⟩
def ASt.os (os : List (Nat × AObj)) : ASt := ⟨fun _ => .junk, qm os⟩
def zfr (P : Program) (G : List (Nat × Dat)) (f : FuncId) (xs : List AV) (os : List (Nat × AObj)) (rs : List Dat) (os' : List (Nat × AObj)) : Prop :=
 (∃ fn c, P.funcs[f]? = some fn ∧ fn.body = some c ∧ (fn.name == "runtime.NumGoroutine") = false) ∧
 ∀ (w : World) (β : zg) (S : Nat → Nat → Prop) (vals : Array Value), SimB (FC0 P G w os β S) β S (.os os) #[] w → RepAL β S w xs vals.toList →
  Calls P f vals w fun e w' => ∃ v S', e = .returned v ∧ (∀ b i, S b i → S' b i) ∧ SimB (FC0 P G w os β S) β S' (.os os') #[] w' ∧ Qa S' w' rs v
def ASt.objsM (m : Nat → Nat) (st : ASt) : List (Nat × AObj) → ASt
 | [] => st
 | (id, o) :: l => (st.objsM m l).obj (m id) (o.ren m)
theorem z1g (m : Nat → Nat) (st : ASt) : ∀ l, (st.objsM m l).env = st.env
 | [] => rfl
 | (id, o) :: l => z1g m st l
theorem j6 (m : Nat → Nat) (st : ASt) {l : List (Nat × AObj)} {i : Nat} {o : AObj} (hn : ∀ p ∈ l, ∀ q ∈ l, m p.1 = m q.1 → p.1 = q.1) (h : (st.objsM m l).objs i = some o) : (∃ id o', qm l id = some o' ∧ m id = i ∧ o = o'.ren m) ∨ (st.objs i = some o ∧ ∀ p ∈ l, m p.1 ≠ i) := by
 induction l with
 | nil => exact .inr ⟨h, by simp⟩
 | cons p l ih =>
  obtain ⟨k, v⟩ := p
  simp only [ASt.objsM, ASt.obj, zq] at h
  split at h
  ·rename_i hi
   simp only [Option.some.injEq] at h
   exact .inl ⟨k, v, by simp [qm], hi.symm, h.symm⟩
  ·rename_i hi
   rcases ih (fun p hp q hq => hn p (List.mem_cons_of_mem _ hp) q (List.mem_cons_of_mem _ hq)) h with ⟨id, o', h1, h2, h3⟩ | ⟨h1, h2⟩
   ·refine .inl ⟨id, o', ?_, h2, h3⟩
    have hk : id ≠ k := fun e => hi (by rw [← h2, e])
    simp only [qm, if_neg hk, h1]
   ·refine .inr ⟨h1, fun p hp => ?_⟩
    rcases List.mem_cons.1 hp with rfl | hp
    ·exact fun e => hi e.symm
    ·exact h2 p hp
structure Lent (objs : Nat → Option AObj) (m : Nat → Nat) (os os' : List (Nat × AObj)) : Prop where
 have_ : ∀ p ∈ os, objs (m p.1) = some (p.2.ren m)
 inj : ∀ p ∈ os, ∀ q ∈ os, m p.1 = m q.1 → p.1 = q.1
 same : os'.map (·.1) = os.map (·.1)
theorem Lent.obj {objs : Nat → Option AObj} {m : Nat → Nat} {os os' : List (Nat × AObj)} (h : Lent objs m os os') {id : Nat} {o : AObj} (ho : qm os id = some o) : objs (m id) = some (o.ren m) := h.have_ _ (vx ho)
theorem zle {l : List (Nat × AObj)} {id : Nat} (h : id ∈ l.map (·.1)) : ∃ o, qm l id = some o := by
 induction l with
 | nil => simp at h
 | cons p l ih =>
  obtain ⟨k, v⟩ := p
  simp only [List.map_cons, List.mem_cons] at h
  by_cases hk : id = k
  ·exact ⟨v, by simp [qm, hk]⟩
  ·obtain ⟨o, ho⟩ := ih (h.resolve_left hk)
   exact ⟨o, by simp [qm, hk, ho]⟩
theorem Lent.back {objs : Nat → Option AObj} {m : Nat → Nat} {os os' : List (Nat × AObj)} (h : Lent objs m os os') {id : Nat} {o : AObj} (ho : qm os' id = some o) : ∃ o', qm os id = some o' := by
 have h1 := vx ho
 have h2 : id ∈ os.map (·.1) := by rw [← h.same]; exact List.mem_map.2 ⟨_, h1, rfl⟩
 exact zle h2
theorem Lent.inj' {objs : Nat → Option AObj} {m : Nat → Nat} {os os' : List (Nat × AObj)} (h : Lent objs m os os') : ∀ p ∈ os', ∀ q ∈ os', m p.1 = m q.1 → p.1 = q.1 := fun p hp q hq e => by
 have key : ∀ p ∈ os', ∃ p' ∈ os, p'.1 = p.1 := fun p hp => by
  have : p.1 ∈ os.map (·.1) := by rw [← h.same]; exact List.mem_map.2 ⟨p, hp, rfl⟩
  obtain ⟨p', h1, h2⟩ := List.mem_map.1 this
  exact ⟨p', h1, h2⟩
 obtain ⟨p', h1, h2⟩ := key p hp
 obtain ⟨q', h3, h4⟩ := key q hq
 rw [← h2, ← h4]
 exact h.inj p' h1 q' h3 (by rw [h2, h4, e])
theorem MemC.ren {β : zg} {S : Nat → Nat → Prop} {w : World} {m : Nat → Nat} {l : List AV} {b o : Nat} : MemC β S w (l.map (AV.ren m)) b o ↔ MemC (fun i => β (m i)) S w l b o := by
 constructor
 ·intro h i c hc
  obtain ⟨v, h1, h2, h3⟩ := h i (c.ren m) (by simp [hc])
  exact ⟨v, h1, h2, (RepA.ren m c v).1 h3⟩
 ·intro h i c hc
  rw [List.getElem?_map] at hc
  cases hd : l[i]? with
  | none => simp [hd] at hc
  | some d =>
   simp only [hd, Option.map_some, Option.some.injEq] at hc
   subst hc
   obtain ⟨v, h1, h2, h3⟩ := h i d hd
   exact ⟨v, h1, h2, (RepA.ren m d v).2 h3⟩
theorem SimB.lent {F : FC} {β : zg} {S : Nat → Nat → Prop} {st : ASt} {tm : Array Value} {w : World} (hs : SimB F β S st tm w) {m : Nat → Nat} {os os' : List (Nat × AObj)} (hl : Lent st.objs m os os') :
  SimB (FC0 F.P F.G w os (fun i => β (m i)) S) (fun i => β (m i)) S (.os os) #[] w := by
 refine ⟨Ext.refl _ _, fun p hp => ?_, fun b i h => .inl h, hs.lt, fun id o b s i ho hb => hs.sep (m id) _ b s i (hl.obj ho) hb, fun id id' o o' b s s' ho ho' hb hb' => ?_, fun id o ho => ?_, fun n => by simp [ASt.os, RepA], ⟨Nat.zero_le _, fun _ _ => rfl⟩⟩
 ·obtain ⟨h1, h2, _⟩ := hs.glob p hp
  obtain ⟨h3, h4⟩ := hs.gok p hp
  refine ⟨h3, ?_, h4⟩
  rintro ⟨id, o, s, ho, hb⟩
  replace hb : β (m id) = some (p.1, s) := hb
  rcases hs.obj (m id) _ (hl.obj ho) with ⟨hn, _⟩ | ⟨b', s', arr, e, hb', hw, _⟩ | hm
  rotate_left 2
  ·exact (hm.place hb).1.elim (fun h => by omega) h2
  ·rw [hn] at hb; cases hb
  ·rw [hb'] at hb
   simp only [Option.some.injEq, Prod.mk.injEq] at hb
   rcases hw with h | h
   ·omega
   ·exact h2 (hb.1 ▸ h)
 ·have := hs.inj (m id) (m id') _ _ b s s' (hl.obj ho) (hl.obj ho') hb hb'
  exact hl.inj _ (vx ho) _ (vx ho') this
 ·rcases hs.obj (m id) _ (hl.obj ho) with ⟨hn, he⟩ | ⟨b', s', arr, e, hb', hw, hh, hz, hel⟩ | hm
  rotate_left 2
  ·exact .inr (.inr (hm.renamed fun b hb => .inr ⟨id, o, 0, ho, hb⟩))
  ·exact .inl ⟨hn, by simpa [AObj.ren] using he⟩
  ·refine .inr (.inl ⟨b', s', arr, e, hb', .inr ⟨id, o, s', ho, hb'⟩, hh, by simpa [AObj.ren] using hz, fun k x hx => ?_⟩)
   obtain ⟨h1, h2⟩ := hel k (x.ren m) (by simp [AObj.ren, hx])
   rw [z14] at h1 h2
   exact ⟨by simpa [AObj.ren] using h1, MemC.ren.1 h2⟩
theorem SimB.repaid {F : FC} {β : zg} {S S' : Nat → Nat → Prop} {st : ASt} {tm : Array Value} {w w' : World} (hs : SimB F β S st tm w) {m : Nat → Nat} {os os' : List (Nat × AObj)} (hl : Lent st.objs m os os') (hS : ∀ b i, S b i → S' b i)
  (hc : SimB (FC0 F.P F.G w os (fun i => β (m i)) S) (fun i => β (m i)) S' (.os os') #[] w') : SimB F β S' (st.objsM m os') tm w' := by
 have hMB : ∀ b, MB os (fun i => β (m i)) b → F.w0.heap.size ≤ b ∨ F.M0 b := fun b ⟨id, o, s, ho, hb⟩ => by
  replace hb : β (m id) = some (b, s) := hb
  rcases hs.obj (m id) _ (hl.obj ho) with ⟨hn, _⟩ | ⟨b', s', arr, e, hb', hw, _⟩ | hm
  rotate_left 2
  ·exact (hm.place hb).1
  ·rw [hn] at hb; cases hb
  ·rw [hb'] at hb
   simp only [Option.some.injEq, Prod.mk.injEq] at hb
   exact hb.1 ▸ hw
 have hext : Ext (MB os (fun i => β (m i))) w w' := hc.ext
 have hkeep : Keeps S S' w w' := fun b i h => ⟨hS b i h, xe (hext.block b (hs.lt b i h) (fun ⟨id, o, s, ho, hb⟩ => hs.sep (m id) _ b s i (hl.obj ho) hb h))⟩
 have hsub : ∀ b i, S' b i → S b i ∨ w.heap.size ≤ b := fun b i h => (hc.sub b i h).imp id fun h => h.elim id False.elim
 have back : ∀ i o, (st.objsM m os').objs i = some o → ∃ p, st.objs i = some p := fun i o h => by
  rcases j6 m st hl.inj' h with ⟨id, o', h1, h2, h3⟩ | ⟨h1, _⟩
  ·obtain ⟨p, hp⟩ := hl.back h1
   exact ⟨_, h2 ▸ hl.obj hp⟩
  ·exact ⟨o, h1⟩
 refine ⟨hs.ext.trans hext (fun k hk hm => (hMB k hm).elim (fun h => by omega) (fun h => h)), hs.glob, fun b i h => (hsub b i h).elim (hs.sub b i) (fun h => .inr (.inl (Nat.le_trans hs.ext.size h))), hc.lt, ?_, ?_, ?_, fun n => ?_, hs.size⟩
 ·intro i o b s k ho hb h
  obtain ⟨p, hp⟩ := back i o ho
  rcases hsub b k h with h | h
  ·exact hs.sep i p b s k hp hb h
  ·have := hs.block_lt hp hb; omega
 ·intro i i' o o' b s s' ho ho' hb hb'
  obtain ⟨p, hp⟩ := back i o ho
  obtain ⟨p', hp'⟩ := back i' o' ho'
  exact hs.inj i i' p p' b s s' hp hp' hb hb'
 ·intro i o ho
  rcases j6 m st hl.inj' ho with ⟨id, o', h1, rfl, rfl⟩ | ⟨h1, h2⟩
  ·rcases hc.obj id o' h1 with ⟨hn, he⟩ | ⟨b', s', arr, e, hb', hw, hh, hz, hel⟩ | hm
   rotate_left 2
   ·exact .inr (.inr (hm.back fun b _ h0 => h0.elim (fun h => .inl (Nat.le_trans hs.ext.size h)) (hMB b)))
   ·exact .inl ⟨hn, by simp [AObj.ren, he]⟩
   ·refine .inr (.inl ⟨b', s', arr, e, hb', ?_, hh, by simpa [AObj.ren] using hz, fun k x hx => ?_⟩)
    ·rcases hw with h | h
     ·exact .inl (Nat.le_trans hs.ext.size h)
     ·exact hMB b' h
    ·simp only [AObj.ren, List.getElem?_map] at hx
     cases hy : o'.elems[k]? with
     | none => simp [hy] at hx
     | some y =>
      simp only [hy, Option.map_some, Option.some.injEq] at hx
      subst hx
      obtain ⟨h3, h4⟩ := hel k y hy
      rw [z14]
      exact ⟨by simpa [AObj.ren] using h3, MemC.ren.2 h4⟩
  ·have hsame : ∀ b' s', β i = some (b', s') → w'.heap[b']? = w.heap[b']? := fun b' s' hb' => hext.block b' (hs.block_lt h1 hb') (fun ⟨id, q, s, hq, hb⟩ => by
    have := hs.inj i (m id) _ _ b' s' s h1 (hl.obj hq) hb' hb
    have hid : id ∈ os'.map (·.1) := by rw [hl.same]; exact List.mem_map.2 ⟨_, vx hq, rfl⟩
    obtain ⟨p, hp, hpi⟩ := List.mem_map.1 hid
    exact h2 p hp (by rw [hpi]; exact this.symm))
   rcases hs.obj i o h1 with h | ⟨b', s', arr, e, hb', hw, hh, hz, hel⟩ | hm
   ·exact .inl h
   ·have hbb : w'.heap[b']? = w.heap[b']? := hsame b' s' hb'
    exact .inr (.inl ⟨b', s', arr, e, hb', hw, hbb.trans hh, hz, fun k x hx => ⟨(hel k x hx).1, (hel k x hx).2.mono hkeep hext.shape hbb⟩⟩)
   ·exact .inr (.inr (hm.mono rfl hkeep fun b hb => hsame b 0 hb))
 ·rw [z1g]
  exact (hs.env n).mono hkeep hext.shape
theorem znn {F : FC} {o : Oper} {β : zg} {S : Nat → Nat → Prop} {st : ASt} {a : Act} {w : World} {f : Operand} {args : Array Operand} {ts : Array TypeId} {g : FuncId} {xs : List AV} {rs : List Dat} (hs : SimB F β S st a.tmps w)
  (ho : o.op = .call { callee := .value f, args := args, argTypes := ts }) {ρ : Operand → AV} (hf : ∀ x ∈ o.op.operands.toList, RepA β S w (ρ x) (a.eval x)) {caps : List AV} (hg : ρ f = .fn g caps) {m : Nat → Nat} (hxs : renL m xs = args.toList.map ρ ++ caps)
  {os os' : List (Nat × AObj)} (hl : Lent st.objs m os os') (hc : zfr F.P F.G g xs os rs os') {K : Act → World → Prop} {Q : Exit → Act → World → Prop}
  (hK : ∀ S' w' r, SimB F β S' (st.objsM m os') a.tmps w' → RepA β S' w' (retA rs) r → K (a.put o.dst r) w') : o.wpIn F.fence 0 F.P a w K Q := by
 obtain ⟨⟨fn, c, hfn, hbody, hname⟩, hcalls⟩ := hc
 have hrf := hf f (by simp [ho, Op.operands, Call.operands])
 rw [hg] at hrf
 simp only [RepA] at hrf
 obtain ⟨vs, hvf, hvs⟩ := hrf
 have hargs : RepAL (fun i => β (m i)) S w xs ((args.map a.eval) ++ vs).toList := by
  rw [← RepAL.ren, hxs, Array.toList_append, Array.toList_map]
  exact yn (k9 args.toList fun x hx => hf x (by simp only [ho, Op.operands, Call.operands]; simp at hx ⊢; exact .inr hx)) hvs
 have hrun : (execOp a.eval o).run F.P w = .ok (.enter g (args.map a.eval ++ vs)) w := by
  have hn' : ¬ fn.name = "runtime.NumGoroutine" := by simpa using hname
  simp [execOp, ho, resolve, hvf, Deferred.ofValue, invoke, callFunc, hfn, hn', hbody]
 refine z4i hrun ?_
 refine (hcalls w _ S _ (hs.lent hl) hargs).mono fun e w' h => ?_
 obtain ⟨r, S', rfl, hS, hsim, hret⟩ := h
 exact hK _ _ _ (hs.repaid hl hS hsim) (z7s hret)
mutual
/-- That a value refers to no other objects than these. -/
def AV.only (p : Nat → Bool) : AV → Bool
 | .junk => true
 | .dat _ => true
 | .agg l => wl p l
 | .tup l => wl p l
 | .osl i _ _ _ => p i
 | .nils => true
 | .lits _ => true
 | .ptr i _ _ _ => p i
 | .gl _ _ => true
 | .rp _ _ => true
 | .fn _ caps => wl p caps
 | .cond _ v => v.only p
 | .raw _ => true
 | .mp i => p i
 | .isl i _ _ _ _ _ => p i
def wl (p : Nat → Bool) : List AV → Bool
 | [] => true
 | v :: l => v.only p && wl p l
end
theorem za7 (p : Nat → Bool) : wl p [] = true := rfl
theorem z7i (p : Nat → Bool) (x : AV) (l : List AV) : wl p (x :: l) = (x.only p && wl p l) := rfl
theorem z36 (p : Nat → Bool) : ∀ l l' : List AV, wl p (l ++ l') = (wl p l && wl p l')
 | [], l' => by simp [wl]
 | x :: l, l' => by simp [wl, z36 p l l', Bool.and_assoc]
theorem Xj (p : Nat → Bool) : ∀ l : List Dat, wl p (l.map .dat) = true
 | [] => rfl
 | d :: l => by simp [wl, AV.only, Xj p l]
theorem z4g {p : Nat → Bool} {x : AV} : ∀ {l : List AV}, wl p l = true → x ∈ l → x.only p = true
 | [], _, hx => by simp at hx
 | y :: l, h, hx => by
  simp only [wl, Bool.and_eq_true] at h
  rcases List.mem_cons.1 hx with rfl | hx
  ·exact h.1
  ·exact z4g h.2 hx
theorem zhk {p : Nat → Bool} {x : AV} (h : x.only p = true) : wl p x.cells = true := by
 cases x with
 | dat d => cases d <;> simp [AV.cells, wl, AV.only, Xj]
 | agg l => simpa [AV.cells, AV.only] using h
 | _ => simpa [AV.cells, wl] using h
mutual
theorem RepA.only {p : Nat → Bool} {β β' : zg} {S : Nat → Nat → Prop} {w : World} (hb : ∀ i, p i = true → β' i = β i) : ∀ (x : AV) (v : Value), x.only p = true → RepA β S w x v → RepA β' S w x v
 | .junk, _, _, _ => by simp [RepA]
 | .dat d, v, _, h => by simpa only [RepA] using h
 | .agg l, v, ho, h => by
  simp only [RepA] at h ⊢
  obtain ⟨cs, hv, hr⟩ := h
  exact ⟨cs, hv, RepAL.only hb l _ (by simpa [AV.only] using ho) hr⟩
 | .tup l, v, ho, h => by
  simp only [RepA] at h ⊢
  obtain ⟨cs, hv, hr⟩ := h
  exact ⟨cs, hv, RepAL.only hb l _ (by simpa [AV.only] using ho) hr⟩
 | .osl i es off len, v, ho, h => by
  simp only [RepA] at h ⊢
  rwa [hb i (by simpa [AV.only] using ho)]
 | .nils, v, _, h => by simpa [RepA] using h
 | .lits l, v, _, h => by simpa [RepA] using h
 | .ptr i es k off, v, ho, h => by
  simp only [RepA] at h ⊢
  rwa [hb i (by simpa [AV.only] using ho)]
 | .gl g off, v, _, h => by simpa [RepA] using h
 | .rp d off, v, _, h => by simpa [RepA] using h
 | .fn f caps, v, ho, h => by
  simp only [RepA] at h ⊢
  obtain ⟨vs, hv, hr⟩ := h
  exact ⟨vs, hv, RepAL.only hb caps _ (by simpa [AV.only] using ho) hr⟩
 | .cond c x, v, ho, h => by
  simp only [RepA] at h ⊢
  exact ⟨fun hc => RepA.only hb x v (by simpa [AV.only] using ho) (h.1 hc), h.2⟩
 | .raw x, v, _, h => by simpa [RepA] using h
 | .mp i, v, ho, h => by
  simp only [RepA] at h ⊢
  rwa [hb i (by simpa [AV.only] using ho)]
 | .isl i es k off len cap, v, ho, h => by
  simp only [RepA] at h ⊢
  rwa [hb i (by simpa [AV.only] using ho)]
theorem RepAL.only {p : Nat → Bool} {β β' : zg} {S : Nat → Nat → Prop} {w : World} (hb : ∀ i, p i = true → β' i = β i) : ∀ (l : List AV) (vs : List Value), wl p l = true → RepAL β S w l vs → RepAL β' S w l vs
 | [], _, _, h => by simpa [RepAL] using h
 | x :: xs, vs, ho, h => by
  simp only [wl, Bool.and_eq_true] at ho
  simp only [RepAL] at h ⊢
  obtain ⟨v, vs', hv, h1, h2⟩ := h
  exact ⟨v, vs', hv, RepA.only hb x v ho.1 h1, RepAL.only hb xs vs' ho.2 h2⟩
end
theorem MemC.only {p : Nat → Bool} {β β' : zg} {S : Nat → Nat → Prop} {w : World} (hb : ∀ i, p i = true → β' i = β i) {l : List AV} {b o : Nat} (ho : wl p l = true) (h : MemC β S w l b o) : MemC β' S w l b o := fun i c hc => by
 obtain ⟨v, h1, h2, h3⟩ := h i c hc
 exact ⟨v, h1, h2, RepA.only hb c v (z4g ho (List.mem_of_getElem? hc)) h3⟩
def kl (os : List (Nat × AObj)) (i : Nat) : Bool := os.any fun p => p.1 == i
theorem Q6 {os : List (Nat × AObj)} {i : Nat} : kl os i = true ↔ i ∈ os.map (·.1) := by
 simp [kl, List.any_eq_true, List.mem_map]
theorem z1f {os : List (Nat × AObj)} {i : Nat} {o : AObj} (h : qm os i = some o) : i ∈ os.map (·.1) := List.mem_map.2 ⟨_, vx h, rfl⟩
def RetRA (β : zg) (S : Nat → Nat → Prop) (w : World) (rs : List AV) (v : Value) : Prop :=
 match rs with
 | [r] => RepA β S w r v
 | rs => ∃ vs, v = .tuple vs ∧ RepAL β S w rs vs.toList
def z0s (rs : List AV) : AV :=
 match rs with
 | [r] => r
 | rs => .tup rs
theorem zlo (r : AV) : z0s [r] = r := rfl
theorem zln : z0s [] = .tup [] := rfl
theorem zlq (r s : AV) (l : List AV) : z0s (r :: s :: l) = .tup (r :: s :: l) := rfl
theorem zlp {β : zg} {S : Nat → Nat → Prop} {w : World} {rs : List AV} {v : Value} (h : RetRA β S w rs v) : RepA β S w (z0s rs) v := by
 unfold z0s
 unfold RetRA at h
 split at h
 ·exact h
 ·simp only [RepA]; exact h
theorem RetRA.only {p : Nat → Bool} {β β' : zg} {S : Nat → Nat → Prop} {w : World} (hb : ∀ i, p i = true → β' i = β i) {rs : List AV} {v : Value} (ho : wl p rs = true) (h : RetRA β S w rs v) : RetRA β' S w rs v := by
 unfold RetRA at h ⊢
 split at h
 ·simp only [wl, Bool.and_true] at ho
  exact RepA.only hb _ _ ho h
 ·obtain ⟨vs, h1, h2⟩ := h
  exact ⟨vs, h1, RepAL.only hb _ _ ho h2⟩
theorem RetRA.ren {β : zg} {S : Nat → Nat → Prop} {w : World} (m : Nat → Nat) {rs : List AV} {v : Value} (h : RetRA (fun i => β (m i)) S w rs v) : RetRA β S w (renL m rs) v := by
 unfold RetRA at h ⊢
 match rs, h with
 | [r], h => simpa [renL] using (RepA.ren m r v).2 h
 | [], ⟨vs, h1, h2⟩ => exact ⟨vs, h1, (RepAL.ren m _ _).2 h2⟩
 | r :: s :: l, ⟨vs, h1, h2⟩ => exact ⟨vs, h1, (RepAL.ren m _ _).2 h2⟩
def FCX (P : Program) (G : List (Nat × Dat)) (w : World) (os : List (Nat × AObj)) (β β' : zg) (S : Nat → Nat → Prop) : FC := ⟨P, 0, G, w, MB os β, S, [], [], [], β', none, [], 0, fun _ => False, []⟩
def GivesX (P : Program) (G : List (Nat × Dat)) (f : FuncId) (xs : List AV) (os : List (Nat × AObj)) (rs : List AV) (os' : List (Nat × AObj)) : Prop :=
 ((∃ fn c, P.funcs[f]? = some fn ∧ fn.body = some c ∧ (fn.name == "runtime.NumGoroutine") = false) ∧ wl (kl os') rs = true ∧ ∀ p ∈ os', wl (kl os') p.2.elems = true) ∧
 ∀ (w : World) (β : zg) (S : Nat → Nat → Prop) (vals : Array Value), SimB (FC0 P G w os β S) β S (.os os) #[] w → RepAL β S w xs vals.toList →
  Calls P f vals w fun e w' => ∃ v β' S', e = .returned v ∧ (∀ b i, S b i → S' b i) ∧ (∀ i ∈ os.map (·.1), β' i = β i) ∧ SimB (FCX P G w os β β' S) β' S' (.os os') #[] w' ∧ RetRA β' S' w' rs v
def ASt.kills (m : Nat → Nat) : List Nat → ASt → ASt
 | [], st => st
 | i :: l, st => ASt.kills m l (st.kill (m i))
def ASt.drops (m : Nat → Nat) : List (Nat × AObj) → ASt → ASt
 | [], st => st
 | p :: l, st => ASt.drops m l (st.drop (m p.1))
def ASt.backX (m : Nat → Nat) (news : List Nat) (os os' : List (Nat × AObj)) (st : ASt) : ASt := ((st.kills m news).drops m os).objsM m os'
theorem z9d (m : Nat → Nat) : ∀ (l : List (Nat × AObj)) (st : ASt), (st.drops m l).env = st.env
 | [], _ => rfl
 | p :: l, st => z9d m l (st.drop (m p.1))
theorem z6f {m : Nat → Nat} {i : Nat} {o : AObj} : ∀ {l : List (Nat × AObj)} {st : ASt}, (st.drops m l).objs i = some o → st.objs i = some o ∧ ∀ p ∈ l, m p.1 ≠ i
 | [], _, h => ⟨h, by simp⟩
 | p :: l, st, h => by
  obtain ⟨h1, h2⟩ := z6f (l := l) h
  simp only [ASt.drop, zq] at h1
  split at h1
  ·simp at h1
  ·rename_i hi
   refine ⟨h1, fun q hq => ?_⟩
   rcases List.mem_cons.1 hq with rfl | hq
   ·exact fun e => hi e.symm
   ·exact h2 q hq
theorem z72 {m : Nat → Nat} {i : Nat} {o : AObj} : ∀ {l : List Nat} {st : ASt}, (st.kills m l).objs i = some o → (∃ o', st.objs i = some o') ∧ ∀ k ∈ l, m k ≠ i
 | [], _, h => ⟨⟨o, h⟩, by simp⟩
 | k :: l, st, h => by
  obtain ⟨⟨o', h1⟩, h2⟩ := z72 (l := l) h
  simp only [ASt.kill] at h1
  split at h1
  ·simp at h1
  ·rename_i hi
   cases hp : st.objs i with
   | none => simp [hp] at h1
   | some q =>
    refine ⟨⟨q, rfl⟩, fun k' hk' => ?_⟩
    rcases List.mem_cons.1 hk' with rfl | hk'
    ·exact fun e => hi e.symm
    ·exact h2 k' hk'
structure LentX (F : FC) (objs : Nat → Option AObj) (m : Nat → Nat) (news : List Nat) (os os' : List (Nat × AObj)) : Prop where
 have_ : ∀ p ∈ os, objs (m p.1) = some (p.2.ren m)
 inj : ∀ i ∈ news ++ os.map (·.1), ∀ j ∈ news ++ os.map (·.1), m i = m j → i = j
 new : ∀ i ∈ os'.map (·.1), i ∈ news ++ os.map (·.1)
 low : ∀ i ∈ news, m i < F.N
 apart : ∀ i ∈ news, i ∉ os.map (·.1)
theorem LentX.lent {F : FC} {objs : Nat → Option AObj} {m : Nat → Nat} {news : List Nat} {os os' : List (Nat × AObj)} (h : LentX F objs m news os os') : Lent objs m os os :=
 ⟨h.have_, fun p hp q hq => h.inj p.1 (List.mem_append_right _ (List.mem_map.2 ⟨p, hp, rfl⟩)) q.1 (List.mem_append_right _ (List.mem_map.2 ⟨q, hq, rfl⟩)), rfl⟩
theorem SimB.rebind {F : FC} {β : zg} {S : Nat → Nat → Prop} {st : ASt} {tm : Array Value} {w : World} (hs : SimB F β S st tm w) {d : Nat} (hd : d < F.N) (pl : Option (Nat × Nat)) : SimB F (upd β d pl) S (st.kill d) tm w := by
 have hk := hs.kill d
 have hmv : ∀ i, i ≠ d → (upd β d pl) i = β i := fun i hi => qo β _ hi
 have hne : ∀ i o, (st.kill d).objs i = some o → i ≠ d := fun i o h e => by subst e; simp [ASt.kill] at h
 refine ⟨hs.ext, hs.glob, hs.sub, hs.lt, fun i o b s k ho hb => ?_, fun i i' o o' b s s' ho ho' hb hb' => ?_, fun i o ho => ?_, fun n => (hs.env n).moved hmv, ⟨hs.size.1, fun i hi => (hmv i (by omega)).trans (hs.size.2 i hi)⟩⟩
 ·rw [hmv i (hne i o ho)] at hb
  exact hk.sep i o b s k ho hb
 ·rw [hmv i (hne i o ho)] at hb
  rw [hmv i' (hne i' o' ho')] at hb'
  exact hk.inj i i' o o' b s s' ho ho' hb hb'
 ·have hi := hne i o ho
  simp only [ASt.kill, if_neg hi] at ho
  cases h : st.objs i with
  | none => simp [h] at ho
  | some p =>
   simp only [h, Option.map_some, Option.some.injEq] at ho
   subst ho
   rcases hs.obj i p h with ⟨hn, he⟩ | ⟨b, s, arr, e, hb, hw, hh, hz, hel⟩ | hm
   rotate_left 2
   ·exact .inr (.inr ((hm.mono (hmv i hi) (Keeps.refl S w) fun _ _ => rfl).kill d))
   ·exact .inl ⟨(hmv i hi).trans hn, by simp [he]⟩
   ·refine .inr (.inl ⟨b, s, arr, e, (hmv i hi).trans hb, hw, hh, by simpa using hz, fun k x hx => ?_⟩)
    rw [List.getElem?_map] at hx
    cases hy : p.elems[k]? with
    | none => simp [hy] at hx
    | some y =>
     simp only [hy, Option.map_some, Option.some.injEq] at hx
     subst hx
     obtain ⟨hc, hm⟩ := hel k y hy
     rw [vo]
     exact ⟨by simpa using hc, hm.moved hmv⟩
def z08 (m : Nat → Nat) (β' : zg) : List Nat → zg → zg
 | [], β => β
 | i :: l, β => z08 m β' l (upd β (m i) (β' i))
theorem Qw {m : Nat → Nat} {β' : zg} {j : Nat} : ∀ {l : List Nat} {β : zg}, (∀ i ∈ l, m i ≠ j) → z08 m β' l β j = β j
 | [], _, _ => rfl
 | i :: l, β, h => by
  rw [z08, Qw (fun k hk => h k (List.mem_cons_of_mem _ hk)), qo]
  exact fun e => h i (by simp) e.symm
theorem zcz {m : Nat → Nat} {β' : zg} {i : Nat} : ∀ {l : List Nat} {β : zg}, i ∈ l → (∀ a ∈ l, ∀ b ∈ l, m a = m b → a = b) → z08 m β' l β (m i) = β' i
 | [], _, h, _ => by simp at h
 | k :: l, β, h, hin => by
  rw [z08]
  by_cases hi : i ∈ l
  ·exact zcz hi (fun a ha b hb => hin a (List.mem_cons_of_mem _ ha) b (List.mem_cons_of_mem _ hb))
  ·have hk : i = k := (List.mem_cons.1 h).resolve_right hi
   subst hk
   rw [Qw, upd_same]
   intro a ha e
   have := hin a (List.mem_cons_of_mem _ ha) i (by simp) e
   subst this
   exact hi ha
theorem SimB.rebinds {F : FC} {S : Nat → Nat → Prop} {tm : Array Value} {w : World} {m : Nat → Nat} (β' : zg) : ∀ {l : List Nat} {β : zg} {st : ASt}, SimB F β S st tm w → (∀ i ∈ l, m i < F.N) → SimB F (z08 m β' l β) S (st.kills m l) tm w
 | [], _, _, hs, _ => hs
 | i :: l, _, _, hs, h => SimB.rebinds (l := l) β' (hs.rebind (h i (by simp)) (β' i)) (fun k hk => h k (List.mem_cons_of_mem _ hk))
theorem SimB.drops {F : FC} {β : zg} {S : Nat → Nat → Prop} {tm : Array Value} {w : World} {m : Nat → Nat} : ∀ {l : List (Nat × AObj)} {st : ASt}, SimB F β S st tm w → SimB F β S (st.drops m l) tm w
 | [], _, hs => hs
 | p :: l, _, hs => SimB.drops (l := l) (hs.drop (m p.1))
theorem SimB.repaidX {F : FC} {β : zg} {S S' : Nat → Nat → Prop} {st : ASt} {tm : Array Value} {w w' : World} (hs : SimB F β S st tm w) {m : Nat → Nat} {news : List Nat} {os os' : List (Nat × AObj)} {β' : zg} (hl : LentX F st.objs m news os os') (hS : ∀ b i, S b i → S' b i)
  (ho' : ∀ p ∈ os', wl (kl os') p.2.elems = true) (hpin : ∀ i ∈ os.map (·.1), β' i = β (m i))
  (hc : SimB (FCX F.P F.G w os (fun i => β (m i)) β' S) β' S' (.os os') #[] w') :
  (∀ i, kl os' i = true → z08 m β' news β (m i) = β' i) ∧ SimB F (z08 m β' news β) S' (st.backX m news os os') tm w' := by
 have hMB : ∀ b, MB os (fun i => β (m i)) b → F.w0.heap.size ≤ b ∨ F.M0 b := fun b ⟨id, o, s, ho, hb⟩ => by
  replace hb : β (m id) = some (b, s) := hb
  rcases hs.obj (m id) _ (hl.lent.obj ho) with ⟨hn, _⟩ | ⟨b', s', arr, e, hb', hw, _⟩ | hm
  rotate_left 2
  ·exact (hm.place hb).1
  ·rw [hn] at hb; cases hb
  ·rw [hb'] at hb
   simp only [Option.some.injEq, Prod.mk.injEq] at hb
   exact hb.1 ▸ hw
 have hext : Ext (MB os (fun i => β (m i))) w w' := hc.ext
 have hkeep : Keeps S S' w w' := fun b i h => ⟨hS b i h, xe (hext.block b (hs.lt b i h) (fun ⟨id, o, s, ho, hb⟩ => hs.sep (m id) _ b s i (hl.lent.obj ho) hb h))⟩
 have hsub : ∀ b i, S' b i → S b i ∨ w.heap.size ≤ b := fun b i h => (hc.sub b i h).imp id fun h => h.elim id False.elim
 have hinj := hl.inj
 have hbind : ∀ i, kl os' i = true → z08 m β' news β (m i) = β' i := fun i hi => by
  rcases List.mem_append.1 (hl.new i (Q6.1 hi)) with h | h
  ·exact zcz h (fun a ha b hb => hinj a (List.mem_append_left _ ha) b (List.mem_append_left _ hb))
  ·rw [Qw, hpin i h]
   intro k hk e
   have := hinj k (List.mem_append_left _ hk) i (List.mem_append_right _ h) e
   subst this
   exact hl.apart k hk h
 refine ⟨hbind, ?_⟩
 -- what of the frame's own is left
 have h1 := (hs.rebinds β' hl.low).drops (m := m) (l := os)
 have hst : ∀ i o, (((st.kills m news).drops m os)).objs i = some o → (∃ p, st.objs i = some p) ∧ (∀ k ∈ news, m k ≠ i) ∧ (∀ p ∈ os, m p.1 ≠ i) ∧ z08 m β' news β i = β i := fun i o h => by
  obtain ⟨g1, g2⟩ := z6f h
  obtain ⟨g3, g4⟩ := z72 g1
  exact ⟨g3, g4, g2, Qw g4⟩
 -- and in the world behind the call
 have h2 : SimB F (z08 m β' news β) S' ((st.kills m news).drops m os) tm w' := by
  refine h1.world hext (fun k hk hm => (hMB k hm).elim (fun h => by omega) (fun h => h)) hkeep (fun b i h => (hsub b i h).elim (hs.sub b i) (fun h => .inr (.inl (Nat.le_trans hs.ext.size h)))) hc.lt ?_ ?_
  ·intro i o b s k ho hb h
   obtain ⟨⟨p, hp⟩, _, _, hbi⟩ := hst i o ho
   rw [hbi] at hb
   rcases hsub b k h with h | h
   ·exact hs.sep i p b s k hp hb h
   ·have := hs.block_lt hp hb; omega
  ·intro i o b s ho hb
   obtain ⟨⟨p, hp⟩, _, hne, hbi⟩ := hst i o ho
   rw [hbi] at hb
   refine hext.block b (hs.block_lt hp hb) ?_
   rintro ⟨id, q, s', hq, hb'⟩
   replace hb' : β (m id) = some (b, s') := hb'
   have := hs.inj i (m id) _ _ b s s' hp (hl.lent.obj hq) hb hb'
   exact hne _ (vx hq) this.symm
 -- the objects that the call leaves
 have hinj' : ∀ p ∈ os', ∀ q ∈ os', m p.1 = m q.1 → p.1 = q.1 := fun p hp q hq => hinj p.1 (hl.new _ (List.mem_map.2 ⟨p, hp, rfl⟩)) q.1 (hl.new _ (List.mem_map.2 ⟨q, hq, rfl⟩))
 have hplace : ∀ id o b s, qm os' id = some o → β' id = some (b, s) → w.heap.size ≤ b ∨ ∃ k q t, qm os k = some q ∧ β (m k) = some (b, t) := fun id o b s ho hb => by
  rcases hc.obj id o ho with ⟨hn, _⟩ | ⟨b', s', arr, e, hb', hw, _⟩ | hm
  rotate_left 2
  ·exact (hm.place hb).1.elim .inl fun ⟨k, q, t, h3, h4⟩ => .inr ⟨k, q, t, h3, h4⟩
  ·rw [hn] at hb; cases hb
  ·rw [hb'] at hb
   simp only [Option.some.injEq, Prod.mk.injEq] at hb
   rcases hw with h | h
   ·exact .inl (hb.1 ▸ h)
   ·obtain ⟨k, q, t, h3, h4⟩ := h
    exact .inr ⟨k, q, t, h3, hb.1 ▸ h4⟩
 have hcross : ∀ id o b s, qm os' id = some o → β' id = some (b, s) → ∀ i q s', (((st.kills m news).drops m os)).objs i = some q → β i = some (b, s') → False := fun id o b s ho hb i q s' hq hb' => by
  obtain ⟨⟨p, hp⟩, _, hne, _⟩ := hst i q hq
  rcases hplace id o b s ho hb with h | ⟨k, q', t, h3, h4⟩
  ·have := hs.block_lt hp hb'; omega
  ·have := hs.inj i (m k) _ _ b s' t hp (hl.lent.obj h3) hb' h4
   exact hne _ (vx h3) this.symm
 refine ⟨h2.ext, h2.glob, h2.sub, h2.lt, ?_, ?_, ?_, fun n => ?_, h2.size⟩
 ·intro i o b s k ho hb h
  rcases j6 m _ hinj' ho with ⟨id, o', g1, rfl, rfl⟩ | ⟨g1, _⟩
  ·rw [hbind id (Q6.2 (z1f g1))] at hb
   exact hc.sep id o' b s k g1 hb h
  ·exact h2.sep i o b s k g1 hb h
 ·intro i i' o p b s s' ho hp hb hb'
  rcases j6 m _ hinj' ho with ⟨id, o', g1, rfl, rfl⟩ | ⟨g1, _⟩
  ·rw [hbind id (Q6.2 (z1f g1))] at hb
   rcases j6 m _ hinj' hp with ⟨id', p', k1, rfl, rfl⟩ | ⟨k1, _⟩
   ·rw [hbind id' (Q6.2 (z1f k1))] at hb'
    rw [hc.inj id id' o' p' b s s' g1 k1 hb hb']
   ·obtain ⟨_, _, _, hbi⟩ := hst i' p k1
    rw [hbi] at hb'
    exact (hcross id o' b s g1 hb i' p s' k1 hb').elim
  ·rcases j6 m _ hinj' hp with ⟨id', p', k1, rfl, rfl⟩ | ⟨k1, _⟩
   ·rw [hbind id' (Q6.2 (z1f k1))] at hb'
    obtain ⟨_, _, _, hbi⟩ := hst i o g1
    rw [hbi] at hb
    exact (hcross id' p' b s' k1 hb' i o s g1 hb).elim
   ·exact h2.inj i i' o p b s s' g1 k1 hb hb'
 ·intro i o ho
  rcases j6 m _ hinj' ho with ⟨id, o', g1, rfl, rfl⟩ | ⟨g1, _⟩
  ·have hbi := hbind id (Q6.2 (z1f g1))
   rcases hc.obj id o' g1 with ⟨hn, he⟩ | ⟨b', s', arr, e, hb', hw, hh, hz, hel⟩ | hm
   rotate_left 2
   ·obtain ⟨b, en, ck, ks, vs, q1, q2, q3, q4, q5⟩ := hm
    exact .inr (.inr ⟨b, en, ck, ks, vs, hbi.trans q1, q2.elim (fun h => .inl (Nat.le_trans hs.ext.size h)) (hMB b), q3, z3b.2 q4, q5⟩)
   ·exact .inl ⟨hbi.trans hn, by simp [AObj.ren, he]⟩
   ·refine .inr (.inl ⟨b', s', arr, e, hbi.trans hb', ?_, hh, by simpa [AObj.ren] using hz, fun k x hx => ?_⟩)
    ·rcases hw with h | h
     ·exact .inl (Nat.le_trans hs.ext.size h)
     ·exact hMB b' h
    ·simp only [AObj.ren, List.getElem?_map] at hx
     cases hy : o'.elems[k]? with
     | none => simp [hy] at hx
     | some y =>
      simp only [hy, Option.map_some, Option.some.injEq] at hx
      subst hx
      obtain ⟨h3, h4⟩ := hel k y hy
      rw [z14]
      refine ⟨by simpa [AObj.ren] using h3, MemC.ren.2 (h4.only (p := kl os') (fun j hj => hbind j hj) (zhk (z4g (ho' _ (vx g1)) (List.mem_of_getElem? hy))))⟩
  ·exact h2.obj i o g1
 ·rw [ASt.backX, z1g]
  exact h2.env n
theorem zd2 {F : FC} {o : Oper} {β : zg} {S : Nat → Nat → Prop} {st : ASt} {a : Act} {w : World} {f : Operand} {args : Array Operand} {ts : Array TypeId} {g : FuncId} {xs rs : List AV} (hs : SimB F β S st a.tmps w)
  (ho : o.op = .call { callee := .value f, args := args, argTypes := ts }) {ρ : Operand → AV} (hf : ∀ x ∈ o.op.operands.toList, RepA β S w (ρ x) (a.eval x)) {caps : List AV} (hg : ρ f = .fn g caps) {m : Nat → Nat} (hxs : renL m xs = args.toList.map ρ ++ caps)
  {news : List Nat} {os os' : List (Nat × AObj)} (hl : LentX F st.objs m news os os') (hc : GivesX F.P F.G g xs os rs os') {K : Act → World → Prop} {Q : Exit → Act → World → Prop}
  (hK : ∀ β' S' w' r, SimB F β' S' (st.backX m news os os') a.tmps w' → RepA β' S' w' (z0s (renL m rs)) r → K (a.put o.dst r) w') : o.wpIn F.fence 0 F.P a w K Q := by
 obtain ⟨⟨⟨fn, c, hfn, hbody, hname⟩, hors, hoos⟩, hcalls⟩ := hc
 have hrf := hf f (by simp [ho, Op.operands, Call.operands])
 rw [hg] at hrf
 simp only [RepA] at hrf
 obtain ⟨vs, hvf, hvs⟩ := hrf
 have hargs : RepAL (fun i => β (m i)) S w xs ((args.map a.eval) ++ vs).toList := by
  rw [← RepAL.ren, hxs, Array.toList_append, Array.toList_map]
  exact yn (k9 args.toList fun x hx => hf x (by simp only [ho, Op.operands, Call.operands]; simp at hx ⊢; exact .inr hx)) hvs
 have hrun : (execOp a.eval o).run F.P w = .ok (.enter g (args.map a.eval ++ vs)) w := by
  have hn' : ¬ fn.name = "runtime.NumGoroutine" := by simpa using hname
  simp [execOp, ho, resolve, hvf, Deferred.ofValue, invoke, callFunc, hfn, hn', hbody]
 refine z4i hrun ?_
 refine (hcalls w _ S _ (hs.lent hl.lent) hargs).mono fun e w' h => ?_
 obtain ⟨r, β', S', rfl, hS, hpin, hsim, hret⟩ := h
 obtain ⟨hb, hsim'⟩ := hs.repaidX hl hS hoos hpin hsim
 refine hK _ S' w' r hsim' (zlp (RetRA.ren m ?_))
 exact hret.only (p := kl os') hb hors
end Go.Av

