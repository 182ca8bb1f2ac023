/- A part of the proof. -/
import Derived.Test.YtkeopokhnfpgpaaGreatDoorHAv54
import Derived.RangeFuncSeq
import Derived.RecoverIn
import Derived.Test.YtkeopokhnfpgpaaGreatDoorHAv51
import Derived.Test.YtkeopokhnfpgpaaGreatDoorHAv50
set_option linter.all false
namespace Go.Av
def zxz : Obj → Bool
 | .loop _ => true
 | .deferred _ => true
 | _ => false
theorem SimB.grow {F : FC} {β : zg} {S : Nat → Nat → Prop} {st : ASt} {tm : Array Value} {w w' : World} (hs : SimB F β S st tm w) (h : Ext (fun _ => False) w w') : SimB F β S st tm w' :=
 hs.world h (fun _ _ hf => hf.elim) (fun b i hS => ⟨hS, xe (h.block b (hs.lt b i hS) fun f => f)⟩) hs.sub (fun b i h1 => Nat.lt_of_lt_of_le (hs.lt b i h1) h.size) hs.sep
  (fun _ _ b _ hio hb => h.block b (hs.block_lt hio hb) fun f => f)
def LeB (F : FC) (st st' : ASt) : Prop := ∀ (β : zg) (S : Nat → Nat → Prop) (tm : Array Value) (w : World), SimB F β S st tm w → ∃ β', SimB F β' S st' tm w
theorem LeB.refl (F : FC) (st : ASt) : LeB F st st := fun β _ _ _ h => ⟨β, h⟩
theorem LeB.trans {F : FC} {a b c : ASt} (h : LeB F a b) (k : LeB F b c) : LeB F a c := fun β S tm w hs => let ⟨β1, h1⟩ := h β S tm w hs; k β1 S tm w h1
theorem LeB.of {F : FC} {st : ASt} {e : List (Nat × AV)} {o : List (Nat × AObj)} (h1 : LeE st.env e) (h2 : LeO st.objs o) : LeB F st (.of e o) := fun β _ _ _ hs => ⟨β, hs.less (fun n => h1.get n) (fun i ob h => h2.get i ob h)⟩
theorem LeB.swap {F : FC} {e : List (Nat × AV)} {o : List (Nat × AObj)} (a b : Nat) (ha : a < F.N) (hb : b < F.N) : LeB F (.of e o) (.of (renE a b e) (renO a b o)) := fun _ _ _ _ hs => ⟨_, by rw [← zju]; exact hs.swap a b ha hb⟩
structure Held (S : Nat → Nat → Prop) (w w' : World) : Prop where
 os : w'.os = w.os
 tape : w'.tape = w.tape
 output : w'.output = w.output
 size : w.heap.size ≤ w'.heap.size
 keeps : Keeps S S w w'
 shape : Shapes w w'
def QTail (Q : Exit → ASt → Prop) : Exit → ASt → Prop
 | .ret, st => Q .ret st
 | _, _ => False
def zvs (st : ASt) (β : zg) : Nat → Prop := fun b => ∃ id o s, st.objs id = some o ∧ β id = some (b, s)
theorem SimB.ownB {F : FC} {β : zg} {S : Nat → Nat → Prop} {st : ASt} {tm : Array Value} {w : World} (hs : SimB F β S st tm w) {b : Nat} (h : zvs st β b) : (F.w0.heap.size ≤ b ∨ F.M0 b) ∧ b < w.heap.size ∧ ∀ o, w.heap[b]? = some o → zxz o = false := by
 obtain ⟨id, o, s, hio, hb⟩ := h
 rcases hs.obj id o hio with ⟨hn, _⟩ | ⟨b', s', arr, e, hb', hw, hh, _⟩ | hm
 ·rw [hn] at hb; cases hb
 ·rw [hb'] at hb
  simp only [Option.some.injEq, Prod.mk.injEq] at hb
  obtain ⟨rfl, _⟩ := hb
  exact ⟨hw, (Array.getElem?_eq_some_iff.1 hh).1, fun o' ho' => by rw [hh] at ho'; cases ho'; rfl⟩
 ·obtain ⟨b', en, ck, ks, vs, hb', hw, hh, _⟩ := hm
  rw [hb'] at hb
  simp only [Option.some.injEq, Prod.mk.injEq] at hb
  obtain ⟨rfl, _⟩ := hb
  exact ⟨hw, (Array.getElem?_eq_some_iff.1 hh).1, fun o' ho' => by rw [hh] at ho'; cases ho'; rfl⟩
def FC.at_ (F : FC) (w : World) (st : ASt) (β : zg) (S : Nat → Nat → Prop) (ds : List Deferred) : FC := { F with w0 := w, M0 := zvs st β, S0 := S, ds := ds, frb := fun b => F.w0.heap.size ≤ b ∨ F.frb b }
theorem SimB.outOf {F : FC} {β β' : zg} {S S' : Nat → Nat → Prop} {st st' : ASt} {tm tm' : Array Value} {w w' : World} {ds : List Deferred} (hs : SimB F β S st tm w) (h : SimB (F.at_ w st β S ds) β' S' st' tm' w') : SimB F β' S' st' tm' w' := by
 have hsz : F.w0.heap.size ≤ w.heap.size := hs.ext.size
 have hM : ∀ b, w.heap.size ≤ b ∨ zvs st β b → F.w0.heap.size ≤ b ∨ F.M0 b := fun b h => h.elim (fun h => .inl (Nat.le_trans hsz h)) fun h => (hs.ownB h).1
 refine ⟨hs.ext.trans h.ext (fun k hk hm => (hs.ownB hm).1.elim (fun h => by omega) fun h => h), hs.glob, fun b i hb => (h.sub b i hb).elim (hs.sub b i) fun h => .inr (h.elim (fun h => .inl (Nat.le_trans hsz h)) id), h.lt, h.sep, h.inj, fun id o ho => ?_, h.env, h.size⟩
 rcases h.obj id o ho with h | ⟨b, s, arr, e, hb, hw, hh, hz, hel⟩ | ⟨b, en, ck, ks, vs, hb, hw, h3, h4, h5⟩
 ·exact .inl h
 ·exact .inr (.inl ⟨b, s, arr, e, hb, hM b hw, hh, hz, hel⟩)
 ·exact .inr (.inr ⟨b, en, ck, ks, vs, hb, hM b hw, h3, h4, h5⟩)
end Go.Av

namespace Go.Av
theorem Held.trans {S : Nat → Nat → Prop} {a b c : World} (h : Held S a b) (k : Held S b c) : Held S a c :=
 ⟨k.os.trans h.os, k.tape.trans h.tape, k.output.trans h.output, Nat.le_trans h.size k.size, h.keeps.trans k.keeps, h.shape.trans k.shape⟩
end Go.Av

namespace Go.Av
theorem QTail.out {F : FC} {β : zg} {S : Nat → Nat → Prop} {st : ASt} {tm : Array Value} {w : World} {ds : List Deferred} {Q : Exit → ASt → Prop} (hs : SimB F β S st tm w) {e : Exit} {a' : Act} {w' : World} (h : ∃ st', QTail Q e st' ∧ SimX (F.at_ w st β S ds) e st' a' w') : ∃ st', Q e st' ∧ SimX F e st' a' w' := by
 obtain ⟨st', hq, hx⟩ := h
 cases e <;> try exact hq.elim
 obtain ⟨h1, β', S', h2⟩ := hx
 exact ⟨st', hq, h1, β', S', hs.outOf h2⟩
theorem TopF.at_ {F : FC} {β : zg} {S : Nat → Nat → Prop} {st : ASt} {tm : Array Value} {w : World} {ds : List Deferred} (hs : SimB F β S st tm w) (h : TopF F) : TopF (F.at_ w st β S ds) :=
 ⟨fun _ hb => (hs.ownB hb).1.elim .inl fun hm => .inr (h.1 _ hm), h.2⟩
theorem PinM.at_ {F : FC} {β : zg} {S : Nat → Nat → Prop} {st : ASt} {tm : Array Value} {w : World} {ds : List Deferred} (hs : SimB F β S st tm w) (L : List Nat) (h : PinM F L) : PinM (F.at_ w st β S ds) L :=
 ⟨fun _ hb => (hs.ownB hb).1.elim (fun h => .inl (.inl h)) fun hm => (h.1 _ hm).imp .inr id, h.2⟩
def JSim (F : FC) (S : Nat → Nat → Prop) (e : List (Nat × AV)) (a : Act) (w : World) : Prop := a.defers = [] ∧ SimB F (fun _ => none) S (.of e []) a.tmps w
variable {F : FC} {S : Nat → Nat → Prop} {Q : Exit → List (Nat × AV) → (World → Prop) → Prop} {e : List (Nat × AV)} {J : World → Prop}
theorem JSim.less {e' : List (Nat × AV)} {a : Act} {w : World} (h : LeE (y0 e) e') (hs : JSim F S e a w) : JSim F S e' a w := ⟨hs.1, hs.2.less (fun n => h.get n) fun _ _ h => h⟩
theorem JSim.keep {ns : List Nat} {e' : List (Nat × AV)} {st : ASt} {a : Act} {w : World} (hd : a.defers = []) (hs : SimB F (fun _ => none) S st a.tmps w) (hk : Kept ns [] e' [] st) : JSim F S e' a w := by
 refine ⟨hd, hs.less (fun n => ?_) fun i o h => by simp [ASt.of, qm] at h⟩
 have := z40 st.env n ns
 rw [hk.1] at this
 exact this
end Go.Av

namespace Go.Av
section
variable {F : FC} {S : Nat → Nat → Prop} {Q : Exit → List (Nat × AV) → (World → Prop) → Prop} {e : List (Nat × AV)} {J : World → Prop}
def SplitL : Nat → List Oper → List Oper → Oper → List Oper → Prop
 | 0, ops, la, o, lb => la = [] ∧ ops = o :: lb
 | n + 1, ops, la, o, lb => ∃ x r la', ops = x :: r ∧ la = x :: la' ∧ SplitL n r la' o lb
theorem SplitL.eq : ∀ {n : Nat} {ops la : List Oper} {o : Oper} {lb : List Oper}, SplitL n ops la o lb → ops = la ++ o :: lb
 | 0, _, _, _, _, h => by obtain ⟨rfl, rfl⟩ := h; rfl
 | n + 1, _, _, _, _, h => by
  obtain ⟨x, r, la', rfl, rfl, h⟩ := h
  rw [h.eq]; rfl
theorem SplitL.next {n : Nat} {x : Oper} {r la lb : List Oper} {o : Oper} (h : SplitL n r la o lb) : SplitL (n + 1) (x :: r) (x :: la) o lb := ⟨x, r, la, rfl, rfl, h⟩
end
def x8 (D : Nat → Bool) : List Nat → Prop
 | [] => True
 | a :: l => D a = true ∧ x8 D l
def NoD (D : Nat → Bool) : List Nat → Prop
 | [] => True
 | a :: l => D a = false ∧ NoD D l
theorem zie {D : Nat → Bool} : ∀ {l : List Nat}, (∀ a ∈ l, D a = true) → x8 D l
 | [], _ => trivial
 | _ :: _, h => ⟨h _ (by simp), zie fun a ha => h a (by simp [ha])⟩
theorem zqb {D : Nat → Bool} : ∀ {l : List Nat}, (∀ a ∈ l, D a = false) → NoD D l
 | [], _ => trivial
 | _ :: _, h => ⟨h _ (by simp), zqb fun a ha => h a (by simp [ha])⟩
theorem zkl (D : Nat → Bool) (b : Nat → AV) (i d : Nat) (v : AV) (l : List (Nat × Nat × AV)) (n : Nat) : envD D b ((i, d, v) :: l) n = if n = d ∧ D i = true then v else envD D b l n := rfl
theorem zkm (D : Nat → Bool) (b : Nat → AV) (n : Nat) : envD D b [] n = b n := rfl
theorem zo8 (st : ASt) (i : Nat) (o : AObj) : (st.drop i).obj i o = st.obj i o := by
 unfold ASt.drop ASt.obj
 congr 1
 funext n
 simp only [zq]
 split <;> rfl
def z04 (l : List Oper) (i : Nat) (ancs descs : List Nat) : Bool :=
 ancs.all (fun a => ((z3t l []).getD i 0).testBit a && decide (a < l.length)) && descs.all fun j => ((z3t l []).getD j 0).testBit i && decide (j < l.length)
theorem zcu {l : List Oper} {D : Nat → Bool} (hcl : kf l.toArray D) {i : Nat} {o : Oper} (ho : l[i]? = some o) (hd : ∀ e ∈ o.after.toList, Region.binds .any e = true → D e.on = true) {a : Nat} (ha : ((z3t l []).getD i 0).testBit a = true) (hlt : a < l.length) : D a = true := by
 have h := zcx (ops := l.toArray) (R := (List.range l.length).filter fun j => !D j) (fun j p hp hj e he hb hm => ?_) (fun j hj => by simp at hj; simpa using hj.1) i o (by simpa using ho) (fun e he hb hm => ?_) a (by simpa using ha)
 ·cases hD : D a
  ·exact absurd (by simp [hD, hlt]) h
  ·rfl
 ·have hjl : j < l.length := by have := (Array.getElem?_eq_some_iff.1 hp).1; simpa using this
  have hDj : D j = true := by
   cases hD : D j
   ·exact absurd (by simp [hD, hjl]) hj
   ·rfl
  have := hcl j p hp hDj e he hb
  simp [this] at hm
 ·have := hd e he hb
  simp [this] at hm
def zyu (l : List Oper) (es : List (Nat × Nat)) (is : List Nat) : Bool :=
 l.all (fun o => o.guard.isNone) &&
 (List.range l.length).all (fun i => match l[i]? with | some o => o.after.toList.all fun e => !Region.binds .any e || decide (e.on < i) | none => true) &&
 Zd (fun a b => a != b) (es.map (·.2)) && Zd (fun a b => a != b) (es.map (·.1)) && es.all (fun p => decide (p.1 < l.length)) && is.all (fun i => decide (i < l.length))
def OkJ (evs : List (Nat × Nat × AV)) : Prop := (evs.map (·.2.1)).Nodup ∧ (evs.map (·.1)).Nodup
def JOp (F : FC) (l : List Oper) (evs : List (Nat × Nat × AV)) (ovs : List (Nat × Nat × AObj)) (st : ASt) (i : Nat) (o : Oper) : Prop :=
 l[i]? = some o → OkJ evs → ∀ D : Nat → Bool, D i = false → (∀ e ∈ o.after.toList, Region.binds .any e = true → D e.on = true) → kf l.toArray D → StepOK F o (jD evs ovs st D) (jD evs ovs st (vc D i))
def JOps (F : FC) (l : List Oper) (evs : List (Nat × Nat × AV)) (ovs : List (Nat × Nat × AObj)) (st : ASt) : Nat → List Oper → Prop
 | _, [] => True
 | i, o :: r => JOp F l evs ovs st i o ∧ JOps F l evs ovs st (i + 1) r
theorem JOps.get {F : FC} {l : List Oper} {evs : List (Nat × Nat × AV)} {ovs : List (Nat × Nat × AObj)} {st : ASt} : ∀ {r : List Oper} {k i : Nat} {o : Oper}, JOps F l evs ovs st k r → r[i]? = some o → JOp F l evs ovs st (k + i) o
 | [], _, _, _, _, h => by simp at h
 | x :: r, k, i, o, hj, h => by
  cases i with
  | zero => simp at h; subst h; exact hj.1
  | succ i => rw [show k + (i + 1) = k + 1 + i by omega]; exact JOps.get hj.2 (by simpa using h)
section
variable {F : FC} {l : List Oper} {evs : List (Nat × Nat × AV)} {ovs : List (Nat × Nat × AObj)} {st : ASt} {i : Nat} {o : Oper}
theorem jc {ancs descs : List Nat} (hb : z04 l i ancs descs = true) (ho : l[i]? = some o) {D : Nat → Bool} (hD : D i = false) (hdep : ∀ e ∈ o.after.toList, Region.binds .any e = true → D e.on = true) (hcd : kf l.toArray D) : x8 D ancs ∧ NoD D (i :: descs) := by
 unfold z04 at hb
 simp only [Bool.and_eq_true, List.all_eq_true, decide_eq_true_eq] at hb
 refine ⟨zie fun a ha => zcu hcd ho hdep (hb.1 a ha).1 (hb.1 a ha).2, zqb fun j hj => ?_⟩
 rcases List.mem_cons.1 hj with rfl | hj
 ·exact hD
 ·cases hDj : D j
  ·rfl
  ·obtain ⟨h1, h2⟩ := hb.2 j hj
   have hoj : l[j]? = some l[j] := List.getElem?_eq_getElem h2
   have hil : i < l.length := (List.getElem?_eq_some_iff.1 ho).1
   have := zcu hcd hoj (fun e he hb => hcd j _ (by simpa using hoj) hDj e he hb) h1 hil
   rw [hD] at this; cases this
end
abbrev zwz (v : Value) : List PanicEntry := [{ v, recovered := false }]
def zyq (P : Program) (G : List (Nat × Dat)) (f : FuncId) (xs : List AV) (os : List (Nat × AObj)) (pv : Value) : Prop :=
 (∃ fn c, P.funcs[f]? = some fn ∧ fn.body = some c ∧ (fn.name == "runtime.NumGoroutine") = false) ∧
 ∀ (w : World) (β : zg) (S : Nat → Nat → Prop) (vals : Array Value), SimB (FC0 P G w os β S) β S (.os os) #[] w → RepAL β S w xs vals.toList →
  Calls P f vals w fun e w' => ∃ S' : Nat → Nat → Prop, e = .panicked (zwz pv) ∧ (∀ b i, S b i → S' b i) ∧ SimB (FCX P G w os β β S) β S' (.os []) #[] w'
def JOpsP (F : FC) (l : List Oper) (evs : List (Nat × Nat × AV)) (ovs : List (Nat × Nat × AObj)) (st : ASt) (k : Nat) : Nat → List Oper → Prop
 | _, [] => True
 | i, o :: r => (i = k ∨ z04 l i [k] [] = true ∨ JOp F l evs ovs st i o) ∧ JOpsP F l evs ovs st k (i + 1) r
theorem JOpsP.get {F : FC} {l : List Oper} {evs : List (Nat × Nat × AV)} {ovs : List (Nat × Nat × AObj)} {st : ASt} {kk : Nat} : ∀ {r : List Oper} {k i : Nat} {o : Oper}, JOpsP F l evs ovs st kk k r → r[i]? = some o → k + i = kk ∨ z04 l (k + i) [kk] [] = true ∨ JOp F l evs ovs st (k + i) o
 | [], _, _, _, _, h => by simp at h
 | x :: r, k, i, o, hj, h => by
  cases i with
  | zero => simp at h; subst h; exact hj.1
  | succ i => rw [show k + (i + 1) = k + 1 + i by omega]; exact JOpsP.get hj.2 (by simpa using h)
def GivesXP {α : Type} (P : Program) (G : List (Nat × Dat)) (f : FuncId) (xs : List AV) (os : List (Nat × AObj)) (r : Option α) (rs : α → List AV) (os' : α → List (Nat × AObj)) (pv : Value) : Prop :=
 match r with
 | none => zyq P G f xs os pv
 | some x => GivesX P G f xs os (rs x) (os' x)
theorem GivesXP.ok {α : Type} {P : Program} {G : List (Nat × Dat)} {f : FuncId} {xs : List AV} {os : List (Nat × AObj)} {r : Option α} {rs : α → List AV} {os' : α → List (Nat × AObj)} {pv : Value} (h : GivesXP P G f xs os r rs os' pv) {x : α} (hr : r = some x) : GivesX P G f xs os (rs x) (os' x) := by
 subst hr; exact h
def z00 (D : Nat → Bool) (base : Nat → Option AObj) : List (Nat × Nat × Option AObj) → Nat → Option AObj
 | [] => base
 | (i, id, o) :: l => fun n => if n = id ∧ D i = true then o else z00 D base l n
def eD (evs : List (Nat × Nat × AV)) (ovs : List (Nat × Nat × Option AObj)) (st : ASt) (D : Nat → Bool) : ASt := ⟨envD D st.env evs, z00 D st.objs ovs⟩
theorem zwj (evs : List (Nat × Nat × AV)) (ovs : List (Nat × Nat × Option AObj)) (st : ASt) (D : Nat → Bool) (n : Nat) : (eD evs ovs st D).env n = envD D st.env evs n := rfl
theorem zt5 (evs : List (Nat × Nat × AV)) (ovs : List (Nat × Nat × Option AObj)) (st : ASt) (D : Nat → Bool) (n : Nat) : (eD evs ovs st D).objs n = z00 D st.objs ovs n := rfl
theorem zlc (D : Nat → Bool) (b : Nat → Option AObj) (i d : Nat) (v : Option AObj) (l : List (Nat × Nat × Option AObj)) (n : Nat) : z00 D b ((i, d, v) :: l) n = if n = d ∧ D i = true then v else z00 D b l n := rfl
theorem zld (D : Nat → Bool) (b : Nat → Option AObj) (n : Nat) : z00 D b [] n = b n := rfl
def Zb := And.intro @zwj (And.intro @zt5 (And.intro @zkl (And.intro @zkm (And.intro @zlc (And.intro @zld (And.intro @zo8 (And.intro @true_and (And.intro @false_and (And.intro @and_true (And.intro @and_false (@Bool.false_eq_true)))))))))))
theorem z32 {i n : Nat} {l : List (Nat × Nat × Option AObj)} {ks : List Nat} (h : l.all (fun p => p.1 != i || ks.contains p.2.1) = true) (hn : n ∉ ks) (o : Option AObj) : (i, n, o) ∉ l := fun hp => by
 have := List.all_eq_true.1 h _ hp
 simp [hn] at this
theorem zip {evs : List (Nat × Nat × AV)} {ovs : List (Nat × Nat × Option AObj)} {st : ASt} {D : Nat → Bool} (h1 : ∀ p ∈ evs, D p.1 = false) (h2 : ∀ p ∈ ovs, D p.1 = false) : eD evs ovs st D = st := by
 have e1 := z3z (base := st.env) h1
 have e2 : z00 D st.objs ovs = st.objs := by
  induction ovs with
  | nil => rfl
  | cons p l ih =>
   obtain ⟨i, c, u⟩ := p
   funext n
   simp only [z00, ih fun p hp => h2 p (by simp [hp])]
   rw [if_neg fun hc => by have := h2 (i, c, u) (by simp); rw [this] at hc; cases hc.2]
 unfold eD
 rw [e1, e2]
theorem zks {st : ASt} {d old : Nat} (h : z5h d st) : z5h d (st.drop old) := by
 refine ⟨h.1, fun k o ho => ?_⟩
 simp only [ASt.drop, zq] at ho
 split at ho
 ·simp at ho
 ·exact h.2 k o ho
theorem zob {evs : List (Nat × Nat × AV)} {ovs : List (Nat × Nat × Option AObj)} {st : ASt} {D : Nat → Bool} {id : Nat} (h : z5h id st) (h1 : ∀ p ∈ evs, D p.1 = false ∨ p.2.2.kill id = p.2.2) (h2 : ∀ p ∈ ovs, D p.1 = false ∨ ∀ o, p.2.2 = some o → o.elems.map (AV.kill id) = o.elems) : z5h id (eD evs ovs st D) := by
 refine ⟨fun n => ?_, fun k o ho => ?_⟩
 ·have := (zgz (ovs := []) h h1 (by simp)).1 n
  exact this
 ·unfold eD at ho
  simp only at ho
  induction ovs with
  | nil => exact h.2 k o ho
  | cons p l ih =>
   obtain ⟨i, c, u⟩ := p
   simp only [z00] at ho
   split at ho
   ·rename_i hc
    subst ho
    rcases h2 (i, c, some o) (by simp) with hf | hf
    ·rw [hf] at hc; cases hc.2
    ·exact hf o rfl
   ·exact ih (fun p hp => h2 p (by simp [hp])) ho
def z6a (l : List Oper) (es : List (Nat × Nat)) (is : List (Nat × Nat)) : Bool := zyu l es (is.map (·.1)) && Zd (fun a b => a != b) (is.map (·.2))
def EOp (F : FC) (l : List Oper) (evs : List (Nat × Nat × AV)) (ovs : List (Nat × Nat × Option AObj)) (st : ASt) (i : Nat) (o : Oper) : Prop :=
 l[i]? = some o → OkJ evs → (ovs.map (·.2.1)).Nodup → ∀ D : Nat → Bool, D i = false → (∀ e ∈ o.after.toList, Region.binds .any e = true → D e.on = true) → kf l.toArray D → StepOK F o (eD evs ovs st D) (eD evs ovs st (vc D i))
def EOps (F : FC) (l : List Oper) (evs : List (Nat × Nat × AV)) (ovs : List (Nat × Nat × Option AObj)) (st : ASt) : Nat → List Oper → Prop
 | _, [] => True
 | i, o :: r => EOp F l evs ovs st i o ∧ EOps F l evs ovs st (i + 1) r
theorem EOps.get {F : FC} {l : List Oper} {evs : List (Nat × Nat × AV)} {ovs : List (Nat × Nat × Option AObj)} {st : ASt} : ∀ {r : List Oper} {k i : Nat} {o : Oper}, EOps F l evs ovs st k r → r[i]? = some o → EOp F l evs ovs st (k + i) o
 | [], _, _, _, _, h => by simp at h
 | x :: r, k, i, o, hj, h => by
  cases i with
  | zero => simp at h; subst h; exact hj.1
  | succ i => rw [show k + (i + 1) = k + 1 + i by omega]; exact EOps.get hj.2 (by simpa using h)
section
variable {F : FC} {l : List Oper} {evs : List (Nat × Nat × AV)} {ovs : List (Nat × Nat × Option AObj)} {st : ASt} {i : Nat} {o : Oper}
end
theorem Zs {D : Nat → Bool} {base : Nat → Option AObj} {i n : Nat} : ∀ {l : List (Nat × Nat × Option AObj)}, (∀ o, (i, n, o) ∉ l) → z00 (vc D i) base l n = z00 D base l n
 | [], _ => rfl
 | (j, c, u) :: l, h => by
  have ih := Zs (D := D) (base := base) (i := i) (n := n) (l := l) fun o ho => h o (List.mem_cons_of_mem _ ho)
  simp only [z00, ih]
  by_cases hc : n = c
  ·have hj : j ≠ i := fun e => h u (by rw [← e, hc]; exact List.mem_cons_self)
   simp [vc, hj]
  ·simp [hc]
def Qv (D : Nat → Bool) (i id : Nat) (o : Option AObj) : List (Nat × Nat × Option AObj) → Prop
 | [] => False
 | (j, c, u) :: l => (j = i ∧ c = id ∧ u = o) ∨ ((c ≠ id ∨ (j ≠ i ∧ D j = false)) ∧ Qv D i id o l)
theorem Zt {D : Nat → Bool} {base : Nat → Option AObj} {i id : Nat} {o : Option AObj} : ∀ {l : List (Nat × Nat × Option AObj)}, Qv D i id o l → z00 (vc D i) base l id = o
 | [], h => h.elim
 | (j, c, u) :: l, h => by
  rcases h with ⟨rfl, rfl, rfl⟩ | ⟨h1, h2⟩
  ·simp [z00, vc]
  ·have ih := Zt (base := base) h2
   simp only [z00, ih]
   rcases h1 with h1 | ⟨h1, h3⟩
   ·rw [if_neg fun hc => h1 hc.1.symm]
   ·rw [if_neg]
    rintro ⟨_, hc⟩
    simp [vc, h1, h3] at hc
def zd6 (l : List Oper) (es : List (Nat × Nat)) (is : List Nat) : Bool :=
 (List.range l.length).all (fun i => match l[i]? with | some o => o.after.toList.all fun e => !Region.binds .any e || decide (e.on < i) | none => true) &&
 Zd (fun a b => a != b) (es.map (·.2)) && Zd (fun a b => a != b) (es.map (·.1)) && es.all (fun p => decide (p.1 < l.length)) && is.all (fun i => decide (i < l.length))
theorem zqg {l : List Oper} {evs : List (Nat × Nat × AV)} {is : List Nat} (h : zd6 l (evs.map fun p => (p.1, p.2.1)) is = true) : OkJ evs := by
 unfold zd6 at h
 simp only [Bool.and_eq_true] at h
 obtain ⟨⟨⟨⟨_, h1⟩, h2⟩, _⟩, _⟩ := h
 have e1 : (evs.map fun p => (p.1, p.2.1)).map (·.2) = evs.map (·.2.1) := by simp
 have e2 : (evs.map fun p => (p.1, p.2.1)).map (·.1) = evs.map (·.1) := by simp
 rw [e1] at h1; rw [e2] at h2
 exact ⟨(kq h1).imp fun {a b} h => by simpa using h, (kq h2).imp fun {a b} h => by simpa using h⟩
theorem StepG.of {F : FC} {ops : Array Oper} {o : Oper} {st st' : ASt} (hg : o.guard = none) (h : StepOK F o st st') : StepG F ops o st st' := by
 unfold StepG; rw [hg]; exact h
def FOp (F : FC) (l : List Oper) (evs : List (Nat × Nat × AV)) (ovs : List (Nat × Nat × Option AObj)) (st : ASt) (i : Nat) (o : Oper) : Prop :=
 l[i]? = some o → OkJ evs → ∀ D : Nat → Bool, D i = false → (∀ e ∈ o.after.toList, Region.binds .any e = true → D e.on = true) → kf l.toArray D → StepG F l.toArray o (eD evs ovs st D) (eD evs ovs st (vc D i))
def FOps (F : FC) (l : List Oper) (evs : List (Nat × Nat × AV)) (ovs : List (Nat × Nat × Option AObj)) (st : ASt) : Nat → List Oper → Prop
 | _, [] => True
 | i, o :: r => FOp F l evs ovs st i o ∧ FOps F l evs ovs st (i + 1) r
theorem FOps.get {F : FC} {l : List Oper} {evs : List (Nat × Nat × AV)} {ovs : List (Nat × Nat × Option AObj)} {st : ASt} : ∀ {r : List Oper} {k i : Nat} {o : Oper}, FOps F l evs ovs st k r → r[i]? = some o → FOp F l evs ovs st (k + i) o
 | [], _, _, _, _, h => by simp at h
 | x :: r, k, i, o, hj, h => by
  cases i with
  | zero => simp at h; subst h; exact hj.1
  | succ i => rw [show k + (i + 1) = k + 1 + i by omega]; exact FOps.get hj.2 (by simpa using h)
theorem X2 {F : FC} (ns ids : List Nat) (evs : List (Nat × Nat × AV)) (ovs : List (Nat × Nat × Option AObj)) {e : List (Nat × AV)} {o : List (Nat × AObj)} {l : List Oper} {id : Nat} {Q : Exit → ASt → Prop} {st : ASt}
  (hs : FOps F l evs ovs st 0 l) (k : Q .normal (.of e o)) (hm : F.P.follows .mixedOrders = true := by rw [hP]; kernel_rfl)
  (hc : zd6 l (evs.map fun p => (p.1, p.2.1)) (ovs.map (·.1)) = true := by kernel_rfl)
  (hk : Kept ns ids e o (eD evs ovs st fun _ => true) := by
    simp (maxSteps := 2000000) (disch := omega) only [wm, avA, zk, zo, seval, hE, Zb]
    exact ⟨rfl, rfl⟩) : AWp F (.region id l.toArray true) Q st := fun a w hs' => by
 have hok := zqg hc
 unfold zd6 at hc
 simp only [Bool.and_eq_true] at hc
 obtain ⟨⟨⟨⟨h2, _⟩, _⟩, h5⟩, h6⟩ := hc
 refine wpIn_mono (zig (Q := fun ex st' => ex = Exit.normal ∧ st' = eD evs ovs st fun _ => true) (eD evs ovs st) hm h2 (fun D i o' ho hD hdep hcd => by have := hs.get ho; rw [Nat.zero_add] at this; exact this ho hok D hD hdep hcd) (fun D hD => Le.eq (zip (fun p hp => hD _ ?_) (fun p hp => hD _ ?_)).symm) ⟨rfl, rfl⟩ a w hs') fun ex a' w' ⟨st', ⟨g1, g2⟩, hs'⟩ => ?_
 ·simpa using List.all_eq_true.1 h5 (p.1, p.2.1) (List.mem_map.2 ⟨p, hp, rfl⟩)
 ·simpa using List.all_eq_true.1 h6 p.1 (List.mem_map.2 ⟨p, hp, rfl⟩)
 ·subst g1; subst g2
  refine ⟨.of e o, k, ?_⟩
  have := Le.keep F (eD evs ovs st fun _ => true) ns ids a' w' hs'
  unfold ASt.keep at this
  rw [hk.1, hk.2] at this
  exact this
theorem WDF {F : FC} (ns ids : List Nat) (evs : List (Nat × Nat × AV)) (ovs : List (Nat × Nat × Option AObj)) {e : List (Nat × AV)} {o : List (Nat × AObj)} {l : List Oper} {id : Nat} {y : Code} {Q : Exit → ASt → Prop} {st : ASt}
  (hs : FOps F l evs ovs st 0 l) (k : AWp F y Q (.of e o)) (hm : F.P.follows .mixedOrders = true := by rw [hP]; kernel_rfl)
  (hc : zd6 l (evs.map fun p => (p.1, p.2.1)) (ovs.map (·.1)) = true := by kernel_rfl)
  (hk : Kept ns ids e o (eD evs ovs st fun _ => true) := by
    simp (maxSteps := 2000000) (disch := omega) only [wm, avA, zk, zo, seval, hE, Zb]
    exact ⟨rfl, rfl⟩) : AWp F (.seq (.region id l.toArray true) y) Q st := z3 (X2 (Q := zcq F y Q) ns ids evs ovs hs k hm hc hk)
theorem z2r {evs : List (Nat × Nat × AV)} {ovs : List (Nat × Nat × Option AObj)} {st : ASt} {D : Nat → Bool} {i d : Nat} {v : AV} (h : (i, d, v) ∈ evs) (h1 : OkJ evs) (h3 : ovs.all (fun p => p.1 != i || [].contains p.2.1) = true) :
  (eD evs ovs st D).put (some d) v = eD evs ovs st (vc D i) := by
 unfold eD ASt.put
 simp only [Zl (D := D) (base := st.env) h h1.1 h1.2]
 congr 1
 funext n
 exact (Zs (fun o => z32 h3 (by simp) o)).symm
theorem zo9 {evs : List (Nat × Nat × AV)} {ovs : List (Nat × Nat × Option AObj)} {st : ASt} {D : Nat → Bool} {i d id : Nat} {v : AV} {o : AObj} (h : (i, d, v) ∈ evs) (h1 : OkJ evs) (h' : Qv D i id (some o) ovs) (h3 : ovs.all (fun p => p.1 != i || [id].contains p.2.1) = true) :
  ((eD evs ovs st D).obj id o).put (some d) v = eD evs ovs st (vc D i) := by
 unfold eD ASt.obj ASt.put
 simp only [Zl (D := D) (base := st.env) h h1.1 h1.2]
 congr 1
 funext n
 simp only [zq]
 split
 ·rename_i hn; subst hn; exact (Zt h').symm
 ·rename_i hn; exact (Zs (fun o => z32 h3 (by simpa using hn) o)).symm
theorem zt3 {evs : List (Nat × Nat × AV)} {ovs : List (Nat × Nat × Option AObj)} {st : ASt} {D : Nat → Bool} {i d id old : Nat} {v : AV} {o : AObj} (hno : old ≠ id) (h : (i, d, v) ∈ evs) (h1 : OkJ evs) (h' : Qv D i id (some o) ovs) (h'' : Qv D i old none ovs) (h3 : ovs.all (fun p => p.1 != i || [id, old].contains p.2.1) = true) :
  (((eD evs ovs st D).drop old).obj id o).put (some d) v = eD evs ovs st (vc D i) := by
 unfold eD ASt.drop ASt.obj ASt.put
 simp only [Zl (D := D) (base := st.env) h h1.1 h1.2]
 congr 1
 funext n
 simp only [zq]
 split
 ·rename_i hn; subst hn; exact (Zt h').symm
 ·rename_i hn
  split
  ·rename_i hn'; subst hn'; exact (Zt h'').symm
  ·rename_i hn'
   exact (Zs (fun o => z32 h3 (by simp [hn, hn']) o)).symm
section
variable {F : FC} {l : List Oper} {evs : List (Nat × Nat × AV)} {ovs : List (Nat × Nat × Option AObj)} {st : ASt} {i : Nat} {o : Oper}
theorem FV (k : Nat) (ancs descs : List Nat) {d : Nat} {v : AV} (hv : evs[k]? = some (i, d, v) := by rfl) (hno : ovs.all (fun p => p.1 != i || [].contains p.2.1) = true := by kernel_rfl) (hb : z04 l i ancs descs = true := by kernel_rfl) (hg : o.guard = none := by rfl)
  (h : ∀ D : Nat → Bool, x8 D ancs → NoD D (i :: descs) → zh F #[] [o] (eD evs ovs st D) (fun s => s = (eD evs ovs st D).put (some d) v) := by
    intro D hA1 hA2
    simp only [x8, NoD] at hA1 hA2
    simp (maxSteps := 2000000) (disch := omega) only [wm, avA, zk, zo, seval, ↓List.forall_mem_cons, Op.operands, hA, tiA, hE, Zb, hA1, hA2]
    all_goals exact SC) : FOp F l evs ovs st i o := fun ho hok D hD hdep hcd => by
 obtain ⟨h1, h2⟩ := jc hb ho hD hdep hcd
 rw [← z2r (i := i) (d := d) (v := v) (List.mem_of_getElem? hv) hok hno]
 exact .of hg (j1 hg (h D h1 h2))
theorem FA (k k' k'' : Nat) (ancs descs : List Nat) {d id old : Nat} {v : AV} {ob : AObj} (hv : evs[k]? = some (i, d, v) := by rfl) (hv' : ovs[k']? = some (i, id, some ob) := by rfl) (hv'' : ovs[k'']? = some (i, old, none) := by rfl) (hne : old ≠ id := by decide) (h3 : ovs.all (fun p => p.1 != i || [id, old].contains p.2.1) = true := by kernel_rfl) (hb : z04 l i ancs descs = true := by kernel_rfl) (hg : o.guard = none := by rfl)
  (hO : ∀ D : Nat → Bool, x8 D ancs → NoD D (i :: descs) → Qv D i id (some ob) ovs := by
    intro D hA1 hA2
    simp only [x8, NoD] at hA1 hA2
    simp [Qv, hA1, hA2])
  (hO' : ∀ D : Nat → Bool, x8 D ancs → NoD D (i :: descs) → Qv D i old none ovs := by
    intro D hA1 hA2
    simp only [x8, NoD] at hA1 hA2
    simp [Qv, hA1, hA2])
  (hfix : ∀ D : Nat → Bool, x8 D ancs → NoD D (i :: descs) → z5h id (eD evs ovs st D))
  (h : ∀ D : Nat → Bool, x8 D ancs → NoD D (i :: descs) → zh F #[] [o] (eD evs ovs st D) (fun s => s = (((((eD evs ovs st D).drop old).kill id).obj id ob).put (some d) v))) : FOp F l evs ovs st i o := fun ho hok D hD hdep hcd => by
 obtain ⟨h1, h2⟩ := jc hb ho hD hdep hcd
 rw [← zt3 (i := i) (d := d) (v := v) (id := id) (o := ob) hne (List.mem_of_getElem? hv) hok (hO D h1 h2) (hO' D h1 h2) h3, ← z2w (zks (hfix D h1 h2))]
 exact .of hg (j1 hg (h D h1 h2))
theorem FN (k k' : Nat) (ancs descs : List Nat) {d id : Nat} {v : AV} {ob : AObj} (hv : evs[k]? = some (i, d, v) := by rfl) (hv' : ovs[k']? = some (i, id, some ob) := by rfl) (h3 : ovs.all (fun p => p.1 != i || [id].contains p.2.1) = true := by kernel_rfl) (hb : z04 l i ancs descs = true := by kernel_rfl) (hg : o.guard = none := by rfl)
  (hO : ∀ D : Nat → Bool, x8 D ancs → NoD D (i :: descs) → Qv D i id (some ob) ovs := by
    intro D hA1 hA2
    simp only [x8, NoD] at hA1 hA2
    simp [Qv, hA1, hA2])
  (hfix : ∀ D : Nat → Bool, x8 D ancs → NoD D (i :: descs) → z5h id (eD evs ovs st D))
  (h : ∀ D : Nat → Bool, x8 D ancs → NoD D (i :: descs) → zh F #[] [o] (eD evs ovs st D) (fun s => s = (((eD evs ovs st D).kill id).obj id ob).put (some d) v)) : FOp F l evs ovs st i o := fun ho hok D hD hdep hcd => by
 obtain ⟨h1, h2⟩ := jc hb ho hD hdep hcd
 rw [← zo9 (i := i) (d := d) (v := v) (id := id) (o := ob) (List.mem_of_getElem? hv) hok (hO D h1 h2) h3, ← z2w (hfix D h1 h2)]
 exact .of hg (j1 hg (h D h1 h2))
theorem FG (k : Nat) (ancs descs : List Nat) {d j : Nat} {want : Bool} {v : AV} (hv : evs[k]? = some (i, d, v) := by rfl) (hno : ovs.all (fun p => p.1 != i || [].contains p.2.1) = true := by kernel_rfl) (hb : z04 l i ancs descs = true := by kernel_rfl) (hg : o.guard = some (j, want) := by rfl)
  (hw : ∀ D : Nat → Bool, x8 D ancs → NoD D (i :: descs) → x9 l.toArray (eD evs ovs st D).env j want = some true := by
    intro D hA1 hA2
    simp only [x8, NoD] at hA1 hA2
    simp (maxSteps := 2000000) (disch := omega) only [wm, avA, zk, zo, seval, ↓List.forall_mem_cons, Op.operands, hA, tiA, hE, Zb, hA1, hA2]
    all_goals exact rfl)
  (h : ∀ D : Nat → Bool, x8 D ancs → NoD D (i :: descs) → zh F #[] [{ o with guard := none }] (eD evs ovs st D) (fun s => s = (eD evs ovs st D).put (some d) v) := by
    intro D hA1 hA2
    simp only [x8, NoD] at hA1 hA2
    simp (maxSteps := 2000000) (disch := omega) only [wm, avA, zk, zo, seval, ↓List.forall_mem_cons, Op.operands, hA, tiA, hE, Zb, hA1, hA2]
    all_goals exact SC) : FOp F l evs ovs st i o := fun ho hok D hD hdep hcd => by
 obtain ⟨h1, h2⟩ := jc hb ho hD hdep hcd
 rw [← z2r (i := i) (d := d) (v := v) (List.mem_of_getElem? hv) hok hno]
 unfold StepG
 rw [hg]
 exact .inl ⟨hw D h1 h2, zmj (o := o) (h D h1 h2)⟩
theorem FVc (k : Nat) (ancs descs : List Nat) {d : Nat} {v : AV} (hv : evs[k]? = some (i, d, v) := by rfl) (hno : ovs.all (fun p => p.1 != i || [].contains p.2.1) = true := by kernel_rfl) (hb : z04 l i ancs descs = true := by kernel_rfl) (hg : o.guard = none := by rfl)
  (h : ∀ D : Nat → Bool, x8 D ancs → NoD D (i :: descs) → zh F #[] [o] (eD evs ovs st D) (fun s => s = (eD evs ovs st D).put (some d) v) := by
    intro D hA1 hA2
    simp only [x8, NoD] at hA1 hA2
    simp (maxSteps := 2000000) (disch := omega) only [wm, avA, zk, zo, seval, ↓List.forall_mem_cons, Op.operands, hA, tiA, hE, Zb, hA1, hA2]
    (repeat' refine And.intro ?_ ?_) <;> try exact SD
    refine CallC.use hc rfl ?_
    try simp (maxSteps := 2000000) (disch := omega) only [wm, avA, zk, zo, seval, ↓List.forall_mem_cons, Op.operands, hA, tiA, hE, Zb, hA1, hA2]
    all_goals exact SC) : FOp F l evs ovs st i o := FV k ancs descs hv hno hb hg h
theorem FGc (k : Nat) (ancs descs : List Nat) {d j : Nat} {want : Bool} {v : AV} (hv : evs[k]? = some (i, d, v) := by rfl) (hno : ovs.all (fun p => p.1 != i || [].contains p.2.1) = true := by kernel_rfl) (hb : z04 l i ancs descs = true := by kernel_rfl) (hg : o.guard = some (j, want) := by rfl)
  (hw : ∀ D : Nat → Bool, x8 D ancs → NoD D (i :: descs) → x9 l.toArray (eD evs ovs st D).env j want = some true := by
    intro D hA1 hA2
    simp only [x8, NoD] at hA1 hA2
    simp (maxSteps := 2000000) (disch := omega) only [wm, avA, zk, zo, seval, ↓List.forall_mem_cons, Op.operands, hA, tiA, hE, Zb, hA1, hA2]
    all_goals exact rfl)
  (h : ∀ D : Nat → Bool, x8 D ancs → NoD D (i :: descs) → zh F #[] [{ o with guard := none }] (eD evs ovs st D) (fun s => s = (eD evs ovs st D).put (some d) v) := by
    intro D hA1 hA2
    simp only [x8, NoD] at hA1 hA2
    simp (maxSteps := 2000000) (disch := omega) only [wm, avA, zk, zo, seval, ↓List.forall_mem_cons, Op.operands, hA, tiA, hE, Zb, hA1, hA2]
    (repeat' refine And.intro ?_ ?_) <;> try exact SD
    refine CallC.use hc rfl ?_
    try simp (maxSteps := 2000000) (disch := omega) only [wm, avA, zk, zo, seval, ↓List.forall_mem_cons, Op.operands, hA, tiA, hE, Zb, hA1, hA2]
    all_goals exact SC) : FOp F l evs ovs st i o := FG k ancs descs hv hno hb hg hw h
end
theorem z0u {P : Program} {w : World} {e : TypeId} {k k' : IntKind} (h2 : P.underlying e = some (.int k)) (d : Nat) (a b : List Int) : ∀ (m s : Nat), s + m ≤ a.length → s + m ≤ b.length →
  Sem.run P (forIn (List.range' s m) ((none : Option Bool), ()) fun i __s => do
      let __do_lift ← part e (List.map (Value.int k') a).toArray i
      let __do_lift_1 ← part e (List.map (Value.int k') b).toArray i
      let __do_lift ← Op.equalIn (d + 1) e __do_lift __do_lift_1
      if __do_lift = false then pure (ForInStep.done (some false, ())) else pure (ForInStep.yield (none, ()))) w = .ok (if (a.drop s).take m == (b.drop s).take m then (none, ()) else (some false, ())) w
 | 0, s, _, _ => by simp
 | m + 1, s, h1, h3 => by
  have ih := z0u (w := w) (k' := k') h2 d a b m (s + 1) (by omega) (by omega)
  have ea : (List.map (Value.int k') a).toArray[s]? = some (.int k' (a[s]'(by omega))) := by simp [List.getElem?_eq_getElem (show s < a.length by omega)]
  have eb : (List.map (Value.int k') b).toArray[s]? = some (.int k' (b[s]'(by omega))) := by simp [List.getElem?_eq_getElem (show s < b.length by omega)]
  have da : a.drop s = a[s]'(by omega) :: a.drop (s + 1) := List.drop_eq_getElem_cons (by omega)
  have db : b.drop s = b[s]'(by omega) :: b.drop (s + 1) := List.drop_eq_getElem_cons (by omega)
  simp only [List.range'_succ, List.forIn_cons, Sem.run_bind, w8 h2 ea, w8 h2 eb, w9 d _ _ h2, Result.andThen_ok]
  rw [da, db, List.take_succ_cons, List.take_succ_cons]
  by_cases hq : a[s]'(by omega) = b[s]'(by omega)
  ·simp only [hq, beq_self_eq_true, Bool.true_eq_false, if_false, Sem.run_pure, Result.andThen_ok]
   rw [ih]
   simp
  ·simp [hq, beq_eq_false_iff_ne.2 hq]
theorem z1u {P : Program} {w : World} {t e : TypeId} {k k' : IntKind} {n : Nat} {i : TypeInfo} (h1 : P.underlying t = some (.array n e)) (h2 : P.underlying e = some (.int k)) (h3 : P.info? e = some i) (h4 : i.size = 1) (d : Nat) (a b : List Int) (ha : a.length = n) (hb : b.length = n) :
  (Op.equalIn (d + 2) t (.agg (a.map (Value.int k')).toArray) (.agg (b.map (Value.int k')).toArray)).run P w = .ok (a == b) w := by
 have hs : (sizeOf e).run P w = .ok 1 w := by simp [sizeOf, typeInfo, h3, h4]
 unfold Op.equalIn
 simp only [Sem.run_bind, run_underlying h1, Result.andThen_ok, hs]
 have := z0u (w := w) (k' := k') h2 d a b n 0 (by omega) (by omega)
 simp only [List.drop_zero, List.take_of_length_le (Nat.le_of_eq ha), List.take_of_length_le (Nat.le_of_eq hb)] at this
 simp [this]
 by_cases hq : a = b <;> simp [hq]
def zkn (P : Program) (n : Nat) (t : TypeId) : Prop := (match P.underlying t with
 | some (.array m e) => m == n && Qg P e && ((P.info? e).map (·.size) == some 1) && !P.eqGuardType P.depth t
 | _ => false) = true
theorem zko {P : Program} {n : Nat} {t : TypeId} (h : zkn P n t) : ∃ e k i, P.underlying t = some (.array n e) ∧ P.underlying e = some (.int k) ∧ P.info? e = some i ∧ i.size = 1 ∧ P.eqGuardType P.depth t = false := by
 unfold zkn at h
 split at h
 ·rename_i m e he
  simp only [Bool.and_eq_true, Bool.not_eq_true', beq_iff_eq] at h
  obtain ⟨⟨⟨h0, h1⟩, h2⟩, h3⟩ := h
  obtain ⟨k, hk⟩ := vt h1
  cases hi : P.info? e with
  | none => simp [hi] at h2
  | some i => exact ⟨e, k, i, h0 ▸ he, hk, hi, by simpa [hi] using h2, h3⟩
 ·simp at h
theorem zna {F : FC} {o : Oper} {st : ASt} {d n : Nat} {t t' : TypeId} {x y : Operand} {k : IntKind} {op : BinOp} {a b : List Int} (hop : op = .eql ∨ op = .neq) (ho : o.op = .binOp op t x y t') (hdst : o.dst = some d) (hd : d < F.N) (he : zkn F.P n t) (hx : evA st.env x = .dat (.agg (a.map (Dat.int k)))) (hy : evA st.env y = .dat (.agg (b.map (Dat.int k)))) (ha : a.length = n) (hb : b.length = n) :
  StepOK F o st (st.put (some d) (.dat (.bool (if op = .eql then a == b else !(a == b))))) := by
 refine StepOK.of_value (st1 := st) (by rw [hdst]; exact hd) (by rw [hdst]) fun β S ac w hsim => ?_
 obtain ⟨e, ke, i, h1, h2, h3, h4, h5⟩ := zko he
 have rl : ∀ (l : List Int) (us : List Value), RepL S w (l.map (Dat.int k)) us → us = l.map (Value.int k) := by
  intro l
  induction l with
  | nil => intro us h; simpa [RepL] using h
  | cons z l ih =>
   intro us h
   simp only [List.map_cons, RepL, Rep1] at h
   obtain ⟨u, us', rfl, rfl, h⟩ := h
   rw [ih _ h]; rfl
 have hr : ∀ {z : Operand} {l : List Int}, evA st.env z = .dat (.agg (l.map (Dat.int k))) → ac.eval z = .agg (l.map (Value.int k)).toArray := fun {z l} hz => by
  have := qj (a := ac) hsim.env z
  rw [hz] at this
  simp only [RepA, RepX] at this
  obtain ⟨cs, h, hl⟩ := this
  rw [h, ← rl l _ hl]
 have hq : (Op.equal t (.agg (a.map (Value.int k)).toArray) (.agg (b.map (Value.int k)).toArray)).run F.P w = .ok (a == b) w := z1u h1 h2 h3 h4 9998 a b ha hb
 have hx := hr hx
 have hy := hr hy
 refine ⟨_, w, β, S, ?_, by simp only [RepA, RepX]; rfl, hsim⟩
 simp only [execOp, ho, hx, hy, Sem.run_bind, Z5 h5 hop, Result.andThen_ok]
 rcases hop with rfl | rfl
 ·simp only [binOp, Sem.run_bind, hq, Result.andThen_ok, Sem.run_pure, if_true]
 ·simp only [binOp, Sem.run_bind, hq, Result.andThen_ok, Sem.run_pure]
  rfl
theorem zcw {F : FC} {o : Oper} {st : ASt} {d n : Nat} {t t' : TypeId} {x y : Operand} {k : IntKind} {a b : List Int} (ho : o.op = .binOp .neq t x y t') (hdst : o.dst = some d) (hd : d < F.N) (he : zkn F.P n t) (hx : evA st.env x = .dat (.agg (a.map (Dat.int k)))) (hy : evA st.env y = .dat (.agg (b.map (Dat.int k)))) (ha : a.length = n) (hb : b.length = n) : StepOK F o st (st.put (some d) (.dat (.bool (!(a == b))))) := by
 have := zna (op := .neq) (.inr rfl) ho hdst hd he hx hy ha hb
 rw [if_neg (by decide)] at this
 exact this
section
variable {F : FC} {l : List Oper} {evs : List (Nat × Nat × AV)} {ovs : List (Nat × Nat × Option AObj)} {st : ASt} {i : Nat} {o : Oper}
theorem FVs (k : Nat) (ancs descs : List Nat) {d : Nat} {v : AV} (h : ∀ D : Nat → Bool, x8 D ancs → NoD D (i :: descs) → StepOK F o (eD evs ovs st D) ((eD evs ovs st D).put (some d) v))
  (hv : evs[k]? = some (i, d, v) := by rfl) (hno : ovs.all (fun p => p.1 != i || [].contains p.2.1) = true := by kernel_rfl) (hb : z04 l i ancs descs = true := by kernel_rfl) (hg : o.guard = none := by rfl) : FOp F l evs ovs st i o := fun ho hok D hD hdep hcd => by
 obtain ⟨h1, h2⟩ := jc hb ho hD hdep hcd
 rw [← z2r (i := i) (d := d) (v := v) (List.mem_of_getElem? hv) hok hno]
 exact .of hg (h D h1 h2)
theorem FGs (k : Nat) (ancs descs : List Nat) {d j : Nat} {want : Bool} {v : AV} (h : ∀ D : Nat → Bool, x8 D ancs → NoD D (i :: descs) → StepOK F o (eD evs ovs st D) ((eD evs ovs st D).put (some d) v))
  (hv : evs[k]? = some (i, d, v) := by rfl) (hno : ovs.all (fun p => p.1 != i || [].contains p.2.1) = true := by kernel_rfl) (hb : z04 l i ancs descs = true := by kernel_rfl) (hg : o.guard = some (j, want) := by rfl)
  (hw : ∀ D : Nat → Bool, x8 D ancs → NoD D (i :: descs) → x9 l.toArray (eD evs ovs st D).env j want = some true := by
    intro D hA1 hA2
    simp only [x8, NoD] at hA1 hA2
    simp (maxSteps := 2000000) (disch := omega) only [wm, avA, zk, zo, seval, ↓List.forall_mem_cons, Op.operands, hA, tiA, hE, Zb, hA1, hA2]
    all_goals exact rfl) : FOp F l evs ovs st i o := fun ho hok D hD hdep hcd => by
 obtain ⟨h1, h2⟩ := jc hb ho hD hdep hcd
 rw [← z2r (i := i) (d := d) (v := v) (List.mem_of_getElem? hv) hok hno]
 unfold StepG
 rw [hg]
 exact .inl ⟨hw D h1 h2, h D h1 h2⟩
end
theorem EV' {p : Prop} (h : p := by
  simp (maxSteps := 2000000) (disch := omega) only [wm, avA, zk, zo, seval, hE, Zb, hA1, hA2]
  all_goals exact rfl) : p := h
def zic (P : Program) (t : TypeId) (z : Dat) : Prop := ∃ zv, (P.info? t).bind (·.zero) = some zv ∧ ∀ S w, RepX S w z zv
theorem z73 {F : FC} {o : Oper} {st : ASt} {d : Nat} {t kt et : TypeId} {m k : Operand} {ok : Bool} {isK : Dat → Prop} {id : Nat} {ks vs : List Dat} {x z : Dat} (ho : o.op = .lookup t m k ok) (hdst : o.dst = some d) (hd : d < F.N)
  (h : MapAt F st m t kt et isK id ks vs) (hk : evA st.env k = .dat x) (hx : isK x) (hz : zic F.P et z) : StepOK F o st (st.put (some d) (lkA ok z (lkp ks vs x))) := by
 refine StepOK.of_value (st1 := st) (by rw [hdst]; exact hd) (by rw [hdst]) fun β S a w hsim => ?_
 obtain ⟨zv, hz, hzr⟩ := hz
 obtain ⟨b, en, ck, v, hb, hw, hh, hm, em, hu, hv, hck, hf⟩ := h.found hsim hx
 have ek := qj (a := a) hsim.env k
 rw [hk] at ek
 simp only [RepA] at ek
 have ek := z2v hv ek
 have hg := MapKept.run_getObj_map (P := F.P) hh
 have hz' := zrf hz
 rcases hf with ⟨j, e, y, h1, _, _, _, _, h6, h7, _⟩ | ⟨h1, h2, _⟩
 ·refine ⟨if ok = true then .tuple #[e.val, .bool true] else e.val, w, β, S, ?_, ?_, hsim⟩
  ·simp only [execOp, ho, ek, em, Instr.lookup, Sem.run_bind, run_underlying hu, Result.andThen_ok, hg, hck, h1, Sem.run_pure]
   try (cases ok <;> rfl)
  ·rw [h7]
   cases ok
   ·simpa [lkA, RepA] using h6
   ·simp only [lkA, if_true, RepA, RepAL, RepX, Option.getD_some, Option.isSome_some]
    exact ⟨_, rfl, _, _, rfl, h6, _, _, rfl, rfl, rfl⟩
 ·refine ⟨if ok = true then .tuple #[zv, .bool false] else zv, w, β, S, ?_, ?_, hsim⟩
  ·simp only [execOp, ho, ek, em, Instr.lookup, Sem.run_bind, run_underlying hu, Result.andThen_ok, hg, hck, h1, Sem.run_pure, hz']
   try (cases ok <;> rfl)
  ·rw [h2]
   cases ok
   ·simpa [lkA, RepA] using hzr S w
   ·simp only [lkA, if_true, RepA, RepAL, RepX, Option.getD_none, Option.isSome_none]
    exact ⟨_, rfl, _, _, rfl, hzr S w, _, _, rfl, rfl, rfl⟩
theorem zpk (z : Dat) (r : Option Dat) : lkA true z r = .tup [.dat (r.getD z), .dat (.bool r.isSome)] := rfl
theorem zl5 (z : Dat) (r : Option Dat) : lkA false z r = .dat (r.getD z) := rfl
section
variable {F : FC} {l : List Oper} {evs : List (Nat × Nat × AV)} {ovs : List (Nat × Nat × Option AObj)} {st : ASt} {i : Nat} {o : Oper}
theorem FO (k : Nat) (ancs descs : List Nat) {d j : Nat} {want : Bool} {v : AV} (hv : evs[k]? = some (i, d, .cond false v) := by rfl) (hno : ovs.all (fun p => p.1 != i || [].contains p.2.1) = true := by kernel_rfl) (hb : z04 l i ancs descs = true := by kernel_rfl) (hg : o.guard = some (j, want) := by rfl) (hd : o.dst = some d := by rfl) (hN' : d < F.N := by rw [hN]; omega)
  (hw : ∀ D : Nat → Bool, x8 D ancs → NoD D (i :: descs) → x9 l.toArray (eD evs ovs st D).env j want = some false := by
    intro D hA1 hA2
    simp only [x8, NoD] at hA1 hA2
    simp (maxSteps := 2000000) (disch := omega) only [wm, avA, zk, zo, seval, ↓List.forall_mem_cons, Op.operands, hA, tiA, hE, Zb, hA1, hA2]
    all_goals exact rfl) : FOp F l evs ovs st i o := fun ho hok D hD hdep hcd => by
 obtain ⟨h1, h2⟩ := jc hb ho hD hdep hcd
 rw [← z2r (i := i) (d := d) (v := .cond false v) (List.mem_of_getElem? hv) hok hno]
 unfold StepG
 rw [hg]
 exact .inr ⟨hw D h1 h2, d, v, hd, hN', rfl⟩
end
def zod (P : Program) (n : Nat) (t : TypeId) : Prop := (match P.underlying t with
 | some (.struct fs) => match fs.toList with
  | [f, g] => (f.offset == 0 && g.offset == 1) && (f.name != "_" && g.name != "_") && Qg P f.type && !P.stoodInHeld t && !P.eqGuardType P.depth t && (match P.underlying g.type with
   | some (.array m e) => m == n && Qg P e && ((P.info? e).map (·.size) == some 1) && ((P.info? g.type).map (·.size) == some n)
   | _ => false)
  | _ => false
 | _ => false) = true
theorem z9j {P : Program} {n : Nat} {t : TypeId} (h : zod P n t) : ∃ f g k e k' i j, P.underlying t = some (.struct #[f, g]) ∧ (f.offset = 0 ∧ g.offset = 1) ∧ (f.name ≠ "_" ∧ g.name ≠ "_") ∧ P.underlying f.type = some (.int k) ∧ P.stoodInHeld t = false ∧ P.eqGuardType P.depth t = false ∧
  P.underlying g.type = some (.array n e) ∧ P.underlying e = some (.int k') ∧ P.info? e = some i ∧ i.size = 1 ∧ P.info? g.type = some j ∧ j.size = n := by
 unfold zod at h
 split at h
 ·rename_i fs hfs
  split at h
  ·rename_i f g hl
   simp only [Bool.and_eq_true, Bool.not_eq_true', beq_iff_eq, bne_iff_ne] at h
   obtain ⟨⟨⟨⟨⟨⟨h1, h2⟩, h3, h4⟩, h5⟩, h6⟩, h7⟩, h8⟩ := h
   split at h8
   ·rename_i m e he
    simp only [Bool.and_eq_true, beq_iff_eq] at h8
    obtain ⟨⟨⟨h9, h10⟩, h11⟩, h12⟩ := h8
    obtain ⟨k, hk⟩ := vt h5
    obtain ⟨k', hk'⟩ := vt h10
    have : fs = #[f, g] := by cases fs; simpa using hl
    cases hi : P.info? e with
    | none => simp [hi] at h11
    | some i =>
     cases hj : P.info? g.type with
     | none => simp [hj] at h12
     | some j => exact ⟨f, g, k, e, k', i, j, this ▸ hfs, ⟨h1, h2⟩, ⟨h3, h4⟩, hk, h6, h7, h9 ▸ he, hk', hi, by simpa [hi] using h11, hj, by simpa [hj] using h12⟩
   ·simp at h8
  ·simp at h
 ·simp at h
theorem zce {P : Program} {w : World} {n : Nat} {t : TypeId} (h : zod P n t) (k k' : IntKind) (x y : Int) (a b : List Int) (ha : a.length = n) (hb : b.length = n) :
  (Op.equal t (.agg (Value.int k x :: a.map (Value.int k')).toArray) (.agg (Value.int k y :: b.map (Value.int k')).toArray)).run P w = .ok (x == y && a == b) w := by
 obtain ⟨f, g, kk, e, k1, i, j, h1, ⟨h2, h3⟩, ⟨h5, h6⟩, h7, h8, _, h10, h11, h12, h13, h14, h15⟩ := z9j h
 show (Op.equalIn (9999 + 1) t _ _).run P w = _
 unfold Op.equalIn
 simp only [Sem.run_bind, run_underlying h1, Result.andThen_ok]
 have q0 : ∀ x y : Int, ∀ k, (Op.equalIn 9999 f.type (.int k x) (.int k y)).run P w = .ok (x == y) w := fun x y k => w9 9998 x y h7
 have q1 : (Op.equalIn 9999 g.type (.agg (a.map (Value.int k')).toArray) (.agg (b.map (Value.int k')).toArray)).run P w = .ok (a == b) w := z1u h10 h11 h12 h13 9997 a b ha hb
 have pg : ∀ (z : Int) (c : List Int), c.length = n → (part g.type (Value.int k z :: c.map (Value.int k')).toArray 1).run P w = .ok (.agg (c.map (Value.int k')).toArray) w := fun z c hc => by
  have hs : (sizeOf g.type).run P w = .ok n w := by simp [sizeOf, typeInfo, h14, h15]
  simp [part, isAgg, run_underlying h10, hs]
  simp [← hc]
  exact List.take_of_length_le (by simp)
 simp [h2, h3, h5, h6, h8, w8 h7, q0, q1, pg _ _ ha, pg _ _ hb]
 by_cases g1 : x = y <;> by_cases g2 : a = b <;> simp [g1, g2]
theorem ztb {F : FC} {o : Oper} {st : ASt} {d n : Nat} {t t' : TypeId} {x y : Operand} {k k' : IntKind} {p q : Int} {a b : List Int} (ho : o.op = .binOp .neq t x y t') (hdst : o.dst = some d) (hd : d < F.N) (he : zod F.P n t) (hx : evA st.env x = .dat (.agg (.int k p :: a.map (Dat.int k')))) (hy : evA st.env y = .dat (.agg (.int k q :: b.map (Dat.int k')))) (ha : a.length = n) (hb : b.length = n) :
  StepOK F o st (st.put (some d) (.dat (.bool (!(p == q && a == b))))) := by
 refine StepOK.of_value (st1 := st) (by rw [hdst]; exact hd) (by rw [hdst]) fun β S ac w hsim => ?_
 have h5 : F.P.eqGuardType F.P.depth t = false := by obtain ⟨_, _, _, _, _, _, _, _, _, _, _, _, h, _⟩ := z9j he; exact h
 have rl : ∀ (l : List Int) (us : List Value), RepL S w (l.map (Dat.int k')) us → us = l.map (Value.int k') := by
  intro l
  induction l with
  | nil => intro us h; simpa [RepL] using h
  | cons z l ih =>
   intro us h
   simp only [List.map_cons, RepL, Rep1] at h
   obtain ⟨u, us', rfl, rfl, h⟩ := h
   rw [ih _ h]; rfl
 have hr : ∀ {z : Operand} {m : Int} {l : List Int}, evA st.env z = .dat (.agg (.int k m :: l.map (Dat.int k'))) → ac.eval z = .agg (Value.int k m :: l.map (Value.int k')).toArray := fun {z m l} hz => by
  have := qj (a := ac) hsim.env z
  rw [hz] at this
  simp only [RepA, RepX] at this
  obtain ⟨cs, h, hl⟩ := this
  simp only [RepL, Rep1] at hl
  obtain ⟨u, us, e, rfl, hl⟩ := hl
  rw [h, ← rl l _ hl, ← e]
 have hq := zce (w := w) he k k' p q a b ha hb
 have hx := hr hx
 have hy := hr hy
 refine ⟨_, w, β, S, ?_, by simp only [RepA, RepX]; rfl, hsim⟩
 simp only [execOp, ho, hx, hy, Sem.run_bind, Z5 h5 (.inr rfl), Result.andThen_ok, binOp, hq, Sem.run_pure]
theorem zt4 {evs : List (Nat × Nat × AV)} {ovs : List (Nat × Nat × Option AObj)} {st : ASt} {D : Nat → Bool} {i id : Nat} {o : AObj} (h' : Qv D i id (some o) ovs) (h3 : ovs.all (fun p => p.1 != i || [id].contains p.2.1) = true) (h4 : i ∉ evs.map (·.1)) :
  (eD evs ovs st D).obj id o = eD evs ovs st (vc D i) := by
 unfold eD ASt.obj
 simp only [z23 (D := D) (base := st.env) h4]
 congr 1
 funext n
 simp only [zq]
 split
 ·rename_i hn; subst hn; exact (Zt h').symm
 ·rename_i hn; exact (Zs (fun o => z32 h3 (by simpa using hn) o)).symm
section
variable {F : FC} {l : List Oper} {evs : List (Nat × Nat × AV)} {ovs : List (Nat × Nat × Option AObj)} {st : ASt} {i : Nat} {o : Oper}
theorem FSs (k : Nat) (ancs descs : List Nat) {id : Nat} {ob : AObj} (h : ∀ D : Nat → Bool, x8 D ancs → NoD D (i :: descs) → StepOK F o (eD evs ovs st D) ((eD evs ovs st D).obj id ob))
  (hv : ovs[k]? = some (i, id, some ob) := by rfl) (h3 : ovs.all (fun p => p.1 != i || [id].contains p.2.1) = true := by kernel_rfl) (hno : (evs.map (·.1)).contains i = false := by kernel_rfl) (hb : z04 l i ancs descs = true := by kernel_rfl) (hg : o.guard = none := by rfl)
  (hO : ∀ D : Nat → Bool, x8 D ancs → NoD D (i :: descs) → Qv D i id (some ob) ovs := by
    intro D hA1 hA2
    simp only [x8, NoD] at hA1 hA2
    simp [Qv, hA1, hA2]) : FOp F l evs ovs st i o := fun ho hok D hD hdep hcd => by
 obtain ⟨h1, h2⟩ := jc hb ho hD hdep hcd
 rw [← zt4 (i := i) (id := id) (o := ob) (hO D h1 h2) h3 (by simpa using hno)]
 exact .of hg (h D h1 h2)
theorem FS (k : Nat) (ancs descs : List Nat) {id : Nat} {ob : AObj} (hv : ovs[k]? = some (i, id, some ob) := by rfl) (h3 : ovs.all (fun p => p.1 != i || [id].contains p.2.1) = true := by kernel_rfl) (hno : (evs.map (·.1)).contains i = false := by kernel_rfl) (hb : z04 l i ancs descs = true := by kernel_rfl) (hg : o.guard = none := by rfl)
  (hO : ∀ D : Nat → Bool, x8 D ancs → NoD D (i :: descs) → Qv D i id (some ob) ovs := by
    intro D hA1 hA2
    simp only [x8, NoD] at hA1 hA2
    simp [Qv, hA1, hA2])
  (h : ∀ D : Nat → Bool, x8 D ancs → NoD D (i :: descs) → zh F #[] [o] (eD evs ovs st D) (fun s => s = (eD evs ovs st D).obj id ob) := by
    intro D hA1 hA2
    simp only [x8, NoD] at hA1 hA2
    simp (maxSteps := 2000000) (disch := omega) only [wm, avA, zk, zo, seval, ↓List.forall_mem_cons, Op.operands, hA, tiA, hE, Zb, hA1, hA2]
    all_goals exact SC) : FOp F l evs ovs st i o := FSs k ancs descs (fun D h1 h2 => j1 hg (h D h1 h2)) hv h3 hno hb hg hO
end
section
variable {F : FC} {l : List Oper} {evs : List (Nat × Nat × AV)} {ovs : List (Nat × Nat × Option AObj)} {st : ASt} {i : Nat} {o : Oper}
theorem FNd (k k' : Nat) (ancs descs : List Nat) {d id : Nat} {v : AV} {ob : AObj} (hv : evs[k]? = some (i, d, v) := by rfl) (hv' : ovs[k']? = some (i, id, some ob) := by rfl) (h3 : ovs.all (fun p => p.1 != i || [id].contains p.2.1) = true := by kernel_rfl) (hb : z04 l i ancs descs = true := by kernel_rfl) (hg : o.guard = none := by rfl)
  (hO : ∀ D : Nat → Bool, x8 D ancs → NoD D (i :: descs) → Qv D i id (some ob) ovs := by
    intro D hA1 hA2
    simp only [x8, NoD] at hA1 hA2
    simp [Qv, hA1, hA2])
  (h : ∀ D : Nat → Bool, x8 D ancs → NoD D (i :: descs) → zh F #[] [o] (eD evs ovs st D) (fun s => s = (((eD evs ovs st D).kill id).obj id ob).put (some d) v) := by
    intro D hA1 hA2
    simp only [x8, NoD] at hA1 hA2
    simp (maxSteps := 2000000) (disch := omega) only [wm, avA, zk, zo, seval, ↓List.forall_mem_cons, Op.operands, hA, tiA, hE, Zb, hA1, hA2]
    all_goals exact SC)
  (hfix : ∀ D : Nat → Bool, x8 D ancs → NoD D (i :: descs) → z5h id (eD evs ovs st D) := by
    intro D hA1 hA2
    simp only [x8, NoD] at hA1 hA2
    exact zob (zby (by simp [AV.kill, killL]) (by simp [AV.kill, killL])) (by simp [AV.kill, killL, hA1, hA2]) (by simp [AV.kill, killL, hA1, hA2])) : FOp F l evs ovs st i o := FN k k' ancs descs hv hv' h3 hb hg hO hfix h
end
theorem zn8 {F : FC} {ops : Array Oper} {o : Oper} {l : List Oper} {Q : Exit → ASt → Prop} {st st' : ASt} (h : StepG F ops o st st') (k : AList F ops l Q st') : AList F ops (o :: l) Q st := by
 unfold StepG at h
 split at h
 ·rename_i hg; exact yi hg h k
 ·rename_i j want hg
  rcases h with ⟨hv, h⟩ | ⟨hv, d, v, hd, hN, rfl⟩
  ·exact zxo hg hv h k
  ·exact zvw v hg hd hN hv k
def ltD (k : Nat) : Nat → Bool := fun j => decide (j < k)
theorem zsb (k : Nat) : vc (ltD k) k = ltD (k + 1) := by
 funext j
 unfold vc ltD
 by_cases h : j = k
 ·simp [h]
 ·simp [h]; omega
theorem zid {F : FC} {l : List Oper} {evs : List (Nat × Nat × AV)} {ovs : List (Nat × Nat × Option AObj)} {st : ASt} {Q : Exit → ASt → Prop} (hok : OkJ evs)
  (hedge : (List.range l.length).all (fun i => match l[i]? with | some o => o.after.toList.all fun e => !Region.binds .any e || decide (e.on < i) | none => true) = true)
  (hs : FOps F l evs ovs st 0 l) (k : AList F l.toArray [] Q (eD evs ovs st (ltD l.length))) : ∀ (r : List Oper) (n : Nat), n ≤ l.length → l.drop n = r → AList F l.toArray r Q (eD evs ovs st (ltD n))
 | [], n, hle, hr => by
  have hn : l.length ≤ n := by simpa [List.drop_eq_nil_iff] using hr
  have he : n = l.length := Nat.le_antisymm hle hn
  rw [he]; exact k
 | o :: r, n, _, hr => by
  have hn : n < l.length := by
   rcases Nat.lt_or_ge n l.length with h | h
   ·exact h
   ·rw [List.drop_eq_nil_of_le h] at hr; cases hr
  have ho : l[n]? = some o := by
   rw [List.drop_eq_getElem_cons hn] at hr
   rw [List.getElem?_eq_getElem hn]
   exact congrArg some (List.cons.inj hr).1
  have hr' : l.drop (n + 1) = r := by
   rw [List.drop_eq_getElem_cons hn] at hr
   exact (List.cons.inj hr).2
  have hlt : ∀ (i : Nat) (o' : Oper), l[i]? = some o' → ∀ e ∈ o'.after.toList, Region.binds .any e = true → e.on < i := fun i o' ho' e he hb => by
   have hi : i < l.length := (List.getElem?_eq_some_iff.1 ho').1
   have := List.all_eq_true.1 hedge i (List.mem_range.2 hi)
   rw [ho'] at this
   simp only [List.all_eq_true, Bool.or_eq_true, Bool.not_eq_true', decide_eq_true_eq] at this
   rcases this e he with h | h
   ·rw [hb] at h; cases h
   ·exact h
  have h1 := hs.get ho
  rw [Nat.zero_add] at h1
  have h2 := h1 ho hok (ltD n) (by simp [ltD]) (fun e he hb => by have := hlt n o ho e he hb; simpa [ltD] using this) (fun i o' ho' hD e he hb => by
   have h3 := hlt i o' (by simpa using ho') e he hb
   simp only [ltD, decide_eq_true_eq] at hD ⊢
   omega)
  rw [zsb] at h2
  exact zn8 h2 (zid hok hedge hs k r (n + 1) hn hr')
theorem zoa {evs : List (Nat × Nat × AV)} {ovs : List (Nat × Nat × Option AObj)} {st : ASt} {D D' : Nat → Bool} (h1 : ∀ p ∈ evs, D p.1 = D' p.1) (h2 : ∀ p ∈ ovs, D p.1 = D' p.1) : eD evs ovs st D = eD evs ovs st D' := by
 have e1 : envD D st.env evs = envD D' st.env evs := by
  induction evs with
  | nil => rfl
  | cons p l ih =>
   obtain ⟨i, c, u⟩ := p
   funext n
   simp only [envD, ih fun p hp => h1 p (by simp [hp]), h1 (i, c, u) (by simp)]
 have e2 : z00 D st.objs ovs = z00 D' st.objs ovs := by
  clear h1 e1
  induction ovs with
  | nil => rfl
  | cons p l ih =>
   obtain ⟨i, c, u⟩ := p
   funext n
   simp only [z00, ih fun p hp => h2 p (by simp [hp]), h2 (i, c, u) (by simp)]
 unfold eD
 rw [e1, e2]
theorem Za {F : FC} (ns ids : List Nat) (evs : List (Nat × Nat × AV)) (ovs : List (Nat × Nat × Option AObj)) {e : List (Nat × AV)} {o : List (Nat × AObj)} {l : List Oper} {id : Nat} {Q : Exit → ASt → Prop} {st : ASt}
  (hs : FOps F l evs ovs st 0 l) (k : Q .normal (.of e o))
  (hc : zd6 l (evs.map fun p => (p.1, p.2.1)) (ovs.map (·.1)) = true := by kernel_rfl)
  (hk : Kept ns ids e o (eD evs ovs st fun _ => true) := by
    simp (maxSteps := 2000000) (disch := omega) only [wm, avA, zk, zo, seval, hE, Zb]
    exact ⟨rfl, rfl⟩) : AWp F (.region id l.toArray false) Q st := by
 have hok := zqg hc
 unfold zd6 at hc
 simp only [Bool.and_eq_true] at hc
 obtain ⟨⟨⟨⟨h2, _⟩, _⟩, h5⟩, h6⟩ := hc
 have h0 : eD evs ovs st (ltD 0) = st := zip (fun p hp => by simp [ltD]) (fun p hp => by simp [ltD])
 have hend : eD evs ovs st (ltD l.length) = eD evs ovs st fun _ => true := zoa (fun p hp => by
  have := List.all_eq_true.1 h5 (p.1, p.2.1) (List.mem_map.2 ⟨p, hp, rfl⟩)
  simpa [ltD] using this) (fun p hp => by
  have := List.all_eq_true.1 h6 p.1 (List.mem_map.2 ⟨p, hp, rfl⟩)
  simpa [ltD] using this)
 refine z11 ?_
 have := zid (Q := Q) hok h2 hs (fun a w hsim => by
  rw [hend] at hsim
  unfold wpListIn
  refine ⟨.of e o, k, ?_⟩
  have := Le.keep F (eD evs ovs st fun _ => true) ns ids a w hsim
  unfold ASt.keep at this
  rw [hk.1, hk.2] at this
  exact this) l 0 (Nat.zero_le _) rfl
 rw [h0] at this
 exact this
theorem WSF {F : FC} (ns ids : List Nat) (evs : List (Nat × Nat × AV)) (ovs : List (Nat × Nat × Option AObj)) {e : List (Nat × AV)} {o : List (Nat × AObj)} {l : List Oper} {id : Nat} {y : Code} {Q : Exit → ASt → Prop} {st : ASt}
  (hs : FOps F l evs ovs st 0 l) (k : AWp F y Q (.of e o))
  (hc : zd6 l (evs.map fun p => (p.1, p.2.1)) (ovs.map (·.1)) = true := by kernel_rfl)
  (hk : Kept ns ids e o (eD evs ovs st fun _ => true) := by
    simp (maxSteps := 2000000) (disch := omega) only [wm, avA, zk, zo, seval, hE, Zb]
    exact ⟨rfl, rfl⟩) : AWp F (.seq (.region id l.toArray false) y) Q st := z3 (Za (Q := zcq F y Q) ns ids evs ovs hs k hc hk)
theorem z9e {m : Nat → Nat} {i : Nat} : ∀ (l : List (Nat × AObj)) (st : ASt), (∀ p ∈ l, m p.1 ≠ i) → (st.drops m l).objs i = st.objs i
 | [], _, _ => rfl
 | p :: l, st, h => by
  rw [ASt.drops, z9e l _ fun q hq => h q (by simp [hq])]
  simp only [ASt.drop, zq]
  rw [if_neg fun e => h p (by simp) e.symm]
theorem z7f {m : Nat → Nat} {f : Nat → Option AObj} {i : Nat} : ∀ (l : List (Nat × AObj)) (st : ASt), (∀ p ∈ l, f (m p.1) = some (p.2.ren m)) → ((∀ p ∈ l, m p.1 ≠ i) → st.objs i = f i) → (st.objsM m l).objs i = f i
 | [], st, _, h => h (by simp)
 | (id, o) :: l, st, h, h' => by
  simp only [ASt.objsM, ASt.obj, zq]
  split
  ·rename_i hi
   rw [hi]
   exact (h (id, o) (by simp)).symm
  ·rename_i hi
   exact z7f l st (fun p hp => h p (by simp [hp])) fun hn => h' fun p hp => by
    rcases List.mem_cons.1 hp with rfl | hp
    ·exact fun e => hi e.symm
    ·exact hn p hp
theorem zfw {m : Nat → Nat} {st : ASt} {os : List (Nat × AObj)} (h : ∀ p ∈ os, st.objs (m p.1) = some (p.2.ren m)) : st.backX m [] os os = st := by
 have h1 : (st.backX m [] os os).env = st.env := by rw [ASt.backX, z1g, z9d]; rfl
 have h2 : (st.backX m [] os os).objs = st.objs := funext fun i => by
  rw [ASt.backX]
  exact z7f os _ h fun hn => z9e os st hn
 cases hb : st.backX m [] os os
 rw [hb] at h1 h2
 cases st
 simp only at h1 h2
 rw [h1, h2]
theorem v9 {F : FC} {o : Oper} {st : ASt} {d : Nat} {f : Operand} {args : Array Operand} {ts : Array TypeId} {g : FuncId} {caps xs rs : List AV} {os : List (Nat × AObj)} {m : Nat → Nat} (ho : o.op = .call { callee := .value f, args := args, argTypes := ts }) (hdst : o.dst = some d) (hd : d < F.N)
  (hf : evA st.env f = .fn g caps) (hc : GivesX F.P F.G g xs os rs os) (hxs : renL m xs = args.toList.map (evA st.env) ++ caps) (hl : LentX F st.objs m [] os os) : StepOK F o st (st.put (some d) (z0s (renL m rs))) := fun a w ⟨hdf, β, S, hs⟩ K Q hK =>
 zd2 hs ho (ρ := evA st.env) (fun x _ => qj hs.env x) hf hxs hl hc fun β' S' w' r hs' hr => by
  rw [zfw hl.have_] at hs'
  rw [hdst]
  exact hK _ _ ⟨hdf, β', S', hs'.put hd hr⟩
theorem EX' {p : Prop} (h : p := by
  simp (maxSteps := 2000000) (disch := omega) only [renL, AV.ren, List.map_cons, List.map_nil, wm, avA, zk, zo, seval, hE, Zb, hA1, hA2]
  all_goals exact rfl) : p := h
theorem EL' {p : Prop} (h : p := by
  simp (maxSteps := 2000000) (disch := omega) only [z6q, AObj.ren, AV.ren, renL, z5x, List.map_cons, List.map_nil, wm, avA, seval, hE, Zb, hA1, hA2]
  all_goals ((repeat' apply And.intro) <;> first | trivial | rfl)) : p := h
theorem zdc {F : FC} {o : Oper} {st : ASt} {d : Nat} {s t e : TypeId} {x : Operand} {ns : List Int} {i i' j : TI} (ho : o.op = .convert s t x) (hdst : o.dst = some d) (hd : d < F.N) (hs : ti F.P s = some i) (hs' : i.tk = .slice e) (ht : ti F.P t = some i') (ht' : i'.tk = .str) (he : ti F.P e = some j) (he' : j.tk = .int .u8 ∧ j.size = 1)
  (hv : wb st.objs 6 (evA st.env x) = some (.sl (ns.map (Dat.int .u8)))) : StepOK F o st (st.put (some d) (.dat (.str (vv ns)))) := by
 refine StepOK.of_value (st1 := st) (by rw [hdst]; exact hd) (by rw [hdst]) fun β S a w hsim => ?_
 have hx := (kd hsim 6 _ _ hv).1 _ (qj (a := a) hsim.env x)
 have hcv : convA F.P s t (.dat (.sl (ns.map (Dat.int .u8)))) = (True, .dat (.str (vv ns))) := by
  obtain ⟨sz, by_, z, tk⟩ := i
  obtain ⟨sz', by_', z', tk'⟩ := i'
  obtain ⟨sz2, by2, z2, tk2⟩ := j
  simp only at hs' ht' he'
  obtain ⟨he1, he2⟩ := he'
  subst hs'; subst ht'; subst he1; subst he2
  simp [convA, hs, ht, he, z3l]
 obtain ⟨r, h1, h2⟩ := z99 (β := β) (S := Ze st β S) (s := s) (d := t) (x := .dat (.sl (ns.map (Dat.int .u8)))) (by simp only [RepA]; exact hx) (by rw [hcv]; trivial)
 rw [hcv] at h2
 simp only [RepA, RepX] at h2
 subst h2
 exact ⟨_, w, β, S, by simp only [execOp, ho, Sem.run_bind, h1, Result.andThen_ok, Sem.run_pure]; rfl, by simp only [RepA, RepX], hsim⟩
theorem EW' {p : Prop} (h : p := by
  simp (maxSteps := 2000000) (disch := omega) only [xp, xk, xq, xm, xn, wm, avA, zk, zo, seval, hE, Zb, hA1, hA2]
  all_goals exact rfl) : p := h
theorem znt {F : FC} {o : Oper} {st : ASt} {t e : TypeId} {x : Operand} {id es off len : Nat} {ob : AObj} {i j : TI} {z : AV} (ho : o.op = .call { callee := .builtin .clear, args := #[x], argTypes := #[t] }) (hdst : o.dst = none) (ht : ti F.P t = some i) (hk : i.tk = .slice e) (hj : ti F.P e = some j)
  (hz : zeroA j = some z) (hzs : z.storable = true) (hzl : z.cells.length = j.size) (hx : evA st.env x = .osl id es off len) (hob : st.objs id = some ob) (hes : ob.es = es) (hes' : es = j.size) (hoff : off + len = ob.elems.length) :
  StepOK F o st (st.obj id ⟨es, ob.elems.take off ++ List.replicate len z⟩) := by
 subst hes
 refine StepOK.of_value (st1 := st.obj id ⟨ob.es, ob.elems.take off ++ List.replicate len z⟩) (x := .tup []) (by rw [hdst]; trivial) (by rw [hdst]; rfl) fun β S a w hsim => ?_
 have htup : ∀ w', RepA β S w' (.tup []) (.tuple #[]) := fun w' => by simp only [RepA]; exact ⟨#[], rfl, by simp [RepAL]⟩
 obtain ⟨_, u, _, hu, _, _, _, hkk⟩ := ti_info ht
 rw [hk] at hkk
 have hu' := wt hkk.symm
 subst hu'
 obtain ⟨zv, hzr, hzrep, hz1⟩ := Q9 (β := β) (S := S) (w := w) hj hz hzs
 have hzsz : zv.cells.size = j.size := by have := zy hzrep; simp at this; omega
 have ex := qj (a := a) hsim.env x
 rw [hx] at ex
 simp only [RepA] at ex
 have hsame : len = 0 → st.obj id ⟨ob.es, ob.elems.take off ++ List.replicate len z⟩ = st := fun h0 => by
  subst h0
  have : ob.elems.take off ++ List.replicate 0 z = ob.elems := by rw [List.replicate_zero, List.append_nil, List.take_of_length_le (by omega)]
  rw [this]
  cases st
  simp only [ASt.obj] at hob ⊢
  congr 1
  funext q
  simp only [zq]
  split
  ·rename_i hq; rw [hq, hob]
  ·rfl
 rcases Nat.eq_zero_or_pos len with h0 | hpos
 ·rw [hsame h0]
  subst h0
  refine ⟨.tuple #[], w, β, S, ?_, htup w, hsim⟩
  have hv : ∃ a' c, a.eval x = .slice a' 0 c := by
   rcases ex with ⟨_, _, a', h⟩ | ⟨_, _, c, _, _, a', _, h, _⟩
   ·exact ⟨a', 0, h⟩
   ·exact ⟨a', c, h⟩
  obtain ⟨a', c, hv⟩ := hv
  simp only [execOp, ho, resolve, Sem.run_bind, Sem.run_pure, Result.andThen_ok, invoke, builtin, List.map_toArray, List.map_cons, List.map_nil, hv, Builtin.clear_]
  cases a' <;> simp [run_underlying hu]
 ·rcases ex with ⟨_, h0, _⟩ | ⟨b, s, cap, arr, e', a', hb, hv, ha, hlc, hh, hsz⟩
  ·omega
  have ha := ha (by omega)
  subst ha
  have hfit0 : (off + len) * ob.es ≤ (off + cap) * ob.es := Nat.mul_le_mul_right _ (by omega)
  let vs : List Value := (Builtin.zeroCells zv.cells len).toList
  have hvl : vs.length = len * ob.es := by simp [vs, Builtin.zeroCells, hzsz, hes']
  have hfit : s + off * ob.es + vs.length ≤ arr.size := by rw [hvl]; rw [Nat.add_mul] at hfit0; omega
  have h1 : ∀ v ∈ vs, v.oneCell' = true := fun v hv => by
   simp only [vs, Builtin.zeroCells, Array.toList_map, List.mem_map] at hv
   obtain ⟨q, hq, rfl⟩ := hv
   have hpz : 0 < zv.cells.size := by
    rcases Nat.eq_zero_or_pos zv.cells.size with h | h
    ·rw [h] at hq; simp at hq
    ·exact h
   have hlt : q % zv.cells.size < zv.cells.size := Nat.mod_lt _ hpz
   rw [getElem!_pos zv.cells _ hlt]
   exact hz1 _ (by simp)
  let cs : Array Value := (arr.toList.take (s + off * ob.es) ++ vs ++ arr.toList.drop (s + off * ob.es + vs.length)).toArray
  have hcs : cs.size = arr.size := by simp only [cs, List.size_toArray, List.length_append, List.length_take, List.length_drop, Array.length_toList] at hfit ⊢; omega
  rcases hsim.obj id ob hob with ⟨hn, _⟩ | ⟨b', s', arr', e2, hb', hw, hh', hz', hel⟩ | hm
  ·rw [hn] at hb; cases hb
  ·rw [hb'] at hb
   simp only [Option.some.injEq, Prod.mk.injEq] at hb
   obtain ⟨rfl, rfl⟩ := hb
   rw [hh'] at hh
   simp only [Option.some.injEq, Obj.cells.injEq, and_true] at hh
   obtain ⟨rfl, rfl⟩ := hh
   have hs2 := hsim.setElems (elems := ob.elems.take off ++ List.replicate len z) hob hb' hh' hcs (by
    have : (ob.elems.take off ++ List.replicate len z).length = ob.elems.length := by simp; omega
    rw [this]; exact hz') fun q y hy => by
     by_cases hq : q < off
     ·rw [List.getElem?_append_left (by simp; omega), List.getElem?_take, if_pos hq] at hy
      obtain ⟨g1, g2⟩ := hel q y hy
      refine ⟨g1, fun m c hc => ?_⟩
      obtain ⟨v, hv1, hv2, hr⟩ := g2 m c hc
      rw [cell_of_row w b' _ arr' e2 _ hh'] at hv1
      refine ⟨v, ?_, hv2, hr⟩
      have hm : m < ob.es := by have := (List.getElem?_eq_some_iff.1 hc).1; omega
      have : (q + 1) * ob.es ≤ off * ob.es := Nat.mul_le_mul_right _ hq
      rw [Nat.add_mul] at this
      simp only [cs]
      rw [Z4 hfit, if_pos (by omega)]
      exact hv1
     ·have hto : (ob.elems.take off).length = off := by simp; omega
      rw [List.getElem?_append_right (by omega), hto, List.getElem?_replicate] at hy
      split at hy
      ·rename_i hlt
       simp only [Option.some.injEq] at hy
       subst hy
       refine ⟨by omega, fun m c hc => ?_⟩
       obtain ⟨v, hv1, hr⟩ := xu hzrep hc
       have hmlt : m < zv.cells.size := by simpa using (List.getElem?_eq_some_iff.1 hv1).1
       refine ⟨v, ?_, hz1 v (List.mem_of_getElem? hv1), hr⟩
       have hqe : q * ob.es = off * ob.es + (q - off) * ob.es := by rw [← Nat.add_mul, show off + (q - off) = q by omega]
       have hql : (q - off + 1) * ob.es ≤ len * ob.es := Nat.mul_le_mul_right _ (by omega)
       rw [Nat.add_mul] at hql
       have hze : zv.cells.size = ob.es := by omega
       simp only [cs]
       rw [Z4 hfit, if_neg (by omega), if_pos (by omega)]
       have hzg := zfp (z := zv.cells) (n := len) (k := q - off) (m := m) hlt hmlt
       rw [hze] at hzg
       rw [show s' + q * ob.es + m - (s' + off * ob.es) = (q - off) * ob.es + m by omega]
       simp only [vs, Builtin.zeroCells, hze]
       rw [Array.getElem?_toList, hzg]
       simpa using hv1
      ·cases hy
   refine ⟨.tuple #[], w.setRow b' cs, β, S, ?_, htup _, hs2⟩
   have hst := run_storeCells_at F.P b' (s' + off * ob.es) e2 vs 0 arr' w hh' (by simpa using hfit) h1
   simp only [Nat.add_zero] at hst
   simp only [execOp, ho, resolve, Sem.run_bind, Sem.run_pure, Result.andThen_ok, invoke, builtin, List.map_toArray, List.map_cons, List.map_nil, hv, Builtin.clear_]
   cases len with
   | zero => omega
   | succ n => simp [run_underlying hu, hzr, Sem.run_bind, Result.andThen_ok, vs, cs, hst] at hst ⊢
  ·obtain ⟨b2, en, ck, _, _, hb2, _, hh2, _⟩ := hm
   rw [hb2] at hb
   simp only [Option.some.injEq, Prod.mk.injEq] at hb
   obtain ⟨rfl, rfl⟩ := hb
   rw [hh2] at hh
   cases hh
end Go.Av

namespace Go.Av
end Go.Av

namespace Go.Av
theorem AList.le {F : FC} {ops : Array Oper} {l : List Oper} {Q : Exit → ASt → Prop} {st st' : ASt} (h : Le F st st') (k : AList F ops l Q st') : AList F ops l Q st := fun a w hs => k a w (h a w hs)
theorem zvv {F : FC} (id : Nat) {ops : Array Oper} {l : List Oper} {Q : Exit → ASt → Prop} {e : List (Nat × AV)} {o : List (Nat × AObj)} {ob : AObj} {ds : List Dat} (hM : TopF F) (ho : qm o id = some ob) (hd : vz ob.elems = some ds) (h : AList F ops l Q (.of (frzE id ob.es ds e) (frzO id ob.es ds o))) : AList F ops l Q (.of e o) :=
 AList.le (Le.frz (id := id) hM ho hd) (by rw [zbn]; exact h)
def z0d : List AV → Option (List Dat)
 | [] => some []
 | .dat d :: l => if d.isAgg = true then none else (z0d l).map (d :: ·)
 | .nils :: l => (z0d l).map (.sl [] :: ·)
 | .lits x :: l => (z0d l).map (.sl x :: ·)
 | _ :: _ => none
def zwh : AV → Option Dat
 | .dat d => some d
 | .nils => some (.sl [])
 | .lits x => some (.sl x)
 | .agg l => (z0d l).map .agg
 | _ => none
theorem ze6 {β : zg} {S : Nat → Nat → Prop} {w : World} {l : List Dat} {v : Value} (h : RepA β S w (.lits l) v) : RepX S w (.sl l) v := by
 simp only [RepA] at h
 obtain ⟨es, a, rfl, h2⟩ := h
 simp only [RepX]
 exact ⟨es, a, l.length, rfl, Nat.le_refl _, h2⟩
theorem zej {β : zg} {S : Nat → Nat → Prop} {w : World} {v : Value} (h : RepA β S w .nils v) : RepX S w (.sl []) v := by
 have := zcl h
 simp only [RepA] at this
 exact this
theorem z9m {β : zg} {S : Nat → Nat → Prop} {w : World} : ∀ {l : List AV} {ds : List Dat} {vs : List Value}, z0d l = some ds → RepAL β S w l vs → RepL S w ds vs
 | [], ds, vs, h, hr => by
  simp only [z0d, Option.some.injEq] at h
  subst h
  simp only [RepAL] at hr
  simp only [RepL]
  exact hr
 | x :: l, ds, vs, h, hr => by
  simp only [RepAL] at hr
  obtain ⟨v, vs', rfl, hx, hl⟩ := hr
  have key : ∀ {d : Dat} {ds' : List Dat}, z0d l = some ds' → ds = d :: ds' → d.isAgg = false → RepX S w d v → RepL S w ds (v :: vs') := fun {d ds'} h1 h2 h3 h4 => by
   subst h2
   simp only [RepL]
   exact ⟨v, vs', rfl, xf h3 h4, z9m h1 hl⟩
  cases x <;> simp only [z0d] at h <;> try (cases h; done)
  ·rename_i d
   split at h
   ·cases h
   ·rename_i hd
    cases h1 : z0d l with
    | none => rw [h1] at h; cases h
    | some ds' =>
     rw [h1] at h
     simp only [Option.map_some, Option.some.injEq] at h
     simp only [RepA] at hx
     exact key h1 h.symm (by simpa using hd) hx
  all_goals
   cases h1 : z0d l with
   | none => rw [h1] at h; cases h
   | some ds' =>
    rw [h1] at h
    simp only [Option.map_some, Option.some.injEq] at h
    exact key h1 h.symm rfl (by first | exact zej hx | exact ze6 hx)
theorem Le.envD {F : FC} {st : ASt} (n : Nat) {x : AV} {d : Dat} (hn : st.env n = x) (h : zwh x = some d) : Le F st (st.put (some n) (.dat d)) := fun a w ⟨hd, β, S, hs⟩ => by
 refine ⟨hd, β, S, hs.ext, hs.glob, hs.sub, hs.lt, hs.sep, hs.inj, hs.obj, fun k => ?_, hs.size⟩
 simp only [ASt.put, zq]
 split
 ·rename_i hk
  subst hk
  have q := hs.env k
  rw [hn] at q
  simp only [RepA]
  cases x <;> simp only [zwh] at h <;> try (cases h; done)
  ·simp only [Option.some.injEq] at h
   subst h
   simp only [RepA] at q
   exact q
  ·rename_i l
   cases hf : z0d l with
   | none => rw [hf] at h; cases h
   | some ds =>
    rw [hf] at h
    simp only [Option.map_some, Option.some.injEq] at h
    subst h
    simp only [RepA] at q
    obtain ⟨cs, h1, h2⟩ := q
    simp only [RepX]
    exact ⟨cs, h1, z9m hf h2⟩
  all_goals
   simp only [Option.some.injEq] at h
   subst h
   first | exact zej q | exact ze6 q
 ·exact hs.env k
theorem zb9 {F : FC} (n : Nat) {ops : Array Oper} {l : List Oper} {Q : Exit → ASt → Prop} {e : List (Nat × AV)} {o : List (Nat × AObj)} {x : AV} {d : Dat} (hn : y0 e n = x) (h : zwh x = some d) (k : AList F ops l Q (.of ((n, .dat d) :: e) o)) : AList F ops l Q (.of e o) :=
 AList.le (Le.envD n hn h) (by rw [yr]; exact k)
theorem znc {F : FC} (m : ASt) {x : Code} {Q : Exit → ASt → Prop} {st : ASt} (h : AWp F x (fun e st' => match e with
  | .normal => Le F st' m
  | e => Q e st') st) (k : ∀ st', Le F st' m → Q .normal st') : AWp F x Q st :=
 h.mono fun e st' hq => by cases e <;> first | exact k _ hq | exact hq
theorem z2k {F : FC} (i : Nat) (d : Dat) {c : Code} {Q : Exit → ASt → Prop} {e : List (Nat × AV)} {o : List (Nat × AObj)} {es : Nat} {l : List AV} {ds : List Dat} (hi : qm o i = some ⟨es, [.agg l]⟩) (hf : Z0 l = some ds) (hd : d = .agg ds) (h : AWp F c Q (.of e (setO i ⟨es, [.dat d]⟩ o))) : AWp F c Q (.of e o) :=
 zbc i hi hf (hd ▸ h)
section
variable {F : FC} {l : List Oper} {evs : List (Nat × Nat × AV)} {ovs : List (Nat × Nat × Option AObj)} {st : ASt} {i : Nat} {o : Oper}
theorem FAa (k k' k'' : Nat) (ancs descs : List Nat) {d id old : Nat} {v : AV} {ob : AObj} (hv : evs[k]? = some (i, d, v) := by rfl) (hv' : ovs[k']? = some (i, id, some ob) := by rfl) (hv'' : ovs[k'']? = some (i, old, none) := by rfl) (hne : old ≠ id := by decide) (h3 : ovs.all (fun p => p.1 != i || [id, old].contains p.2.1) = true := by kernel_rfl) (hb : z04 l i ancs descs = true := by kernel_rfl) (hg : o.guard = none := by rfl)
  (hO : ∀ D : Nat → Bool, x8 D ancs → NoD D (i :: descs) → Qv D i id (some ob) ovs := by
    intro D hA1 hA2
    simp only [x8, NoD] at hA1 hA2
    simp [Qv, hA1, hA2])
  (hO' : ∀ D : Nat → Bool, x8 D ancs → NoD D (i :: descs) → Qv D i old none ovs := by
    intro D hA1 hA2
    simp only [x8, NoD] at hA1 hA2
    simp [Qv, hA1, hA2])
  (hfix : ∀ D : Nat → Bool, x8 D ancs → NoD D (i :: descs) → z5h id (eD evs ovs st D) := by
    intro D hA1 hA2
    simp only [x8, NoD] at hA1 hA2
    exact zob (zby (by simp [AV.kill, killL]) (by simp [AV.kill, killL])) (by simp [AV.kill, killL, hA1, hA2]) (by simp [AV.kill, killL, hA1, hA2]))
  (h : ∀ D : Nat → Bool, x8 D ancs → NoD D (i :: descs) → zh F #[] [o] (eD evs ovs st D) (fun s => s = (((((eD evs ovs st D).drop old).kill id).obj id ob).put (some d) v)) := by
    intro D hA1 hA2
    simp only [x8, NoD] at hA1 hA2
    simp (maxSteps := 2000000) (disch := omega) only [wm, avA, zk, zo, seval, ↓List.forall_mem_cons, Op.operands, hA, tiA, hE, Zb, hA1, hA2]
    all_goals exact SC) : FOp F l evs ovs st i o := FA k k' k'' ancs descs hv hv' hv'' hne h3 hb hg hO hO' hfix h
end
end Go.Av

