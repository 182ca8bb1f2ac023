/- A part of the proof. -/
import Derived.Test.YtkeopokhnfpgpaaGreatDoorHAv46
set_option linter.all false
namespace Go.Av
def Xe : Dat → Dat → Bool
 | .int _ a, .int _ b => a == b
 | .agg [.int _ a, .int _ b], .agg [.int _ c, .int _ d] => a == c && b == d
 | _, _ => false
def lkp : List Dat → List Dat → Dat → Option Dat
 | k :: ks, v :: vs, d => if Xe d k = true then some v else lkp ks vs d
 | _, _, _ => none
def z5m : List Dat → Dat → List Dat
 | k :: ks, d => if Xe d k = true then d :: ks else k :: z5m ks d
 | [], d => [d]
def z5n : List Dat → List Dat → Dat → Dat → List Dat
 | k :: ks, v :: vs, d, x => if Xe d k = true then x :: vs else v :: z5n ks vs d x
 | _, _, _, x => [x]
def z70 : Dat → Option Value
 | .int k n => some (.int k n)
 | .agg [.int k a, .int k' b] => some (.agg #[.int k a, .int k' b])
 | _ => none
theorem z2v {S : Nat → Nat → Prop} {w : World} {d : Dat} {v v' : Value} (h : z70 d = some v) (hr : RepX S w d v') : v' = v := by
 unfold z70 at h
 split at h
 ·simp only [RepX] at hr
  cases h; exact hr
 ·simp only [RepX, RepL, Rep1] at hr
  obtain ⟨cs, rfl, v1, vs1, h1, rfl, v2, vs2, h2, rfl, rfl⟩ := hr
  cases h
  subst h2
  cases cs
  simp only at h1
  subst h1
  rfl
 ·cases h
theorem zex {S : Nat → Nat → Prop} {w : World} {d : Dat} {v : Value} (h : z70 d = some v) : RepX S w d v := by
 unfold z70 at h
 split at h
 ·cases h; simp only [RepX]
 ·cases h
  simp only [RepX, RepL, Rep1]
  exact ⟨_, rfl, _, _, rfl, rfl, _, _, rfl, rfl, rfl⟩
 ·cases h
structure KeyRun (P : Program) (kt : TypeId) (isK : Dat → Prop) : Prop where
 val : ∀ d, isK d → ∃ v, z70 d = some v
 refl : ∀ d, isK d → Xe d d = true
 symm : ∀ d e, isK d → isK e → Xe d e = true → d = e
 check : ∀ (em : Bool) (w : World) d v, isK d → z70 d = some v → (Instr.checkKey em 10000 kt v).run P w = .ok () w
 find : ∀ (w : World) d v (l : List MapEntry) (ks : List Dat), isK d → z70 d = some v → l.length = ks.length → (∀ (i : Nat) (k : Dat) (e : MapEntry), ks[i]? = some k → l[i]? = some e → isK k ∧ z70 k = some e.key) →
  (∃ (j : Nat) (e : MapEntry) (k : Dat), (Instr.findKey kt v l).run P w = .ok (some (j, e.val)) w ∧ l[j]? = some e ∧ ks[j]? = some k ∧ Xe d k = true ∧ ∀ (i : Nat) (k' : Dat), i < j → ks[i]? = some k' → Xe d k' = false) ∨
  ((Instr.findKey kt v l).run P w = .ok none w ∧ ∀ k ∈ ks, Xe d k = false)
 stays : ∀ (w : World) d v, isK d → z70 d = some v → (Instr.keyThatStays v v).run P w = .ok v w
theorem z1t {P : Program} {kt : TypeId} {kn kn' : IntKind} (d : Nat) (em : Bool) (w : World) (hu : P.underlying kt = some (.int kn)) (n : Int) : (Instr.checkKey em (d + 1) kt (.int kn' n)).run P w = .ok () w := by
 rw [Instr.checkKey, Sem.run_bind, run_underlying hu]
 rfl
theorem z53 {P : Program} {kt : TypeId} (heq : zdn P kt) (k1 k2 : IntKind) (a b : Int) (w : World) : ∀ (l : List MapEntry) (ks : List Dat) (s : Nat), l.length = ks.length → (∀ (i : Nat) (k : Dat) (e : MapEntry), ks[i]? = some k → l[i]? = some e → ∃ c d, k = .agg [.int k1 c, .int k2 d] ∧ e.key = .agg #[.int k1 c, .int k2 d]) →
  (∃ (j : Nat) (e : MapEntry) (k : Dat), (Instr.findAsking kt (.agg #[.int k1 a, .int k2 b]) l s).run P w = .ok (some (s + j, e.val)) w ∧ l[j]? = some e ∧ ks[j]? = some k ∧ Xe (.agg [.int k1 a, .int k2 b]) k = true ∧ ∀ (i : Nat) (k' : Dat), i < j → ks[i]? = some k' → Xe (.agg [.int k1 a, .int k2 b]) k' = false) ∨
  ((Instr.findAsking kt (.agg #[.int k1 a, .int k2 b]) l s).run P w = .ok none w ∧ ∀ k ∈ ks, Xe (.agg [.int k1 a, .int k2 b]) k = false)
 | [], [], s, _, _ => .inr ⟨rfl, by simp⟩
 | [], _ :: _, _, h, _ => by simp at h
 | _ :: _, [], _, h, _ => by simp at h
 | e :: l, k :: ks, s, hl, h => by
  obtain ⟨c, d, hk, he⟩ := h 0 k e rfl rfl
  have hs := z2g (w := w) heq k1 k2 a b c d
  rw [← he] at hs
  by_cases hnm : (a == c && b == d) = true
  ·refine .inl ⟨0, e, k, ?_, rfl, rfl, ?_, fun i k' hi => by omega⟩
   ·rw [Instr.findAsking, Sem.run_bind, hs, Result.andThen_ok, if_pos hnm]; rfl
   ·rw [hk]; exact hnm
  ·have hf : (Instr.findAsking kt (.agg #[.int k1 a, .int k2 b]) (e :: l) s).run P w = (Instr.findAsking kt (.agg #[.int k1 a, .int k2 b]) l (s + 1)).run P w := by
    rw [Instr.findAsking, Sem.run_bind, hs, Result.andThen_ok, if_neg hnm]
   have hkf : Xe (.agg [.int k1 a, .int k2 b]) k = false := by rw [hk]; exact Bool.eq_false_iff.2 hnm
   rcases z53 heq k1 k2 a b w l ks (s + 1) (by simpa using hl) (fun i k' e' h1 h2 => h (i + 1) k' e' (by simpa using h1) (by simpa using h2)) with ⟨j, e', k', h1, h2, h3, h4, h5⟩ | ⟨h1, h2⟩
   ·refine .inl ⟨j + 1, e', k', by rw [hf, h1, show s + 1 + j = s + (j + 1) by omega], by simpa using h2, by simpa using h3, h4, fun i k'' hi hk'' => ?_⟩
    cases i with
    | zero => simp at hk''; subst hk''; exact hkf
    | succ i => exact h5 i k'' (by omega) (by simpa using hk'')
   ·refine .inr ⟨by rw [hf, h1], fun k'' hk'' => ?_⟩
    rcases List.mem_cons.1 hk'' with rfl | hk''
    ·exact hkf
    ·exact h2 k'' hk''
theorem z6n {fs : Array Field} {v : Value} : ∀ (l : List MapEntry), Instr.findNow (.struct fs) v l 0 = none ∨ (l = [] ∧ Instr.findNow (.struct fs) v l 0 = some none)
 | [] => .inr ⟨rfl, rfl⟩
 | e :: l => .inl (by rw [Instr.findNow]; rfl)
theorem z28 {P : Program} {kt : TypeId} (k1 k2 : IntKind) (heq : z5j P kt) : KeyRun P kt (fun d => ∃ a b, d = .agg [.int k1 a, .int k2 b]) where
 val := by rintro _ ⟨a, b, rfl⟩; exact ⟨_, rfl⟩
 refl := by rintro _ ⟨a, b, rfl⟩; simp [Xe]
 symm := by rintro _ _ ⟨a, b, rfl⟩ ⟨c, d, rfl⟩ h; simp [Xe] at h; rw [h.1, h.2]
 check := by
  rintro em w _ v ⟨a, b, rfl⟩ hv
  cases hv
  obtain ⟨p, q, k, k', h1, ⟨h2, h3⟩, ⟨h5, h6⟩, ⟨h8, h9⟩, h11, _⟩ := z17 heq
  show (Instr.checkKey em (9999 + 1) kt _).run P w = _
  rw [Instr.checkKey]
  have c1 : ∀ w x k, (Instr.checkKey em 9999 p.type (.int k x)).run P w = .ok () w := fun w x k => z1t 9998 em w h8 x
  have c2 : ∀ w x k, (Instr.checkKey em 9999 q.type (.int k x)).run P w = .ok () w := fun w x k => z1t 9998 em w h9 x
  simp [Sem.run_bind, run_underlying h1, h2, h3, h5, h6, h11, w8 h8, w8 h9, c1, c2]
 find := by
  rintro w _ v l ks ⟨a, b, rfl⟩ hv hl hks
  cases hv
  obtain ⟨p, q, k, k', hu, _⟩ := z17 heq
  have := z53 (.inr heq) k1 k2 a b w l ks 0 hl (fun i k e h1 h2 => by
   obtain ⟨⟨c, d, rfl⟩, h4⟩ := hks i k e h1 h2
   exact ⟨c, d, rfl, (Option.some.inj h4).symm⟩)
  have hfk : (Instr.findKey kt (.agg #[.int k1 a, .int k2 b]) l).run P w = (Instr.findAsking kt (.agg #[.int k1 a, .int k2 b]) l 0).run P w := by
   simp only [Instr.findKey, Sem.run_bind, run_underlying hu, Result.andThen_ok]
   rcases z6n (fs := #[p, q]) (v := .agg #[.int k1 a, .int k2 b]) l with h | ⟨rfl, h⟩
   ·rw [h]
   ·rw [h]; rfl
  rw [hfk]
  simpa using this
 stays := by
  rintro w _ v ⟨a, b, rfl⟩ hv
  cases hv
  simp [Instr.keyThatStays, Instr.sameBits]
theorem zxh {u : TypeDesc} {k e : TypeId} (h : z02 u = .map k e) : u = .map k e := by
 cases u <;> simp [z02] at h; obtain ⟨rfl, rfl⟩ := h; rfl
theorem ze8 {d k v : Dat} : ∀ {ks vs : List Dat} {j : Nat}, ks[j]? = some k → vs[j]? = some v → Xe d k = true → (∀ (i : Nat) (k' : Dat), i < j → ks[i]? = some k' → Xe d k' = false) → ks.length = vs.length →
  lkp ks vs d = some v ∧ z5m ks d = ks.set j d ∧ ∀ x, z5n ks vs d x = vs.set j x
 | [], _, _, h, _, _, _, _ => by simp at h
 | _ :: _, [], _, _, h, _, _, _ => by simp at h
 | a :: ks, b :: vs, 0, h1, h2, h3, _, _ => by
  simp only [List.getElem?_cons_zero, Option.some.injEq] at h1 h2
  subst h1; subst h2
  simp [lkp, z5m, z5n, h3]
 | a :: ks, b :: vs, j + 1, h1, h2, h3, h4, hl => by
  have h0 := h4 0 a (by omega) rfl
  have := ze8 (d := d) (k := k) (v := v) (ks := ks) (vs := vs) (j := j) (by simpa using h1) (by simpa using h2) h3 (fun i k' hi hk' => h4 (i + 1) k' (by omega) (by simpa using hk')) (by simpa using hl)
  simp [lkp, z5m, z5n, h0, this]
theorem ze7 {d : Dat} : ∀ {ks vs : List Dat}, (∀ k ∈ ks, Xe d k = false) → ks.length = vs.length → lkp ks vs d = none ∧ z5m ks d = ks ++ [d] ∧ ∀ x, z5n ks vs d x = vs ++ [x]
 | [], [], _, _ => ⟨rfl, rfl, fun _ => rfl⟩
 | [], _ :: _, _, h => by simp at h
 | _ :: _, [], _, h => by simp at h
 | a :: ks, b :: vs, h, hl => by
  have h0 := h a (by simp)
  have := ze7 (d := d) (ks := ks) (vs := vs) (fun k hk => h k (List.mem_cons_of_mem _ hk)) (by simpa using hl)
  simp [lkp, z5m, z5n, h0, this]
def z5l (w : World) (b : Nat) (o : Obj) : World := { w with heap := w.heap.setIfInBounds b o }
theorem zl9 {w : World} {b : Nat} {en : Array MapEntry} {ck : Nat} (h : w.heap[b]? = some (.map en ck)) (o : Obj) : (z5l w b o).heap[b]? = some o := by
 have hb : b < w.heap.size := (Array.getElem?_eq_some_iff.1 h).1
 simp [z5l, hb]
theorem Qi (w : World) (b : Nat) (o : Obj) {k : Nat} (h : k ≠ b) : (z5l w b o).heap[k]? = w.heap[k]? := by
 simp [z5l, Array.getElem?_setIfInBounds, Ne.symm h]
theorem zq1 {w : World} {b : Nat} {en : Array MapEntry} {ck : Nat} (h : w.heap[b]? = some (.map en ck)) (o : Obj) : Ext (fun k => k = b) w (z5l w b o) := by
 refine ⟨rfl, rfl, rfl, by simp [z5l], fun k _ hn => Qi w b o hn, fun k arr e hk => ?_⟩
 by_cases hb : k = b
 ·subst hb; rw [h] at hk; cases hk
 ·exact ⟨arr, (Qi w b o hb).trans hk, rfl⟩
theorem zpw {ks vs ks' vs' : List Dat} (h : yy ks vs = yy ks' vs') : ks = ks' ∧ vs = vs' := by
 simpa using h
theorem SimB.mapAt {F : FC} {β : zg} {S : Nat → Nat → Prop} {st : ASt} {tm : Array Value} {w : World} (hs : SimB F β S st tm w) {id : Nat} {ks vs : List Dat} (ho : st.objs id = some (yy ks vs)) :
  ∃ b en ck, β id = some (b, 0) ∧ (F.w0.heap.size ≤ b ∨ F.M0 b) ∧ w.heap[b]? = some (.map en ck) ∧ MapRep S w en ck ks vs := by
 rcases hs.obj id _ ho with ⟨_, h⟩ | ⟨b, s, arr, e, _, _, _, _, hel⟩ | ⟨b, en, ck, ks', vs', hb, hw, hh, he, hm⟩
 ·simp at h
 ·have := (hel 0 (.tup []) rfl).1
  simp [AV.cells] at this
 ·obtain ⟨rfl, rfl⟩ := zpw he
  exact ⟨b, en, ck, hb, hw, hh, hm⟩
theorem SimB.setMap {F : FC} {β : zg} {S : Nat → Nat → Prop} {st : ASt} {tm : Array Value} {w : World} (hs : SimB F β S st tm w) {id b : Nat} {o : AObj} {en en' : Array MapEntry} {ck ck' : Nat} {ks' vs' : List Dat}
  (ho : st.objs id = some o) (hb : β id = some (b, 0)) (hnew : F.w0.heap.size ≤ b ∨ F.M0 b) (hh : w.heap[b]? = some (.map en ck)) (hm : MapRep S w en' ck' ks' vs') :
  SimB F β S (st.obj id (yy ks' vs')) tm (z5l w b (.map en' ck')) := by
 have hext := zq1 hh (.map en' ck')
 have hkeep : Keeps S S w (z5l w b (.map en' ck')) := fun b' i hS => ⟨hS, xe (Qi w b _ (fun e => hs.sep id o b 0 i ho hb (e ▸ hS)))⟩
 have hother : ∀ i o' b' s', st.objs i = some o' → i ≠ id → β i = some (b', s') → b' ≠ b := fun i o' b' s' h hi hb' e => hi (hs.inj i id o' o b s' 0 h ho (e ▸ hb') hb)
 refine ⟨hs.ext.trans hext (fun k hk he => ?_), hs.glob, hs.sub, fun b' i h => by simpa [z5l] using hs.lt b' i h, ?_, ?_, ?_, fun n => (hs.env n).mono hkeep hext.shape, hs.size⟩
 ·rcases hnew with h | h
  ·omega
  ·exact he ▸ h
 ·intro i o' b' s' k hi hb'
  by_cases h : i = id
  ·subst h; exact hs.sep i o b' s' k ho hb'
  ·simp only [ASt.obj, qo _ _ h] at hi
   exact hs.sep i o' b' s' k hi hb'
 ·have back : ∀ i o', (st.obj id (yy ks' vs')).objs i = some o' → ∃ o'', st.objs i = some o'' := fun i o' hi => by
   by_cases h : i = id
   ·subst h; exact ⟨o, ho⟩
   ·simp only [ASt.obj, qo _ _ h] at hi; exact ⟨o', hi⟩
  intro i i' o1 o2 b' s1 s2 h1 h2 hb1 hb2
  obtain ⟨p1, hp1⟩ := back i o1 h1
  obtain ⟨p2, hp2⟩ := back i' o2 h2
  exact hs.inj i i' p1 p2 b' s1 s2 hp1 hp2 hb1 hb2
 ·intro i o' hi
  by_cases h : i = id
  ·subst h
   simp only [ASt.obj, upd_same, Option.some.injEq] at hi
   subst hi
   exact .inr (.inr ⟨b, en', ck', ks', vs', hb, hnew, zl9 hh _, rfl, hm.mono hkeep⟩)
  ·simp only [ASt.obj, qo _ _ h] at hi
   rcases hs.obj i o' hi with h' | ⟨b', s', arr', e', hb', hw', hh', hz', hel'⟩ | hm
   ·exact .inl h'
   ·have hne := hother i o' b' s' hi h hb'
    have hbb : (z5l w b (.map en' ck')).heap[b']? = w.heap[b']? := Qi w b _ hne
    exact .inr (.inl ⟨b', s', arr', e', hb', hw', hbb.trans hh', hz', fun k x hx => ⟨(hel' k x hx).1, (hel' k x hx).2.mono hkeep hext.shape hbb⟩⟩)
   ·exact .inr (.inr (hm.mono rfl hkeep fun b' hb' => Qi w b _ (hother i o' b' 0 hi h hb')))
theorem SimB.newMap {F : FC} {β : zg} {S : Nat → Nat → Prop} {st : ASt} {tm : Array Value} {w : World} (hs : SimB F β S st tm w) (d : Nat) (hdN : d < F.N) :
  SimB F (upd β d (some (w.heap.size, 0))) S ((st.kill d).obj d (yy [] [])) tm (w.alloc (.map #[] 0)) := by
 have hk := hs.kill d
 have hmv : ∀ i, i ≠ d → (upd β d (some (w.heap.size, 0))) i = β i := fun i hi => qo β _ hi
 have hkeep : Keeps S S w (w.alloc (.map #[] 0)) := ya _ (fun _ _ h => h) hs.lt
 have hext : Ext (fun _ => False) w (w.alloc (.map #[] 0)) := Ext.alloc _ w _
 have hother : ∀ i o b s, ((st.kill d).obj d (yy [] [])).objs i = some o → i ≠ d → (upd β d (some (w.heap.size, 0))) i = some (b, s) → (st.kill d).objs i = some o ∧ β i = some (b, s) := fun i o b s ho hi hb => by
  simp only [ASt.obj, qo _ _ hi] at ho
  rw [hmv i hi] at hb
  exact ⟨ho, hb⟩
 refine ⟨hs.ext.trans hext (fun _ _ h => h.elim), hs.glob, hs.sub, fun b i h => by simp only [World.size_alloc]; exact Nat.lt_succ_of_lt (hs.lt b i h), ?_, ?_, ?_, fun n => ?_, ⟨hs.size.1, fun i hi => (hmv i (by omega)).trans (hs.size.2 i hi)⟩⟩
 ·intro i o b s k ho hb hS
  by_cases hi : i = d
  ·subst hi
   simp only [upd_same, Option.some.injEq, Prod.mk.injEq] at hb
   have := hs.lt b k hS
   omega
  ·obtain ⟨h1, h2⟩ := hother i o b s ho hi hb
   exact hk.sep i o b s k h1 h2 hS
 ·intro i i' o o' b s s' ho ho' hb hb'
  by_cases hi : i = d
  ·by_cases hi' : i' = d
   ·omega
   ·exfalso
    obtain ⟨h1, h2⟩ := hother i' o' b s' ho' hi' hb'
    subst hi
    simp only [upd_same, Option.some.injEq, Prod.mk.injEq] at hb
    have := hk.block_lt h1 h2
    omega
  ·by_cases hi' : i' = d
   ·exfalso
    obtain ⟨h1, h2⟩ := hother i o b s ho hi hb
    subst hi'
    simp only [upd_same, Option.some.injEq, Prod.mk.injEq] at hb'
    have := hk.block_lt h1 h2
    omega
   ·obtain ⟨h1, h2⟩ := hother i o b s ho hi hb
    obtain ⟨h1', h2'⟩ := hother i' o' b s' ho' hi' hb'
    exact hk.inj i i' o o' b s s' h1 h1' h2 h2'
 ·intro i o ho
  by_cases hi : i = d
  ·subst hi
   simp only [ASt.obj, upd_same, Option.some.injEq] at ho
   subst ho
   exact .inr (.inr ⟨w.heap.size, #[], 0, [], [], upd_same _ _ _, .inl hs.ext.size, heap_alloc_new w _, rfl, ⟨rfl, by simp⟩, rfl, rfl, by simp⟩)
  ·simp only [ASt.obj, qo _ _ hi] at ho
   rcases hk.obj i o ho with ⟨hn, he⟩ | ⟨b', s', arr', e', hb, hw, hh', hz', hel'⟩ | hm
   ·exact .inl ⟨(hmv i hi).trans hn, he⟩
   ·have hlt := hk.block_lt ho hb
    have hbb : (w.alloc (.map #[] 0)).heap[b']? = w.heap[b']? := RowKit.Below.heap_alloc w _ b' hlt
    refine .inr (.inl ⟨b', s', arr', e', (hmv i hi).trans hb, hw, hbb.trans hh', hz', fun k x hx => ⟨(hel' k x hx).1, ?_⟩⟩)
    have hm := (hel' k x hx).2
    intro j c hj
    obtain ⟨v, hv, h1, hr⟩ := hm j c hj
    refine ⟨v, (xe hbb).trans hv, h1, ?_⟩
    have hkk : c.kill d = c := by
     simp only [ASt.kill, if_neg hi] at ho
     cases hp : st.objs i with
     | none => simp [hp] at ho
     | some p =>
      simp only [hp, Option.map_some, Option.some.injEq] at ho
      subst ho
      rw [List.getElem?_map] at hx
      cases hy : p.elems[k]? with
      | none => simp [hy] at hx
      | some y =>
       simp only [hy, Option.map_some, Option.some.injEq] at hx
       subst hx
       rw [vo, List.getElem?_map] at hj
       cases hcj : y.cells[j]? with
       | none => simp [hcj] at hj
       | some c' =>
        simp only [hcj, Option.map_some, Option.some.injEq] at hj
        subst hj
        exact jd d c'
    rw [← hkk]
    exact (hr.moved hmv).mono hkeep hext.shape
   ·exact .inr (.inr (hm.mono (hmv i hi) hkeep fun b hb => RowKit.Below.heap_alloc w _ b (hk.block_lt ho hb)))
 ·exact ((hs.env n).moved hmv).mono hkeep hext.shape
theorem zhb {F : FC} {o : Oper} {st : ASt} {d : Nat} {t : TypeId} (ho : o.op = .makeMap t none) (hdst : o.dst = some d) (hd : d < F.N) : StepOK F o st (((st.kill d).obj d (yy [] [])).put (some d) (.mp d)) := by
 refine StepOK.of_value (st1 := (st.kill d).obj d (yy [] [])) (by rw [hdst]; exact hd) (by rw [hdst]) fun β S a w hsim => ?_
 refine ⟨.map (some w.heap.size), w.alloc (.map #[] 0), _, S, ?_, ?_, hsim.newMap d hd⟩
 ·simp only [execOp, ho, Option.map_none]
  rfl
 ·simp only [RepA]
  exact ⟨_, upd_same _ _ _, rfl⟩
structure MapAt (F : FC) (st : ASt) (m : Operand) (t kt et : TypeId) (isK : Dat → Prop) (id : Nat) (ks vs : List Dat) : Prop where
 ty : ∃ i, ti F.P t = some i ∧ i.tk = .map kt et
 run : KeyRun F.P kt isK
 op : evA st.env m = .mp id
 ob : st.objs id = some (yy ks vs)
 keys : ∀ k ∈ ks, isK k
theorem MapAt.found {F : FC} {st : ASt} {m : Operand} {t kt et : TypeId} {isK : Dat → Prop} {id : Nat} {ks vs : List Dat} (h : MapAt F st m t kt et isK id ks vs) {β : zg} {S : Nat → Nat → Prop} {a : Act} {w : World} (hs : SimB F β S st a.tmps w) {d : Dat} (hd : isK d) :
  ∃ b en ck v, β id = some (b, 0) ∧ (F.w0.heap.size ≤ b ∨ F.M0 b) ∧ w.heap[b]? = some (.map en ck) ∧ MapRep S w en ck ks vs ∧ a.eval m = .map (some b) ∧ F.P.underlying t = some (.map kt et) ∧ z70 d = some v ∧ (∀ em, (Instr.checkKey em 10000 kt v).run F.P w = .ok () w) ∧
   ((∃ (j : Nat) (e : MapEntry) (x : Dat), (Instr.findKey kt v en.toList).run F.P w = .ok (some (j, e.val)) w ∧ en[j]? = some e ∧ ks[j]? = some d ∧ e.key = v ∧ vs[j]? = some x ∧ RepX S w x e.val ∧ lkp ks vs d = some x ∧ z5m ks d = ks ∧ ∀ y, z5n ks vs d y = vs.set j y) ∨
    ((Instr.findKey kt v en.toList).run F.P w = .ok none w ∧ lkp ks vs d = none ∧ z5m ks d = ks ++ [d] ∧ ∀ y, z5n ks vs d y = vs ++ [y])) := by
 obtain ⟨b, en, ck, hb, hw, hh, hm⟩ := hs.mapAt h.ob
 obtain ⟨v, hv⟩ := h.run.val d hd
 have em := qj (a := a) hs.env m
 rw [h.op] at em
 simp only [RepA] at em
 obtain ⟨b', hb', em⟩ := em
 rw [hb] at hb'
 simp only [Option.some.injEq, Prod.mk.injEq, and_true] at hb'
 subst hb'
 obtain ⟨i, hti, hk⟩ := h.ty
 obtain ⟨_, u1, _, hu1, _, _, _, hk1⟩ := ti_info hti
 rw [hk] at hk1
 have := zxh hk1.symm
 subst this
 obtain ⟨⟨hck, hborn⟩, hsz, hlen, hel⟩ := hm
 refine ⟨b, en, ck, v, hb, hw, hh, ⟨⟨hck, hborn⟩, hsz, hlen, hel⟩, em, hu1, hv, fun em => h.run.check em w d v hd hv, ?_⟩
 have hks : ∀ (i : Nat) (k : Dat) (e : MapEntry), ks[i]? = some k → en.toList[i]? = some e → isK k ∧ z70 k = some e.key := fun i k e h1 h2 => by
  have hkk := h.keys k (List.mem_of_getElem? h1)
  have hi : i < vs.length := by rw [← hlen]; exact (List.getElem?_eq_some_iff.1 h1).1
  obtain ⟨x, hx, hr, _⟩ := hel i k vs[i] h1 (List.getElem?_eq_getElem hi)
  rw [Array.getElem?_toList] at h2
  rw [h2] at hx
  cases hx
  obtain ⟨u, hu⟩ := h.run.val k hkk
  exact ⟨hkk, by rw [z2v hu hr]; exact hu⟩
 rcases h.run.find w d v en.toList ks hd hv (by simpa using hsz) hks with ⟨j, e, k, h1, h2, h3, h4, h5⟩ | ⟨h1, h2⟩
 ·have hkd : d = k := h.run.symm d k hd (h.keys k (List.mem_of_getElem? h3)) h4
  subst hkd
  have hj : j < vs.length := by rw [← hlen]; exact (List.getElem?_eq_some_iff.1 h3).1
  have hvj : vs[j]? = some vs[j] := List.getElem?_eq_getElem hj
  obtain ⟨x, hx, hr, hrv⟩ := hel j d vs[j] h3 hvj
  rw [Array.getElem?_toList] at h2
  rw [h2] at hx
  cases hx
  obtain ⟨l1, l2, l3⟩ := ze8 h3 hvj h4 h5 hlen
  refine .inl ⟨j, e, vs[j], h1, h2, h3, z2v hv hr, hvj, hrv, l1, ?_, l3⟩
  rw [l2]
  exact List.ext_getElem? fun i => by
   by_cases hi : j = i
   ·subst hi; rw [List.getElem?_set_self (by rw [hlen]; exact hj), h3]
   ·rw [List.getElem?_set_ne hi]
 ·exact .inr ⟨h1, ze7 h2 hlen⟩
theorem zrf {P : Program} {t : TypeId} {z : Value} (h : (P.info? t).bind (·.zero) = some z) (w : World) : (zeroValue t).run P w = .ok z w := by
 cases hi : P.info? t with
 | none => rw [hi] at h; simp at h
 | some j =>
  rw [hi] at h
  simp only [Option.bind_some] at h
  simp only [zeroValue, typeInfo, Sem.run_bind, run_program, Result.andThen_ok, hi, Sem.run_pure, h]
def lkA (ok : Bool) (z : Dat) (r : Option Dat) : AV := if ok = true then .tup [.dat (r.getD z), .dat (.bool r.isSome)] else .dat (r.getD z)
theorem zef {S : Nat → Nat → Prop} {w : World} {en : Array MapEntry} {ck : Nat} {ks vs : List Dat} {d x : Dat} {key val : Value} (h : MapRep S w en ck ks vs) (hk : RepX S w d key) (hv : RepX S w x val) : MapRep S w (en.push ⟨key, val, ck⟩) (ck + 1) (ks ++ [d]) (vs ++ [x]) := by
 obtain ⟨⟨h1, h2⟩, h3, h4, h5⟩ := h
 refine ⟨⟨by simp [h1], fun i y hy => ?_⟩, by simp [h3], by simp [h4], fun i k v hk' hv' => ?_⟩
 ·rw [Array.getElem?_push] at hy
  split at hy
  ·simp only [Option.some.injEq] at hy; subst hy; simp only; omega
  ·exact h2 i y hy
 ·by_cases hi : i < ks.length
  ·rw [List.getElem?_append_left hi] at hk'
   rw [List.getElem?_append_left (by omega)] at hv'
   obtain ⟨y, hy, hr⟩ := h5 i k v hk' hv'
   exact ⟨y, by rw [Array.getElem?_push, if_neg (by omega)]; exact hy, hr⟩
  ·have hi' : i = ks.length := by
    have := (List.getElem?_eq_some_iff.1 hk').1
    simp at this
    omega
   subst hi'
   rw [List.getElem?_append_right (Nat.le_refl _)] at hk'
   rw [List.getElem?_append_right (by omega), h4] at hv'
   simp only [Nat.sub_self, List.getElem?_cons_zero, Option.some.injEq] at hk' hv'
   subst hk'; subst hv'
   exact ⟨⟨key, val, ck⟩, by rw [Array.getElem?_push, if_pos h3.symm], hk, hv⟩
theorem zhc {S : Nat → Nat → Prop} {w : World} {en : Array MapEntry} {ck : Nat} {ks vs : List Dat} {d x : Dat} {j : Nat} (h : MapRep S w en ck ks vs) (hj : ks[j]? = some d) (f : MapEntry → MapEntry) (hf : ∀ e, (f e).born = e.born)
  (hk : ∀ e, en[j]? = some e → RepX S w d (f e).key) (hv : ∀ e, en[j]? = some e → RepX S w x (f e).val) : MapRep S w (en.modify j f) ck ks (vs.set j x) := by
 obtain ⟨⟨h1, h2⟩, h3, h4, h5⟩ := h
 refine ⟨⟨by simp [h1], fun i y hy => ?_⟩, by simp [h3], by simp [h4], fun i k v hk' hv' => ?_⟩
 ·rw [Array.getElem?_modify] at hy
  split at hy
  ·rename_i hij
   subst hij
   cases he : en[j]? with
   | none => rw [he] at hy; simp at hy
   | some e => rw [he] at hy; simp at hy; rw [← hy, hf]; exact h2 _ e he
  ·exact h2 i y hy
 ·rw [Array.getElem?_modify]
  by_cases hij : j = i
  ·subst hij
   rw [if_pos rfl]
   have hjl : j < vs.length := by rw [← h4]; exact (List.getElem?_eq_some_iff.1 hj).1
   obtain ⟨e, he, _⟩ := h5 j d vs[j] hj (List.getElem?_eq_getElem hjl)
   rw [hj] at hk'
   cases hk'
   rw [List.getElem?_set_self hjl] at hv'
   cases hv'
   exact ⟨f e, by rw [he]; rfl, hk e he, hv e he⟩
  ·rw [if_neg hij]
   rw [List.getElem?_set_ne hij] at hv'
   exact h5 i k v hk' hv'
theorem zbv {F : FC} {o : Oper} {st : ASt} {t kt et : TypeId} {m k y : Operand} {isK : Dat → Prop} {id : Nat} {ks vs : List Dat} {x z : Dat} (ho : o.op = .mapUpdate t m k y) (hdst : o.dst = none)
  (h : MapAt F st m t kt et isK id ks vs) (hk : evA st.env k = .dat x) (hx : isK x) (hy : evA st.env y = .dat z) : StepOK F o st (st.obj id (yy (z5m ks x) (z5n ks vs x z))) := by
 refine StepOK.of_skip hdst fun β S a w hsim => ?_
 obtain ⟨b, en, ck, v, hb, hw, hh, hm, em, hu, hv, hck, hf⟩ := h.found hsim hx
 have ek := qj (a := a) hsim.env k
 rw [hk] at ek
 simp only [RepA] at ek
 have ek := z2v hv ek
 have ey := qj (a := a) hsim.env y
 rw [hy] at ey
 simp only [RepA] at ey
 have hg := MapKept.run_getObj_map (P := F.P) hh
 rcases hf with ⟨j, e, u, h1, h2, h3, h4, h5, h6, h7, h8, h9⟩ | ⟨h1, h2, h3, h4⟩
 ·refine ⟨z5l w b (.map (en.modify j fun e => { e with key := v, val := a.eval y }) ck), β, S, ?_, ?_⟩
  ·have hst := h.run.stays w x v hx hv
   have hkk : ((en[j]?).map (·.key)).getD v = v := by rw [h2, Option.map_some, Option.getD_some, h4]
   simp only [execOp, ho, ek, em, Instr.mapUpdate, Sem.run_bind, run_underlying hu, Result.andThen_ok, hg, hck, h1, hkk, hst, MapKept.run_setObj_map _ hh]
   rfl
  ·rw [h8, h9]
   exact hsim.setMap h.ob hb hw hh (zhc hm h3 _ (fun _ => rfl) (fun _ _ => zex hv) (fun _ _ => ey))
 ·refine ⟨z5l w b (.map (en.push ⟨v, a.eval y, ck⟩) (ck + 1)), β, S, ?_, ?_⟩
  ·simp only [execOp, ho, ek, em, Instr.mapUpdate, Sem.run_bind, run_underlying hu, Result.andThen_ok, hg, hck, h1, MapKept.run_setObj_map _ hh]
   rfl
  ·rw [h3, h4]
   exact hsim.setMap h.ob hb hw hh (zef hm (zex hv) ey)
end Go.Av

