/- A part of the proof. -/
import Derived.Test.YtkeopokhnfpgpaaGreatDoorHAv25
set_option linter.all false
namespace Go.Av
theorem NM.kill_eq {d : Nat} {st : ASt} (h : NM d st) : st.kill d = st := by
 obtain ⟨h1, h2, h3⟩ := h
 unfold ASt.kill
 cases st with
 | mk env objs =>
  simp only at h1 h2 h3 ⊢
  congr 1
  ·funext n; exact h1 n
  ·funext i
   split
   ·rename_i hi; subst hi; exact h2.symm
   ·cases ho : objs i with
    | none => rfl
    | some o => simp [h3 i o ho]
theorem NM.elems {d : Nat} {st : ASt} (h : NM d st) : ∀ i o, st.objs i = some o → ∀ x ∈ o.elems, x.kill d = x := fun i o ho => vp (h.2.2 i o ho)
def Eff (F : FC) (ops : Array Oper) (o : Oper) (st st' : ASt) : Prop :=
 (isN F.rows F.lits o = true ∧ ∃ v, z2i F ops o st.env st.objs v ∧ dstOK F o.dst ∧ st' = st.put o.dst v) ∨
 (isC F.rows F.lits F.apps o = true ∧ ∃ d, o.dst = some d ∧ ∃ ob p, z1m F o.op d st.env st.objs ob p ∧ st' = (st.obj d ob).put (some d) p)
def Q1 (rows lits apps : List Nat) (o : Oper) : Bool :=
 o.guard.isNone && match o.dst with
 | some d => (match o.op with
  | .call ⟨.builtin .append, ⟨[_, _]⟩, ⟨[_, _]⟩⟩ => rows.contains d && !apps.contains d && !lits.contains d
  | _ => false)
 | none => false
def NMo (F : FC) (o : Oper) (st : ASt) : Prop := (isC F.rows F.lits F.apps o = true ∨ Q1 F.rows F.lits F.apps o = true) → ∀ d, o.dst = some d → NM d st
theorem Q7 {F : FC} {ops : Array Oper} {o : Oper} {st : ASt} {K : ASt → Prop} (hc : isN F.rows F.lits o = true ∨ isC F.rows F.lits F.apps o = true) (hm : NMo F o st) :
  wn F ops o st K ↔ ∃ st', Eff F ops o st st' ∧ K st' := by
 by_cases hcc : isC F.rows F.lits F.apps o = true
 ·have hnn : isN F.rows F.lits o = false := by
   unfold isC at hcc
   simp only [Bool.and_eq_true] at hcc
   obtain ⟨hg, hcc⟩ := hcc
   split at hcc <;> try (simp at hcc; done)
   rename_i d hd
   split at hcc <;> rename_i hop <;> simp [isN, hop, hd, hg] at hcc ⊢ <;> simp_all
  rw [zur hcc]
  constructor
  ·rintro ⟨d, hd, ob, p, h1, h2⟩
   rw [(hm (.inl hcc) d hd).kill_eq] at h2
   exact ⟨_, .inr ⟨hcc, d, hd, ob, p, h1, rfl⟩, h2⟩
  ·rintro ⟨st', h | ⟨_, d, hd, ob, p, h1, rfl⟩, h2⟩
   ·rw [hnn] at h; simp at h
   ·refine ⟨d, hd, ob, p, h1, ?_⟩
    rw [(hm (.inl hcc) d hd).kill_eq]
    exact h2
 ·have hn := hc.resolve_right hcc
  rw [zcd hn]
  constructor
  ·rintro ⟨v, h1, h2, h3⟩; exact ⟨_, .inl ⟨hn, v, h1, h2, rfl⟩, h3⟩
  ·rintro ⟨st', ⟨_, v, h1, h2, rfl⟩ | h, h3⟩
   ·exact ⟨v, h1, h2, h3⟩
   ·exact absurd h.1 hcc
theorem NM.put {d : Nat} {st : ASt} (h : NM d st) {n : Option Nat} {v : AV} (hv : v.kill d = v) : NM d (st.put n v) := by
 cases n with
 | none => exact h
 | some n =>
  refine ⟨fun m => ?_, h.2.1, h.2.2⟩
  simp only [ASt.put, zq]
  split
  ·exact hv
  ·exact h.1 m
theorem NM.obj {d : Nat} {st : ASt} (h : NM d st) {i : Nat} (hi : i ≠ d) {o : AObj} (ho : o.elems.map (AV.kill d) = o.elems) : NM d (st.obj i o) := by
 refine ⟨h.1, ?_, fun k ob hk => ?_⟩
 ·have hi' : ¬ d = i := fun e => hi e.symm
  simp only [ASt.obj, zq, if_neg hi']; exact h.2.1
 ·simp only [ASt.obj, zq] at hk
  split at hk
  ·simp only [Option.some.injEq] at hk; subst hk; exact ho
  ·exact h.2.2 k ob hk
theorem Eff.nm {F : FC} {ops : Array Oper} {o : Oper} {st st' : ASt} (h : Eff F ops o st st') (hm : NMo F o st) {d : Nat} (hd : o.dst ≠ some d) (hn : NM d st) : NM d st' := by
 rcases h with ⟨_, v, h1, _, rfl⟩ | ⟨hc, d', hd', ob, p, h1, rfl⟩
 ·exact hn.put (zfn hn.1 hn.2.2 h1)
 ·have hne : d ≠ d' := fun e => hd (e ▸ hd')
  have hn' := hm (.inl hc) d' hd'
  obtain ⟨h2, h3⟩ := zq6 hne hn.1 hn.2.2 hn'.1 hn'.2.2 h1
  exact (hn.obj (fun e => hne e.symm) h3).put h2
def Free (ops : Array Oper) (x y : Oper) : Prop :=
 (∀ d, x.dst = some d → d ∉ y.looksAt ops ∧ y.dst ≠ some d) ∧ (∀ d, y.dst = some d → d ∉ x.looksAt ops)
theorem Free.agree {ops : Array Oper} {y : Oper} {st : ASt} {d : Option Nat} {v : AV} (h : ∀ q, d = some q → q ∉ y.looksAt ops) : Agree ops y st.env (st.put d v).env := fun t ht => by
 cases d with
 | none => rfl
 | some d =>
  simp only [ASt.put, zq]
  rw [if_neg]
  intro e
  exact h d rfl (e ▸ ht)
theorem Agree.symm {ops : Array Oper} {o : Oper} {e f : Nat → AV} (h : Agree ops o e f) : Agree ops o f e := fun t ht => (h t ht).symm
theorem z5w {st : ASt} {x y : Option Nat} {u v : AV} (h : ∀ d, x = some d → y ≠ some d) : (st.put x u).put y v = (st.put y v).put x u := by
 cases x with
 | none => rfl
 | some a =>
  cases y with
  | none => rfl
  | some b =>
   have hab : a ≠ b := fun e => h a rfl (by rw [e])
   simp only [ASt.put]
   congr 1
   funext n
   simp only [zq]
   split <;> split <;> first | rfl | (exfalso; omega)
theorem z33 {st : ASt} {i : Nat} {o : AObj} {x : Option Nat} {u : AV} : (st.put x u).obj i o = (st.obj i o).put x u := by cases x <;> rfl
theorem zu0 {st : ASt} {i j : Nat} {o p : AObj} (h : i ≠ j) : (st.obj i o).obj j p = (st.obj j p).obj i o := by
 simp only [ASt.obj]
 congr 1
 funext n
 simp only [zq]
 split <;> split <;> first | rfl | (exfalso; omega)
theorem z35 (st : ASt) (d : Nat) (o : AObj) : z8n d st.objs (st.obj d o).objs := fun i hi => by simp [ASt.obj, zq, hi]
theorem Eff.swap {F : FC} {ops : Array Oper} {x y : Oper} {st s1 s2 : ASt} (hf : Free ops x y) (hx : NMo F x st) (hy : NMo F y st) (h1 : Eff F ops x st s1) (h2 : Eff F ops y s1 s2) : ∃ s1', Eff F ops y st s1' ∧ Eff F ops x s1' s2 := by
 obtain ⟨hf1, hf2⟩ := hf
 have hne : ∀ d, x.dst = some d → y.dst ≠ some d := fun d hd => (hf1 d hd).2
 rcases h1 with ⟨nx, v, hv, hdx, rfl⟩ | ⟨cx, a, ha, ob, p, hn, rfl⟩
 ·-- x only makes a value
  have hag : ∀ u, Agree ops y st.env (st.put x.dst u).env := fun u => Free.agree fun q hq => (hf1 q hq).1
  rcases h2 with ⟨ny, u, hu, hdy, rfl⟩ | ⟨cy, b, hb, ob, p, hn, rfl⟩
  ·refine ⟨st.put y.dst u, .inl ⟨ny, u, ?_, hdy, rfl⟩, .inl ⟨nx, v, ?_, hdx, z5w hne⟩⟩
   ·have := Qs (hag v).symm hu
    cases hxd : x.dst <;> simpa [hxd, ASt.put] using this
   ·have := Qs (Free.agree (st := st) (v := u) fun q hq => hf2 q hq) hv
    cases hyd : y.dst <;> simpa [hyd, ASt.put] using this
  ·have hmy := hy (.inl cy) b hb
   have hn' : z1m F y.op b st.env st.objs ob p := by
    have := Xi (ops := ops) (hag v).symm hn
    cases hxd : x.dst <;> simpa [hxd, ASt.put] using this
   refine ⟨(st.obj b ob).put (some b) p, .inr ⟨cy, b, hb, ob, p, hn', rfl⟩, .inl ⟨nx, v, ?_, hdx, ?_⟩⟩
   ·have h3 := (z8f (z35 st b ob) hmy.1 hmy.elems).2 hv
    have h4 := Qs (Free.agree (st := st.obj b ob) (d := some b) (v := p) fun q hq => hf2 q (by rw [hb]; exact hq)) h3
    exact h4
   ·rw [z33, z5w (x := x.dst) (y := some b) (fun d hd => by rw [← hb]; exact hne d hd)]
 ·-- x makes an object
  have hmx := hx (.inl cx) a ha
  have hya : y.dst ≠ some a := hne a ha
  have hag : Agree ops y (st.obj a ob).env ((st.obj a ob).put (some a) p).env := Free.agree fun q hq => (hf1 q (by rw [ha]; exact hq)).1
  rcases h2 with ⟨ny, u, hu, hdy, rfl⟩ | ⟨cy, b, hb, ob', p', hn', rfl⟩
  ·have h3 := Qs hag.symm hu
   have h4 := (z8f (z35 st a ob) hmx.1 hmx.elems).1 h3
   refine ⟨st.put y.dst u, .inl ⟨ny, u, h4, hdy, rfl⟩, .inr ⟨cx, a, ha, ob, p, ?_, ?_⟩⟩
   ·have := Xi (Free.agree (st := st) (v := u) fun q hq => hf2 q hq) hn
    cases hyd : y.dst <;> simpa [hyd, ASt.put] using this
   ·rw [z33, z5w (x := some a) (y := y.dst) (fun d hd => by simp only [Option.some.injEq] at hd; subst hd; exact hya)]
  ·have hmy := hy (.inl cy) b hb
   have hab : a ≠ b := fun e => hya (by rw [hb, e])
   have h3 := Xi hag.symm hn'
   have h4 := (zeg (z35 st a ob) hmx.1).1 h3
   refine ⟨(st.obj b ob').put (some b) p', .inr ⟨cy, b, hb, ob', p', h4, rfl⟩, .inr ⟨cx, a, ha, ob, p, ?_, ?_⟩⟩
   ·have h5 := (zeg (z35 st b ob') hmy.1).2 hn
    exact Xi (Free.agree (st := st.obj b ob') (d := some b) (v := p') fun q hq => hf2 q (by rw [hb]; exact hq)) h5
   ·rw [z33, z33, zu0 hab, z5w (x := some a) (y := some b) (fun d hd => by simp only [Option.some.injEq] at hd; subst hd; intro e; simp only [Option.some.injEq] at e; exact hab e.symm)]
def z3p (F : FC) (o : Oper) : Prop := isN F.rows F.lits o = true ∨ isC F.rows F.lits F.apps o = true
theorem Qn {F : FC} {ops : Array Oper} {o : Oper} {st : ASt} {K K' : ASt → Prop} (hk : ∀ st', K st' → K' st') (h : wn F ops o st K) : wn F ops o st K' := by
 unfold wn at h ⊢
 split at h
 ·unfold j3 at h ⊢
  split at h <;> (try simp only at h ⊢)
  ·exact ⟨h.1, h.2.1, hk _ h.2.2⟩
  ·split at h <;> try (exact h.elim)
   split at h <;> try (exact h.elim)
   exact ⟨h.1, hk _ h.2⟩
  ·split at h <;> try (exact h.elim)
   exact ⟨h.1, hk _ h.2⟩
  ·split at h <;> try (exact h.elim)
   split at h <;> try (exact h.elim)
   split at h <;> try (exact h.elim)
   split at h <;> try (exact h.elim)
   refine ⟨h.1, ?_⟩
   have h2 := h.2
   split at h2
   ·rename_i hr; rw [if_pos hr]; exact ⟨h2.1, hk _ h2.2⟩
   ·rename_i hr
    rw [if_neg hr]
    split at h2
    ·rename_i hl; rw [if_pos hl]; exact hk _ h2
    ·rename_i hl
     rw [if_neg hl]
     split at h2
     ·exact ⟨h2.1, hk _ h2.2⟩
     ·exact h2.elim
  ·split at h <;> try (exact h.elim)
   split at h <;> try (exact h.elim)
   split at h <;> try (exact h.elim)
   split at h <;> try (exact h.elim)
   exact ⟨h.1, hk _ h.2⟩
  ·split at h <;> try (exact h.elim)
   split at h <;> try (exact h.elim)
   exact ⟨h.1, hk _ h.2⟩
  ·split at h <;> try (exact h.elim)
   split at h <;> try (exact h.elim)
   split at h <;> try (exact h.elim)
   split at h
   ·rename_i hl
    rw [if_pos hl]
    unfold appendLC at h ⊢
    split at h <;> try (exact h.elim)
    split at h <;> try (exact h.elim)
    exact ⟨h.1, hk _ h.2⟩
   ·rename_i hl
    rw [if_neg hl]
    split at h <;> try (exact h.elim)
    exact ⟨h.1, hk _ h.2⟩
  ·split at h <;> try (exact h.elim)
   rcases h with ⟨rs, ds, h1, h2, h3, h4⟩ | ⟨ys, m, os, os', rs, h0, h1, hl, h2, h3, h4⟩ | ⟨ys, m, news, os, os', rs, h0, h1, hl, h2, h3, h4⟩
   ·exact .inl ⟨rs, ds, h1, h2, h3, hk _ h4⟩
   ·exact .inr (.inl ⟨ys, m, os, os', rs, h0, h1, hl, h2, h3, hk _ h4⟩)
   ·exact .inr (.inr ⟨ys, m, news, os, os', rs, h0, h1, hl, h2, h3, hk _ h4⟩)
  ·exact ⟨h.1, hk _ h.2⟩
 ·split at h <;> try (exact h.elim)
  unfold z5i at h ⊢
  split at h <;> (try simp only at h ⊢)
  ·exact ⟨h.1, h.2.1, hk _ h.2.2⟩
  ·split at h <;> try (exact h.elim)
   obtain ⟨rs, ds, h1, h2, h3, h4⟩ := h
   exact ⟨rs, ds, h1, h2, h3, hk _ h4⟩
  ·exact ⟨h.1, hk _ h.2⟩
end Go.Av

