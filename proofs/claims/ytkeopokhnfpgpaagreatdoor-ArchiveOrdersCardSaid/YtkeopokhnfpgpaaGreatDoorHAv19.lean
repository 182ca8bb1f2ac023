/- A part of the proof. -/
import Derived.Test.YtkeopokhnfpgpaaGreatDoorHAv18
set_option linter.all false
namespace Go.Av
theorem ztw {F : FC} {o : Oper} {st : ASt} {d : Nat} {t e : TypeId} {i j : TI} {z : List AV} {parts : Array (Nat × Operand)}
  (ho : o.op = .buildSlice t 0 parts) (hdst : o.dst = some d) (hd : d < F.N) (ht : ti F.P t = some i) (hk : i.tk = .slice e) (hj : ti F.P e = some j) (hz : j.zero = some z) (hzl : z.length = j.size) (hlen : 0 = parts.size) :
  StepOK F o st (st.put (some d) .nils) := by
 refine StepOK.of_value (st1 := st) (by rw [hdst]; exact hd) (by rw [hdst]) fun β S a w hsim => ?_
 have hp : parts.toList = [] := by apply List.eq_nil_of_length_eq_zero; rw [Array.length_toList]; omega
 obtain ⟨out, hrun, hsz, _⟩ := Qp (P := F.P) (β := β) (S := S) (w := w) ht hk hj hz hzl (len := 0) (parts := []) (vparts := parts.map fun (i, x) => (i, a.eval x)) rfl (by simp) rfl (by simp [hp]) (fun k x y hx => by simp at hx) (fun p hp => by simp at hp)
 refine ⟨.slice (some ⟨w.heap.size, 0, none⟩) 0 0, w.alloc (.cells out e), β, _, ?_, ?_, hsim.newDat _⟩
 ·simp only [execOp, ho, Sem.run_bind, hrun, Result.andThen_ok, Sem.run_pure]
 ·simp only [RepA]; exact ⟨_, rfl⟩
theorem zk7 {env : Nat → AV} {f : Operand} {args : List Operand} {g : FuncId} {xs : List AV} (h : callee env f args = some (g, xs)) : ∃ caps, evA env f = .fn g caps ∧ xs = args.map (evA env) ++ caps := by
 unfold callee at h
 split at h
 ·rename_i g' caps hg
  simp only [Option.some.injEq, Prod.mk.injEq] at h
  obtain ⟨rfl, rfl⟩ := h
  exact ⟨caps, hg, rfl⟩
 ·simp at h
theorem Qo {F : FC} {o : Oper} {st : ASt} {K : ASt → Prop} (h : j3 F o st K) {a : Act} {w : World} (hs : Sim F st a w) {R : Act → World → Prop} {Q : Exit → Act → World → Prop} (hR : ∀ st' a' w', K st' → Sim F st' a' w' → R a' w') :
  o.wpIn F.fence 0 F.P a w R Q := by
 have fin : ∀ {st'}, StepOK F o st st' → K st' → o.wpIn F.fence 0 F.P a w R Q := fun {st'} h1 h2 => h1 a w hs R Q (fun a' w' h3 => hR st' a' w' h2 h3)
 obtain ⟨dst, op, ty, pos, aft, gd⟩ := o
 unfold j3 at h
 split at h
 ·rename_i c x y hop
  simp only at hop
  obtain ⟨h1, h2, h3⟩ := h
  refine fin (StepOK.of_value (st1 := st) h1 rfl fun β S a w hsim => ?_) h3
  obtain ⟨r, h4, h5⟩ := zac (P := F.P) (o := ⟨dst, op, ty, pos, aft, gd⟩) (a := a) hsim.env hop rfl h2
  exact ⟨r, w, β, S, h4, h5, hsim⟩
 ·rename_i t hop
  simp only at hop
  split at h <;> try (exact h.elim)
  rename_i d i hd ht
  split at h <;> try (exact h.elim)
  rename_i z hz
  exact fin (z61 hop hd h.1.1 ht hz h.1.2.1 h.1.2.2) h.2
 ·rename_i t y hop
  simp only at hop
  split at h <;> try (exact h.elim)
  rename_i d hd
  exact fin (zw3 hop hd h.1.1 h.1.2) h.2
 ·rename_i t len parts hop
  simp only at hop
  split at h <;> try (exact h.elim)
  rename_i d i hd ht
  split at h <;> try (exact h.elim)
  rename_i e hk
  split at h <;> try (exact h.elim)
  rename_i j hj
  split at h <;> try (exact h.elim)
  rename_i z hz
  obtain ⟨⟨h1, h2, h3, h4, h5⟩, h⟩ := h
  split at h
  ·exact fin (z2n hop hd h1 ht hk hj hz h3 h2 h4 h5 h.1) h.2
  split at h
  ·rename_i hl0
   subst hl0
   exact fin (ztw hop hd h1 ht hk hj hz h3 h2) h
  ·split at h
   ·rename_i ds hds
    have hb := z8p (o := ⟨dst, op, ty, pos, aft, gd⟩) hop hd h1 ht hk hj hz h3 h2 h4 h5 hds h.1
    have h2 := h.2
    split at h2
    ·exact fin hb.2 h2
    ·exact fin hb.1 h2
   ·exact h.elim
 ·rename_i t ln cp hop
  simp only at hop
  split at h <;> try (exact h.elim)
  rename_i d i hd ht
  split at h <;> try (exact h.elim)
  rename_i e hk
  split at h <;> try (exact h.elim)
  rename_i j hj
  split at h <;> try (exact h.elim)
  rename_i z k n k' m hz hln hcp
  obtain ⟨⟨h1, h2, h3, h4, h5, h6, h7⟩, h⟩ := h
  exact fin (zbu hop hd h1 ht hk hj hz h2 h3 hln hcp h4 h5 h6 h7) h
 ·rename_i t ad x hop
  simp only at hop
  split at h <;> try (exact h.elim)
  rename_i i id es k off hd ht had
  split at h <;> try (exact h.elim)
  rename_i ob hob
  obtain ⟨⟨⟨h1, h2⟩, h3, h4, h5⟩, h⟩ := h
  exact fin (z84 hop hd ht had hob h1 h2 h3 h4 h5) h
 ·rename_i s x t t' hop
  simp only at hop
  split at h <;> try (exact h.elim)
  rename_i d i i' hd ht ht'
  split at h <;> try (exact h.elim)
  rename_i e e' hk hk'
  split at h <;> try (exact h.elim)
  rename_i j hj
  split at h
  ·unfold appendLC at h
   split at h <;> try (exact h.elim)
   rename_i z l xs hz hb hx
   split at h <;> try (exact h.elim)
   rename_i ds hds
   have := z2p hds
   subst this
   obtain ⟨⟨⟨h1, h2, h3⟩, h4, h5, h6, h7, h8⟩, h⟩ := h
   refine fin (zfv (o := ⟨dst, op, ty, pos, aft, gd⟩) hop hd h1 ht hk ht' hk' hj hz h2 h3 hb hx h4 h5 (fun id es off len he => ?_) h7 h8) h
   rw [he] at h6
   simp only at h6
   obtain ⟨h9, h10, h11⟩ := h6
   split at h11
   ·rename_i ob hob
    exact ⟨h9, by simpa using h10, ob, hob, h11⟩
   ·exact h11.elim
  split at h <;> try (exact h.elim)
  rename_i z old olds xs hz hb hx
  obtain ⟨⟨_, ⟨h1, h2, h3⟩, h4, h5, h6, h7⟩, h⟩ := h
  refine fin (zk4 hop hd h1 ht hk ht' hk' hj hz h2 h3 hb hx h4 (fun id es off len he => ?_) h6 h7) h
  rw [he] at h5
  simp only at h5
  obtain ⟨h8, h9, h10⟩ := h5
  split at h10
  ·rename_i ob hob
   exact ⟨h8, h9, ob, hob, h10⟩
  ·exact h10.elim
 ·rename_i f args ts hop
  simp only at hop
  split at h <;> try (exact h.elim)
  rename_i g xs hc
  obtain ⟨caps, hg, hxs⟩ := zk7 hc
  obtain ⟨hdf, β, S, hsim⟩ := hs
  rcases h with ⟨rs, ds, h1, h2, h3, h4⟩ | ⟨ys, m, os, os', rs, _, h1, hl, h2, h3, h4⟩ | ⟨ys, m, news, os, os', rs, _, h1, hl, h2, h3, h4⟩
  ·refine zil (o := ⟨dst, op, ty, pos, aft, gd⟩) hsim hop (ρ := evA st.env) (fun x _ => qj hsim.env x) hg hxs h1 h2 fun S' w' r hs' hr => ?_
   refine hR _ _ _ h4 ?_
   cases hd : dst with
   | none => exact ⟨hdf, β, S', by simpa [Act.put, ASt.put] using hs'⟩
   | some d =>
    rw [hd] at h3
    exact ⟨hdf, β, S', by simpa [Act.put] using hs'.put h3 hr⟩
  ·refine znn (o := ⟨dst, op, ty, pos, aft, gd⟩) hsim hop (ρ := evA st.env) (fun x _ => qj hsim.env x) hg (h1.trans hxs) hl h2 fun S' w' r hs' hr => ?_
   refine hR _ _ _ h4 ?_
   cases hd : dst with
   | none => exact ⟨hdf, β, S', by simpa [Act.put, ASt.put] using hs'⟩
   | some d =>
    rw [hd] at h3
    exact ⟨hdf, β, S', by simpa [Act.put] using hs'.put h3 hr⟩
  ·refine zd2 (o := ⟨dst, op, ty, pos, aft, gd⟩) hsim hop (ρ := evA st.env) (fun x _ => qj hsim.env x) hg (h1.trans hxs) hl h2 fun β' S' w' r hs' hr => ?_
   refine hR _ _ _ h4 ?_
   cases hd : dst with
   | none => exact ⟨hdf, β', S', by simpa [Act.put, ASt.put] using hs'⟩
   | some d =>
    rw [hd] at h3
    exact ⟨hdf, β', S', by simpa [Act.put] using hs'.put h3 hr⟩
 ·exact zre (o := ⟨dst, op, ty, pos, aft, gd⟩) hs h.1.1 h.1.2 fun a' w' h3 => hR _ _ _ h.2 h3
theorem z7y {F : FC} {o : Oper} {g : Bool} {st : ASt} {K : ASt → Prop} (hg : g = true) (h : z5i F o g st K) {a : Act} {w : World} (hs : Sim F st a w) {R : Act → World → Prop} {Q : Exit → Act → World → Prop} (hR : ∀ st' a' w', K st' → Sim F st' a' w' → R a' w') :
  o.wpIn F.fence 0 F.P a w R Q := by
 have cond : ∀ {x : AV} {β : zg} {S : Nat → Nat → Prop} {w : World} {r : Value}, RepA β S w x r → RepA β S w (.cond g x) r := fun {x β S w r} h => by
  simp only [RepA]
  exact ⟨fun _ => h, fun h' => by rw [hg] at h'; cases h'⟩
 have fin : ∀ {st'}, StepOK F o st st' → K st' → o.wpIn F.fence 0 F.P a w R Q := fun {st'} h1 h2 => h1 a w hs R Q (fun a' w' h3 => hR st' a' w' h2 h3)
 obtain ⟨dst, op, ty, pos, aft, gd⟩ := o
 unfold z5i at h
 split at h
 ·rename_i c x y hop
  simp only at hop
  obtain ⟨h1, h2, h3⟩ := h
  refine fin (StepOK.of_value (st1 := st) h1 rfl fun β S a w hsim => ?_) h3
  obtain ⟨r, h4, h5⟩ := zac (P := F.P) (o := ⟨dst, op, ty, pos, aft, gd⟩) (a := a) hsim.env hop hg h2
  exact ⟨r, w, β, S, h4, cond h5, hsim⟩
 ·rename_i f args ts hop
  simp only at hop
  split at h <;> try (exact h.elim)
  rename_i k caps hk
  obtain ⟨rs, ds, h1, h2, h3, h4⟩ := h
  obtain ⟨hgd, hcall⟩ := h2 hg
  obtain ⟨hdf, β, S, hsim⟩ := hs
  refine zil (o := ⟨dst, op, ty, pos, aft, gd⟩) hsim hop (ρ := fun x => (evA st.env x).strip) (fun x hx => Zw (qj hsim.env x) (z46 hgd x (by simpa [hop, Op.operands, Call.operands] using hx))) hk rfl h1 hcall fun S' w' r hs' hr => ?_
  refine hR _ _ _ h4 ?_
  cases hd : dst with
  | none => exact ⟨hdf, β, S', by simpa [Act.put, ASt.put] using hs'⟩
  | some d =>
   rw [hd] at h3
   exact ⟨hdf, β, S', by simpa [Act.put] using hs'.put h3 (cond hr)⟩
 ·obtain ⟨⟨h1, h2⟩, h3⟩ := h
  obtain ⟨hgd, hv⟩ := h2 hg
  refine fin (StepOK.of_value (st1 := st) h1 rfl fun β S a w hsim => ?_) h3
  obtain ⟨r, h4, h5⟩ := zjf (o := ⟨dst, op, ty, pos, aft, gd⟩) (a := a) hsim (ρ := fun x => (evA st.env x).strip) (fun x hx => Zw (qj hsim.env x) (z46 hgd x hx)) hv
  exact ⟨r, w, β, S, h4, cond h5, hsim⟩
theorem zcc {F : FC} {o : Oper} {g : Bool} {st : ASt} {K : ASt → Prop} (hg : g = false) (h : z5i F o g st K) {a : Act} {w : World} (hs : Sim F st a w) {R : Act → World → Prop} (hR : ∀ st' a' w', K st' → Sim F st' a' w' → R a' w') :
  R (a.put o.dst undef) w := by
 have fin : ∀ {x : AV}, dstOK F o.dst → K (st.put o.dst (.cond g x)) → R (a.put o.dst undef) w := fun {x} h1 h2 => by
  refine hR _ _ _ h2 ?_
  obtain ⟨hdf, β, S, hsim⟩ := hs
  cases hd : o.dst with
  | none => exact ⟨hdf, β, S, by simpa [Act.put, ASt.put] using hsim⟩
  | some d =>
   rw [hd] at h1
   have hr : RepA β S w (.cond g x) undef := by
    simp only [RepA]
    exact ⟨fun h' => (by rw [hg] at h'; cases h'), fun _ => trivial⟩
   exact ⟨hdf, β, S, by simpa [Act.put] using hsim.put h1 hr⟩
 unfold z5i at h
 split at h
 ·exact fin h.1 h.2.2
 ·split at h <;> try (exact h.elim)
  obtain ⟨rs, ds, h1, h2, h3, h4⟩ := h
  exact fin h3 h4
 ·exact fin h.1.1 h.2
theorem j9 {ops : Array Oper} {env : Nat → AV} {β : zg} {S : Nat → Nat → Prop} {w : World} {a : Act} (he : ∀ n, RepA β S w (env n) (a.tmps.getD n undef)) {j : Nat} {want g : Bool} (h : x9 ops env j want = some g) :
  (yielded ops a.tmps j == some want) = g := by
 unfold x9 at h
 split at h <;> try (simp at h; done)
 rename_i s hs
 have hsl := he s
 have hund : ∀ b, undef ≠ .bool b := fun b h => by cases h
 split at h <;> try (simp at h; done)
 ·rename_i b hb
  simp only [Option.some.injEq] at h
  rw [hb] at hsl
  simp only [RepA, RepX] at hsl
  have : a.tmps[s]? = some (.bool b) := by
   rw [Array.getD_eq_getD_getElem?] at hsl
   cases hq : a.tmps[s]? with
   | none => simp [hq] at hsl; exact absurd hsl (hund b)
   | some v => simpa [hq] using hsl
  simp [yielded, hs, this, ← h]
 ·rename_i c b hb
  simp only [Option.some.injEq] at h
  rw [hb] at hsl
  simp only [RepA, RepX] at hsl
  cases c
  ·have := hsl.2 rfl
   simp only [Bool.false_and] at h
   subst h
   rw [Array.getD_eq_getD_getElem?] at this
   cases hq : a.tmps[s]? with
   | none => simp [yielded, hs, hq]
   | some v =>
    simp [hq] at this
    subst this
    simp only [yielded, hs, Option.bind_some, hq]
    rfl
  ·have := hsl.1 rfl
   simp only [Bool.true_and] at h
   have : a.tmps[s]? = some (.bool b) := by
    rw [Array.getD_eq_getD_getElem?] at this
    cases hq : a.tmps[s]? with
    | none => simp [hq] at this; exact absurd this (hund b)
    | some v => simpa [hq] using this
   simp [yielded, hs, this, ← h]
theorem Xq {F : FC} {ops : Array Oper} {Q : Exit → Act → World → Prop} : ∀ (l : List Oper) (st : ASt) (K : ASt → Prop), zh F ops l st K → ∀ (a : Act) (w : World), Sim F st a w → (∀ st' a' w', K st' → Sim F st' a' w' → Q .normal a' w') → wpListIn F.fence 0 F.P ops Q l a w
 | [], st, K, h, a, w, hs, hK => hK st a w h hs
 | o :: rest, st, K, h, a, w, hs, hK => by
  simp only [zh] at h
  have hnext : ∀ st' a' w', zh F ops rest st' K → Sim F st' a' w' → wpListIn F.fence 0 F.P ops Q rest a' w' := fun st' a' w' h1 h2 => Xq rest st' K h1 a' w' h2 hK
  unfold wn at h
  unfold wpListIn
  split at h
  ·rename_i hg
   rw [if_pos (by simp [Region.wanted, hg])]
   exact (Qo h hs hnext)
  ·rename_i j want hg
   split at h <;> try (exact h.elim)
   rename_i g hgv
   obtain ⟨hdf, β, S, hsim⟩ := hs
   have hgs := j9 (a := a) hsim.env hgv
   cases hgb : g
   ·rw [if_neg (by simp only [Region.wanted, hg, hgs, hgb]; simp)]
    exact ⟨fun _ _ => trivial, zcc hgb h ⟨hdf, β, S, hsim⟩ hnext⟩
   ·rw [if_pos (by simp only [Region.wanted, hg, hgs, hgb])]
    exact (z7y hgb h ⟨hdf, β, S, hsim⟩ hnext)
end Go.Av

