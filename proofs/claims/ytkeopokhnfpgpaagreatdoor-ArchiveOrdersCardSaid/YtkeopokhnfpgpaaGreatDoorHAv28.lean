/- A part of the proof. -/
import Derived.Test.YtkeopokhnfpgpaaGreatDoorHAv27
set_option linter.all false
namespace Go.Av
def killAll : List Nat → ASt → ASt
 | [], st => st
 | d :: l, st => killAll l (st.kill d)
theorem NM.killAll {d : Nat} : ∀ {l : List Nat} {st : ASt}, NM d st → NM d (killAll l st)
 | [], _, h => h
 | e :: l, _, h => NM.killAll (l := l) (h.kill e)
theorem z71 {d : Nat} : ∀ {l : List Nat} {st : ASt}, d ∈ l → NM d (killAll l st)
 | [], _, h => by simp at h
 | e :: l, st, h => by
  rcases List.mem_cons.1 h with rfl | h
  ·simp only [Av.killAll]; exact NM.killAll (NM.of_kill _ st)
  ·simp only [Av.killAll]; exact z71 h
theorem Le.killAll {F : FC} : ∀ (l : List Nat) (st : ASt), Le F st (killAll l st)
 | [], st => .refl F st
 | d :: l, st => Le.trans (fun _ _ ⟨h, β, S, hs⟩ => ⟨h, β, S, hs.kill d⟩) (Le.killAll l (st.kill d))
theorem Dst.symm {F : FC} {x y : Oper} (h : Dst F x y) : Dst F y x := fun hc d hd e => h hc.symm d e hd
theorem Xk {F : FC} {ops : Array Oper} {bef : List Nat} {a b : Nat} (h : zjg F.rows F.lits F.apps ops bef a b = true) : ∃ x y, ops[a]? = some x ∧ ops[b]? = some y ∧
  (∀ e ∈ x.after.toList, Region.binds .any e = true → e.on ≠ b) ∧ ((bef.getD b 0).testBit a = true ∨ ((z3p F x ∨ (z8t x = true ∧ Qh y = true) ∨ (Q1 F.rows F.lits F.apps x = true ∧ z0h y = true)) ∧ z3p F y ∧ Free ops x y)) ∧ Dst F x y ∧ (isM F y → z3p F x ∨ Q1 F.rows F.lits F.apps x = true) := by
 unfold zjg at h
 split at h <;> try (simp at h; done)
 rename_i x y hx hy
 simp only [Bool.and_eq_true, List.all_eq_true, Bool.or_eq_true, Bool.not_eq_true'] at h
 obtain ⟨⟨⟨h1, h2⟩, h3⟩, h4⟩ := h
 refine ⟨x, y, hx, hy, fun e he hb hh => ?_, ?_, fun hc d hd hd' => ?_, fun hc => ?_⟩
 ·rcases h1 e he with h | h
  ·rw [hb] at h; simp at h
  ·simp [hh] at h
 ·rcases h2 with ((h | ⟨⟨h5, h6⟩, h7⟩) | ⟨⟨h5, h6⟩, h7⟩) | ⟨⟨h5, h6⟩, h7⟩
  ·exact .inl h
  ·obtain ⟨h8, h9, h10⟩ := Oper.apart_spec h7
   exact .inr ⟨.inl (z25 h5), z25 h6, fun d hd => ⟨h8 d hd, h9 d hd⟩, h10⟩
  ·obtain ⟨h8, h9, h10⟩ := Oper.apart_spec h7
   exact .inr ⟨.inr (.inl ⟨h5, h6⟩), zgx h6, fun d hd => ⟨h8 d hd, h9 d hd⟩, h10⟩
  ·obtain ⟨h8, h9, h10⟩ := Oper.apart_spec h7
   exact .inr ⟨.inr (.inr ⟨h5, h6⟩), .inl (zj4 h6), fun d hd => ⟨h8 d hd, h9 d hd⟩, h10⟩
 ·rcases h3 with (h | h) | h
  ·simp only [Bool.or_eq_false_iff] at h
   rcases hc with (hc | hc) | (hc | hc)
   ·rw [h.1.1] at hc; simp at hc
   ·rw [h.1.2] at hc; simp at hc
   ·rw [h.2.1] at hc; simp at hc
   ·rw [h.2.2] at hc; simp at hc
  ·simp [hd] at h
  ·simp [hd, hd'] at h
 ·rcases h4 with (h | h) | h
  ·simp only [Bool.or_eq_false_iff] at h
   rcases hc with hc | hc
   ·rw [h.1] at hc; simp at hc
   ·rw [h.2] at hc; simp at hc
  ·exact .inl (z25 h)
  ·exact .inr h
theorem z1r {ops : Array Oper} {R : List Nat} {o : Oper} (h : o ∈ R.filterMap (fun i => ops[i]?)) : ∃ i ∈ R, ops[i]? = some o := by
 rw [List.mem_filterMap] at h
 obtain ⟨i, hi, ho⟩ := h
 exact ⟨i, hi, ho⟩
theorem zf9 {F : FC} {ops : Array Oper} {Q : Exit → Act → World → Prop} {i : Nat} {o : Oper} (ho : ops[i]? = some o) {st : ASt} {K : ASt → Prop} (h : wn F ops o st K) {a : Act} {w : World} (hs : Sim F st a w) {R : Act → World → Prop}
  (hnext : ∀ st' a' w', K st' → Sim F st' a' w' → R a' w') : wpOpIn F.fence 0 F.P ops Q i R a w := by
 unfold wpOpIn
 simp only [ho]
 unfold wn at h
 split at h
 ·rename_i hg
  rw [if_pos (by simp [Region.wanted, hg])]
  exact (Qo h hs hnext)
 ·rename_i j want hg
  split at h <;> try (exact h.elim)
  rename_i g hgv
  obtain ⟨hdf, β, S, hsim⟩ := hs
  have hgs := j9 (a := a) hsim.env hgv
  cases hgb : g
  ·rw [if_neg (by simp only [Region.wanted, hg, hgs, hgb]; simp)]
   exact ⟨fun _ _ => trivial, zcc hgb h ⟨hdf, β, S, hsim⟩ hnext⟩
  ·rw [if_pos (by simp only [Region.wanted, hg, hgs, hgb])]
   exact (z7y hgb h ⟨hdf, β, S, hsim⟩ hnext)
theorem zo5 {F : FC} {ops : Array Oper} {Q : Exit → Act → World → Prop} {K : ASt → Prop} {Sm : ASt → Act → World → Prop} (hst : ∀ i o, ops[i]? = some o → ∀ (st : ASt) (K : ASt → Prop), wn F ops o st K → ∀ (a : Act) (w : World) (R : Act → World → Prop), Sm st a w → (∀ st' a' w', K st' → Sm st' a' w' → R a' w') → wpOpIn F.fence 0 F.P ops Q i R a w) (hedge : ∀ i o, ops[i]? = some o → ∀ e ∈ o.after.toList, Region.binds .any e = true → e.on ≠ i ∧ e.on < ops.size)
  (hK : ∀ st' a' w', K st' → Sm st' a' w' → Q .normal a' w') : ∀ (n : Nat) (R : List Nat) (listed : Array Bool) (st : ASt) (a : Act) (w : World), R.length = n → listed.size = ops.size → (∀ j, j < ops.size → (listed.getD j false = true ↔ j ∉ R)) →
  (∀ i ∈ R, i < ops.size) → R.Nodup → R.Pairwise (fun a b => zjg F.rows F.lits F.apps ops (z3t ops.toList []) a b = true) →
  (∀ i o, ops[i]? = some o → i ∉ R → ∀ e ∈ o.after.toList, Region.binds .any e = true → e.on ∉ R) → (∀ i ∈ R, ∀ o, ops[i]? = some o → NMo F o st) →
  zh F ops (R.filterMap fun i => ops[i]?) st K → Sm st a w → wpAnyIn F.fence 0 F.P .any ops Q n listed a w := by
 intro n
 induction n with
 | zero =>
  intro R listed st a w hlen hsz hl hR hnd hp hcl hnm hrun hs
  have hRn : R = [] := List.eq_nil_of_length_eq_zero hlen
  subst hRn
  refine ⟨?_, hK _ _ _ hrun hs⟩
  apply List.eq_nil_iff_forall_not_mem.2
  intro j hj
  obtain ⟨h0, o, ho, _⟩ := mem_ready.1 hj
  have hlt : j < ops.size := (Array.getElem?_eq_some_iff.1 ho).1
  have := (hl j hlt).2 (by simp)
  simp [Array.getD_eq_getD_getElem?, Array.getElem?_eq_getElem (show j < listed.size by omega)] at this h0
  rw [this] at h0; cases h0
 | succ n ih =>
  intro R listed st a w hlen hsz hl hR hnd hp hcl hnm hrun hs
  have gd : ∀ j, j < ops.size → listed.getD j true = listed.getD j false := fun j hj => by
   simp [Array.getD_eq_getD_getElem?, Array.getElem?_eq_getElem (show j < listed.size by omega)]
  refine ⟨fun hn => ?_, fun i hi => ?_⟩
  ·exfalso
   cases R with
   | nil => simp at hlen
   | cons i0 R' =>
    have hi0 := hR i0 (by simp)
    have : i0 ∈ Region.ready .any ops listed := by
     refine mem_ready.2 ⟨?_, ops[i0], Array.getElem?_eq_getElem hi0, fun e he hb => ?_⟩
     ·rw [gd i0 hi0]
      cases hh : listed.getD i0 false
      ·rfl
      ·exact absurd (by simp) ((hl i0 hi0).1 hh)
     ·obtain ⟨h1, h2⟩ := hedge i0 _ (Array.getElem?_eq_getElem hi0) e (by simpa using he) hb
      refine (hl e.on h2).2 fun hmem => ?_
      rcases List.mem_cons.1 hmem with h | h
      ·exact h1 h
      ·obtain ⟨x, y, hx, _, h3, _⟩ := Xk ((List.pairwise_cons.1 hp).1 e.on h)
       rw [Array.getElem?_eq_getElem hi0] at hx
       simp only [Option.some.injEq] at hx
       subst hx
       exact h3 e (by simpa using he) hb rfl
    rw [hn] at this
    simp at this
  ·obtain ⟨h0, oi, hoi, hall⟩ := mem_ready.1 hi
   have hilt : i < ops.size := (Array.getElem?_eq_some_iff.1 hoi).1
   have hiR : i ∈ R := by
    by_cases h : i ∈ R
    ·exact h
    ·rw [gd i hilt, (hl i hilt).2 h] at h0; cases h0
   have hdone : ∀ e ∈ oi.after.toList, Region.binds .any e = true → e.on ∉ R := fun e he hb =>
    (hl e.on (hedge i oi hoi e he hb).2).1 (hall e (by simpa using he) hb)
   obtain ⟨pre, post, rfl⟩ := List.append_of_mem hiR
   have hbd := zcx hcl hR i oi hoi hdone
   have hpp := List.pairwise_append.1 hp
   have hpi := List.pairwise_cons.1 hpp.2.1
   have hpre : ∀ j ∈ pre, ∃ x, ops[j]? = some x ∧ (z3p F x ∨ (z8t x = true ∧ Qh oi = true) ∨ (Q1 F.rows F.lits F.apps x = true ∧ z0h oi = true)) ∧ z3p F oi ∧ Free ops x oi ∧ Dst F x oi := fun j hj => by
    obtain ⟨x, y, hx, hy, h1, h2, h3, _⟩ := Xk (hpp.2.2 j hj i (by simp))
    rw [hoi] at hy
    simp only [Option.some.injEq] at hy
    subst hy
    rcases h2 with h2 | ⟨h4, h5, h6⟩
    ·exact absurd (by simp [hj]) (hbd j h2)
    ·exact ⟨x, hx, h4, h5, h6, h3⟩
   have hmi := hnm i hiR oi hoi
   -- the operation comes first
   have hfirst : zh F ops (oi :: (pre ++ post).filterMap fun i => ops[i]?) st K := by
    rw [List.filterMap_append, List.filterMap_cons_some hoi] at hrun
    rw [List.filterMap_append]
    cases pre with
    | nil => exact hrun
    | cons j0 pre' =>
     obtain ⟨_, _, _, hgi, _⟩ := hpre j0 (by simp)
     refine jp hgi _ _ st K (fun x hx => ?_) ?_ (fun x hx => ?_) hmi hrun
     ·obtain ⟨j, hj, hxj⟩ := z1r hx
      obtain ⟨x', hx', h1, _, h2, h3⟩ := hpre j hj
      rw [hx'] at hxj
      simp only [Option.some.injEq] at hxj
      subst hxj
      exact ⟨h1, h2, h3⟩
     ·rw [List.pairwise_filterMap]
      refine hpp.1.imp fun {a b} hab x hx y hy => ?_
      obtain ⟨x', y', hx', hy', _, _, h3, h4⟩ := Xk hab
      rw [hx'] at hx; rw [hy'] at hy
      simp only [Option.some.injEq] at hx hy
      subst hx; subst hy
      exact ⟨h3, h4⟩
     ·obtain ⟨j, hj, hxj⟩ := z1r hx
      exact hnm j (List.mem_append_left _ hj) x hxj
   have hnd' := List.nodup_append.1 hnd
   have hni : i ∉ pre ++ post := by
    intro h
    rcases List.mem_append.1 h with h | h
    ·exact (hnd'.2.2 i h i (by simp)) rfl
    ·exact (List.nodup_cons.1 hnd'.2.1).1 h
   have hsub : (pre ++ post).Sublist (pre ++ i :: post) := (List.Sublist.refl pre).append (List.sublist_cons_self i post)
   have hdst : ∀ j ∈ pre ++ post, ∀ x, ops[j]? = some x → Dst F oi x ∧ ((z3p F oi ∨ Q1 F.rows F.lits F.apps oi = true) ∨ ¬ isM F x) := fun j hj x hx => by
    rcases List.mem_append.1 hj with h | h
    ·obtain ⟨x', hx', h1, h2, h3, h4⟩ := hpre j h
     rw [hx'] at hx
     simp only [Option.some.injEq] at hx
     subst hx
     exact ⟨h4.symm, .inl (.inl h2)⟩
    ·obtain ⟨x', y', hx', hy', _, _, h3, h4⟩ := Xk (hpi.1 j h)
     rw [hoi] at hx'; rw [hx] at hy'
     simp only [Option.some.injEq] at hx' hy'
     subst hx'; subst hy'
     refine ⟨h3, ?_⟩
     by_cases hc : isM F x
     ·exact .inl (h4 hc)
     ·exact .inr hc
   simp only [zh] at hfirst
   have hone : wn F ops oi st fun st' => zh F ops ((pre ++ post).filterMap fun i => ops[i]?) st' K ∧ ∀ j ∈ pre ++ post, ∀ x, ops[j]? = some x → NMo F x st' := by
    by_cases hg : z3p F oi
    ·obtain ⟨st', h1, h2⟩ := (Q7 hg hmi).1 hfirst
     exact (Q7 hg hmi).2 ⟨st', h1, h2, fun j hj x hx => z31 h1 hmi (hnm j (hsub.subset hj) x hx) (hdst j hj x hx).1⟩
    ·by_cases ha : Q1 F.rows F.lits F.apps oi = true
     ·refine Qn (fun st' h => ⟨h.1, fun j hj x hx hc d hd => ?_⟩) (zvc ha hfirst)
      exact h.2 d (fun e => (hdst j hj x hx).1 (.inl (.inr ha)) d e hd) (hnm j (hsub.subset hj) x hx hc d hd)
     ·refine Qn (fun st' h => ⟨h, fun j hj x hx hc => ?_⟩) hfirst
      rcases (hdst j hj x hx).2 with (h | h) | h
      ·exact absurd h hg
      ·exact absurd h ha
      ·exact absurd hc h
   refine hst i oi hoi st _ hone a w _ hs fun st' a' w' hk hs' => ?_
   refine ih (pre ++ post) (listed.setIfInBounds i true) st' a' w' (by simp at hlen ⊢; omega) (by simpa using hsz) (fun j hj => ?_) (fun j hj => hR j (hsub.subset hj)) (hnd.sublist hsub) (hp.sublist hsub) (fun j o ho hj e he hb hm => ?_) hk.2 hk.1 hs'
   ·by_cases hij : i = j
    ·subst hij
     simp [Array.getD_eq_getD_getElem?, Array.getElem?_setIfInBounds, show i < listed.size by omega]
     exact ⟨fun h => hni (by simp [h]), fun h => hni (by simp [h])⟩
    ·rw [getD_set_ne false hij, hl j hj]
     have : j ≠ i := fun h => hij h.symm
     simp [this]
   ·by_cases hij : j = i
    ·subst hij
     rw [hoi] at ho
     simp only [Option.some.injEq] at ho
     subst ho
     exact hdone e he hb (hsub.subset hm)
    ·refine hcl j o ho (fun h => hj ?_) e he hb (hsub.subset hm)
     simp [hij] at h
     simpa using h
def ksB (rows lits apps : List Nat) (l : List Oper) (ks : List Nat) : Bool := l.all fun o => !(isC rows lits apps o || Q1 rows lits apps o) || match o.dst with
 | some d => ks.contains d
 | none => true
theorem Sim.drew {F : FC} {st : ASt} {a : Act} {w : World} (h : Sim F st a w) : Sim F st a { w with drawn := w.drawn + 1 } := by
 obtain ⟨hd, β, S, hs⟩ := h
 exact ⟨hd, β, S, hs.world (M := fun _ => False) ⟨rfl, rfl, rfl, Nat.le_refl _, fun _ _ _ => rfl, fun b arr e h => ⟨arr, h, rfl⟩⟩ (fun _ _ h => h.elim) (fun b i h => ⟨h, rfl⟩) hs.sub hs.lt hs.sep fun _ _ _ _ _ _ => rfl⟩
theorem zse {F : FC} (perm ks : List Nat) {rows lits apps : List Nat} {l l' : List Oper} (hm : F.P.follows .mixedOrders = true) {Pm : Prop} (hR : F.rows = rows ∧ F.lits = lits ∧ F.apps = apps ∧ Pm)
  (hp : (z0m rows lits apps l.toArray perm && ksB rows lits apps l ks) = true) (hl : perm.filterMap (fun i => l.toArray[i]?) = l')
  {id : Nat} {Q : Exit → ASt → Prop} {st : ASt} (h : zh F l.toArray l' (killAll ks st) (Q .normal)) : AWp F (.region id l.toArray true) Q st := fun a w hs => by
 obtain ⟨h1, h2, h3, _⟩ := hR
 subst h1; subst h2; subst h3; subst hl
 simp only [Bool.and_eq_true] at hp
 obtain ⟨hp, hk⟩ := hp
 unfold z0m at hp
 simp only [Bool.and_eq_true, decide_eq_true_eq] at hp
 obtain ⟨⟨⟨⟨⟨p1, p2⟩, p3⟩, p4⟩, p5⟩, p6⟩ := hp
 have hnd : perm.Nodup := (kq p3).imp fun {a b} h => by simpa using h
 have hlt : ∀ i ∈ perm, i < l.toArray.size := fun i hi => by simpa using List.all_eq_true.1 p2 i hi
 have hall : ∀ i, i < l.toArray.size → i ∈ perm := by
  exact fun i hi => by simpa using List.all_eq_true.1 p6 i (List.mem_range.2 hi)
 refine wpIn_region_any hm ?_
 refine zo5 (K := Q .normal) (Sm := Sim F) (fun i o ho st K h a w R hs hn => zf9 ho h hs hn) (fun i o ho e he hb => ?_) (fun st' a' w' hk hs' => ⟨st', hk, hs'⟩) _ perm _ (killAll ks st) a _ p1 (by simp) (fun j hj => ?_) hlt hnd (kq p5) (fun i o ho hi => absurd (hall i (Array.getElem?_eq_some_iff.1 ho).1) hi) (fun i hi o ho hc d hd => ?_) h (Le.killAll ks st a _ hs.drew)
 ·have := List.all_eq_true.1 p4 i (hall i (Array.getElem?_eq_some_iff.1 ho).1)
  rw [ho] at this
  simp only [List.all_eq_true, Bool.or_eq_true, Bool.not_eq_true', Bool.and_eq_true, decide_eq_true_eq] at this
  rcases this e he with h | h
  ·rw [hb] at h; cases h
  ·exact ⟨by simpa using h.1, h.2⟩
 ·have : j ∈ perm := hall j hj
  simp only [Array.getD_eq_getD_getElem?, this, not_true_eq_false, iff_false, Array.getElem?_replicate]
  split <;> simp
 ·have hmem : o ∈ l := by
   have := Array.mem_of_getElem? ho
   simpa using this
  have := List.all_eq_true.1 hk o hmem
  have hcc : (isC F.rows F.lits F.apps o || Q1 F.rows F.lits F.apps o) = true := by simpa using hc
  rw [hcc, hd] at this
  exact z71 (by simpa using this)
theorem z5d {F : FC} {ops : Array Oper} : ∀ {l : List Oper} {st : ASt} {K K' : ASt → Prop}, (∀ st', K st' → K' st') → zh F ops l st K → zh F ops l st K'
 | [], _, _, _, hk, h => hk _ h
 | _ :: _, _, _, _, hk, h => Qn (fun _ h => z5d hk h) h
theorem zih {F : FC} (ns ids : List Nat) (perm ks : List Nat) {e : List (Nat × AV)} {o : List (Nat × AObj)} {rows lits apps : List Nat} {l l' : List Oper} (hm : F.P.follows .mixedOrders = true) {Pm : Prop} (hR : F.rows = rows ∧ F.lits = lits ∧ F.apps = apps ∧ Pm)
  (hp : (z0m rows lits apps l.toArray perm && ksB rows lits apps l ks) = true) (hl : perm.filterMap (fun i => l.toArray[i]?) = l')
  {id : Nat} {Q : Exit → ASt → Prop} {st : ASt} (h : zh F l.toArray l' (killAll ks st) (Kept ns ids e o)) (k : Q .normal (.of e o)) : AWp F (.region id l.toArray true) Q st := fun a w hs => by
 refine wpIn_mono (zse (Q := fun ex st' => ∃ e0, ex = Exit.normal ∧ e0 = st' ∧ Kept ns ids e o st') perm ks hm hR hp hl (z5d (fun st' h => ⟨st', rfl, rfl, h⟩) h) a w hs) fun ex a' w' ⟨st', ⟨_, h1, _, h2⟩, hs'⟩ => ?_
 subst h1
 refine ⟨.of e o, k, ?_⟩
 have := Le.keep F st' ns ids a' w' hs'
 unfold ASt.keep at this
 rw [h2.1, h2.2] at this
 exact this
theorem znd {F : FC} (ns ids : List Nat) (perm ks : List Nat) {e : List (Nat × AV)} {o : List (Nat × AObj)} {rows lits apps : List Nat} {l l' : List Oper} (hm : F.P.follows .mixedOrders = true) {Pm : Prop} (hR : F.rows = rows ∧ F.lits = lits ∧ F.apps = apps ∧ Pm)
  (hp : (z0m rows lits apps l.toArray perm && ksB rows lits apps l ks) = true) (hl : perm.filterMap (fun i => l.toArray[i]?) = l')
  {id : Nat} {y : Code} {Q : Exit → ASt → Prop} {st : ASt} (h : zh F l.toArray l' (killAll ks st) (Kept ns ids e o)) (k : AWp F y Q (.of e o)) : AWp F (.seq (.region id l.toArray true) y) Q st :=
 z3 (zih ns ids perm ks hm hR hp hl h k)
end Go.Av

