/- Code on a frame's state: regions, tests, loops, what a function comes to. -/
import Derived.Test.YtabjaaonfaejmaaGreatDoorHAv19
import Derived.Deep.LoopGhost
set_option linter.all false
namespace Go.Av

/-- From the state st the code comes to an end of which Q tells. -/
def AWp (F : FC) (c : Code) (Q : Exit → ASt → Prop) (st : ASt) : Prop :=
  ∀ (a : Act) (w : World), Sim F st a w → c.wp F.P (fun e a' w' => ∃ st', Q e st' ∧ Sim F st' a' w') a w

/-- Whatever is in the state st is in the state st', too. -/
def Le (F : FC) (st st' : ASt) : Prop := ∀ (a : Act) (w : World), Sim F st a w → Sim F st' a w

theorem Le.refl (F : FC) (st : ASt) : Le F st st := fun _ _ h => h
theorem Le.trans {F : FC} {a b c : ASt} (h : Le F a b) (k : Le F b c) : Le F a c := fun x w hs => k x w (h x w hs)

def envL : List (Nat × AV) → Nat → AV
  | [], _ => .junk
  | (k, v) :: l, n => if n = k then v else envL l n

/-- A state, written out. -/
def ASt.of (e : List (Nat × AV)) (o : List (Nat × AObj)) : ASt := ⟨envL e, objL o⟩

/-- Of a state, these slots and these objects alone. -/
def keepE (env : Nat → AV) : List Nat → List (Nat × AV)
  | [] => []
  | n :: l => (n, env n) :: keepE env l
def keepO (objs : Nat → Option AObj) : List Nat → List (Nat × AObj)
  | [] => []
  | n :: l => match objs n with
    | some o => (n, o) :: keepO objs l
    | none => keepO objs l
def ASt.keep (st : ASt) (ns ids : List Nat) : ASt := .of (keepE st.env ns) (keepO st.objs ids)

theorem SimB.less {F : FC} {β : Places} {S : Nat → Nat → Prop} {st st' : ASt} {tm : Array Value} {w : World} (hs : SimB F β S st tm w) (he : ∀ n, st'.env n = st.env n ∨ st'.env n = .junk) (ho : ∀ i o, st'.objs i = some o → st.objs i = some o) : SimB F β S st' tm w :=
  ⟨hs.ext, hs.glob, hs.sub, hs.lt, fun i o b s k h => hs.sep i o b s k (ho i o h), fun i i' o o' b s s' h h' => hs.inj i i' o o' b s s' (ho i o h) (ho i' o' h'), fun i o h => hs.obj i o (ho i o h),
    fun n => by
      rcases he n with h | h
      · rw [h]; exact hs.env n
      · rw [h]; simp [RepA], hs.size⟩

theorem Le.less {F : FC} {st st' : ASt} (he : ∀ n, st'.env n = st.env n ∨ st'.env n = .junk) (ho : ∀ i o, st'.objs i = some o → st.objs i = some o) : Le F st st' :=
  fun _ _ ⟨hd, β, S, hs⟩ => ⟨hd, β, S, hs.less he ho⟩

theorem envL_keep (env : Nat → AV) (n : Nat) : ∀ l, envL (keepE env l) n = env n ∨ envL (keepE env l) n = .junk
  | [] => .inr rfl
  | k :: l => by
    simp only [keepE, envL]
    split
    · rename_i h; subst h; exact .inl rfl
    · exact envL_keep env n l

theorem objL_keep (objs : Nat → Option AObj) (i : Nat) (o : AObj) : ∀ l, objL (keepO objs l) i = some o → objs i = some o
  | [], h => by simp [keepO, objL] at h
  | k :: l, h => by
    simp only [keepO] at h
    split at h
    · rename_i o' ho'
      simp only [objL] at h
      split at h
      · rename_i hk
        subst hk
        simp only [Option.some.injEq] at h
        subst h
        exact ho'
      · exact objL_keep objs i o l h
    · exact objL_keep objs i o l h

theorem Le.keep (F : FC) (st : ASt) (ns ids : List Nat) : Le F st (st.keep ns ids) :=
  .less (fun n => envL_keep st.env n ns) (fun i o h => objL_keep st.objs i o ids h)

theorem AWp.mono {F : FC} {c : Code} {Q Q' : Exit → ASt → Prop} {st : ASt} (h : AWp F c Q st) (hq : ∀ e st, Q e st → Q' e st) : AWp F c Q' st :=
  fun a w hs => wp_mono (h a w hs) fun _ _ _ ⟨st', h1, h2⟩ => ⟨st', hq _ _ h1, h2⟩

theorem AWp.le {F : FC} {c : Code} {Q : Exit → ASt → Prop} {st st' : ASt} (hl : Le F st st') (h : AWp F c Q st') : AWp F c Q st :=
  fun a w hs => h a w (hl a w hs)

theorem aw_region {F : FC} {id : Nat} {l : List Oper} {Q : Exit → ASt → Prop} {st : ASt} (h : RunOps F l.toArray l st (Q .normal)) : AWp F (.region id l.toArray false) Q st :=
  fun a w hs => wp_region_lit (runOps_sound l st _ h a w hs fun st' a' w' h1 h2 => ⟨st', h1, h2⟩)

/-- A region, and of what it leaves these slots and objects alone. -/
theorem aw_region_keep {F : FC} (ns ids : List Nat) {id : Nat} {l : List Oper} {Q : Exit → ASt → Prop} {st : ASt} (h : RunOps F l.toArray l st fun st' => Q .normal (st'.keep ns ids)) : AWp F (.region id l.toArray false) Q st :=
  fun a w hs => wp_region_lit (runOps_sound l st _ h a w hs fun st' a' w' h1 h2 => ⟨_, h1, Le.keep F st' ns ids a' w' h2⟩)

def QSeq (F : FC) (y : Code) (Q : Exit → ASt → Prop) : Exit → ASt → Prop
  | .normal, st => AWp F y Q st
  | e, st => Q e st

theorem aw_seq {F : FC} {x y : Code} {Q : Exit → ASt → Prop} {st : ASt} (h : AWp F x (QSeq F y Q) st) : AWp F (.seq x y) Q st := fun a w hs => by
  refine wp_seq (wp_mono (h a w hs) fun e a' w' h => ?_)
  obtain ⟨st', hq, hs'⟩ := h
  cases e <;> simp only [Exit.then, QSeq] at hq ⊢
  case normal => exact hq a' w' hs'
  all_goals exact ⟨st', hq, hs'⟩

theorem aw_skip {F : FC} {Q : Exit → ASt → Prop} {st : ASt} (h : Q .normal st) : AWp F .skip Q st := fun a w hs => wp_skip ⟨st, h, hs⟩
theorem aw_exit {F : FC} {id : Nat} {Q : Exit → ASt → Prop} {st : ASt} (h : Q (.exit id) st) : AWp F (.exit id) Q st := fun a w hs => wp_exit ⟨st, h, hs⟩
theorem aw_ret {F : FC} {Q : Exit → ASt → Prop} {st : ASt} (h : Q .ret st) : AWp F .ret Q st := fun a w hs => wp_ret ⟨st, h, hs⟩

def QBlock (id : Nat) (Q : Exit → ASt → Prop) : Exit → ASt → Prop
  | .exit id', st => if id' = id then Q .normal st else Q (.exit id') st
  | e, st => Q e st

theorem aw_block {F : FC} {id : Nat} {c : Code} {Q : Exit → ASt → Prop} {st : ASt} (h : AWp F c (QBlock id Q) st) : AWp F (.block id c) Q st := fun a w hs => by
  refine wp_block (wp_mono (h a w hs) fun e a' w' h => ?_)
  obtain ⟨st', hq, hs'⟩ := h
  cases e <;> simp only [Exit.inBlock, QBlock] at hq ⊢
  case exit id' =>
    split at hq
    · rename_i h; rw [if_pos h]; exact ⟨st', hq, hs'⟩
    · rename_i h; rw [if_neg h]; exact ⟨st', hq, hs'⟩
  all_goals exact ⟨st', hq, hs'⟩

/-- The truth of a test. -/
def condA (env : Nat → AV) (c : Operand) : Option Bool := asB (evA env c)

theorem aw_cond {F : FC} {c : Operand} {x y : Code} {Q : Exit → ASt → Prop} {st : ASt} {b : Bool} (hc : condA st.env c = some b) (ht : b = true → AWp F x Q st) (hf : b = false → AWp F y Q st) : AWp F (.cond c x y) Q st := fun a w hs => by
  obtain ⟨hdf, β, S, hsim⟩ := hs
  have hr := evA_rep (a := a) hsim.env c
  have : evA st.env c = .dat (.bool b) := by
    unfold condA asB at hc
    split at hc
    · rename_i b' hb
      simp only [Option.some.injEq] at hc
      subst hc
      exact hb
    · simp at hc
  rw [this] at hr
  simp only [RepA, RepX] at hr
  cases b
  · exact wp_cond_false hr (hf rfl a w ⟨hdf, β, S, hsim⟩)
  · exact wp_cond_true hr (ht rfl a w ⟨hdf, β, S, hsim⟩)

/-- What a round of a loop must come to. -/
def QLoop {ι : Type} (F : FC) (I : ι → ASt) (μ : ι → Nat) (i : ι) (Q : Exit → ASt → Prop) : Exit → ASt → Prop
  | .normal, st => ∃ i', Le F st (I i') ∧ μ i' < μ i
  | e, st => Q e st

/-- A loop: the states at its head are a family, and a measure goes down from round to round. -/
theorem aw_loop {F : FC} {c : Code} {Q : Exit → ASt → Prop} {st : ASt} {ι : Type} (I : ι → ASt) (μ : ι → Nat) (i0 : ι) (h0 : Le F st (I i0)) (hround : ∀ i, AWp F c (QLoop F I μ i Q) (I i)) : AWp F (.loop c) Q st := fun a w hs => by
  refine wp_loop_ghost (fun n a w => ∃ i, μ i = n ∧ Sim F (I i) a w) (μ i0) ⟨i0, rfl, h0 a w hs⟩ fun n a w ⟨i, hn, hi⟩ => ?_
  refine wp_mono (hround i a w hi) fun e a' w' h => ?_
  obtain ⟨st', hq, hs'⟩ := h
  cases e <;> simp only [Exit.then, QLoop] at hq ⊢
  case normal =>
    obtain ⟨i', h1, h2⟩ := hq
    exact ⟨μ i', by omega, i', rfl, h1 a' w' hs'⟩
  all_goals exact ⟨st', hq, hs'⟩

/-- What a function's results are, as the frame stands. -/
def resA (F : FC) (st : ASt) : List ResultVar → Prop × List AV
  | [] => (True, [])
  | .tmp t :: l => let r := resA F st l; (r.1, st.env t :: r.2)
  | .cell a t :: l => let r := resA F st l; ((match st.env a with
      | .ptr _ _ _ _ => True
      | _ => False) ∧ (loadA F.P F.G st.objs t (st.env a)).1 ∧ r.1, (loadA F.P F.G st.objs t (st.env a)).2 :: r.2)

/-- The end of a function: it returns these data. -/
def QRet (F : FC) (res : List ResultVar) (rs : List Dat) : Exit → ASt → Prop
  | .normal, st | .ret, st => (resA F st res).1 ∧ mapO (viewD st.objs 6) (resA F st res).2 = some rs
  | _, _ => False

def initE (args : List Dat) : Nat → AV := fun n => match args[n]? with
  | some d => .dat d
  | none => .junk

/-- The state at a call. -/
def ASt.init (args : List Dat) : ASt := ⟨initE args, fun _ => none⟩

def resOne (tm : Array Value) : ResultVar → Sem Value
  | .tmp t => pure (tm.getD t undef)
  | .cell a t => do loadVar t (← asAddr (tm.getD a undef))

theorem results_eq (fn : Func) (tm : Array Value) : results fn tm = (do let vs ← fn.results.mapM (resOne tm); pure (if h : vs.size = 1 then vs[0] else .tuple vs)) := by
  unfold results
  congr 1

theorem run_results {F : FC} {β : Places} {S : Nat → Nat → Prop} {st : ASt} {tm : Array Value} {w : World} (hs : SimB F β S st tm w) : ∀ (res : List ResultVar), (resA F st res).1 →
    ∃ vs : List Value, (res.mapM (resOne tm)).run F.P w = .ok vs w ∧ RepAL β S w (resA F st res).2 vs
  | [], _ => ⟨[], by simp, by simp [resA, RepAL]⟩
  | .tmp t :: l, h => by
    simp only [resA] at h
    obtain ⟨vs, h1, h2⟩ := run_results hs l h
    refine ⟨tm.getD t undef :: vs, ?_, ?_⟩
    · simp only [List.mapM_cons, Sem.run_bind, show (resOne tm (.tmp t)).run F.P w = .ok (tm.getD t undef) w from rfl, Result.andThen_ok, h1, Sem.run_pure]
    · simp only [resA, RepAL]; exact ⟨_, _, rfl, hs.env t, h2⟩
  | .cell a t :: l, h => by
    simp only [resA] at h
    obtain ⟨hp, hl, hr⟩ := h
    obtain ⟨vs, h1, h2⟩ := run_results hs l hr
    have hrep := hs.env a
    obtain ⟨r, hrun, hrr⟩ := loadA_rep hs hrep hl
    have hptr : ∃ ad, tm.getD a undef = .pointer (some ad) := by
      split at hp
      · rename_i id es k off he
        rw [he] at hrep
        simp only [RepA] at hrep
        obtain ⟨b, s, _, hv, _⟩ := hrep
        exact ⟨_, hv⟩
      · exact hp.elim
    obtain ⟨ad, had⟩ := hptr
    have hrun' : (loadVar t ad).run F.P w = .ok r w := by
      simpa [Instr.loadAt, Instr.sureAddr, had] using hrun
    refine ⟨r :: vs, ?_, ?_⟩
    · have h3 : (resOne tm (.cell a t)).run F.P w = .ok r w := by simp [resOne, had, asAddr, hrun']
      simp only [List.mapM_cons, Sem.run_bind, h3, Result.andThen_ok, h1, Sem.run_pure]
    · simp only [resA, RepAL]; exact ⟨_, _, rfl, hrr, h2⟩

theorem repAL_one {β : Places} {S : Nat → Nat → Prop} {w : World} {x : AV} {v : Value} (h : RepAL β S w [x] [v]) : RepA β S w x v := by
  simp only [RepAL] at h
  obtain ⟨v', vs, he, h, _⟩ := h
  simp at he
  exact he.1 ▸ h

/-- A FUNCTION's CONTRACT, from its body. -/
theorem gives_intro {P : Program} {G : List (Nat × Dat)} {f : FuncId} {fn : Func} {c : Code} {args rs : List Dat} (rows lits apps : List Nat) (hf : P.funcs[f]? = some fn) (hb : fn.body = some c) (hname : (fn.name == "runtime.NumGoroutine") = false) (hn : args.length ≤ fn.ntmps)
    (h : ∀ F : FC, F.P = P → F.G = G → F.N = fn.ntmps → (F.rows = rows ∧ F.lits = lits ∧ F.apps = apps ∧ ∀ b, F.M0 b → False) → AWp F c (QRet F fn.results.toList rs) (.init args)) : Gives P G f args rs := by
  refine ⟨⟨fn, c, hf, hb, hname⟩, fun w S vals hlt hg hv => ?_⟩
  let F : FC := ⟨P, fn.ntmps, G, w, fun _ => False, S, rows, lits, apps, fun _ => none⟩
  have hvl : ∀ {l : List Dat} {us : List Value}, RepV S w l us → us.length = l.length ∧ ∀ (i : Nat) (d : Dat), l[i]? = some d → ∃ v, us[i]? = some v ∧ RepX S w d v := by
    intro l
    induction l with
    | nil => intro us h; simp [RepV] at h; subst h; simp
    | cons d l ih =>
      intro us h
      simp only [RepV] at h
      obtain ⟨u, us', rfl, h1, h2⟩ := h
      obtain ⟨h3, h4⟩ := ih h2
      refine ⟨by simp [h3], fun i d' hd => ?_⟩
      cases i with
      | zero => simp at hd; subst hd; exact ⟨u, by simp, h1⟩
      | succ i => simpa using h4 i d' (by simpa using hd)
  obtain ⟨hlen, hget⟩ := hvl hv
  have hsim : SimB F (fun _ => none) S (.init args) (vals ++ Array.replicate (fn.ntmps - vals.size) undef) w := by
    refine ⟨Ext.refl _ _, fun p hp => ⟨(hg p hp).1, fun f => f, (hg p hp).2⟩, fun b i h => .inl h, hlt, fun _ _ _ _ _ h => by simp [ASt.init] at h, fun _ _ _ _ _ _ _ h => by simp [ASt.init] at h, fun _ _ h => by simp [ASt.init] at h, fun n => ?_, ⟨by simp [F]; omega, fun _ _ => rfl⟩⟩
    simp only [ASt.init, initE]
    split
    · rename_i d hd
      obtain ⟨v, hv', hr⟩ := hget n d hd
      have hnl : n < vals.size := by have := (List.getElem?_eq_some_iff.1 hv').1; simpa using this
      have hv2 : vals[n]? = some v := by simpa using hv'
      simp only [RepA, Array.getD_eq_getD_getElem?]
      rw [Array.getElem?_append_left hnl, hv2]
      exact hr
    · simp [RepA]
  refine calls_of_wp hf hb ?_
  refine Code.wp_mono ?_ (h F rfl rfl rfl ⟨rfl, rfl, rfl, fun _ h => h⟩ { tmps := vals ++ Array.replicate (fn.ntmps - vals.size) undef, defers := [] } w ⟨rfl, _, S, hsim⟩)
  intro e a' w' hq
  obtain ⟨st', hq, hdf, β, S', hs'⟩ := hq
  have fin : (resA F st' fn.results.toList).1 ∧ mapO (viewD st'.objs 6) (resA F st' fn.results.toList).2 = some rs → a'.defers = [] ∧ ∃ v, (results fn a'.tmps).run P w' = .ok v w' ∧ ∃ v', Ending.returned v = .returned v' ∧ Ext (fun _ => False) w w' ∧ RetRep (fun b i => S b i ∨ (w.heap.size ≤ b ∧ b < w'.heap.size)) w' rs v' := fun ⟨h1, h2⟩ => by
    obtain ⟨vs, hrun, hrep⟩ := run_results hs' fn.results.toList h1
    have hkeep : Keeps (AllS st' β S') (fun b i => S b i ∨ (w.heap.size ≤ b ∧ b < w'.heap.size)) w' w' := Keeps.wider w' fun b i hA => by
      rcases hA with hA | ⟨id, o, s, ho, hb'⟩
      · rcases hs'.sub b i hA with h | h
        · exact .inl h
        · exact .inr ⟨h, hs'.lt b i hA⟩
      · rcases hs'.obj id o ho with ⟨hn', _⟩ | ⟨b2, s2, arr, e2, hb2, hw2, hh2, _⟩ | hm2
        rotate_left 2
        · exact (hm2.place hb').1.elim (fun h => .inr ⟨h, (hm2.place hb').2⟩) (fun h => h.elim)
        · rw [hn'] at hb'; cases hb'
        · rw [hb2] at hb'
          simp only [Option.some.injEq, Prod.mk.injEq] at hb'
          obtain ⟨rfl, rfl⟩ := hb'
          rcases hw2 with h | h
          · exact .inr ⟨h, (Array.getElem?_eq_some_iff.1 hh2).1⟩
          · exact h.elim
    have hext : Ext (fun _ => False) w w' := hs'.ext
    have hm : (fn.results.mapM (resOne a'.tmps)).run P w' = .ok vs.toArray w' := by
      rw [Array.mapM_eq_mapM_toList, Sem.run_map]
      have : F.P = P := rfl
      rw [this] at hrun
      rw [hrun]
      rfl
    have hRV := repV_views (S1 := fun b i => S b i ∨ (w.heap.size ≤ b ∧ b < w'.heap.size)) (fun x d hx v hr => RepX.mono hkeep d v ((viewD_rep hs' 6 x d hx).1 v hr)) h2 hrep
    refine ⟨hdf, if h : vs.toArray.size = 1 then vs.toArray[0] else .tuple vs.toArray, ?_, _, rfl, hext, ?_⟩
    · rw [results_eq, Sem.run_bind, hm]
      rfl
    · unfold RetRep
      split
      · rename_i r
        simp only [RepV] at hRV
        obtain ⟨v, vs', rfl, h3, h4⟩ := hRV
        subst h4
        simpa using h3
      · rename_i hne
        have hl : vs.length = rs.length := by
          clear hm hrun hrep
          induction rs generalizing vs with
          | nil => simp [RepV] at hRV; simp [hRV]
          | cons d rs ih =>
            have hvl2 : ∀ {l : List Dat} {us : List Value}, RepV (fun b i => S b i ∨ (w.heap.size ≤ b ∧ b < w'.heap.size)) w' l us → us.length = l.length := by
              intro l
              induction l with
              | nil => intro us h; simp [RepV] at h; simp [h]
              | cons d l ih =>
                intro us h
                simp only [RepV] at h
                obtain ⟨u, us', rfl, _, h2⟩ := h
                simp [ih h2]
            exact hvl2 hRV
        rw [dif_neg]
        · exact ⟨vs.toArray, rfl, by simpa using hRV⟩
        · intro h1
          simp at h1
          rw [hl] at h1
          obtain ⟨r, hr⟩ := List.length_eq_one_iff.1 h1
          exact hne r hr
  cases e with
  | normal => exact fin hq
  | ret => exact fin hq
  | _ => exact hq.elim

end Go.Av

