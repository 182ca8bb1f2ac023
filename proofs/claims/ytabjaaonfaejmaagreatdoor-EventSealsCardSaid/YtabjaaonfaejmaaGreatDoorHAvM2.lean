/- The contract of a function that is given objects of its caller's, from its body. -/
import Derived.Test.YtabjaaonfaejmaaGreatDoorHAv22
set_option linter.all false
namespace Go.Av

/-- The state at such a call. -/
def initM (xs : List AV) : Nat → AV := fun n => match xs[n]? with
  | some x => x
  | none => .junk
def ASt.initM (xs : List AV) (os : List (Nat × AObj)) : ASt := ⟨Av.initM xs, objL os⟩

def objsAre (objs : Nat → Option AObj) : List (Nat × AObj) → Prop
  | [] => True
  | (id, o) :: l => objs id = some o ∧ objsAre objs l
theorem objsAre_at {objs : Nat → Option AObj} {id : Nat} {o : AObj} : ∀ {l : List (Nat × AObj)}, objsAre objs l → objL l id = some o → objs id = some o
  | [], _, h => by simp [objL] at h
  | (k, v) :: l, hs, h => by
    simp only [objL] at h
    simp only [objsAre] at hs
    split at h
    · rename_i hk; subst hk; simp at h; subst h; exact hs.1
    · exact objsAre_at hs.2 h

/-- The end of such a function. -/
def QRetM (F : FC) (res : List ResultVar) (rs : List Dat) (os' : List (Nat × AObj)) : Exit → ASt → Prop
  | .normal, st | .ret, st => (resA F st res).1 ∧ mapO (viewD (fun _ => none) 6) (resA F st res).2 = some rs ∧ objsAre st.objs os'
  | _, _ => False

def flat1 : AV → Bool
  | .junk => true
  | .dat _ => true
  | .nils => true
  | _ => false
def flatO (o : AObj) : Bool := o.elems.all fun x => x.cells.all flat1

theorem flat1_rep {β β' : Places} {S S' : Nat → Nat → Prop} {w : World} (hk : Keeps S S' w w) {x : AV} {v : Value} (hx : flat1 x = true) (h : RepA β S w x v) : RepA β' S' w x v := by
  cases x <;> simp [flat1] at hx <;> simp only [RepA] at h ⊢
  · exact RepX.mono hk _ _ h
  · exact h

theorem gives_introM {P : Program} {G : List (Nat × Dat)} {f : FuncId} {fn : Func} {c : Code} {xs : List AV} {os os' : List (Nat × AObj)} {rs : List Dat} (rows lits apps : List Nat) (hf : P.funcs[f]? = some fn) (hb : fn.body = some c) (hname : (fn.name == "runtime.NumGoroutine") = false) (hn : xs.length ≤ fn.ntmps)
    (hid : ∀ p ∈ os, fn.ntmps ≤ p.1) (hos : os'.map (·.1) = os.map (·.1)) (hflat : ∀ p ∈ os', flatO p.2 = true)
    (h : ∀ F : FC, F.P = P → F.G = G → F.N = fn.ntmps → (F.rows = rows ∧ F.lits = lits ∧ F.apps = apps) → AWp F c (QRetM F fn.results.toList rs os') (.initM xs os)) : GivesM P G f xs os rs os' := by
  refine ⟨⟨fn, c, hf, hb, hname⟩, fun w β S vals hs hv => ?_⟩
  let F : FC := ⟨P, fn.ntmps, G, w, MB os β, S, rows, lits, apps, β⟩
  have hvl : ∀ {l : List AV} {us : List Value}, RepAL β S w l us → us.length = l.length ∧ ∀ (i : Nat) (d : AV), l[i]? = some d → ∃ v, us[i]? = some v ∧ RepA β S w d v := by
    intro l
    induction l with
    | nil => intro us h; simp [RepAL] at h; subst h; simp
    | cons d l ih =>
      intro us h
      simp only [RepAL] at h
      obtain ⟨u, us', rfl, h1, h2⟩ := h
      obtain ⟨h3, h4⟩ := ih h2
      refine ⟨by simp [h3], fun i d' hd => ?_⟩
      cases i with
      | zero => simp at hd; subst hd; exact ⟨u, by simp, h1⟩
      | succ i => simpa using h4 i d' (by simpa using hd)
  obtain ⟨hlen, hget⟩ := hvl hv
  have hsim : SimB F β S (.initM xs os) (vals ++ Array.replicate (fn.ntmps - vals.size) undef) w := by
    refine ⟨hs.ext, hs.glob, hs.sub, hs.lt, hs.sep, hs.inj, hs.obj, fun n => ?_, ⟨by simp [F]; omega, fun _ _ => rfl⟩⟩
    simp only [ASt.initM, Av.initM]
    split
    · rename_i d hd
      obtain ⟨v, hv', hr⟩ := hget n d hd
      have hnl : n < vals.size := by have := (List.getElem?_eq_some_iff.1 hv').1; simpa using this
      have hv2 : vals[n]? = some v := by simpa using hv'
      simp only [Array.getD_eq_getD_getElem?]
      rw [Array.getElem?_append_left hnl, hv2]
      exact hr
    · simp [RepA]
  refine calls_of_wp hf hb ?_
  refine Code.wp_mono ?_ (h F rfl rfl rfl ⟨rfl, rfl, rfl⟩ { tmps := vals ++ Array.replicate (fn.ntmps - vals.size) undef, defers := [] } w ⟨rfl, _, S, hsim⟩)
  intro e a' w' hq
  obtain ⟨st', hq, hdf, β', S', hs'⟩ := hq
  have fin : (resA F st' fn.results.toList).1 ∧ mapO (viewD (fun _ => none) 6) (resA F st' fn.results.toList).2 = some rs ∧ objsAre st'.objs os' → a'.defers = [] ∧ ∃ v, (results fn a'.tmps).run P w' = .ok v w' ∧ ∃ v' S2, Ending.returned v = .returned v' ∧ (∀ b i, S b i → S2 b i) ∧ SimB (FC0 P G w os β S) β S2 (.os os') #[] w' ∧ RetRep S2 w' rs v' := by
    rintro ⟨h1, h2, h3⟩
    let S2 : Nat → Nat → Prop := fun b i => S b i ∨ (w.heap.size ≤ b ∧ b < w'.heap.size)
    have hk : Keeps S' S2 w' w' := Keeps.wider w' fun b i hA => by
      rcases hs'.sub b i hA with h | h
      · exact .inl h
      · exact .inr ⟨h, hs'.lt b i hA⟩
    obtain ⟨vs, hrun, hrep⟩ := run_results hs' fn.results.toList h1
    have hm : (fn.results.mapM (resOne a'.tmps)).run P w' = .ok vs.toArray w' := by
      rw [Array.mapM_eq_mapM_toList, Sem.run_map]
      have : F.P = P := rfl
      rw [this] at hrun
      rw [hrun]
      rfl
    have hless : SimB F β' S' ⟨st'.env, fun _ => none⟩ a'.tmps w' := hs'.less (fun n => .inl rfl) (fun i o h => by simp at h)
    have hk2 : Keeps (AllS ⟨st'.env, fun _ => none⟩ β' S') S2 w' w' := fun b i hA => by
      rcases hA with hA | ⟨id, o, s, ho, hb'⟩
      · exact hk b i hA
      · simp at ho
    have hRV : RepV S2 w' rs vs := repV_views (fun x d hx v hr => RepX.mono hk2 d v ((viewD_rep hless 6 x d hx).1 v hr)) h2 hrep
    have hids : ∀ {id o}, objL os' id = some o → ∃ o', objL os id = some o' ∧ fn.ntmps ≤ id := fun {id o} ho => by
      have h4 := objL_mem ho
      have h5 : id ∈ os.map (·.1) := by rw [← hos]; exact List.mem_map.2 ⟨_, h4, rfl⟩
      obtain ⟨o', ho'⟩ := objL_some h5
      exact ⟨o', ho', hid _ (objL_mem ho')⟩
    have hlow : ∀ {id o b s}, objL os' id = some o → β id = some (b, s) → b < w.heap.size := fun {id o b s} ho hb' => by
      obtain ⟨o', ho', _⟩ := hids ho
      exact hs.block_lt (id := id) ho' hb'
    have hpin : ∀ {id o}, objL os' id = some o → β' id = β id := fun {id o} ho => by
      obtain ⟨o', ho', hge⟩ := hids ho
      exact hs'.size.2 id hge
    refine ⟨hdf, if h : vs.toArray.size = 1 then vs.toArray[0] else .tuple vs.toArray, ?_, _, S2, rfl, fun b i h => .inl h, ?_, ?_⟩
    · rw [results_eq, Sem.run_bind, hm]
      rfl
    · refine ⟨hs'.ext, hs.glob, fun b i hA => ?_, fun b i hA => ?_, fun id o b s i ho hb' hA => ?_, fun id id' o o' b s s' ho ho' hb1 hb2 => ?_, fun id o ho => ?_, fun n => ?_, ⟨by simp [FC0], fun _ _ => rfl⟩⟩
      · rcases hA with hA | hA
        · exact .inl hA
        · exact .inr hA.1
      · rcases hA with hA | hA
        · exact Nat.lt_of_lt_of_le (hs.lt b i hA) hs'.ext.size
        · exact hA.2
      · replace ho : objL os' id = some o := ho
        rcases hA with hA | hA
        · obtain ⟨o', ho', _⟩ := hids ho
          exact hs.sep id o' b s i ho' hb' hA
        · have := hlow ho hb'; omega
      · obtain ⟨p, hp, _⟩ := hids (id := id) (o := o) ho
        obtain ⟨p', hp', _⟩ := hids (id := id') (o := o') ho'
        exact hs.inj id id' p p' b s s' hp hp' hb1 hb2
      · replace ho : objL os' id = some o := ho
        rcases hs'.obj id o (objsAre_at h3 ho) with ⟨hn', he⟩ | ⟨b', s', arr, e, hb', hw, hh, hz, hel⟩ | hm
        rotate_left 2
        · exact .inr (.inr (hm.mono (hpin ho).symm hk fun _ _ => rfl))
        · exact .inl ⟨by rw [← hpin ho]; exact hn', he⟩
        · refine .inr (.inl ⟨b', s', arr, e, by rw [← hpin ho]; exact hb', hw, hh, hz, fun k x hx => ⟨(hel k x hx).1, fun i c hc => ?_⟩⟩)
          obtain ⟨v, hv1, hv2, hv3⟩ := (hel k x hx).2 i c hc
          refine ⟨v, hv1, hv2, flat1_rep hk ?_ hv3⟩
          have hf1 := hflat _ (objL_mem ho)
          simp only [flatO, List.all_eq_true] at hf1
          exact hf1 x (List.mem_of_getElem? hx) c (List.mem_of_getElem? hc)
      · simp [ASt.os, RepA]
    · unfold RetRep
      split
      · rename_i r
        simp only [RepV] at hRV
        obtain ⟨v, vs', rfl, h3, h4⟩ := hRV
        subst h4
        simpa using h3
      · rename_i hne
        have hvl2 : ∀ {l : List Dat} {us : List Value}, RepV S2 w' l us → us.length = l.length := by
          intro l
          induction l with
          | nil => intro us h; simp [RepV] at h; simp [h]
          | cons d l ih =>
            intro us h
            simp only [RepV] at h
            obtain ⟨u, us', rfl, _, h2⟩ := h
            simp [ih h2]
        have hl : vs.length = rs.length := hvl2 hRV
        rw [dif_neg]
        · exact ⟨vs.toArray, rfl, by simpa using hRV⟩
        · intro h1
          simp at h1
          rw [hl] at h1
          obtain ⟨r, hr⟩ := List.length_eq_one_iff.1 h1
          exact hne r hr
  cases e with
  | normal => exact fin hq
  | ret => exact fin hq
  | _ => exact hq.elim

end Go.Av

