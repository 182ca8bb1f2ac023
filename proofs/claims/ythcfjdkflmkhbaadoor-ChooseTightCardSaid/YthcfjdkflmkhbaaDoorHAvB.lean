/- Operations that make memory: variables, literals of slices, make, append; and a store. -/
import Derived.Test.YthcfjdkflmkhbaaDoorHAvA
set_option linter.all false
namespace Go.Av

theorem SimB.drew {F : FC} {β : Places} {S : Nat → Nat → Prop} {st : ASt} {tm : Array Value} {w : World} (hs : SimB F β S st tm w) : SimB F β S st tm w.drew :=
  hs.world (Ext.drew (fun _ => False) w) (fun _ _ h => h.elim) (fun _ _ h => ⟨h, rfl⟩) hs.sub hs.lt hs.sep (fun _ _ _ _ _ _ => rfl)

/-- Whether a cell of this kind can be stored. -/
def AV.unit : AV → Bool
  | .dat d => !d.isAgg
  | .osl _ _ _ _ | .nils | .ptr _ _ _ _ | .gl _ _ | .rp _ _ | .fn _ _ | .raw _ => true
  | _ => false

def AV.storable : AV → Bool
  | .dat _ => true
  | x => x.cells.all AV.unit

theorem unit_one {β : Places} {S : Nat → Nat → Prop} {w : World} {x : AV} {v : Value} (hu : x.unit = true) (h : RepA β S w x v) : v.oneCell' = true := by
  cases x <;> simp [AV.unit] at hu
  · simp only [RepA] at h; exact rep1_one (rep1_of_repX hu h)
  · simp only [RepA] at h
    rcases h with ⟨_, _, a, rfl⟩ | ⟨b, s, cap, arr, e, a, _, rfl, _⟩ <;> rfl
  · simp only [RepA] at h; obtain ⟨a, rfl⟩ := h; rfl
  · simp only [RepA] at h; obtain ⟨b, s, _, rfl⟩ := h; rfl
  · simp only [RepA] at h; subst h; rfl
  · simp only [RepA] at h; obtain ⟨b, o, rfl, _⟩ := h; rfl
  · simp only [RepA] at h; obtain ⟨vs, rfl, _⟩ := h; rfl
  · simp only [RepA] at h; exact h.2

theorem repL_one {S : Nat → Nat → Prop} {w : World} {l : List Dat} {vs : List Value} (h : RepL S w l vs) : ∀ v ∈ vs, v.oneCell' = true := fun v hv => by
  obtain ⟨i, hi⟩ := List.getElem?_of_mem hv
  have hl := repL_length h
  have hlt : i < l.length := by
    have := (List.getElem?_eq_some_iff.1 hi).1
    omega
  obtain ⟨v', hv', hr⟩ := repL_get h (List.getElem?_eq_getElem hlt)
  rw [hi] at hv'
  simp only [Option.some.injEq] at hv'
  exact hv' ▸ rep1_one hr

/-- The cells of what can be stored. -/
theorem storable_cells {β : Places} {S : Nat → Nat → Prop} {w : World} {x : AV} {v : Value} (hx : x.storable = true) (h : RepA β S w x v) : RepAL β S w x.cells v.cells.toList ∧ ∀ u ∈ v.cells.toList, u.oneCell' = true := by
  have hc : RepAL β S w x.cells v.cells.toList := by
    refine repA_cells h ?_ ?_ ?_ <;> intros <;> intro e <;> subst e <;> simp [AV.storable, AV.cells, AV.unit] at hx
  refine ⟨hc, ?_⟩
  intro u hu
  obtain ⟨i, hi⟩ := List.getElem?_of_mem hu
  have hlt : i < x.cells.length := by
    have := (List.getElem?_eq_some_iff.1 hi).1
    have := repAL_length hc
    omega
  obtain ⟨u', hu', hr⟩ := repAL_get hc (List.getElem?_eq_getElem hlt)
  rw [hi] at hu'
  simp only [Option.some.injEq] at hu'
  subst hu'
  by_cases hd : ∃ d, x = .dat d
  · obtain ⟨d, rfl⟩ := hd
    simp only [RepA] at h
    by_cases ha : d.isAgg = false
    · have h1 := rep1_one (rep1_of_repX ha h)
      have : v.cells = #[v] := by cases v <;> simp_all [Value.cells, Value.oneCell']
      rw [this] at hu
      simp at hu
      exact hu ▸ h1
    · cases d <;> simp_all [Dat.isAgg]
      simp only [RepX] at h
      obtain ⟨cs, rfl, hl⟩ := h
      exact repL_one hl u (by simpa [Value.cells] using hu)
  · have hall : x.cells.all AV.unit = true := by
      cases x <;> simp_all [AV.storable]
    exact unit_one (List.all_eq_true.1 hall _ (List.getElem_mem hlt)) hr

/-- What a step is good for: from whatever is in the state st the operation comes to something in the state st'. -/
def StepOK (F : FC) (o : Oper) (st st' : ASt) : Prop :=
  ∀ (a : Act) (w : World), Sim F st a w → ∀ (K : Act → World → Prop) (Q : Exit → Act → World → Prop), (∀ a' w', Sim F st' a' w' → K a' w') → o.wp F.P a w K Q

def dstOK (F : FC) : Option Nat → Prop
  | some d => d < F.N
  | none => True

theorem StepOK.of_value {F : FC} {o : Oper} {st st1 st' : ASt} {x : AV} (hd : dstOK F o.dst) (he : st' = st1.put o.dst x)
    (h : ∀ (β : Places) (S : Nat → Nat → Prop) (a : Act) (w : World), SimB F β S st a.tmps w → ∃ r w' β' S', (execOp a.eval o).run F.P w = .ok (.value r) w' ∧ RepA β' S' w' x r ∧ SimB F β' S' st1 a.tmps w') : StepOK F o st st' := by
  intro a w hsim K Q hK
  obtain ⟨hdf, β, S, hs⟩ := hsim
  obtain ⟨r, w', β', S', hrun, hrep, hs'⟩ := h β S a w hs
  unfold Oper.wp
  rw [hrun]
  simp only [Oper.upon_value]
  refine hK _ _ ?_
  subst he
  cases ho : o.dst with
  | none => exact ⟨hdf, β', S', by simpa [Act.put, ASt.put] using hs'⟩
  | some d =>
    rw [ho] at hd
    exact ⟨hdf, β', S', by simpa [Act.put] using hs'.put hd hrep⟩

theorem StepOK.of_skip {F : FC} {o : Oper} {st st' : ASt} (hd : o.dst = none)
    (h : ∀ (β : Places) (S : Nat → Nat → Prop) (a : Act) (w : World), SimB F β S st a.tmps w → ∃ w' β' S', (execOp a.eval o).run F.P w = .ok .skip w' ∧ SimB F β' S' st' a.tmps w') : StepOK F o st st' := by
  intro a w hsim K Q hK
  obtain ⟨hdf, β, S, hs⟩ := hsim
  obtain ⟨w', β', S', hrun, hs'⟩ := h β S a w hs
  unfold Oper.wp
  rw [hrun]
  simp only [Oper.upon_skip]
  rw [hd]
  exact hK _ _ ⟨hdf, β', S', hs'⟩

/-- A zero value, as the frame knows it. -/
def zeroA (i : TI) : Option AV :=
  match i.zero with
  | some z => if i.tk.isAgg then some (mkAgg z) else match z with
    | [x] => some x
    | _ => none
  | none => none

theorem zeroA_rep {P : Program} {β : Places} {S : Nat → Nat → Prop} {w : World} {t : TypeId} {i : TI} {x : AV} (ht : ti P t = some i) (hz : zeroA i = some x) (hx : x.storable = true) :
    ∃ v, (zeroValue t).run P w = .ok v w ∧ RepAL β S w x.cells v.cells.toList ∧ ∀ u ∈ v.cells.toList, u.oneCell' = true := by
  unfold zeroA at hz
  split at hz <;> try (simp at hz; done)
  rename_i z hzz
  obtain ⟨v, hv, rfl⟩ := run_zeroValue (w := w) ht hzz
  split at hz
  · simp only [Option.some.injEq] at hz
    subst hz
    have hr : RepA β S w (mkAgg (v.cells.toList.map avOf)) (.agg v.cells) := mkAgg_rep (repAL_avOf _)
    exact ⟨v, hv, by simpa [Value.cells] using storable_cells hx hr⟩
  · split at hz <;> try (simp at hz; done)
    rename_i y hy
    simp only [Option.some.injEq] at hz
    subst hz
    cases hc : v.cells.toList with
    | nil => simp [hc] at hy
    | cons u us =>
      simp only [hc, List.map_cons, List.cons.injEq, List.map_eq_nil_iff] at hy
      obtain ⟨rfl, rfl⟩ := hy
      have hr : RepA β S w (avOf u) u := avOf_rep u
      have h1 := storable_cells hx hr
      have hu : u.cells = #[u] ∨ ∃ cs, u = .agg cs := by cases u <;> simp [Value.cells]
      rcases hu with hu | ⟨cs, rfl⟩
      · rw [hu] at h1
        exact ⟨v, hv, by rw [hc]; simpa using h1⟩
      · exfalso
        simp [avOf, Value.oneCell', AV.storable, AV.cells, AV.unit] at hx

theorem alloc_ok {F : FC} {o : Oper} {st : ASt} {d : Nat} {t : TypeId} {i : TI} {z : AV} (ho : o.op = .alloc t) (hdst : o.dst = some d) (hd : d < F.N) (ht : ti F.P t = some i) (hz : zeroA i = some z) (hs : z.storable = true) (hl : z.cells.length = i.size) :
    StepOK F o st (((st.kill d).obj d ⟨i.size, [z.kill d]⟩).put (some d) (.ptr d i.size 0 0)) := by
  refine StepOK.of_value (by rw [hdst]; exact hd) (by rw [hdst]) fun β S a w hsim => ?_
  obtain ⟨v, hv, hr, h1⟩ := zeroA_rep (β := β) (S := S) (w := w) ht hz hs
  have hn := hsim.newObj d hd v.cells t i.size [z] (by have := repAL_length hr; simp at this ⊢; omega) (fun k x hx => by
    cases k with
    | zero =>
      simp at hx; subst hx
      refine ⟨hl, fun j c hj => ?_⟩
      obtain ⟨u, hu, hru⟩ := repAL_get hr hj
      exact ⟨u, by simpa using hu, h1 u (List.mem_of_getElem? hu), hru⟩
    | succ k => simp at hx)
  refine ⟨.pointer (some ⟨w.heap.size, 0, none⟩), w.alloc (.cells v.cells t), _, _, ?_, ?_, hn⟩
  · simp [execOp, ho, Instr.alloc, hv, newVar, newRow]
  · simp only [RepA]
    exact ⟨_, _, upd_same _ _ _, by simp⟩

theorem box_ok {F : FC} {o : Oper} {st : ASt} {d : Nat} {t : TypeId} {y : Operand} (ho : o.op = .box t y) (hdst : o.dst = some d) (hd : d < F.N) (hs : (evA st.env y).storable = true) :
    StepOK F o st (((st.kill d).obj d ⟨(evA st.env y).cells.length, [(evA st.env y).kill d]⟩).put (some d) (.ptr d (evA st.env y).cells.length 0 0)) := by
  refine StepOK.of_value (by rw [hdst]; exact hd) (by rw [hdst]) fun β S a w hsim => ?_
  have hr0 := evA_rep (a := a) hsim.env y
  obtain ⟨hr, h1⟩ := storable_cells hs hr0
  have hn := hsim.newObj d hd (a.eval y).cells t (evA st.env y).cells.length [evA st.env y] (by have := repAL_length hr; simp at this ⊢; omega) (fun k x hx => by
    cases k with
    | zero =>
      simp at hx; subst hx
      refine ⟨rfl, fun j c hj => ?_⟩
      obtain ⟨u, hu, hru⟩ := repAL_get hr hj
      exact ⟨u, by simpa using hu, h1 u (List.mem_of_getElem? hu), hru⟩
    | succ k => simp at hx)
  refine ⟨.pointer (some ⟨w.heap.size, 0, none⟩), w.alloc (.cells (a.eval y).cells t), _, _, ?_, ?_, hn⟩
  · simp [execOp, ho, Instr.box, newVar, newRow]
  · simp only [RepA]
    exact ⟨_, _, upd_same _ _ _, by simp⟩

end Go.Av

namespace Go.Av

theorem storable_units {β : Places} {S : Nat → Nat → Prop} {w : World} {x : AV} {v : Value} (hx : x.storable = true) (h : RepA β S w x v) : ∀ c ∈ x.cells, c.unit = true := by
  by_cases hd : ∃ d, x = .dat d
  · obtain ⟨d, rfl⟩ := hd
    simp only [RepA] at h
    intro c hc
    rw [dat_cells] at hc
    obtain ⟨c', hc', rfl⟩ := List.mem_map.1 hc
    by_cases ha : d.isAgg = false
    · have : d.cells = [d] := by cases d <;> simp_all [Dat.isAgg]
      rw [this] at hc'
      simp at hc'
      subst hc'
      simp [AV.unit, ha]
    · cases d <;> simp_all [Dat.isAgg]
      simp only [RepX] at h
      obtain ⟨cs, rfl, hl⟩ := h
      obtain ⟨i, hi⟩ := List.getElem?_of_mem hc'
      obtain ⟨u, _, hu⟩ := repL_get hl hi
      cases c' <;> simp_all [AV.unit, Dat.isAgg, Rep1]
  · have hall : x.cells.all AV.unit = true := by cases x <;> simp_all [AV.storable]
    exact List.all_eq_true.1 hall

theorem flatten_get {α : Type} {n : Nat} : ∀ {L : List (List α)}, (∀ l ∈ L, l.length = n) → ∀ {k j : Nat} {l : List α}, L[k]? = some l → j < n → L.flatten[k * n + j]? = l[j]?
  | [], _, k, j, l, h, _ => by simp at h
  | x :: L, hL, k, j, l, h, hj => by
    have hx : x.length = n := hL x (by simp)
    cases k with
    | zero =>
      simp at h; subst h
      simp only [Nat.zero_mul, Nat.zero_add, List.flatten_cons]
      rw [List.getElem?_append_left (by omega)]
    | succ k =>
      simp only [List.flatten_cons]
      rw [List.getElem?_append_right (by rw [Nat.add_mul]; omega), show (k + 1) * n + j - x.length = k * n + j from by rw [Nat.add_mul]; omega]
      exact flatten_get (fun l hl => hL l (by simp [hl])) (by simpa using h) hj

theorem flatten_length {α : Type} {n : Nat} : ∀ {L : List (List α)}, (∀ l ∈ L, l.length = n) → L.flatten.length = L.length * n
  | [], _ => by simp
  | x :: L, hL => by
    have ih := flatten_length (n := n) (L := L) (fun l hl => hL l (List.mem_cons_of_mem _ hl))
    rw [List.flatten_cons, List.length_append, ih, hL x (by simp), List.length_cons, Nat.add_mul]
    omega

/-- A literal whose parts stand in order: its cells are the parts' cells. -/
theorem fillA_range {size : Nat} : ∀ (parts : List (Nat × AV)) (k : Nat) (done cells : List AV), parts.map (·.1) = List.range' k parts.length → (∀ p ∈ parts, p.2.solid = true ∧ p.2.cells.length = size) → done.length = k * size → cells.length = parts.length * size →
    (fillA (fun i => some (i * size, size)) (done ++ cells) parts).1 ∧ (fillA (fun i => some (i * size, size)) (done ++ cells) parts).2 = done ++ (parts.map (·.2.cells)).flatten
  | [], k, done, cells, _, _, _, hl => by
    have : cells = [] := List.eq_nil_of_length_eq_zero (by simpa using hl)
    simp [fillA, this]
  | (i, x) :: parts, k, done, cells, hm, hp, hd, hl => by
    simp only [List.map_cons, List.length_cons, List.range'_succ, List.cons.injEq] at hm
    obtain ⟨rfl, hm⟩ := hm
    obtain ⟨hs, hc⟩ := hp (i, x) (by simp)
    simp only at hs hc
    simp only [List.length_cons, Nat.add_mul, Nat.one_mul] at hl
    have e : (done ++ cells).take (i * size) ++ x.cells ++ (done ++ cells).drop (i * size + x.cells.length) = (done ++ x.cells) ++ cells.drop size := by
      rw [← hd, List.take_left, List.drop_append, hc, List.drop_of_length_le (by omega)]
      simp [show done.length + size - done.length = size from by omega]
    have ih := fillA_range parts (i + 1) (done ++ x.cells) (cells.drop size) hm (fun p h => hp p (by simp [h])) (by simp [hc, hd, Nat.add_mul]) (by simp; omega)
    simp only [fillA, e]
    refine ⟨⟨⟨⟨hs, hc⟩, by simp; omega⟩, ih.1⟩, ?_⟩
    rw [ih.2]
    simp [List.append_assoc]

/-- What a literal of a slice comes to. -/
theorem run_buildSlice {P : Program} {β : Places} {S : Nat → Nat → Prop} {w : World} {t e : TypeId} {i j : TI} {z : List AV} (ht : ti P t = some i) (hk : i.tk = .slice e) (hj : ti P e = some j) (hz : j.zero = some z) (hzl : z.length = j.size)
    {len : Nat} {parts : List (Nat × AV)} {vparts : Array (Nat × Value)} (hlen : len = parts.length) (hbig : len * j.size ≤ 16777216) (hidx : parts.map (·.1) = List.range len)
    (hm : parts.map (·.1) = vparts.toList.map (·.1)) (hr : ∀ (k : Nat) (x : Nat × AV) (y : Nat × Value), parts[k]? = some x → vparts.toList[k]? = some y → RepA β S w x.2 y.2)
    (hp : ∀ p ∈ parts, p.2.storable = true ∧ p.2.cells.length = j.size) :
    ∃ out : Array Value, (Instr.buildSlice t len vparts).run P w = .ok (.slice (some ⟨w.heap.size, 0, none⟩) len len) (w.alloc (.cells out e)) ∧ out.size = len * j.size ∧
      ∀ (k : Nat) (x : AV), (parts.map (·.2))[k]? = some x → x.cells.length = j.size ∧ ∀ (m : Nat) (c : AV), x.cells[m]? = some c → ∃ v, out[k * j.size + m]? = some v ∧ v.oneCell' = true ∧ RepA β S w c v := by
  subst hlen
  obtain ⟨_, u, _, hu, _, _, _, hkk⟩ := ti_info ht
  rw [hk] at hkk
  have hu' := tk_slice hkk.symm
  subst hu'
  obtain ⟨zv, hzr, hze⟩ := run_zeroValue (w := w) hj hz
  have hzs : zv.cells.size = j.size := by have := congrArg List.length hze; simp at this; omega
  let zero : Array Value := (Array.range (parts.length * j.size)).map (fun q => (if parts.length * j.size = 0 then #[] else zv.cells)[q % (if parts.length * j.size = 0 then #[] else zv.cells).size]!)
  have hzl0 : zero.size = parts.length * j.size := by simp [zero]
  have hzrep : RepAL β S w (zero.toList.map avOf) zero.toList := repAL_avOf _
  have hsol : ∀ p ∈ parts, p.2.solid = true ∧ p.2.cells.length = j.size := fun p hpp => by
    obtain ⟨h1, h2⟩ := hp p hpp
    refine ⟨?_, h2⟩
    cases hx : p.2 <;> simp [hx, AV.storable, AV.cells, AV.unit, AV.solid] at h1 ⊢
  obtain ⟨hf1, hf2⟩ := fillA_range (size := j.size) parts 0 [] (zero.toList.map avOf) (by rw [hidx, List.range_eq_range']) hsol (by simp) (by simp [hzl0])
  simp only [List.nil_append] at hf1 hf2
  obtain ⟨out, ho, hout⟩ := fillA_rep (fun q => some (q * j.size, j.size)) parts vparts.toList _ zero.toList hm hr hzrep hf1
  rw [hf2] at hout
  have hunif : ∀ l ∈ parts.map (·.2.cells), l.length = j.size := fun l hl => by
    obtain ⟨p, hpp, rfl⟩ := List.mem_map.1 hl
    exact (hp p hpp).2
  refine ⟨out, ?_, ?_, ?_⟩
  · have hb : ¬ (parts.length * j.size > 16777216) := by omega
    by_cases h0 : parts.length * j.size = 0
    · have hzero : zero.toList.toArray = (Array.range (parts.length * j.size)).map (fun q => (#[] : Array Value)[q % (#[] : Array Value).size]!) := by rw [Array.toArray_toList]; simp only [zero, h0, if_true]
      rw [hzero] at ho
      have hb' : ¬ (2 ^ 24 < parts.length * j.size) := by omega
      simp only [h0] at ho hb'
      simp only [Instr.buildSlice, Sem.run_bind, run_underlying hu, Result.andThen_ok, run_sizeOf hj, gt_iff_lt, h0, hb', if_false, Sem.run_pure, if_true]
      simp only [ho]
      simp [newRow]
    · have hzero : zero.toList.toArray = (Array.range (parts.length * j.size)).map (fun q => zv.cells[q % zv.cells.size]!) := by apply Array.toList_inj.1; simp [zero, h0]
      rw [hzero] at ho
      have hb' : ¬ (2 ^ 24 < parts.length * j.size) := by omega
      simp only [Instr.buildSlice, Sem.run_bind, run_underlying hu, Result.andThen_ok, run_sizeOf hj, gt_iff_lt, hb', if_false, Sem.run_pure, h0, hzr]
      simp only [ho]
      simp [newRow]
  · have := repAL_length hout
    rw [flatten_length hunif] at this
    simpa using this
  · intro k x hx
    rw [List.getElem?_map] at hx
    cases hpk : parts[k]? with
    | none => simp [hpk] at hx
    | some p =>
      simp only [hpk, Option.map_some, Option.some.injEq] at hx
      subst hx
      obtain ⟨hst, hcl⟩ := hp p (List.mem_of_getElem? hpk)
      refine ⟨hcl, fun m c hc => ?_⟩
      have hmlt : m < j.size := by
        have := (List.getElem?_eq_some_iff.1 hc).1
        omega
      have hfl := flatten_get hunif (k := k) (j := m) (l := p.2.cells) (by simp [hpk]) hmlt
      rw [hc] at hfl
      obtain ⟨v, hv, hrv⟩ := repAL_get hout hfl
      have hvp : ∃ y, vparts.toList[k]? = some y := by
        have hl := congrArg List.length hm
        simp only [List.length_map] at hl
        have hlt : k < vparts.toList.length := by
          have := (List.getElem?_eq_some_iff.1 hpk).1
          omega
        exact ⟨_, List.getElem?_eq_getElem hlt⟩
      obtain ⟨y, hy⟩ := hvp
      exact ⟨v, by simpa using hv, unit_one (storable_units hst (hr k p y hpk hy) c (List.mem_of_getElem? hc)) hrv, hrv⟩

/-- The data of elements that are data. -/
def datE : List AV → Option (List Dat)
  | [] => some []
  | .dat d :: l => (datE l).map (d :: ·)
  | _ :: _ => none

@[simp] theorem datE_map (l : List Dat) : datE (l.map .dat) = some l := by induction l <;> simp_all [datE]

theorem datE_eq : ∀ {l : List AV} {ds : List Dat}, datE l = some ds → l = ds.map .dat
  | [], ds, h => by simp [datE] at h; subst h; rfl
  | x :: l, ds, h => by
    cases x <;> simp only [datE] at h <;> try (simp at h; done)
    cases hl : datE l with
    | none => simp [hl] at h
    | some ds' =>
      simp only [hl, Option.map_some, Option.some.injEq] at h
      subst h
      simp [datE_eq hl]

theorem repS_block {S S' : Nat → Nat → Prop} {w w' : World} {es b : Nat} {β : Places} {ds : List Dat} {arr : Array Value} {e : TypeId} {fr : Nat × Nat} (hk : Keeps S S' w w') (hsh : Shapes w w') (hb : w'.heap[b]? = some (.cells arr e fr)) (hS : ∀ i, S' b i) (s : Nat)
    (h : ∀ (k : Nat) (x : AV), (ds.map AV.dat)[k]? = some x → x.cells.length = es ∧ ∀ (m : Nat) (c : AV), x.cells[m]? = some c → ∃ v, arr[s + k * es + m]? = some v ∧ v.oneCell' = true ∧ RepA β S w c v) :
    RepS S' w' es ds (some ⟨b, s, none⟩) := by
  refine repS_of fun k d hd => ?_
  obtain ⟨hc, hm⟩ := h k (.dat d) (by simp [hd])
  rw [dat_cells, List.length_map] at hc
  refine ⟨hc, repC_of fun m c hcm => ?_⟩
  obtain ⟨v, hv, h1, hr⟩ := hm m (.dat c) (by rw [dat_cells]; simp [hcm])
  refine ⟨hS _, v, by rw [cell_of_row w' b _ arr e fr hb]; exact hv, ?_⟩
  simp only [RepA] at hr
  refine Rep1.mono hk c v (rep1_of_repX ?_ hr)
  cases c <;> simp [Dat.isAgg]
  simp only [RepX] at hr
  obtain ⟨cs, rfl, _⟩ := hr
  simp [Value.oneCell'] at h1

end Go.Av

namespace Go.Av

/-- A literal of a slice of data. -/
theorem buildSlice_ok {F : FC} {o : Oper} {st : ASt} {d : Nat} {t e : TypeId} {i j : TI} {z : List AV} {len : Nat} {parts : Array (Nat × Operand)} {ds : List Dat}
    (ho : o.op = .buildSlice t len parts) (hdst : o.dst = some d) (hd : d < F.N) (ht : ti F.P t = some i) (hk : i.tk = .slice e) (hj : ti F.P e = some j) (hz : j.zero = some z) (hzl : z.length = j.size)
    (hlen : len = parts.size) (hbig : len * j.size ≤ 16777216) (hidx : parts.toList.map (·.1) = List.range len)
    (hdat : datE (parts.toList.map fun p => evA st.env p.2) = some ds) (hp : ∀ d ∈ ds, d.cells.length = j.size) :
    StepOK F o st (st.put (some d) (.dat (.sl ds))) ∧ StepOK F o st (st.put (some d) (.lits ds)) := by
  have both : ∀ (β : Places) (S : Nat → Nat → Prop) (a : Act) (w : World), SimB F β S st a.tmps w → ∃ r w' β' S', (execOp a.eval o).run F.P w = .ok (.value r) w' ∧ (RepA β' S' w' (.dat (.sl ds)) r ∧ RepA β' S' w' (.lits ds) r) ∧ SimB F β' S' st a.tmps w' := by
   intro β S a w hsim
   have hel := datE_eq hdat
   have hlds : ds.length = len := by have := congrArg List.length hel; simp at this; omega
   obtain ⟨out, hrun, hsz, hcells⟩ := run_buildSlice (P := F.P) (β := β) (S := S) (w := w) ht hk hj hz hzl (len := len) (parts := parts.toList.map fun p => (p.1, evA st.env p.2)) (vparts := parts.map fun (i, x) => (i, a.eval x))
     (by simpa using hlen) hbig (by simpa [Function.comp_def] using hidx) (by simp [Function.comp_def])
     (fun k x y hx hy => by
       simp only [Array.toList_map, List.getElem?_map] at hx hy
       cases hpk : parts.toList[k]? with
       | none => simp [hpk] at hx
       | some p =>
         simp only [hpk, Option.map_some, Option.some.injEq] at hx hy
         subst hx; subst hy
         exact evA_rep hsim.env p.2)
     (fun p hpp => by
       obtain ⟨q, hq, rfl⟩ := List.mem_map.1 hpp
       have : evA st.env q.2 ∈ ds.map AV.dat := by rw [← hel]; exact List.mem_map.2 ⟨q, hq, rfl⟩
       obtain ⟨x, hx, hxe⟩ := List.mem_map.1 this
       simp only [← hxe]
       exact ⟨rfl, by rw [dat_cells]; simpa using hp x hx⟩)
   have hn := hsim.newDat (.cells out e)
   refine ⟨.slice (some ⟨w.heap.size, 0, none⟩) len len, w.alloc (.cells out e), _, _, ?_, ?_, hn⟩
   · simp only [execOp, ho, Sem.run_bind, hrun, Result.andThen_ok, Sem.run_pure]
   · have hrs : RepS (fun b i => S b i ∨ b = w.heap.size) (w.alloc (.cells out e)) j.size ds (some ⟨w.heap.size, 0, none⟩) := ?_
     · simp only [RepA, RepX]
       exact ⟨⟨j.size, _, len, by rw [hlds], by omega, hrs⟩, ⟨j.size, _, by rw [hlds], hrs⟩⟩
     refine repS_block (β := β) (S := S) (w := w) (arr := out) (e := e) (fr := (0, 0)) (keeps_alloc _ (fun _ _ h => .inl h) hsim.lt) (Shapes.alloc w _) (heap_alloc_new w _) (fun _ => .inr rfl) 0 fun k x hx => ?_
     have hmm : (List.map (fun x => x.snd) (List.map (fun p => (p.1, evA st.env p.2)) parts.toList)) = ds.map AV.dat := by rw [← hel]; simp [Function.comp_def]
     obtain ⟨h1, h2⟩ := hcells k x (by rw [hmm]; exact hx)
     exact ⟨h1, by simpa using h2⟩
  exact ⟨StepOK.of_value (by rw [hdst]; exact hd) (by rw [hdst]) fun β S a w hsim => by
      obtain ⟨r, w', β', S', h1, h2, h3⟩ := both β S a w hsim
      exact ⟨r, w', β', S', h1, h2.1, h3⟩,
    StepOK.of_value (by rw [hdst]; exact hd) (by rw [hdst]) fun β S a w hsim => by
      obtain ⟨r, w', β', S', h1, h2, h3⟩ := both β S a w hsim
      exact ⟨r, w', β', S', h1, h2.2, h3⟩⟩

/-- A literal of a slice that the frame will write to, or that holds what it will write to. -/
theorem buildSlice_obj_ok {F : FC} {o : Oper} {st : ASt} {d : Nat} {t e : TypeId} {i j : TI} {z : List AV} {len : Nat} {parts : Array (Nat × Operand)}
    (ho : o.op = .buildSlice t len parts) (hdst : o.dst = some d) (hd : d < F.N) (ht : ti F.P t = some i) (hk : i.tk = .slice e) (hj : ti F.P e = some j) (hz : j.zero = some z) (hzl : z.length = j.size)
    (hlen : len = parts.size) (hbig : len * j.size ≤ 16777216) (hidx : parts.toList.map (·.1) = List.range len)
    (hp : ∀ x ∈ parts.toList.map (fun p => evA st.env p.2), x.storable = true ∧ x.cells.length = j.size) :
    StepOK F o st (((st.kill d).obj d ⟨j.size, (parts.toList.map fun p => evA st.env p.2).map (AV.kill d)⟩).put (some d) (.osl d j.size 0 len)) := by
  refine StepOK.of_value (by rw [hdst]; exact hd) (by rw [hdst]) fun β S a w hsim => ?_
  obtain ⟨out, hrun, hsz, hcells⟩ := run_buildSlice (P := F.P) (β := β) (S := S) (w := w) ht hk hj hz hzl (len := len) (parts := parts.toList.map fun p => (p.1, evA st.env p.2)) (vparts := parts.map fun (i, x) => (i, a.eval x))
    (by simpa using hlen) hbig (by simpa [Function.comp_def] using hidx) (by simp [Function.comp_def])
    (fun k x y hx hy => by
      simp only [Array.toList_map, List.getElem?_map] at hx hy
      cases hpk : parts.toList[k]? with
      | none => simp [hpk] at hx
      | some p =>
        simp only [hpk, Option.map_some, Option.some.injEq] at hx hy
        subst hx; subst hy
        exact evA_rep hsim.env p.2)
    (fun p hpp => by
      obtain ⟨q, hq, rfl⟩ := List.mem_map.1 hpp
      exact hp _ (List.mem_map.2 ⟨q, hq, rfl⟩))
  have hmm : (List.map (fun x => x.snd) (List.map (fun p => (p.1, evA st.env p.2)) parts.toList)) = parts.toList.map fun p => evA st.env p.2 := by simp [Function.comp_def]
  rw [hmm] at hcells
  have hn := hsim.newObj d hd out e j.size (parts.toList.map fun p => evA st.env p.2) (by simp [hsz, hlen]) hcells
  refine ⟨.slice (some ⟨w.heap.size, 0, none⟩) len len, w.alloc (.cells out e), _, _, ?_, ?_, hn⟩
  · simp only [execOp, ho, Sem.run_bind, hrun, Result.andThen_ok, Sem.run_pure]
  · simp only [RepA]
    exact .inr ⟨w.heap.size, 0, len, out, e, _, upd_same _ _ _, rfl, fun _ => by simp, Nat.le_refl _, heap_alloc_new w _, by simp [hsz]⟩

theorem zero_get {z : Array Value} {n k m : Nat} (hk : k < n) (hm : m < z.size) : ((Array.range (n * z.size)).map (z[· % z.size]!))[k * z.size + m]? = z[m]? := by
  have hlt : k * z.size + m < n * z.size := by
    have : (k + 1) * z.size ≤ n * z.size := Nat.mul_le_mul_right _ hk
    rw [Nat.add_mul] at this
    omega
  have hmod : (k * z.size + m) % z.size = m := by rw [Nat.mul_comm, Nat.mul_add_mod]; exact Nat.mod_eq_of_lt hm
  simp [hlt, hmod, hm]

/-- make: a row of zero values. -/
theorem makeSlice_ok {F : FC} {o : Oper} {st : ASt} {d : Nat} {t e : TypeId} {i j : TI} {z : AV} {ln cp : Operand} {k k' : IntKind} {n m : Int}
    (ho : o.op = .makeSlice t ln cp) (hdst : o.dst = some d) (hd : d < F.N) (ht : ti F.P t = some i) (hk : i.tk = .slice e) (hj : ti F.P e = some j) (hz : zeroA j = some z) (hzs : z.storable = true) (hzl : z.cells.length = j.size)
    (hln : evA st.env ln = .dat (.int k n)) (hcp : evA st.env cp = .dat (.int k' m)) (h0 : 0 ≤ n) (h1 : n ≤ m) (h2 : m * j.bytes ≤ 281474976710656) (h3 : m ≤ 9223372036854775807) :
    StepOK F o st (((st.kill d).obj d ⟨j.size, (List.replicate n.toNat z).map (AV.kill d)⟩).put (some d) (.osl d j.size 0 n.toNat)) := by
  refine StepOK.of_value (by rw [hdst]; exact hd) (by rw [hdst]) fun β S a w hsim => ?_
  obtain ⟨j', u, hj', _, hjs, hjb, _, _⟩ := ti_info hj
  obtain ⟨_, u', _, hu, _, _, _, hkk⟩ := ti_info ht
  rw [hk] at hkk
  have hu' := tk_slice hkk.symm
  subst hu'
  obtain ⟨zv, hzr, hzrep, hz1⟩ := zeroA_rep (β := β) (S := S) (w := w) hj hz hzs
  have hzsz : zv.cells.size = j.size := by have := repAL_length hzrep; simp at this; omega
  have eln := evA_rep (a := a) hsim.env ln
  have ecp := evA_rep (a := a) hsim.env cp
  rw [hln] at eln
  rw [hcp] at ecp
  simp only [RepA, RepX] at eln ecp
  let arr : Array Value := (Array.range (m.toNat * j.size)).map (zv.cells[· % zv.cells.size]!)
  have hasz : arr.size = m.toNat * j.size := by simp [arr]
  have hn := hsim.newObj d hd arr e j.size (List.replicate n.toNat z) (by simp only [List.length_replicate, hasz]; exact Nat.mul_le_mul_right _ (by omega)) (fun q x hx => by
    obtain ⟨hq, hxe⟩ := List.getElem?_eq_some_iff.1 hx
    simp at hq hxe
    subst hxe
    refine ⟨hzl, fun r c hc => ?_⟩
    obtain ⟨v, hv, hrv⟩ := repAL_get hzrep hc
    have hrlt : r < zv.cells.size := by simpa using (List.getElem?_eq_some_iff.1 hv).1
    refine ⟨v, ?_, hz1 v (List.mem_of_getElem? hv), hrv⟩
    have := zero_get (z := zv.cells) (n := m.toNat) (k := q) (m := r) (by omega) hrlt
    rw [hzsz] at this
    simp only [arr, hzsz]
    rw [this]
    simpa using hv)
  have w1 : IntKind.i64.wrap n = n := IntWalk.i64_in _ (by constructor <;> omega)
  have w2 : IntKind.i64.wrap m = m := IntWalk.i64_in _ (by constructor <;> omega)
  have b1 : ¬ (n < 0) := by omega
  have b2 : ¬ (m < 0) := by omega
  have b3 : ¬ (m < n) := by omega
  have b4 : ¬ (281474976710656 < (j'.bytes : Int) * m) := by rw [Int.mul_comm, ← hjb]; omega
  refine ⟨.slice (some ⟨w.heap.size, 0, none⟩) n.toNat m.toNat, w.alloc (.cells arr e), _, _, ?_, ?_, hn⟩
  · simp only [execOp, ho, Instr.makeSlice, Sem.run_bind, run_underlying hu, Result.andThen_ok, eln, ecp, asInt, asIntOf, Sem.run_pure, typeInfo, run_program, hj', w1, w2, gt_iff_lt, b1, b2, b3, decide_false, Bool.false_or,
      b4, Bool.false_eq_true, if_false, run_askRoom, run_sizeOf hj]
    by_cases hz0 : m.toNat * j.size = 0
    · have harr : arr = #[] := by apply Array.eq_empty_of_size_eq_zero; omega
      simp [hz0, b4, run_sizeOf hj, newRow, harr]
      congr 2
      apply Array.eq_empty_of_size_eq_zero
      simp
    · simp [hz0, b4, run_sizeOf hj, hzr, newRow, arr]
  · simp only [RepA]
    exact .inr ⟨w.heap.size, 0, m.toNat, arr, e, _, upd_same _ _ _, rfl, fun _ => by simp, by omega, heap_alloc_new w _, by simp [hasz]⟩

end Go.Av

namespace Go.Av

theorem datsOf_cells : ∀ {l : List AV} {ds : List Dat}, datsOf l = some ds → l = ds.map .dat
  | [], ds, h => by simp [datsOf] at h; subst h; rfl
  | x :: l, ds, h => by
    cases x <;> simp only [datsOf] at h <;> try (simp at h; done)
    split at h
    · simp at h
    · cases hl : datsOf l with
      | none => simp [hl] at h
      | some ds' =>
        simp only [hl, Option.map_some, Option.some.injEq] at h
        subst h
        simp [datsOf_cells hl]

@[simp] theorem mkAgg_cells (l : List AV) : (mkAgg l).cells = l := by
  unfold mkAgg
  split
  · rename_i ds h
    rw [dat_cells]
    simpa using (datsOf_cells h).symm
  · rfl

/-- What an element is behind a store of x at the place 'off' of it. -/
def storeW (x : AV) (off : Nat) (old : AV) : AV :=
  if x.cells.length = old.cells.length then x else mkAgg (old.cells.take off ++ x.cells ++ old.cells.drop (off + x.cells.length))

theorem storeW_cells {x old : AV} {off : Nat} (h : off + x.cells.length ≤ old.cells.length) : (storeW x off old).cells = old.cells.take off ++ x.cells ++ old.cells.drop (off + x.cells.length) := by
  unfold storeW
  split
  · rename_i e
    have : off = 0 := by omega
    subst this
    simp [e]
  · simp

/-- The cells of a block, one behind the other. -/
theorem row_get {arr : Array Value} {vs : List Value} {o i : Nat} (h : o + vs.length ≤ arr.size) :
    (arr.toList.take o ++ vs ++ arr.toList.drop (o + vs.length)).toArray[i]? = if i < o then arr[i]? else if i < o + vs.length then vs[i - o]? else arr[i]? := by
  simp only [List.getElem?_toArray]
  by_cases h1 : i < o
  · rw [if_pos h1, List.append_assoc, List.getElem?_append_left (by simp; omega), List.getElem?_take, if_pos h1]
    simp
  · rw [if_neg h1]
    by_cases h2 : i < o + vs.length
    · rw [if_pos h2, List.getElem?_append_left (by simp; omega), List.getElem?_append_right (by simp; omega)]
      simp [show min o arr.size = o from by omega]
    · rw [if_neg h2, List.getElem?_append_right (by simp; omega), List.getElem?_drop]
      simp only [List.length_append, List.length_take, Array.length_toList, show min o arr.size = o from by omega, Array.getElem?_toList]
      congr 1
      omega

theorem Ext.setRow (M : Nat → Prop) (w : World) (g : Nat) (cs old : Array Value) (e : TypeId) (hg : w.heap[g]? = some (.cells old e (0, 0))) (hsz : cs.size = old.size) (hm : M g) : Ext M w (w.setRow g cs) := by
  refine ⟨rfl, rfl, rfl, by simp, fun k hk hn => setRow_other w g k cs (fun e => hn (e ▸ hm)), fun b arr e' h => ?_⟩
  by_cases hb : b = g
  · subst hb
    rw [hg] at h
    simp only [Option.some.injEq, Obj.cells.injEq, and_true] at h
    obtain ⟨rfl, rfl⟩ := h
    exact ⟨cs, setRow_heap w b old cs e _ hg, hsz⟩
  · exact ⟨arr, (setRow_other w g b cs hb).trans h, rfl⟩

/-- An object's elements change, in place. -/
theorem SimB.setElems {F : FC} {β : Places} {S : Nat → Nat → Prop} {st : ASt} {tm : Array Value} {w : World} (hs : SimB F β S st tm w) {id b s : Nat} {o : AObj} {arr cs : Array Value} {e : TypeId} {elems : List AV}
    (ho : st.objs id = some o) (hb : β id = some (b, s)) (hh : w.heap[b]? = some (.cells arr e (0, 0))) (hsz : cs.size = arr.size) (hz : s + elems.length * o.es ≤ arr.size)
    (hel : ∀ (k : Nat) (x : AV), elems[k]? = some x → x.cells.length = o.es ∧ ∀ (j : Nat) (c : AV), x.cells[j]? = some c → ∃ v, cs[s + k * o.es + j]? = some v ∧ v.oneCell' = true ∧ RepA β S w c v) :
    SimB F β S (st.obj id ⟨o.es, elems⟩) tm (w.setRow b cs) := by
  have hnew : F.w0.heap.size ≤ b ∨ F.M0 b := by
    rcases hs.obj id o ho with ⟨hn, _⟩ | ⟨b', s', arr', e', hb', hw, _⟩
    · rw [hn] at hb; cases hb
    · rw [hb'] at hb
      simp only [Option.some.injEq, Prod.mk.injEq] at hb
      obtain ⟨rfl, rfl⟩ := hb
      exact hw
  have hext : Ext (fun k => k = b) w (w.setRow b cs) := Ext.setRow _ w b cs arr e hh hsz rfl
  have hkeep : Keeps S S w (w.setRow b cs) := fun b' i hS => ⟨hS, cell_of_heap (setRow_other w b b' cs (fun e => hs.sep id o b s i ho hb (e ▸ hS)))⟩
  have hother : ∀ i o' b' s', st.objs i = some o' → i ≠ id → β i = some (b', s') → b' ≠ b := fun i o' b' s' h hi hb' e => hi (hs.inj i id o' o b s' s h ho (e ▸ hb') hb)
  refine ⟨hs.ext.trans hext (fun k hk he => ?_), hs.glob, hs.sub, fun b' i h => by simpa using hs.lt b' i h, ?_, ?_, ?_, fun n => (hs.env n).mono hkeep hext.shape, hs.size⟩
  · rcases hnew with h | h
    · omega
    · exact he ▸ h
  · intro i o' b' s' k hi hb'
    by_cases h : i = id
    · subst h; exact hs.sep i o b' s' k ho hb'
    · simp only [ASt.obj, upd_other _ _ h] at hi
      exact hs.sep i o' b' s' k hi hb'
  · have back : ∀ i o', (st.obj id ⟨o.es, elems⟩).objs i = some o' → ∃ o'', st.objs i = some o'' := fun i o' hi => by
      by_cases h : i = id
      · subst h; exact ⟨o, ho⟩
      · simp only [ASt.obj, upd_other _ _ h] at hi; exact ⟨o', hi⟩
    intro i i' o1 o2 b' s1 s2 h1 h2 hb1 hb2
    obtain ⟨p1, hp1⟩ := back i o1 h1
    obtain ⟨p2, hp2⟩ := back i' o2 h2
    exact hs.inj i i' p1 p2 b' s1 s2 hp1 hp2 hb1 hb2
  · intro i o' hi
    by_cases h : i = id
    · subst h
      simp only [ASt.obj, upd_same, Option.some.injEq] at hi
      subst hi
      refine .inr ⟨b, s, cs, e, hb, hnew, setRow_heap w b arr cs e _ hh, by rw [hsz]; exact hz, fun k x hx => ⟨(hel k x hx).1, fun j c hj => ?_⟩⟩
      obtain ⟨v, hv, h1, hr⟩ := (hel k x hx).2 j c hj
      exact ⟨v, by rw [cell_of_row _ b _ cs e _ (setRow_heap w b arr cs e _ hh)]; exact hv, h1, hr.mono hkeep hext.shape⟩
    · simp only [ASt.obj, upd_other _ _ h] at hi
      rcases hs.obj i o' hi with h' | ⟨b', s', arr', e', hb', hw', hh', hz', hel'⟩
      · exact .inl h'
      · have hne := hother i o' b' s' hi h hb'
        have hbb : (w.setRow b cs).heap[b']? = w.heap[b']? := setRow_other w b b' cs hne
        exact .inr ⟨b', s', arr', e', hb', hw', hbb.trans hh', hz', fun k x hx => ⟨(hel' k x hx).1, (hel' k x hx).2.mono hkeep hext.shape hbb⟩⟩

theorem store_ok {F : FC} {o : Oper} {st : ASt} {t : TypeId} {i : TI} {ad x : Operand} {id es k off : Nat} {ob : AObj} (ho : o.op = .store t ad x) (hdst : o.dst = none) (ht : ti F.P t = some i)
    (had : evA st.env ad = .ptr id es k off) (hob : st.objs id = some ob) (hes : ob.es = es) (hk : k < ob.elems.length) (hs : (evA st.env x).storable = true) (hsz : (evA st.env x).cells.length = i.size)
    (hoff : off + i.size ≤ ((ob.elems[k]?).getD .junk).cells.length) :
    StepOK F o st (st.obj id ⟨es, ob.elems.set k (storeW (evA st.env x) off ((ob.elems[k]?).getD .junk))⟩) := by
  refine StepOK.of_skip hdst fun β S a w hsim => ?_
  have ead := evA_rep (a := a) hsim.env ad
  have ex := evA_rep (a := a) hsim.env x
  rw [had] at ead
  simp only [RepA] at ead
  obtain ⟨b, s, hb, hadv⟩ := ead
  obtain ⟨hxc, hx1⟩ := storable_cells hs ex
  subst hes
  rcases hsim.obj id ob hob with ⟨hn, _⟩ | ⟨b', s', arr, e, hb', hw, hh, hz, hel⟩
  · rw [hn] at hb; cases hb
  rw [hb'] at hb
  simp only [Option.some.injEq, Prod.mk.injEq] at hb
  obtain ⟨rfl, rfl⟩ := hb
  rw [List.getElem?_eq_getElem hk, Option.getD_some] at hoff ⊢
  have hold := hel k _ (List.getElem?_eq_getElem hk)
  have hvl : (a.eval x).cells.toList.length = i.size := by rw [repAL_length hxc, hsz]
  have hkz : s' + k * ob.es + ob.es ≤ arr.size := by
    have : (k + 1) * ob.es ≤ ob.elems.length * ob.es := Nat.mul_le_mul_right _ hk
    rw [Nat.add_mul] at this
    omega
  have hstl : s' + k * ob.es + off + (a.eval x).cells.toList.length ≤ arr.size := by have := hold.1; omega
  have hst := run_storeCells_at F.P b' (s' + k * ob.es + off) e (a.eval x).cells.toList 0 arr w hh (by simpa using hstl) hx1
  simp only [Nat.add_zero] at hst
  let cs : Array Value := (arr.toList.take (s' + k * ob.es + off) ++ (a.eval x).cells.toList ++ arr.toList.drop (s' + k * ob.es + off + (a.eval x).cells.toList.length)).toArray
  have hcs : cs.size = arr.size := by simp only [cs, List.size_toArray, List.length_append, List.length_take, List.length_drop, Array.length_toList] at hstl ⊢; omega
  refine ⟨w.setRow b' cs, β, S, ?_, hsim.setElems hob hb' hh hcs (by simpa using hz) fun q y hy => ?_⟩
  · have hsz' : (a.eval x).cells.size = i.size := by simpa using hvl
    simp only [execOp, ho, hadv, Instr.storeAt, Instr.sureAddr, Sem.run_bind, Sem.run_pure, Result.andThen_ok, storeVar, run_sizeOf ht, hsz', ne_eq, not_true_eq_false, if_false, hst]
    rfl
  · rw [List.getElem?_set] at hy
    have hnew : ∀ j c, (storeW (evA st.env x) off ob.elems[k]).cells[j]? = some c → ∃ v, cs[s' + k * ob.es + j]? = some v ∧ v.oneCell' = true ∧ RepA β S w c v := fun j c hj => by
      rw [storeW_cells (by omega), hsz] at hj
      simp only [cs]
      rw [row_get (by simpa using hstl)]
      by_cases h1 : j < off
      · rw [if_pos (by omega)]
        rw [List.append_assoc, List.getElem?_append_left (by simp; omega), List.getElem?_take, if_pos h1] at hj
        obtain ⟨v, hv, h2, hr⟩ := hold.2 j c hj
        rw [cell_of_row w b' _ arr e _ hh] at hv
        exact ⟨v, hv, h2, hr⟩
      · by_cases h2 : j < off + i.size
        · rw [if_neg (by omega), if_pos (by omega)]
          rw [List.getElem?_append_left (by simp; omega), List.getElem?_append_right (by simp; omega)] at hj
          simp only [List.length_take, show min off ob.elems[k].cells.length = off from by omega] at hj
          obtain ⟨v, hv, hr⟩ := repAL_get hxc hj
          exact ⟨v, by rw [show s' + k * ob.es + j - (s' + k * ob.es + off) = j - off from by omega]; exact hv, hx1 v (List.mem_of_getElem? hv), hr⟩
        · rw [if_neg (by omega), if_neg (by omega)]
          rw [List.getElem?_append_right (by simp; omega), List.getElem?_drop] at hj
          simp only [List.length_append, List.length_take, show min off ob.elems[k].cells.length = off from by omega, hsz] at hj
          rw [show off + i.size + (j - (off + i.size)) = j from by omega] at hj
          obtain ⟨v, hv, h2, hr⟩ := hold.2 j c hj
          rw [cell_of_row w b' _ arr e _ hh] at hv
          exact ⟨v, hv, h2, hr⟩
    split at hy
    · rename_i hkq
      subst hkq
      simp only [hk, if_true, Option.some.injEq] at hy
      subst hy
      refine ⟨?_, hnew⟩
      rw [storeW_cells (by omega), hsz]
      simp only [List.length_append, List.length_take, List.length_drop, hsz]
      have := hold.1
      omega
    · rename_i hkq
      obtain ⟨h1, h2⟩ := hel q y hy
      refine ⟨h1, fun j c hj => ?_⟩
      obtain ⟨v, hv, h3, hr⟩ := h2 j c hj
      rw [cell_of_row w b' _ arr e _ hh] at hv
      refine ⟨v, ?_, h3, hr⟩
      have hjl : j < ob.es := by have := (List.getElem?_eq_some_iff.1 hj).1; omega
      have hol := hold.1
      simp only [cs]
      rw [row_get (by simpa using hstl)]
      have hsep : s' + q * ob.es + j < s' + k * ob.es + off ∨ s' + k * ob.es + off + (a.eval x).cells.toList.length ≤ s' + q * ob.es + j := by
        rcases Nat.lt_or_ge q k with h | h
        · left
          have : (q + 1) * ob.es ≤ k * ob.es := Nat.mul_le_mul_right _ h
          rw [Nat.add_mul] at this
          omega
        · right
          have : (k + 1) * ob.es ≤ q * ob.es := Nat.mul_le_mul_right _ (by omega)
          rw [Nat.add_mul] at this
          omega
      rcases hsep with h | h
      · rw [if_pos h]; exact hv
      · rw [if_neg (by omega), if_neg (by omega)]; exact hv

end Go.Av

namespace Go.Av

def ASt.drop (st : ASt) (id : Nat) : ASt := { st with objs := upd st.objs id none }

def ASt.dropO (st : ASt) : Option Nat → ASt
  | some id => st.drop id
  | none => st

theorem SimB.drop {F : FC} {β : Places} {S : Nat → Nat → Prop} {st : ASt} {tm : Array Value} {w : World} (hs : SimB F β S st tm w) (id : Nat) : SimB F β S (st.drop id) tm w := by
  have back : ∀ i o, (st.drop id).objs i = some o → st.objs i = some o := fun i o h => by
    by_cases hi : i = id
    · subst hi; simp [ASt.drop] at h
    · simpa [ASt.drop, upd_other _ _ hi] using h
  exact ⟨hs.ext, hs.glob, hs.sub, hs.lt, fun i o b s k h => hs.sep i o b s k (back i o h), fun i i' o o' b s s' h h' => hs.inj i i' o o' b s s' (back i o h) (back i' o' h'), fun i o h => hs.obj i o (back i o h), hs.env, hs.size⟩

/-- A block that no object has becomes an object's. -/
theorem SimB.introObj {F : FC} {β : Places} {S : Nat → Nat → Prop} {st : ASt} {tm : Array Value} {w : World} (hs : SimB F β S st tm w) (d b s : Nat) (hdN : d < F.N) (arr : Array Value) (e : TypeId) (es : Nat) (elems : List AV)
    (hh : w.heap[b]? = some (.cells arr e (0, 0))) (hnew : F.w0.heap.size ≤ b ∨ F.M0 b) (hS : ∀ i, ¬ S b i) (hfree : ∀ i o b' s', (st.kill d).objs i = some o → β i = some (b', s') → b' ≠ b) (hz : s + elems.length * es ≤ arr.size)
    (hel : ∀ (k : Nat) (x : AV), elems[k]? = some x → x.cells.length = es ∧ ∀ (j : Nat) (c : AV), x.cells[j]? = some c → ∃ v, arr[s + k * es + j]? = some v ∧ v.oneCell' = true ∧ RepA β S w c v) :
    SimB F (upd β d (some (b, s))) S ((st.kill d).obj d ⟨es, elems.map (AV.kill d)⟩) tm w := by
  have hk := hs.kill d
  have hmv : ∀ i, i ≠ d → (upd β d (some (b, s))) i = β i := fun i hi => upd_other β _ hi
  have hother : ∀ i o b' s', ((st.kill d).obj d ⟨es, elems.map (AV.kill d)⟩).objs i = some o → i ≠ d → (upd β d (some (b, s))) i = some (b', s') → (st.kill d).objs i = some o ∧ β i = some (b', s') := fun i o b' s' ho hi hb => by
    simp only [ASt.obj, upd_other _ _ hi] at ho
    rw [hmv i hi] at hb
    exact ⟨ho, hb⟩
  refine ⟨hs.ext, hs.glob, hs.sub, hs.lt, ?_, ?_, ?_, ?_, ⟨hs.size.1, fun i hi => (hmv i (by omega)).trans (hs.size.2 i hi)⟩⟩
  · intro i o b' s' k ho hb hSb
    by_cases hi : i = d
    · subst hi
      simp only [upd_same, Option.some.injEq, Prod.mk.injEq] at hb
      obtain ⟨rfl, rfl⟩ := hb
      exact hS k hSb
    · obtain ⟨h1, h2⟩ := hother i o b' s' ho hi hb
      exact hk.sep i o b' s' k h1 h2 hSb
  · intro i i' o o' b' s1 s2 ho ho' hb hb'
    by_cases hi : i = d
    · by_cases hi' : i' = d
      · omega
      · exfalso
        obtain ⟨h1, h2⟩ := hother i' o' b' s2 ho' hi' hb'
        subst hi
        simp only [upd_same, Option.some.injEq, Prod.mk.injEq] at hb
        exact hfree i' o' b' s2 h1 h2 hb.1.symm
    · by_cases hi' : i' = d
      · exfalso
        obtain ⟨h1, h2⟩ := hother i o b' s1 ho hi hb
        subst hi'
        simp only [upd_same, Option.some.injEq, Prod.mk.injEq] at hb'
        exact hfree i o b' s1 h1 h2 hb'.1.symm
      · obtain ⟨h1, h2⟩ := hother i o b' s1 ho hi hb
        obtain ⟨h1', h2'⟩ := hother i' o' b' s2 ho' hi' hb'
        exact hk.inj i i' o o' b' s1 s2 h1 h1' h2 h2'
  · intro i o ho
    by_cases hi : i = d
    · subst hi
      simp only [ASt.obj, upd_same, Option.some.injEq] at ho
      subst ho
      refine .inr ⟨b, s, arr, e, upd_same _ _ _, hnew, hh, by simpa using hz, fun k x hx => ?_⟩
      rw [List.getElem?_map] at hx
      cases hy : elems[k]? with
      | none => simp [hy] at hx
      | some y =>
        simp only [hy, Option.map_some, Option.some.injEq] at hx
        subst hx
        obtain ⟨hc, hm⟩ := hel k y hy
        rw [cells_kill]
        refine ⟨by simpa using hc, fun j c hj => ?_⟩
        rw [List.getElem?_map] at hj
        cases hcj : y.cells[j]? with
        | none => simp [hcj] at hj
        | some c' =>
          simp only [hcj, Option.map_some, Option.some.injEq] at hj
          subst hj
          obtain ⟨v, hv, h1, hr⟩ := hm j c' hcj
          exact ⟨v, by rw [cell_of_row w b _ arr e _ hh]; exact hv, h1, hr.moved hmv⟩
    · simp only [ASt.obj, upd_other _ _ hi] at ho
      rcases hk.obj i o ho with ⟨hn, he⟩ | ⟨b', s', arr', e', hb, hw, hh', hz', hel'⟩
      · exact .inl ⟨(hmv i hi).trans hn, he⟩
      · refine .inr ⟨b', s', arr', e', (hmv i hi).trans hb, hw, hh', hz', fun k x hx => ⟨(hel' k x hx).1, ?_⟩⟩
        have hm := (hel' k x hx).2
        intro j c hj
        obtain ⟨v, hv, h1, hr⟩ := hm j c hj
        refine ⟨v, hv, h1, ?_⟩
        have hkk : c.kill d = c := by
          simp only [ASt.kill, if_neg hi] at ho
          cases hp : st.objs i with
          | none => simp [hp] at ho
          | some p =>
            simp only [hp, Option.map_some, Option.some.injEq] at ho
            subst ho
            rw [List.getElem?_map] at hx
            cases hy : p.elems[k]? with
            | none => simp [hy] at hx
            | some y =>
              simp only [hy, Option.map_some, Option.some.injEq] at hx
              subst hx
              rw [cells_kill, List.getElem?_map] at hj
              cases hcj : y.cells[j]? with
              | none => simp [hcj] at hj
              | some c' =>
                simp only [hcj, Option.map_some, Option.some.injEq] at hj
                subst hj
                exact kill_kill d c'
        rw [← hkk]
        exact hr.moved hmv
  · intro n
    exact (hs.env n).moved hmv

/-- An empty row that lies nowhere. -/
theorem SimB.introNil {F : FC} {β : Places} {S : Nat → Nat → Prop} {st : ASt} {tm : Array Value} {w : World} (hs : SimB F β S st tm w) (d es : Nat) (hdN : d < F.N) :
    SimB F (upd β d none) S ((st.kill d).obj d ⟨es, []⟩) tm w := by
  have hk := hs.kill d
  have hmv : ∀ i, i ≠ d → (upd β d none) i = β i := fun i hi => upd_other β _ hi
  refine ⟨hs.ext, hs.glob, hs.sub, hs.lt, ?_, ?_, ?_, ?_, ⟨hs.size.1, fun i hi => (hmv i (by omega)).trans (hs.size.2 i hi)⟩⟩
  · intro i o b' s' k ho hb hSb
    by_cases hi : i = d
    · subst hi; simp at hb
    · simp only [ASt.obj, upd_other _ _ hi] at ho
      rw [hmv i hi] at hb
      exact hk.sep i o b' s' k ho hb hSb
  · intro i i' o o' b' s1 s2 ho ho' hb hb'
    by_cases hi : i = d
    · subst hi; simp at hb
    · by_cases hi' : i' = d
      · subst hi'; simp at hb'
      · simp only [ASt.obj, upd_other _ _ hi] at ho
        simp only [ASt.obj, upd_other _ _ hi'] at ho'
        rw [hmv i hi] at hb
        rw [hmv i' hi'] at hb'
        exact hk.inj i i' o o' b' s1 s2 ho ho' hb hb'
  · intro i o ho
    by_cases hi : i = d
    · subst hi
      simp only [ASt.obj, upd_same, Option.some.injEq] at ho
      subst ho
      exact .inl ⟨upd_same _ _ _, rfl⟩
    · simp only [ASt.obj, upd_other _ _ hi] at ho
      rcases hk.obj i o ho with ⟨hn, he⟩ | ⟨b', s', arr', e', hb, hw, hh', hz', hel'⟩
      · exact .inl ⟨(hmv i hi).trans hn, he⟩
      · refine .inr ⟨b', s', arr', e', (hmv i hi).trans hb, hw, hh', hz', fun k x hx => ⟨(hel' k x hx).1, ?_⟩⟩
        intro j c hj
        obtain ⟨v, hv, h1, hr⟩ := (hel' k x hx).2 j c hj
        refine ⟨v, hv, h1, ?_⟩
        have hkk : c.kill d = c := by
          simp only [ASt.kill, if_neg hi] at ho
          cases hp : st.objs i with
          | none => simp [hp] at ho
          | some p =>
            simp only [hp, Option.map_some, Option.some.injEq] at ho
            subst ho
            rw [List.getElem?_map] at hx
            cases hy : p.elems[k]? with
            | none => simp [hy] at hx
            | some y =>
              simp only [hy, Option.map_some, Option.some.injEq] at hx
              subst hx
              rw [cells_kill, List.getElem?_map] at hj
              cases hcj : y.cells[j]? with
              | none => simp [hcj] at hj
              | some c' =>
                simp only [hcj, Option.map_some, Option.some.injEq] at hj
                subst hj
                exact kill_kill d c'
        rw [← hkk]
        exact hr.moved hmv
  · intro n
    exact (hs.env n).moved hmv

theorem memC_flatten {β : Places} {S : Nat → Nat → Prop} {w : World} {n b : Nat} : ∀ {xs : List AV} {o : Nat}, (∀ (k : Nat) (y : AV), xs[k]? = some y → y.cells.length = n ∧ MemC β S w y.cells b (o + k * n)) → MemC β S w (xs.map AV.cells).flatten b o
  | [], o, _ => fun i c hc => by simp at hc
  | x :: xs, o, h => by
    obtain ⟨h0, hm0⟩ := h 0 x (by simp)
    have ih := memC_flatten (xs := xs) (o := o + n) (fun k y hy => by
      have := h (k + 1) y (by simpa using hy)
      rwa [Nat.add_mul, Nat.one_mul, show o + (k * n + n) = o + n + k * n from by omega] at this)
    intro i c hc
    simp only [List.map_cons, List.flatten_cons] at hc
    by_cases hi : i < n
    · rw [List.getElem?_append_left (by omega)] at hc
      simpa using hm0 i c hc
    · rw [List.getElem?_append_right (by omega)] at hc
      have := ih _ c hc
      rwa [show o + n + (i - x.cells.length) = o + i from by omega] at this

/-- The elements of a slice that is read. -/
def srcA (objs : Nat → Option AObj) (x : AV) : Option (List AV) :=
  match x with
  | .dat (.sl l) => some (l.map .dat)
  | .osl id _ off len => (objs id).map fun o => (o.elems.drop off).take len
  | .nils => some []
  | _ => none

/-- What a slice's cells hold, as the operations that read all of them find it. -/
structure Src (P : Program) (β : Places) (S : Nat → Nat → Prop) (w : World) (size : Nat) (xs : List AV) (v : Value) (news : List Value) : Prop where
  len : ∃ a cap, v = .slice a xs.length cap
  run : (Builtin.firstCells size xs.length v).run P w = .ok news.toArray w
  rund : (Builtin.firstCells size xs.length v).run P w.drew = .ok news.toArray w.drew
  rep : RepAL β S w (xs.map AV.cells).flatten news
  one : ∀ u ∈ news, u.oneCell' = true

theorem osl_len {β : Places} {S : Nat → Nat → Prop} {w : World} {id es off len : Nat} {v : Value} (h : RepA β S w (.osl id es off len) v) : ∃ a cap, v = .slice a len cap := by
  simp only [RepA] at h
  rcases h with ⟨_, rfl, a, rfl⟩ | ⟨b, s, cap, arr, e, a, _, rfl, _⟩ <;> exact ⟨_, _, rfl⟩

theorem src_rep {F : FC} {β : Places} {S : Nat → Nat → Prop} {st : ASt} {tm : Array Value} {w : World} (hs : SimB F β S st tm w) {x : AV} {v : Value} {xs : List AV} {size : Nat} (hx : RepA β S w x v) (hsrc : srcA st.objs x = some xs)
    (hsz : ∀ y ∈ xs, y.cells.length = size) (hes : ∀ id es off len, x = .osl id es off len → es = size ∧ xs.length = len ∧ ∃ o, st.objs id = some o ∧ o.es = size) : ∃ news, Src F.P β S w size xs v news := by
  -- from memory that holds the elements
  have go : ∀ (b o len cap : Nat), len = xs.length → MemC β S w (xs.map AV.cells).flatten b o → ∃ news, Src F.P β S w size xs (.slice (some ⟨b, o, none⟩) len cap) news := fun b o len cap hl hm => by
    subst hl
    obtain ⟨vs, hvl, hvc, hvr⟩ := memC_list hm
    have hfl : (xs.map AV.cells).flatten.length = xs.length * size := by
      rw [flatten_length (n := size) (fun l hl => by obtain ⟨y, hy, rfl⟩ := List.mem_map.1 hl; exact hsz y hy)]; simp
    refine ⟨vs, ⟨_, _, rfl⟩, ?_, run_firstCells_some (P := F.P) w.drew size xs.length ⟨b, o, none⟩ xs.length cap vs (by omega) (fun j u hu => by rw [add_none, World.cell?_drew]; exact (hvc j u hu).1), hvr, fun u hu => by obtain ⟨i, hi⟩ := List.getElem?_of_mem hu; exact (hvc i u hi).2⟩
    exact run_firstCells_some (P := F.P) w size xs.length ⟨b, o, none⟩ xs.length cap vs (by omega) (fun j u hu => by rw [add_none]; exact (hvc j u hu).1)
  have nil : ∀ (a : Option Addr) (cap : Nat), xs = [] → ∃ news, Src F.P β S w size xs (.slice a 0 cap) news := fun a cap hxs => by
    subst hxs
    refine ⟨[], ⟨_, _, rfl⟩, ?_, ?_, by simp [RepAL], by simp⟩ <;> cases a <;> simp [Builtin.firstCells, loadCells, loadCellsFrom]
  unfold srcA at hsrc
  split at hsrc <;> try (simp at hsrc; done)
  · rename_i l
    simp only [Option.some.injEq] at hsrc
    subst hsrc
    simp only [RepA, RepX] at hx
    obtain ⟨es, a, cap, rfl, hc, hr⟩ := hx
    cases hl : l with
    | nil => subst hl; exact nil a cap rfl
    | cons d0 l0 =>
      obtain ⟨b, o, rfl, hcl, _⟩ := repS_get hr (i := 0) (d := d0) (by simp [hl])
      have h0 := hsz (.dat d0) (by simp [hl])
      rw [dat_cells, List.length_map] at h0
      obtain rfl : es = size := by omega
      rw [← hl]
      refine go b o l.length cap (by simp) (memC_flatten (n := es) fun k y hy => ?_)
      rw [List.getElem?_map] at hy
      cases hd : l[k]? with
      | none => simp [hd] at hy
      | some d =>
        simp only [hd, Option.map_some, Option.some.injEq] at hy
        subst hy
        obtain ⟨b', o', ha, hcl', hrc⟩ := repS_get hr hd
        simp only [Option.some.injEq, Addr.mk.injEq, and_true] at ha
        obtain ⟨rfl, rfl⟩ := ha
        rw [dat_cells]
        exact ⟨by simpa using hcl', memC_of_repC hrc⟩
  · rename_i id es off len
    obtain ⟨rfl, hlen, o, ho, hoes⟩ := hes id es off len rfl
    simp only [ho, Option.map_some, Option.some.injEq] at hsrc
    subst hsrc
    simp only [RepA] at hx
    rcases hx with ⟨hn, rfl, a, rfl⟩ | ⟨b, s, cap, arr, e, a, hb, rfl, ha, hc, hh, hz⟩
    · exact nil a 0 (by simp)
    · by_cases hl0 : len = 0
      · subst hl0; exact nil a cap (by simp)
      · have ha' := ha (by omega)
        subst ha'
        rcases hs.obj id o ho with ⟨hn, _⟩ | ⟨b', s', arr', e', hb', hw, hh', hz', hel⟩
        · rw [hn] at hb; cases hb
        rw [hb'] at hb
        simp only [Option.some.injEq, Prod.mk.injEq] at hb
        obtain ⟨rfl, rfl⟩ := hb
        refine go b' (s' + off * es) len cap (by omega) (memC_flatten (n := es) fun k y hy => ?_)
        rw [List.getElem?_take] at hy
        split at hy
        · rw [List.getElem?_drop] at hy
          obtain ⟨h1, h2⟩ := hel _ y hy
          rw [hoes] at h1 h2
          refine ⟨h1, ?_⟩
          rwa [Nat.add_mul, ← Nat.add_assoc] at h2
        · simp at hy
  · simp only [Option.some.injEq] at hsrc
    subst hsrc
    simp only [RepA] at hx
    obtain ⟨a, rfl⟩ := hx
    exact nil a 0 rfl

end Go.Av

namespace Go.Av

theorem run_append_room' {P : Program} {w : World} {t t' ty e e' : TypeId} {i : TypeInfo} (ht : P.underlying t = some (.slice e)) (ht' : P.underlying t' = some (.slice e')) (hi : P.info? e = some i)
    {a : Option Addr} {sLen sCap : Nat} {xv : Value} {n : Nat} {news : List Value} (hlen : (Builtin.lenOf xv).run P w = .ok n w) (hnews : (Builtin.firstCells i.size n xv).run P w = .ok news.toArray w)
    (hroom : sLen + n ≤ sCap) {w' : World} (hst : ∀ ad, a = some ad → (storeCells (ad.add (sLen * i.size)) news).run P w = .ok () w') (hnone : a = none → w' = w) :
    (Builtin.append_ #[t, t'] ty #[.slice a sLen sCap, xv]).run P w = .ok (.slice a (sLen + n) sCap) w' := by
  cases a with
  | none => simp [Builtin.append_, run_underlying ht, run_underlying ht', sizeOf, typeInfo, hi, hlen, hroom, hnews, hnone rfl]
  | some ad => simp [Builtin.append_, run_underlying ht, run_underlying ht', sizeOf, typeInfo, hi, hlen, hroom, hnews, hst ad rfl]

theorem run_append_grow' {P : Program} {w : World} {t t' ty e e' : TypeId} {i : TypeInfo} {z : Value} (ht : P.underlying t = some (.slice e)) (ht' : P.underlying t' = some (.slice e')) (hi : P.info? e = some i) (hz : i.zero = some z)
    {a : Option Addr} {sLen sCap : Nat} {xv : Value} {n : Nat} {olds news : List Value} (hlen : (Builtin.lenOf xv).run P w = .ok n w) (hnews : (Builtin.firstCells i.size n xv).run P w.drew = .ok news.toArray w.drew)
    (holds : (Builtin.firstCells i.size sLen (.slice a sLen sCap)).run P w.drew = .ok olds.toArray w.drew)
    (hgrow : sCap < sLen + n) (h63 : sLen + n ≤ 9223372036854775807) (hfit : (sLen + n) * i.bytes ≤ 140737488355328) :
    (Builtin.append_ #[t, t'] ty #[.slice a sLen sCap, xv]).run P w =
      .ok (.slice (some ⟨w.heap.size, 0, none⟩) (sLen + n) (grownCap w (sLen + n) sCap e)) (w.drew.alloc (.cells (olds.toArray ++ news.toArray ++ Builtin.zeroCells z.cells (grownCap w (sLen + n) sCap e - (sLen + n))) e)) := by
  have hn : ¬ (sLen + n ≤ sCap) := by omega
  have h63' : ¬ (9223372036854775807 < ((sLen : Int) + (n : Int))) := by omega
  have hf48 := growslice_fits hgrow hfit
  have h48' : ¬ (281474976710656 < Builtin.nextslicecap (sLen + n) sCap * i.bytes) := by omega
  simp [Builtin.append_, run_underlying ht, run_underlying ht', sizeOf, typeInfo, zeroValue, hi, hz, hlen, hn, h63', h48', Question.forced, holds, hnews, newRow, grownCap]
  congr 2
  apply Array.ext'
  simp [List.append_assoc]

theorem run_firstCells_drew {P : Program} {w : World} {size n : Nat} {v : Value} {cs : List Value} {len cap : Nat} {a : Option Addr} (hv : v = .slice a len cap) (h : (Builtin.firstCells size n v).run P w = .ok cs.toArray w)
    (hc : ∀ ad, a = some ad → ∃ vs : List Value, vs.length = n * size ∧ ∀ j u, vs[j]? = some u → w.cell? (ad.add j) = some u) : (Builtin.firstCells size n v).run P w.drew = .ok cs.toArray w.drew := by
  subst hv
  cases a with
  | none => simp [Builtin.firstCells] at h ⊢; exact h
  | some ad =>
    obtain ⟨vs, hl, hvs⟩ := hc ad rfl
    have h1 := run_firstCells_some (P := P) w size n ad len cap vs hl hvs
    have h2 := run_firstCells_some (P := P) w.drew size n ad len cap vs hl (by simpa using hvs)
    rw [h1] at h
    rw [h2]
    simp only [Result.ok.injEq, and_true] at h
    rw [h]

theorem append_block {β : Places} {S : Nat → Nat → Prop} {w : World} {size : Nat} {xs : List AV} {news : List Value} (hsz : ∀ y ∈ xs, y.cells.length = size) (hrep : RepAL β S w (xs.map AV.cells).flatten news) (h1 : ∀ u ∈ news, u.oneCell' = true) :
    news.length = xs.length * size ∧ ∀ (k : Nat) (y : AV), xs[k]? = some y → ∀ (j : Nat) (c : AV), y.cells[j]? = some c → ∃ v, news[k * size + j]? = some v ∧ v.oneCell' = true ∧ RepA β S w c v := by
  have hunif : ∀ l ∈ xs.map AV.cells, l.length = size := fun l hl => by obtain ⟨y, hy, rfl⟩ := List.mem_map.1 hl; exact hsz y hy
  refine ⟨by rw [repAL_length hrep, flatten_length hunif]; simp, fun k y hy j c hc => ?_⟩
  have hjl : j < size := by
    have := (List.getElem?_eq_some_iff.1 hc).1
    have := hsz y (List.mem_of_getElem? hy)
    omega
  have hfl := flatten_get hunif (k := k) (j := j) (l := y.cells) (by simp [hy]) hjl
  rw [hc] at hfl
  obtain ⟨v, hv, hr⟩ := repAL_get hrep hfl
  exact ⟨v, hv, h1 v (List.mem_of_getElem? hv), hr⟩

/-- The state behind an append: the old row is forgotten. -/
def appSt (st : ASt) (d : Nat) (size : Nat) (old : Option Nat) (elems : List AV) : ASt :=
  (((st.dropO old).kill d).obj d ⟨size, elems.map (AV.kill d)⟩).put (some d) (.osl d size 0 elems.length)

def baseA (objs : Nat → Option AObj) (size : Nat) (x : AV) : Option (Option Nat × List AV) :=
  match x with
  | .nils => some (none, [])
  | .osl id es off len => match objs id with
    | some o => if o.es = size ∧ es = size ∧ off + len ≤ o.elems.length then some (some id, (o.elems.drop off).take len) else none
    | none => none
  | _ => none

theorem append_ok {F : FC} {o : Oper} {st : ASt} {d : Nat} {s x : Operand} {t t' e e' : TypeId} {i i' j : TI} {z : AV} {old : Option Nat} {olds xs : List AV}
    (ho : o.op = .call { callee := .builtin .append, args := #[s, x], argTypes := #[t, t'] }) (hdst : o.dst = some d) (hd : d < F.N) (ht : ti F.P t = some i) (hk : i.tk = .slice e) (ht' : ti F.P t' = some i') (hk' : i'.tk = .slice e')
    (hj : ti F.P e = some j) (hz : zeroA j = some z) (hzs : z.storable = true) (hzl : z.cells.length = j.size)
    (hb : baseA st.objs j.size (evA st.env s) = some (old, olds)) (hx : srcA st.objs (evA st.env x) = some xs) (hsz : ∀ y ∈ xs, y.cells.length = j.size)
    (hes : ∀ id es off len, evA st.env x = .osl id es off len → es = j.size ∧ xs.length = len ∧ ∃ o, st.objs id = some o ∧ o.es = j.size)
    (hfit : (olds.length + xs.length) * j.bytes ≤ 140737488355328) (h63 : olds.length + xs.length ≤ 9223372036854775807) :
    StepOK F o st (appSt st d j.size old (olds ++ xs)) := by
  refine StepOK.of_value (st1 := (((st.dropO old).kill d).obj d ⟨j.size, (olds ++ xs).map (AV.kill d)⟩)) (x := .osl d j.size 0 (olds ++ xs).length) (by rw [hdst]; exact hd) (by rw [hdst]; rfl) fun β S a w hsim => ?_
  have es := evA_rep (a := a) hsim.env s
  have ex := evA_rep (a := a) hsim.env x
  obtain ⟨news, hsrc⟩ := src_rep hsim ex hx hsz hes
  obtain ⟨_, u1, _, hu1, _, _, _, hk1⟩ := ti_info ht
  rw [hk] at hk1
  have hu1' := tk_slice hk1.symm
  subst hu1'
  obtain ⟨_, u2, _, hu2, _, _, _, hk2⟩ := ti_info ht'
  rw [hk'] at hk2
  have hu2' := tk_slice hk2.symm
  subst hu2'
  obtain ⟨j', u3, hj', _, hjs, hjb, hjz, _⟩ := ti_info hj
  obtain ⟨zv, hzr, hzrep, hz1⟩ := zeroA_rep (β := β) (S := S) (w := w) hj hz hzs
  have hzsz : zv.cells.size = j.size := by have := repAL_length hzrep; simp at this; omega
  have hjzero : j'.zero = some zv := by
    simp only [zeroValue, typeInfo, Sem.run_bind, run_program, Result.andThen_ok, hj', Sem.run_pure] at hzr
    cases hh : j'.zero with
    | none => simp [hh] at hzr
    | some q => simp [hh] at hzr; rw [hzr]
  obtain ⟨ax, capx, hxv⟩ := hsrc.len
  have hlenOf : ∀ w : World, (Builtin.lenOf (a.eval x)).run F.P w = .ok xs.length w := fun w => by rw [hxv]; rfl
  obtain ⟨hnl, hnget⟩ := append_block hsz hsrc.rep hsrc.one
  -- the two ways that an append may go, once the row that was there is known
  generalize hst1 : st.dropO old = st1
  have hsim1 : SimB F β S st1 a.tmps w := by
    subst hst1
    cases old with
    | none => exact hsim
    | some id => exact hsim.drop id
  have main : ∀ (ab : Option Addr) (len cap : Nat), a.eval s = .slice ab len cap → len = olds.length → len ≤ cap →
      -- the old elements
      (∃ oldv : List Value, (Builtin.firstCells j.size len (.slice ab len cap)).run F.P w.drew = .ok oldv.toArray w.drew ∧ oldv.length = len * j.size ∧ ∀ (k : Nat) (y : AV), olds[k]? = some y → y.cells.length = j.size ∧ ∀ (m : Nat) (c : AV), y.cells[m]? = some c → ∃ v, oldv[k * j.size + m]? = some v ∧ v.oneCell' = true ∧ RepA β S w c v) →
      -- the source, a draw later
      ((Builtin.firstCells j.size xs.length (a.eval x)).run F.P w.drew = .ok news.toArray w.drew) →
      -- where the old row lies, if it has room
      (∀ (hroom : len + xs.length ≤ cap), (cap = 0 ∧ True) ∨ ∃ b s0 arr e0, ab = some ⟨b, s0, none⟩ ∧ w.heap[b]? = some (.cells arr e0 (0, 0)) ∧ (F.w0.heap.size ≤ b ∨ F.M0 b) ∧ (∀ i, ¬ S b i) ∧ (∀ i o b' s', st1.objs i = some o → β i = some (b', s') → b' ≠ b) ∧ s0 + cap * j.size ≤ arr.size ∧
        ∀ (k : Nat) (y : AV), olds[k]? = some y → y.cells.length = j.size ∧ ∀ (m : Nat) (c : AV), y.cells[m]? = some c → ∃ v, arr[s0 + k * j.size + m]? = some v ∧ v.oneCell' = true ∧ RepA β S w c v) →
      ∃ r w' β' S', (execOp a.eval o).run F.P w = .ok (.value r) w' ∧ RepA β' S' w' (.osl d j.size 0 (olds ++ xs).length) r ∧ SimB F β' S' ((st1.kill d).obj d ⟨j.size, (olds ++ xs).map (AV.kill d)⟩) a.tmps w' := by
    intro ab len cap hsv hlen hlc hold hnewd hroomy
    have hexec : ∀ {r w'}, (Builtin.append_ #[t, t'] o.type #[.slice ab len cap, a.eval x]).run F.P w = .ok r w' → (execOp a.eval o).run F.P w = .ok (.value r) w' := fun {r w'} h => by
      simp only [execOp, ho, resolve, Sem.run_bind, Sem.run_pure, Result.andThen_ok, invoke, builtin, List.map_toArray, List.map_cons, List.map_nil, hsv, h]
    by_cases hroom : len + xs.length ≤ cap
    · rcases hroomy hroom with ⟨hcap0, _⟩ | ⟨b, s0, arr, e0, rfl, hh, hnew, hS, hfree, hz', hel⟩
      · -- no room at all: nothing is appended to nothing
        have hl0 : olds = [] := List.eq_nil_of_length_eq_zero (by omega)
        have hx0 : xs = [] := List.eq_nil_of_length_eq_zero (by omega)
        have hn0 : news = [] := List.eq_nil_of_length_eq_zero (by rw [hnl, hx0]; simp)
        have hrun := run_append_room' (P := F.P) (w := w) (ty := o.type) (a := ab) (sLen := len) (sCap := cap) (w' := w) hu1 hu2 hj' (hlenOf w) (by rw [← hjs]; exact hsrc.run) hroom (fun ad _ => by rw [hn0]; simp [storeCells]) (fun _ => rfl)
        refine ⟨_, w, upd β d none, S, hexec hrun, ?_, ?_⟩
        · simp only [RepA]
          refine .inl ⟨upd_same _ _ _, by simp [hl0, hx0], ab, ?_⟩
          have e1 : len = 0 := by omega
          simp [e1, hx0, hcap0]
        · rw [hl0, hx0]
          exact hsim1.introNil d j.size hd
      · -- in place
        have hstl : s0 + len * j.size + news.length ≤ arr.size := by
          have : (len + xs.length) * j.size ≤ cap * j.size := Nat.mul_le_mul_right _ hroom
          rw [Nat.add_mul] at this
          omega
        have hst := run_storeCells_at F.P b (s0 + len * j.size) e0 news 0 arr w hh (by simpa using hstl) hsrc.one
        simp only [Nat.add_zero] at hst
        let cs : Array Value := (arr.toList.take (s0 + len * j.size) ++ news ++ arr.toList.drop (s0 + len * j.size + news.length)).toArray
        have hcs : cs.size = arr.size := by simp only [cs, List.size_toArray, List.length_append, List.length_take, List.length_drop, Array.length_toList]; omega
        have hrun := run_append_room' (P := F.P) (w := w) (ty := o.type) (a := some ⟨b, s0, none⟩) (sLen := len) (sCap := cap) (w' := w.setRow b cs) hu1 hu2 hj' (hlenOf w) (by rw [← hjs]; exact hsrc.run) hroom
          (fun ad hadd => by
            simp only [Option.some.injEq] at hadd
            subst hadd
            rw [add_none, ← hjs]
            exact hst) (fun h => by cases h)
        have hext : Ext (fun k => k = b) w (w.setRow b cs) := Ext.setRow _ w b cs arr e0 hh hcs rfl
        have hkeep : Keeps S S w (w.setRow b cs) := fun b' i hSb => ⟨hSb, cell_of_heap (setRow_other w b b' cs (fun e => hS i (e ▸ hSb)))⟩
        have hsim2 : SimB F β S st1 a.tmps (w.setRow b cs) := hsim1.world hext (fun k hk he => by
            rcases hnew with h | h
            · omega
            · exact he ▸ h) hkeep hsim1.sub (fun b' i h => by simpa using hsim1.lt b' i h) hsim1.sep (fun i o b' s' hio hb' => setRow_other w b b' cs (hfree i o b' s' hio hb'))
        refine ⟨_, _, _, _, hexec hrun, ?_, hsim2.introObj d b s0 hd cs e0 j.size (olds ++ xs) (setRow_heap w b arr cs e0 _ hh) hnew hS (fun i o b' s' hio hb' => ?_) ?_ ?_⟩
        · simp only [RepA]
          refine .inr ⟨b, s0, cap, cs, e0, some ⟨b, s0, none⟩, upd_same _ _ _, by simp [hlen], fun _ => by simp, by simp; omega, setRow_heap w b arr cs e0 _ hh, by rw [hcs]; simpa using hz'⟩
        · simp only [ASt.kill] at hio
          split at hio
          · simp at hio
          · cases hq : st1.objs i with
            | none => simp [hq] at hio
            | some q => exact hfree i q b' s' hq hb'
        · rw [hcs, List.length_append, ← hlen]
          have : (len + xs.length) * j.size ≤ cap * j.size := Nat.mul_le_mul_right _ hroom
          omega
        · intro k y hy
          by_cases hkl : k < olds.length
          · rw [List.getElem?_append_left hkl] at hy
            obtain ⟨h1, h2⟩ := hel k y hy
            refine ⟨h1, fun m c hc => ?_⟩
            obtain ⟨v, hv, h3, hr⟩ := h2 m c hc
            refine ⟨v, ?_, h3, hr.mono hkeep hext.shape⟩
            have hml : m < j.size := by have := (List.getElem?_eq_some_iff.1 hc).1; omega
            have : (k + 1) * j.size ≤ olds.length * j.size := Nat.mul_le_mul_right _ hkl
            rw [Nat.add_mul] at this
            simp only [cs]
            rw [row_get hstl, if_pos (by rw [hlen]; omega)]
            exact hv
          · rw [List.getElem?_append_right (by omega)] at hy
            refine ⟨hsz y (List.mem_of_getElem? hy), fun m c hc => ?_⟩
            obtain ⟨v, hv, h3, hr⟩ := hnget _ y hy m c hc
            refine ⟨v, ?_, h3, hr.mono hkeep hext.shape⟩
            have hml : m < j.size := by
              have h4 := hsz y (List.mem_of_getElem? hy)
              have := (List.getElem?_eq_some_iff.1 hc).1
              omega
            have hkx : k - olds.length < xs.length := (List.getElem?_eq_some_iff.1 hy).1
            have e1 : k * j.size = olds.length * j.size + (k - olds.length) * j.size := by rw [← Nat.add_mul]; congr 1; omega
            have e2 : (k - olds.length + 1) * j.size ≤ xs.length * j.size := Nat.mul_le_mul_right _ hkx
            rw [Nat.add_mul] at e2
            simp only [cs]
            rw [row_get hstl, if_neg (by rw [hlen]; omega), if_pos (by rw [hlen, hnl]; omega)]
            rw [show s0 + k * j.size + m - (s0 + len * j.size) = (k - olds.length) * j.size + m from by rw [hlen]; omega]
            exact hv
    · -- a new row
      obtain ⟨oldv, hov, hol, hoget⟩ := hold
      have hrun := run_append_grow' (P := F.P) (w := w) (ty := o.type) (a := ab) (sLen := len) (sCap := cap) hu1 hu2 hj' hjzero (hlenOf w) (by rw [← hjs]; exact hnewd) (by rw [← hjs]; exact hov) (by omega) (by omega) (by rw [← hjb, hlen]; exact hfit)
      let NC := grownCap w (len + xs.length) cap e
      have hNC : len + xs.length ≤ NC := grownCap_ge w _ _ _
      let arr : Array Value := oldv.toArray ++ news.toArray ++ Builtin.zeroCells zv.cells (NC - (len + xs.length))
      have hasz : arr.size = NC * j.size := by
        simp only [arr, Array.size_append, List.size_toArray, size_zeroCells, hzsz, hol, hnl, ← Nat.add_mul]
        congr 1
        omega
      have hkeep : Keeps S S w (w.drew.alloc (.cells arr e)) := keeps_alloc (w := w.drew) _ (fun _ _ h => h) hsim.lt
      have hshape : Shapes w (w.drew.alloc (.cells arr e)) := Shapes.alloc w.drew _
      have hsim2 : SimB F β S st1 a.tmps (w.drew.alloc (.cells arr e)) := hsim1.drew.world (Ext.alloc (fun _ => False) w.drew _) (fun _ _ h => h.elim) hkeep hsim1.sub (fun b i h => by simp only [World.size_alloc]; exact Nat.lt_succ_of_lt (hsim1.lt b i h)) hsim1.sep
        (fun i o b s hio hb => RowKit.Below.heap_alloc w.drew _ b (hsim1.block_lt hio hb))
      have hnewb : (w.drew.alloc (.cells arr e)).heap[w.heap.size]? = some (.cells arr e (0, 0)) := heap_alloc_new w.drew _
      refine ⟨_, _, _, _, hexec hrun, ?_, hsim2.introObj d w.heap.size 0 hd arr e j.size (olds ++ xs) hnewb (.inl hsim.ext.size) (fun i h => by have := hsim.lt _ i h; omega) (fun i o b' s' hio hb' => ?_) ?_ ?_⟩
      · simp only [RepA]
        refine .inr ⟨w.heap.size, 0, NC, arr, e, _, upd_same _ _ _, by rw [List.length_append, ← hlen], fun _ => by simp, by rw [List.length_append, ← hlen]; exact hNC, hnewb, by rw [hasz, Nat.zero_add, Nat.zero_add]; exact Nat.le_refl _⟩
      · simp only [ASt.kill] at hio
        split at hio
        · simp at hio
        · cases hq : st1.objs i with
          | none => simp [hq] at hio
          | some q => have := hsim1.block_lt hq hb'; omega
      · rw [hasz, List.length_append, ← hlen, Nat.zero_add]
        exact Nat.mul_le_mul_right _ hNC
      · have hget : ∀ q v, (oldv ++ news)[q]? = some v → arr[q]? = some v := fun q v hq => by
          have hql : q < (oldv ++ news).length := (List.getElem?_eq_some_iff.1 hq).1
          simp only [arr]
          rw [Array.getElem?_append_left (by simpa using hql)]
          simpa using hq
        intro k y hy
        by_cases hkl : k < olds.length
        · rw [List.getElem?_append_left hkl] at hy
          obtain ⟨h1, h2⟩ := hoget k y hy
          refine ⟨h1, fun m c hc => ?_⟩
          obtain ⟨v, hv, h3, hr⟩ := h2 m c hc
          refine ⟨v, ?_, h3, hr.mono hkeep hshape⟩
          have hvl : k * j.size + m < oldv.length := (List.getElem?_eq_some_iff.1 hv).1
          rw [Nat.zero_add]
          exact hget _ v (by rw [List.getElem?_append_left hvl]; exact hv)
        · rw [List.getElem?_append_right (by omega)] at hy
          refine ⟨hsz y (List.mem_of_getElem? hy), fun m c hc => ?_⟩
          obtain ⟨v, hv, h3, hr⟩ := hnget _ y hy m c hc
          refine ⟨v, ?_, h3, hr.mono hkeep hshape⟩
          have e1 : k * j.size = olds.length * j.size + (k - olds.length) * j.size := by rw [← Nat.add_mul]; congr 1; omega
          rw [Nat.zero_add]
          refine hget _ v ?_
          rw [List.getElem?_append_right (by rw [hol, hlen]; omega), hol, hlen]
          rw [show k * j.size + m - olds.length * j.size = (k - olds.length) * j.size + m from by omega]
          exact hv
  have hnewd := hsrc.rund
  -- the row that was there
  unfold baseA at hb
  split at hb <;> try (simp at hb; done)
  · rename_i hsn
    simp only [Option.some.injEq, Prod.mk.injEq] at hb
    obtain ⟨rfl, rfl⟩ := hb
    rw [hsn] at es
    simp only [RepA] at es
    obtain ⟨ab, hsv⟩ := es
    refine main ab 0 0 hsv rfl (Nat.le_refl _) ⟨[], by cases ab <;> simp [Builtin.firstCells, loadCells, loadCellsFrom], by simp, fun k y hy => by simp at hy⟩ hnewd fun _ => .inl ⟨rfl, trivial⟩
  · rename_i id es' off len hsn
    split at hb <;> try (simp at hb; done)
    rename_i ob hob
    split at hb <;> try (simp at hb; done)
    rename_i hcond
    obtain ⟨hoes, rfl, hofl⟩ := hcond
    simp only [Option.some.injEq, Prod.mk.injEq] at hb
    obtain ⟨rfl, rfl⟩ := hb
    rw [hsn] at es
    have holdl : len = ((ob.elems.drop off).take len).length := by simp; omega
    simp only [RepA] at es
    rcases es with ⟨hn, rfl, ab, hsv⟩ | ⟨b, s0, cap, arr, e0, ab, hbb, hsv, had, hlc, hh, hzc⟩
    · refine main ab 0 0 hsv (by simp) (Nat.le_refl _) ⟨[], by cases ab <;> simp [Builtin.firstCells, loadCells, loadCellsFrom], by simp, fun k y hy => by simp at hy⟩ hnewd fun _ => .inl ⟨rfl, trivial⟩
    · rcases hsim.obj id ob hob with ⟨hn, _⟩ | ⟨b', s', arr', e', hb', hw, hh', hz', hel⟩
      · rw [hn] at hbb; cases hbb
      rw [hb'] at hbb
      simp only [Option.some.injEq, Prod.mk.injEq] at hbb
      obtain ⟨rfl, rfl⟩ := hbb
      rw [hh'] at hh
      simp only [Option.some.injEq, Obj.cells.injEq, and_true] at hh
      obtain ⟨rfl, rfl⟩ := hh
      rw [hoes] at hel
      have helold : ∀ (k : Nat) (y : AV), ((ob.elems.drop off).take len)[k]? = some y → y.cells.length = j.size ∧ ∀ (m : Nat) (c : AV), y.cells[m]? = some c → ∃ v, arr'[s' + off * j.size + k * j.size + m]? = some v ∧ v.oneCell' = true ∧ RepA β S w c v := fun k y hy => by
        rw [List.getElem?_take] at hy
        split at hy
        · rw [List.getElem?_drop] at hy
          obtain ⟨h1, h2⟩ := hel _ y hy
          refine ⟨h1, fun m c hc => ?_⟩
          obtain ⟨v, hv, h3, hr⟩ := h2 m c hc
          rw [cell_of_row w b' _ arr' e' _ hh'] at hv
          rw [Nat.add_mul, ← Nat.add_assoc] at hv
          exact ⟨v, hv, h3, hr⟩
        · simp at hy
      by_cases hcap : cap = 0
      · subst hcap
        have hl0 : len = 0 := by omega
        subst hl0
        refine main ab 0 0 hsv (by simp) (Nat.le_refl _) ⟨[], by cases ab <;> simp [Builtin.firstCells, loadCells, loadCellsFrom], by simp, fun k y hy => by simp at hy⟩ hnewd fun _ => .inl ⟨rfl, trivial⟩
      · have had' := had (by omega)
        subst had'
        have hmc : MemC β S w (((ob.elems.drop off).take len).map AV.cells).flatten b' (s' + off * j.size) := memC_flatten (n := j.size) fun k y hy => by
          obtain ⟨h1, h2⟩ := helold k y hy
          refine ⟨h1, fun m c hc => ?_⟩
          obtain ⟨v, hv, h3, hr⟩ := h2 m c hc
          exact ⟨v, by rw [cell_of_row w b' _ arr' e' _ hh']; exact hv, h3, hr⟩
        obtain ⟨vs, hvl, hvc, hvr⟩ := memC_list hmc
        have hszo : ∀ y ∈ (ob.elems.drop off).take len, y.cells.length = j.size := fun y hy => by
          obtain ⟨k, hk⟩ := List.getElem?_of_mem hy
          exact (helold k y hk).1
        obtain ⟨hol, hoget⟩ := append_block hszo hvr (fun u hu => by obtain ⟨q, hq⟩ := List.getElem?_of_mem hu; exact (hvc q u hq).2)
        rw [← holdl] at hol
        refine main _ len cap hsv holdl hlc ⟨vs, run_firstCells_some (P := F.P) w.drew j.size len ⟨b', s' + off * j.size, none⟩ len cap vs hol (fun q u hu => by rw [add_none, World.cell?_drew]; exact (hvc q u hu).1), hol, fun k y hy => ⟨(helold k y hy).1, hoget k y hy⟩⟩ hnewd fun _ => .inr ?_
        refine ⟨b', s' + off * j.size, arr', e', rfl, hh', hw, fun q => hsim.sep id ob b' s' q hob hb', fun i o b1 s1 hio hb1 e1 => ?_, ?_, helold⟩
        · subst e1
          subst hst1
          simp only [ASt.dropO, ASt.drop] at hio
          by_cases hi : i = id
          · subst hi; simp at hio
          · rw [upd_other _ _ hi] at hio
            exact hi (hsim.inj i id o ob b1 s1 s' hio hob hb1 hb')
        · rw [Nat.add_mul] at hzc
          omega


/-- An append to a literal: whatever it does, it comes to data. -/
theorem appendL_ok {F : FC} {o : Oper} {st : ASt} {d : Nat} {s x : Operand} {t t' e e' : TypeId} {i i' j : TI} {z : AV} {l ds : List Dat}
    (ho : o.op = .call { callee := .builtin .append, args := #[s, x], argTypes := #[t, t'] }) (hdst : o.dst = some d) (hd : d < F.N) (ht : ti F.P t = some i) (hk : i.tk = .slice e) (ht' : ti F.P t' = some i') (hk' : i'.tk = .slice e')
    (hj : ti F.P e = some j) (hz : zeroA j = some z) (hzs : z.storable = true) (hzl : z.cells.length = j.size)
    (hb : evA st.env s = .lits l) (hx : srcA st.objs (evA st.env x) = some (ds.map .dat)) (hl : ∀ y ∈ l, y.cells.length = j.size) (hsz : ∀ y ∈ ds, y.cells.length = j.size)
    (hes : ∀ id es off len, evA st.env x = .osl id es off len → es = j.size ∧ ds.length = len ∧ ∃ o, st.objs id = some o ∧ o.es = j.size)
    (hfit : (l.length + ds.length) * j.bytes ≤ 140737488355328) (h63 : l.length + ds.length ≤ 9223372036854775807) :
    StepOK F o st (st.put (some d) (.dat (.sl (l ++ ds)))) := by
  refine StepOK.of_value (st1 := st) (by rw [hdst]; exact hd) (by rw [hdst]) fun β S a w hsim => ?_
  have es := evA_rep (a := a) hsim.env s
  have ex := evA_rep (a := a) hsim.env x
  rw [hb] at es
  simp only [RepA] at es
  obtain ⟨esz, ab, hsv, hrs⟩ := es
  have hszA : ∀ y ∈ ds.map AV.dat, y.cells.length = j.size := fun y hy => by
    obtain ⟨q, hq, rfl⟩ := List.mem_map.1 hy
    rw [dat_cells]; simpa using hsz q hq
  obtain ⟨news, hsrc⟩ := src_rep hsim ex hx hszA (fun id es off len h => by
    obtain ⟨h1, h2, h3⟩ := hes id es off len h
    exact ⟨h1, by simpa using h2, h3⟩)
  obtain ⟨_, u1, _, hu1, _, _, _, hk1⟩ := ti_info ht
  rw [hk] at hk1
  have hu1' := tk_slice hk1.symm
  subst hu1'
  obtain ⟨_, u2, _, hu2, _, _, _, hk2⟩ := ti_info ht'
  rw [hk'] at hk2
  have hu2' := tk_slice hk2.symm
  subst hu2'
  obtain ⟨j', u3, hj', _, hjs, hjb, hjz, _⟩ := ti_info hj
  obtain ⟨zv, hzr, hzrep, hz1⟩ := zeroA_rep (β := β) (S := S) (w := w) hj hz hzs
  have hzsz : zv.cells.size = j.size := by have := repAL_length hzrep; simp at this; omega
  have hjzero : j'.zero = some zv := by
    simp only [zeroValue, typeInfo, Sem.run_bind, run_program, Result.andThen_ok, hj', Sem.run_pure] at hzr
    cases hh : j'.zero with
    | none => simp [hh] at hzr
    | some q => simp [hh] at hzr; rw [hzr]
  obtain ⟨ax, capx, hxv⟩ := hsrc.len
  rw [List.length_map] at hxv
  have hlenOf : ∀ w : World, (Builtin.lenOf (a.eval x)).run F.P w = .ok ds.length w := fun w => by rw [hxv]; rfl
  obtain ⟨hnl, hnget⟩ := append_block hszA hsrc.rep hsrc.one
  rw [List.length_map] at hnl
  have hrun0 := hsrc.run
  have hrund0 := hsrc.rund
  rw [List.length_map] at hrun0 hrund0
  have hexec : ∀ {r w'}, (Builtin.append_ #[t, t'] o.type #[.slice ab l.length l.length, a.eval x]).run F.P w = .ok r w' → (execOp a.eval o).run F.P w = .ok (.value r) w' := fun {r w'} h => by
    simp only [execOp, ho, resolve, Sem.run_bind, Sem.run_pure, Result.andThen_ok, invoke, builtin, List.map_toArray, List.map_cons, List.map_nil, hsv, h]
  by_cases hn0 : ds = []
  · subst hn0
    have hnn : news = [] := List.eq_nil_of_length_eq_zero (by rw [hnl]; simp)
    have hrun := run_append_room' (P := F.P) (w := w) (ty := o.type) (a := ab) (sLen := l.length) (sCap := l.length) (w' := w) hu1 hu2 hj' (hlenOf w) (by rw [← hjs]; exact hrun0) (by simp) (fun ad _ => by rw [hnn]; simp [storeCells]) (fun _ => rfl)
    refine ⟨_, w, β, S, hexec hrun, ?_, hsim⟩
    simp only [RepA, RepX, List.append_nil]
    exact ⟨esz, ab, l.length, by simp, Nat.le_refl _, hrs⟩
  · have hpos : 0 < ds.length := List.length_pos_iff.2 hn0
    -- the literal's cells
    have hmemL : ∃ oldv : List Value, (Builtin.firstCells j.size l.length (.slice ab l.length l.length)).run F.P w.drew = .ok oldv.toArray w.drew ∧ oldv.length = l.length * j.size ∧
        ∀ (k : Nat) (y : AV), (l.map AV.dat)[k]? = some y → ∀ (m : Nat) (c : AV), y.cells[m]? = some c → ∃ v, oldv[k * j.size + m]? = some v ∧ v.oneCell' = true ∧ RepA β S w c v := by
      cases hl0 : l with
      | nil => exact ⟨[], by cases ab <;> simp [Builtin.firstCells, loadCells, loadCellsFrom], by simp, fun k y hy => by simp at hy⟩
      | cons d0 l0 =>
        obtain ⟨b, off, rfl, hcl, _⟩ := repS_get hrs (i := 0) (d := d0) (by simp [hl0])
        obtain rfl : esz = j.size := by have := hl d0 (by simp [hl0]); omega
        rw [← hl0]
        have hmc : MemC β S w ((l.map AV.dat).map AV.cells).flatten b off := memC_flatten (n := j.size) fun k y hy => by
          rw [List.getElem?_map] at hy
          cases hdk : l[k]? with
          | none => simp [hdk] at hy
          | some dk =>
            simp only [hdk, Option.map_some, Option.some.injEq] at hy
            subst hy
            obtain ⟨b', o', ha, hcl', hrc⟩ := repS_get hrs hdk
            simp only [Option.some.injEq, Addr.mk.injEq, and_true] at ha
            obtain ⟨rfl, rfl⟩ := ha
            rw [dat_cells]
            exact ⟨by simpa using hcl', memC_of_repC hrc⟩
        obtain ⟨vs, hvl, hvc, hvr⟩ := memC_list hmc
        have hszL : ∀ y ∈ l.map AV.dat, y.cells.length = j.size := fun y hy => by
          obtain ⟨q, hq, rfl⟩ := List.mem_map.1 hy
          rw [dat_cells]; simpa using hl q hq
        obtain ⟨hol, hoget⟩ := append_block hszL hvr (fun u hu => by obtain ⟨q, hq⟩ := List.getElem?_of_mem hu; exact (hvc q u hq).2)
        rw [List.length_map] at hol
        exact ⟨vs, run_firstCells_some (P := F.P) w.drew j.size l.length ⟨b, off, none⟩ l.length l.length vs hol (fun q u hu => by rw [add_none, World.cell?_drew]; exact (hvc q u hu).1), hol, hoget⟩
    obtain ⟨oldv, hov, hol, hoget⟩ := hmemL
    have hrun := run_append_grow' (P := F.P) (w := w) (ty := o.type) (a := ab) (sLen := l.length) (sCap := l.length) hu1 hu2 hj' hjzero (hlenOf w) (by rw [← hjs]; exact hrund0) (by rw [← hjs]; exact hov) (by omega) (by omega) (by rw [← hjb]; exact hfit)
    let NC := grownCap w (l.length + ds.length) l.length e
    have hNC : l.length + ds.length ≤ NC := grownCap_ge w _ _ _
    let arr : Array Value := oldv.toArray ++ news.toArray ++ Builtin.zeroCells zv.cells (NC - (l.length + ds.length))
    have hsim2 := hsim.drew.newDat (.cells arr e)
    have hnewb : (w.drew.alloc (.cells arr e)).heap[w.heap.size]? = some (.cells arr e (0, 0)) := heap_alloc_new w.drew _
    have hkeep : Keeps S (fun b i => S b i ∨ b = w.heap.size) w (w.drew.alloc (.cells arr e)) := keeps_alloc (w := w.drew) _ (fun _ _ h => .inl h) hsim.lt
    refine ⟨_, _, _, _, hexec hrun, ?_, hsim2⟩
    simp only [RepA, RepX]
    refine ⟨j.size, _, NC, by rw [List.length_append], by rw [List.length_append]; exact hNC, ?_⟩
    have hget : ∀ q v, (oldv ++ news)[q]? = some v → arr[q]? = some v := fun q v hq => by
      have hql : q < (oldv ++ news).length := (List.getElem?_eq_some_iff.1 hq).1
      simp only [arr]
      rw [Array.getElem?_append_left (by simpa using hql)]
      simpa using hq
    refine repS_block (β := β) (S := S) (w := w) (arr := arr) (e := e) (fr := (0, 0)) hkeep (Shapes.alloc w.drew _) hnewb (fun _ => .inr rfl) 0 fun k y hy => ?_
    rw [List.map_append] at hy
    by_cases hkl : k < l.length
    · rw [List.getElem?_append_left (by simpa using hkl)] at hy
      refine ⟨?_, fun m c hc => ?_⟩
      · obtain ⟨q, hq, rfl⟩ := List.mem_map.1 (List.mem_of_getElem? hy)
        rw [dat_cells]; simpa using hl q hq
      · obtain ⟨v, hv, h3, hr⟩ := hoget k y hy m c hc
        have hvl : k * j.size + m < oldv.length := (List.getElem?_eq_some_iff.1 hv).1
        exact ⟨v, by rw [Nat.zero_add]; exact hget _ v (by rw [List.getElem?_append_left hvl]; exact hv), h3, hr⟩
    · rw [List.getElem?_append_right (by simp; omega), List.length_map] at hy
      refine ⟨hszA y (List.mem_of_getElem? hy), fun m c hc => ?_⟩
      obtain ⟨v, hv, h3, hr⟩ := hnget _ y hy m c hc
      have e1 : k * j.size = l.length * j.size + (k - l.length) * j.size := by rw [← Nat.add_mul]; congr 1; omega
      refine ⟨v, ?_, h3, hr⟩
      rw [Nat.zero_add]
      refine hget _ v ?_
      rw [List.getElem?_append_right (by rw [hol]; omega), hol]
      rw [show k * j.size + m - l.length * j.size = (k - l.length) * j.size + m from by omega]
      exact hv

end Go.Av

namespace Go.Av

def mapO (f : AV → Option Dat) : List AV → Option (List Dat)
  | [] => some []
  | x :: l => match f x, mapO f l with
    | some d, some ds => some (d :: ds)
    | _, _ => none

def viewL (f : AV → Option Dat) (l : List AV) : Option (List Dat) :=
  match datE l with
  | some ds => some ds
  | none => mapO f l

def viewD (objs : Nat → Option AObj) : Nat → AV → Option Dat
  | 0, x => match x with
    | .dat d => some d
    | .nils => some (.sl [])
    | .rp d 0 => some (.ref d)
    | _ => none
  | n + 1, x => match x with
    | .dat d => some d
    | .nils => some (.sl [])
    | .rp d 0 => some (.ref d)
    | .osl id es off len => match objs id with
      | some o => if o.es = es ∧ off + len ≤ o.elems.length then (viewL (viewD objs n) ((o.elems.drop off).take len)).map .sl else none
      | none => none
    | .ptr id es k 0 => match objs id with
      | some o => if o.es = es then (match o.elems[k]? with
        | some x => (viewD objs n x).map .ref
        | none => none) else none
      | none => none
    | .agg l => match viewL (viewD objs n) l with
      | some ds => if ds.all (fun d => !d.isAgg) then some (.agg ds) else none
      | none => none
    | .fn f caps => (viewL (viewD objs n) caps).map (.fn f)
    | _ => none

theorem mapO_get {f : AV → Option Dat} : ∀ {l : List AV} {ds : List Dat}, mapO f l = some ds → ds.length = l.length ∧ ∀ (i : Nat) (x : AV), l[i]? = some x → ∃ d, ds[i]? = some d ∧ f x = some d
  | [], ds, h => by simp [mapO] at h; subst h; simp
  | x :: l, ds, h => by
    simp only [mapO] at h
    split at h <;> try (simp at h; done)
    rename_i d ds' hd hds
    simp only [Option.some.injEq] at h
    subst h
    obtain ⟨h1, h2⟩ := mapO_get hds
    refine ⟨by simp [h1], fun i y hy => ?_⟩
    cases i with
    | zero => simp at hy; subst hy; exact ⟨d, by simp, hd⟩
    | succ i => simpa using h2 i y (by simpa using hy)

theorem viewL_get {f : AV → Option Dat} (hf : ∀ d, f (.dat d) = some d) {l : List AV} {ds : List Dat} (h : viewL f l = some ds) : ds.length = l.length ∧ ∀ (i : Nat) (x : AV), l[i]? = some x → ∃ d, ds[i]? = some d ∧ f x = some d := by
  unfold viewL at h
  split at h
  · rename_i ds' hds
    simp only [Option.some.injEq] at h
    subst h
    have := datE_eq hds
    subst this
    refine ⟨by simp, fun i x hx => ?_⟩
    rw [List.getElem?_map] at hx
    cases hd : ds'[i]? with
    | none => simp [hd] at hx
    | some d =>
      simp only [hd, Option.map_some, Option.some.injEq] at hx
      subst hx
      exact ⟨d, rfl, hf d⟩
  · exact mapO_get h

theorem viewD_dat (objs : Nat → Option AObj) (n : Nat) (d : Dat) : viewD objs n (.dat d) = some d := by cases n <;> rfl

theorem repV_of {S : Nat → Nat → Prop} {w : World} : ∀ {l : List Dat} {vs : List Value}, vs.length = l.length → (∀ (i : Nat) (d : Dat), l[i]? = some d → ∃ v, vs[i]? = some v ∧ RepX S w d v) → RepV S w l vs
  | [], vs, hl, _ => by simp [RepV]; exact List.eq_nil_of_length_eq_zero (by simpa using hl)
  | x :: ds, vs, hl, h => by
    simp only [RepV]
    cases vs with
    | nil => simp at hl
    | cons v vs' =>
      refine ⟨v, vs', rfl, ?_, repV_of (by simpa using hl) fun i d hd => by simpa using h (i + 1) d (by simpa using hd)⟩
      obtain ⟨v', hv', hr⟩ := h 0 x (by simp)
      simp at hv'
      exact hv' ▸ hr

/-- All that is stable, and all objects. -/
def AllS (st : ASt) (β : Places) (S : Nat → Nat → Prop) : Nat → Nat → Prop := fun b i => S b i ∨ ∃ id o s, st.objs id = some o ∧ β id = some (b, s)

theorem view_mem {β : Places} {S S1 : Nat → Nat → Prop} {w : World} {x : AV} {d : Dat} {b o : Nat} (hk : Keeps S S1 w w) (hd : (∃ d', x = .dat d' ∧ d = d') ∨ (∃ l ds, x = .agg l ∧ d = .agg ds ∧ ds.length = l.length ∧ (∀ d ∈ ds, d.isAgg = false) ∧ ∀ (i : Nat) (c : AV), l[i]? = some c → ∃ dc, ds[i]? = some dc ∧ ∀ v, RepA β S w c v → RepX S1 w dc v) ∨
      (x.cells = [x] ∧ d.isAgg = false ∧ ∀ v, RepA β S w x v → RepX S1 w d v))
    (hm : MemC β S w x.cells b o) (hb : ∀ i, S1 b i) : d.cells.length = x.cells.length ∧ RepC S1 w d.cells b o := by
  rcases hd with ⟨d', rfl, rfl⟩ | ⟨l, ds, rfl, rfl, hl, hna, hc⟩ | ⟨hcell, hna, hr⟩
  · rw [dat_cells] at hm ⊢
    refine ⟨by simp, repC_of fun i c hci => ⟨hb _, ?_⟩⟩
    obtain ⟨v, hv, h1, hrv⟩ := hm i (.dat c) (by simp [hci])
    simp only [RepA] at hrv
    refine ⟨v, hv, Rep1.mono hk c v (rep1_of_repX ?_ hrv)⟩
    cases c <;> simp [Dat.isAgg]
    simp only [RepX] at hrv
    obtain ⟨cs, rfl, _⟩ := hrv
    simp [Value.oneCell'] at h1
  · simp only [AV.cells, Dat.cells] at hm ⊢
    refine ⟨hl, repC_of fun i dc hdc => ⟨hb _, ?_⟩⟩
    have hlt : i < l.length := by have := (List.getElem?_eq_some_iff.1 hdc).1; omega
    obtain ⟨v, hv, h1, hrv⟩ := hm i l[i] (List.getElem?_eq_getElem hlt)
    obtain ⟨dc', hdc', hr⟩ := hc i l[i] (List.getElem?_eq_getElem hlt)
    rw [hdc] at hdc'
    simp only [Option.some.injEq] at hdc'
    subst hdc'
    exact ⟨v, hv, rep1_of_repX (hna _ (List.mem_of_getElem? hdc)) (hr v hrv)⟩
  · have hdc : d.cells = [d] := by cases d <;> simp_all [Dat.isAgg]
    rw [hcell] at hm ⊢
    rw [hdc]
    refine ⟨rfl, repC_of fun i dc hi => ⟨hb _, ?_⟩⟩
    cases i with
    | zero =>
      simp at hi; subst hi
      obtain ⟨v, hv, h1, hrv⟩ := hm 0 x (by simp)
      exact ⟨v, hv, rep1_of_repX hna (hr v hrv)⟩
    | succ i => simp at hi

theorem viewD_rep {F : FC} {β : Places} {S : Nat → Nat → Prop} {st : ASt} {tm : Array Value} {w : World} (hs : SimB F β S st tm w) : ∀ (n : Nat) (x : AV) (d : Dat), viewD st.objs n x = some d →
    (∀ v, RepA β S w x v → RepX (AllS st β S) w d v) ∧ (∀ b o, MemC β S w x.cells b o → (∀ i, AllS st β S b i) → d.cells.length = x.cells.length ∧ RepC (AllS st β S) w d.cells b o) := by
  have hk : Keeps S (AllS st β S) w w := Keeps.wider w fun b i h => .inl h
  have kdat : ∀ (d : Dat), (∀ v, RepA β S w (.dat d) v → RepX (AllS st β S) w d v) ∧ (∀ b o, MemC β S w (AV.dat d).cells b o → (∀ i, AllS st β S b i) → d.cells.length = (AV.dat d).cells.length ∧ RepC (AllS st β S) w d.cells b o) := fun d =>
    ⟨fun v h => by simp only [RepA] at h; exact RepX.mono hk d v h, fun b o hm hb => view_mem hk (.inl ⟨d, rfl, rfl⟩) hm hb⟩
  have single : ∀ (x : AV) (d : Dat), x.cells = [x] → d.isAgg = false → (∀ v, RepA β S w x v → RepX (AllS st β S) w d v) → (∀ v, RepA β S w x v → RepX (AllS st β S) w d v) ∧ (∀ b o, MemC β S w x.cells b o → (∀ i, AllS st β S b i) → d.cells.length = x.cells.length ∧ RepC (AllS st β S) w d.cells b o) := fun x d h1 h2 h3 =>
    ⟨h3, fun b o hm hb => view_mem hk (.inr (.inr ⟨h1, h2, h3⟩)) hm hb⟩
  have knils : (∀ v, RepA β S w .nils v → RepX (AllS st β S) w (.sl []) v) := fun v h => by
    simp only [RepA] at h
    obtain ⟨a, rfl⟩ := h
    simp only [RepX]
    exact ⟨0, a, 0, rfl, Nat.le_refl _, by simp [RepS]⟩
  have krp : ∀ d, (∀ v, RepA β S w (.rp d 0) v → RepX (AllS st β S) w (.ref d) v) := fun d v h => by
    simp only [RepA] at h
    obtain ⟨b, o, rfl, hr⟩ := h
    simp only [RepX]
    exact ⟨b, o, by simp, RepAt.mono hk d b o hr⟩
  intro n
  induction n with
  | zero =>
    intro x d h
    unfold viewD at h
    split at h <;> simp at h <;> subst h
    · exact kdat _
    · exact single _ _ rfl rfl knils
    · exact single _ _ rfl rfl (krp _)
  | succ n ih =>
    intro x d h
    unfold viewD at h
    split at h
    · simp at h; subst h; exact kdat _
    · simp at h; subst h; exact single _ _ rfl rfl knils
    · simp at h; subst h; exact single _ _ rfl rfl (krp _)
    · rename_i id es off len
      split at h <;> try (simp at h; done)
      rename_i ob hob
      split at h <;> try (simp at h; done)
      rename_i hcond
      obtain ⟨rfl, hol⟩ := hcond
      cases hv : viewL (viewD st.objs n) ((ob.elems.drop off).take len) with
      | none => simp [hv] at h
      | some ds =>
        simp only [hv, Option.map_some, Option.some.injEq] at h
        subst h
        obtain ⟨hdl, hget⟩ := viewL_get (viewD_dat st.objs n) hv
        have hlen : ds.length = len := by rw [hdl]; simp; omega
        refine single _ _ rfl rfl fun v hr => ?_
        simp only [RepA] at hr
        simp only [RepX]
        rcases hr with ⟨hn, rfl, a, rfl⟩ | ⟨b, s, cap, arr, e, a, hb, rfl, ha, hc, hh, hz⟩
        · have : ds = [] := List.eq_nil_of_length_eq_zero hlen
          subst this
          exact ⟨0, a, 0, rfl, Nat.le_refl _, by simp [RepS]⟩
        · refine ⟨ob.es, a, cap, by rw [hlen], by omega, ?_⟩
          by_cases hl0 : len = 0
          · have : ds = [] := List.eq_nil_of_length_eq_zero (by omega)
            subst this
            simp [RepS]
          · have ha' := ha (by omega)
            subst ha'
            rcases hs.obj id ob hob with ⟨hn, _⟩ | ⟨b', s', arr', e', hb', hw, hh', hz', hel⟩
            · rw [hn] at hb; cases hb
            rw [hb'] at hb
            simp only [Option.some.injEq, Prod.mk.injEq] at hb
            obtain ⟨rfl, rfl⟩ := hb
            refine repS_of fun i dc hdc => ?_
            have hil : i < len := by have := (List.getElem?_eq_some_iff.1 hdc).1; omega
            have hoi : off + i < ob.elems.length := by omega
            obtain ⟨dc', hdc', hview⟩ := hget i ob.elems[off + i] (by rw [List.getElem?_take, if_pos hil, List.getElem?_drop]; exact List.getElem?_eq_getElem hoi)
            rw [hdc] at hdc'
            simp only [Option.some.injEq] at hdc'
            subst hdc'
            obtain ⟨h1, h2⟩ := hel (off + i) _ (List.getElem?_eq_getElem hoi)
            obtain ⟨h3, h4⟩ := (ih _ _ hview).2 b' _ h2 (fun i => .inr ⟨id, ob, s', hob, hb'⟩)
            refine ⟨by omega, ?_⟩
            rwa [Nat.add_mul, ← Nat.add_assoc] at h4
    · rename_i id es k
      split at h <;> try (simp at h; done)
      rename_i ob hob
      split at h <;> try (simp at h; done)
      rename_i hes
      subst hes
      split at h <;> try (simp at h; done)
      rename_i y hy
      cases hv : viewD st.objs n y with
      | none => simp [hv] at h
      | some dy =>
        simp only [hv, Option.map_some, Option.some.injEq] at h
        subst h
        refine single _ _ rfl rfl fun v hr => ?_
        simp only [RepA] at hr
        obtain ⟨b, s, hb, rfl⟩ := hr
        simp only [RepX]
        rcases hs.obj id ob hob with ⟨hn, _⟩ | ⟨b', s', arr', e', hb', hw, hh', hz', hel⟩
        · rw [hn] at hb; cases hb
        rw [hb'] at hb
        simp only [Option.some.injEq, Prod.mk.injEq] at hb
        obtain ⟨rfl, rfl⟩ := hb
        obtain ⟨h3, h4⟩ := (ih _ _ hv).2 b' _ (hel k y hy).2 (fun i => .inr ⟨id, ob, s', hob, hb'⟩)
        exact ⟨b', s' + k * ob.es, by simp, (repAt_cells _ _ _).2 h4⟩
    · rename_i l
      split at h <;> try (simp at h; done)
      rename_i ds hv
      split at h <;> try (simp at h; done)
      rename_i hall
      simp only [Option.some.injEq] at h
      subst h
      obtain ⟨hdl, hget⟩ := viewL_get (viewD_dat st.objs n) hv
      have hna : ∀ d ∈ ds, d.isAgg = false := fun d hd => by simpa using List.all_eq_true.1 hall d hd
      have hcell : ∀ (i : Nat) (c : AV), l[i]? = some c → ∃ dc, ds[i]? = some dc ∧ ∀ v, RepA β S w c v → RepX (AllS st β S) w dc v := fun i c hc => by
        obtain ⟨dc, h1, h2⟩ := hget i c hc
        exact ⟨dc, h1, (ih _ _ h2).1⟩
      refine ⟨fun v hr => ?_, fun b o hm hb => view_mem hk (.inr (.inl ⟨l, ds, rfl, rfl, hdl, hna, hcell⟩)) hm hb⟩
      simp only [RepA] at hr
      obtain ⟨cs, rfl, hr⟩ := hr
      simp only [RepX]
      refine ⟨cs, rfl, repL_of (by rw [repAL_length hr, hdl]) fun i dc hdc => ?_⟩
      have hlt : i < l.length := by have := (List.getElem?_eq_some_iff.1 hdc).1; omega
      obtain ⟨u, hu, hru⟩ := repAL_get hr (List.getElem?_eq_getElem hlt)
      obtain ⟨dc', h1, h2⟩ := hcell i _ (List.getElem?_eq_getElem hlt)
      rw [hdc] at h1
      simp only [Option.some.injEq] at h1
      subst h1
      exact ⟨u, hu, rep1_of_repX (hna _ (List.mem_of_getElem? hdc)) (h2 u hru)⟩
    · rename_i f caps
      cases hv : viewL (viewD st.objs n) caps with
      | none => simp [hv] at h
      | some ds =>
        simp only [hv, Option.map_some, Option.some.injEq] at h
        subst h
        obtain ⟨hdl, hget⟩ := viewL_get (viewD_dat st.objs n) hv
        refine single _ _ rfl rfl fun v hr => ?_
        simp only [RepA] at hr
        obtain ⟨vs, rfl, hr⟩ := hr
        simp only [RepX]
        refine ⟨vs, rfl, repV_of (by rw [repAL_length hr, hdl]) fun i dc hdc => ?_⟩
        have hlt : i < caps.length := by have := (List.getElem?_eq_some_iff.1 hdc).1; omega
        obtain ⟨u, hu, hru⟩ := repAL_get hr (List.getElem?_eq_getElem hlt)
        obtain ⟨dc', h1, h2⟩ := hget i _ (List.getElem?_eq_getElem hlt)
        rw [hdc] at h1
        simp only [Option.some.injEq] at h1
        subst h1
        exact ⟨u, hu, (ih _ _ h2).1 u hru⟩
    · simp at h

end Go.Av

namespace Go.Av

def Dat.pf : Dat → Bool
  | .agg l => l.all Dat.flat
  | d => d.flat

theorem repX_pf {S S' : Nat → Nat → Prop} {w w' : World} {d : Dat} {v : Value} (hf : d.pf = true) (h : RepX S w d v) : RepX S' w' d v := by
  cases d with
  | agg l =>
    simp only [Dat.pf] at hf
    simp only [RepX] at h ⊢
    obtain ⟨cs, rfl, hr⟩ := h
    refine ⟨cs, rfl, repL_of (repL_length hr) fun i d hd => ?_⟩
    obtain ⟨u, hu, hru⟩ := repL_get hr hd
    exact ⟨u, hu, rep1_flat (List.all_eq_true.1 hf d (List.mem_of_getElem? hd)) hru⟩
  | _ => simp_all [Dat.pf, Dat.flat, RepX]

/-- What package-level variables hold in a world. -/
def GOK (G : List (Nat × Dat)) (w : World) : Prop := ∀ p ∈ G, p.1 < w.heap.size ∧ RepC (fun b _ => b = p.1) w p.2.cells p.1 0

def RetRep (S : Nat → Nat → Prop) (w : World) (rs : List Dat) (v : Value) : Prop :=
  match rs with
  | [r] => RepX S w r v
  | rs => ∃ vs, v = .tuple vs ∧ RepV S w rs vs.toList

/-- A function's contract on data: called with these arguments it returns these results; what was there stays as it was. -/
def Gives (P : Program) (G : List (Nat × Dat)) (f : FuncId) (args rs : List Dat) : Prop :=
  (∃ fn c, P.funcs[f]? = some fn ∧ fn.body = some c ∧ (fn.name == "runtime.NumGoroutine") = false) ∧
  ∀ (w : World) (S : Nat → Nat → Prop) (vals : Array Value), (∀ b i, S b i → b < w.heap.size) → GOK G w → RepV S w args vals.toList →
    Calls P f vals w fun e w' => ∃ v, e = .returned v ∧ Ext (fun _ => False) w w' ∧ RetRep (fun b i => S b i ∨ (w.heap.size ≤ b ∧ b < w'.heap.size)) w' rs v

def retA (rs : List Dat) : AV :=
  match rs with
  | [r] => .dat r
  | rs => .tup (rs.map .dat)

theorem retA_rep {β : Places} {S : Nat → Nat → Prop} {w : World} {rs : List Dat} {v : Value} (h : RetRep S w rs v) : RepA β S w (retA rs) v := by
  unfold retA
  unfold RetRep at h
  split at h
  · simpa only [RepA] using h
  · · simp only [RepA]
      obtain ⟨vs, rfl, hr⟩ := h
      refine ⟨vs, rfl, ?_⟩
      have : ∀ {l : List Dat} {us : List Value}, RepV S w l us → RepAL β S w (l.map .dat) us := by
        intro l
        induction l with
        | nil => intro us h; simpa [RepV, RepAL] using h
        | cons d l ih =>
          intro us h
          simp only [RepV] at h
          obtain ⟨u, us', rfl, h1, h2⟩ := h
          simp only [List.map_cons, RepAL]
          exact ⟨u, us', rfl, by simpa only [RepA] using h1, ih h2⟩
      exact this hr

theorem retRep_pf {S S' : Nat → Nat → Prop} {w : World} {rs : List Dat} {v : Value} (hf : rs.all Dat.pf = true) (h : RetRep S w rs v) : RetRep S' w rs v := by
  unfold RetRep at h ⊢
  split at h
  · simp at hf; exact repX_pf hf h
  · obtain ⟨vs, rfl, hr⟩ := h
    · refine ⟨vs, rfl, ?_⟩
      have : ∀ {l : List Dat} {us : List Value}, l.all Dat.pf = true → RepV S w l us → RepV S' w l us := by
        intro l
        induction l with
        | nil => intro us _ h; simpa [RepV] using h
        | cons d l ih =>
          intro us hf h
          simp only [List.all_cons, Bool.and_eq_true] at hf
          simp only [RepV] at h ⊢
          obtain ⟨u, us', rfl, h1, h2⟩ := h
          exact ⟨u, us', rfl, repX_pf hf.1 h1, ih hf.2 h2⟩
      exact this hf hr

/-- The data that a call's arguments are: by themselves, or as the frame's objects stand. -/
def callArgs (objs : Nat → Option AObj) (xs : List AV) (rs : List Dat) : Option (List Dat) :=
  match mapO (viewD (fun _ => none) 4) xs with
  | some ds => some ds
  | none => if rs.all Dat.pf then mapO (viewD objs 6) xs else none

theorem repV_views {β : Places} {S S1 : Nat → Nat → Prop} {w : World} {f : AV → Option Dat} (hf : ∀ x d, f x = some d → ∀ v, RepA β S w x v → RepX S1 w d v) : ∀ {xs : List AV} {vs : List Value} {ds : List Dat}, mapO f xs = some ds → RepAL β S w xs vs → RepV S1 w ds vs
  | [], vs, ds, h, hr => by
    simp [mapO] at h
    subst h
    simpa [RepV, RepAL] using hr
  | x :: xs, vs, ds, h, hr => by
    simp only [mapO] at h
    split at h <;> try (simp at h; done)
    rename_i d ds' hd hds
    simp only [Option.some.injEq] at h
    subst h
    simp only [RepAL] at hr
    obtain ⟨v, vs', rfl, h1, h2⟩ := hr
    simp only [RepV]
    exact ⟨v, vs', rfl, hf x d hd v h1, repV_views hf hds h2⟩

theorem SimB.noObjs {F : FC} {β : Places} {S : Nat → Nat → Prop} {st : ASt} {tm : Array Value} {w : World} (hs : SimB F β S st tm w) : SimB F β S ⟨st.env, fun _ => none⟩ tm w :=
  ⟨hs.ext, hs.glob, hs.sub, hs.lt, fun _ _ _ _ _ h => by simp at h, fun _ _ _ _ _ _ _ h => by simp at h, fun _ _ h => by simp at h, hs.env, hs.size⟩

theorem SimB.gok {F : FC} {β : Places} {S : Nat → Nat → Prop} {st : ASt} {tm : Array Value} {w : World} (hs : SimB F β S st tm w) : GOK F.G w := fun p hp => by
  obtain ⟨h1, h2, h3⟩ := hs.glob p hp
  refine ⟨Nat.lt_of_lt_of_le h1 hs.ext.size, RepC.mono (fun b i hb => ⟨hb, ?_⟩) _ _ _ h3⟩
  subst hb
  exact cell_of_heap (hs.ext.block _ h1 h2)

/-- What the world behind a call is, to the frame that called. -/
theorem SimB.called {F : FC} {β : Places} {S : Nat → Nat → Prop} {st : ASt} {tm : Array Value} {w w' : World} (hs : SimB F β S st tm w) (hext : Ext (fun _ => False) w w') :
    SimB F β (fun b i => S b i ∨ (w.heap.size ≤ b ∧ b < w'.heap.size)) st tm w' :=
  hs.world hext (fun _ _ h => h.elim) (fun b i h => ⟨.inl h, cell_of_heap (hext.block b (hs.lt b i h) (fun f => f))⟩)
    (fun b i h => h.elim (hs.sub b i) (fun h => .inr (Nat.le_trans hs.ext.size h.1))) (fun b i h => h.elim (fun h => Nat.lt_of_lt_of_le (hs.lt b i h) hext.size) (fun h => h.2))
    (fun id o b s i ho hb h => h.elim (hs.sep id o b s i ho hb) (fun h => by have := hs.block_lt ho hb; omega))
    (fun id o b s ho hb => hext.block b (hs.block_lt ho hb) (fun f => f))

/-- What is called, and with what. -/
def callee (env : Nat → AV) (f : Operand) (args : List Operand) : Option (FuncId × List AV) :=
  match evA env f with
  | .fn g caps => some (g, args.map (evA env) ++ caps)
  | _ => none

theorem call_wp {F : FC} {o : Oper} {β : Places} {S : Nat → Nat → Prop} {st : ASt} {a : Act} {w : World} {f : Operand} {args : Array Operand} {ts : Array TypeId} {g : FuncId} {xs : List AV} {ds rs : List Dat} (hs : SimB F β S st a.tmps w)
    (ho : o.op = .call { callee := .value f, args := args, argTypes := ts }) {ρ : Operand → AV} (hf : ∀ x ∈ o.op.operands.toList, RepA β S w (ρ x) (a.eval x)) {caps : List AV} (hg : ρ f = .fn g caps) (hxs : xs = args.toList.map ρ ++ caps)
    (hds : callArgs st.objs xs rs = some ds) (hc : Gives F.P F.G g ds rs) {K : Act → World → Prop} {Q : Exit → Act → World → Prop}
    (hK : ∀ S' w' r, SimB F β S' st a.tmps w' → RepA β S' w' (retA rs) r → K (a.put o.dst r) w') : o.wp F.P a w K Q := by
  obtain ⟨⟨fn, c, hfn, hbody, hname⟩, hcalls⟩ := hc
  have hrf := hf f (by simp [ho, Op.operands, Call.operands])
  rw [hg] at hrf
  simp only [RepA] at hrf
  obtain ⟨vs, hvf, hvs⟩ := hrf
  have hargs : RepAL β S w xs ((args.map a.eval) ++ vs).toList := by
    rw [hxs, Array.toList_append, Array.toList_map]
    exact repAL_append (repAL_map args.toList fun x hx => hf x (by simp only [ho, Op.operands, Call.operands]; simp at hx ⊢; exact .inr hx)) hvs
  have hrun : (execOp a.eval o).run F.P w = .ok (.enter g (args.map a.eval ++ vs)) w := by
    have hn' : ¬ fn.name = "runtime.NumGoroutine" := by simpa using hname
    simp [execOp, ho, resolve, hvf, Deferred.ofValue, invoke, callFunc, hfn, hn', hbody]
  unfold Oper.wp
  rw [hrun, Oper.upon_enter]
  unfold callArgs at hds
  split at hds
  · rename_i ds' hds'
    simp only [Option.some.injEq] at hds
    subst hds
    have hv := repV_views (S1 := S) (fun x d h v hr => RepX.mono (fun b i h => ⟨h.elim id (fun ⟨_, _, _, h, _⟩ => by simp at h), rfl⟩) d v ((viewD_rep hs.noObjs 4 x d h).1 v hr)) hds' hargs
    refine (hcalls w S _ hs.lt hs.gok hv).mono fun e w' h => ?_
    obtain ⟨r, rfl, hext, hret⟩ := h
    exact hK _ _ _ (hs.called hext) (retA_rep hret)
  · split at hds <;> try (simp at hds; done)
    rename_i hpf
    have hv := repV_views (S1 := AllS st β S) (fun x d h v hr => (viewD_rep hs 6 x d h).1 v hr) hds hargs
    refine (hcalls w (AllS st β S) _ (fun b i h => h.elim (hs.lt b i) (fun ⟨id, ob, s, h1, h2⟩ => hs.block_lt h1 h2)) hs.gok hv).mono fun e w' h => ?_
    obtain ⟨r, rfl, hext, hret⟩ := h
    exact hK _ _ _ (hs.called hext) (retA_rep (retRep_pf hpf hret))

end Go.Av

namespace Go.Av

mutual
/-- Objects under other names. -/
def AV.ren (m : Nat → Nat) : AV → AV
  | .junk => .junk
  | .dat d => .dat d
  | .agg l => .agg (renL m l)
  | .tup l => .tup (renL m l)
  | .osl i es off len => .osl (m i) es off len
  | .nils => .nils
  | .lits l => .lits l
  | .ptr i es k off => .ptr (m i) es k off
  | .gl g off => .gl g off
  | .rp d off => .rp d off
  | .fn f caps => .fn f (renL m caps)
  | .cond b v => .cond b (v.ren m)
  | .raw v => .raw v
def renL (m : Nat → Nat) : List AV → List AV
  | [] => []
  | v :: l => v.ren m :: renL m l
end
theorem renL_eq (m : Nat → Nat) : ∀ l, renL m l = l.map (AV.ren m)
  | [] => by simp [renL]
  | v :: l => by simp [renL, renL_eq m l]
theorem cells_ren (m : Nat → Nat) (x : AV) : (x.ren m).cells = x.cells.map (AV.ren m) := by
  cases x with
  | dat d => cases d <;> simp [AV.ren, AV.cells]
  | agg l => simp [AV.ren, AV.cells, renL_eq]
  | _ => simp [AV.ren, AV.cells]

mutual
theorem RepA.ren {β : Places} {S : Nat → Nat → Prop} {w : World} (m : Nat → Nat) : ∀ (x : AV) (v : Value), RepA β S w (x.ren m) v ↔ RepA (fun i => β (m i)) S w x v
  | .junk, _ => by simp [RepA, AV.ren]
  | .dat d, v => by simp only [RepA, AV.ren]
  | .agg l, v => by simp only [RepA, AV.ren, RepAL.ren m l]
  | .tup l, v => by simp only [RepA, AV.ren, RepAL.ren m l]
  | .osl id es off len, v => by simp only [RepA, AV.ren]
  | .nils, v => by simp only [RepA, AV.ren]
  | .lits l, v => by simp only [RepA, AV.ren]
  | .ptr id es i off, v => by simp only [RepA, AV.ren]
  | .gl g off, v => by simp only [RepA, AV.ren]
  | .rp d off, v => by simp only [RepA, AV.ren]
  | .fn f caps, v => by simp only [RepA, AV.ren, RepAL.ren m caps]
  | .cond c x, v => by simp only [RepA, AV.ren, RepA.ren m x]
  | .raw x, v => by simp only [RepA, AV.ren]
theorem RepAL.ren {β : Places} {S : Nat → Nat → Prop} {w : World} (m : Nat → Nat) : ∀ (l : List AV) (vs : List Value), RepAL β S w (renL m l) vs ↔ RepAL (fun i => β (m i)) S w l vs
  | [], _ => by simp [RepAL, renL]
  | x :: xs, vs => by simp only [RepAL, renL, RepA.ren m x, RepAL.ren m xs]
end

def AObj.ren (m : Nat → Nat) (o : AObj) : AObj := ⟨o.es, o.elems.map (AV.ren m)⟩

def objL : List (Nat × AObj) → Nat → Option AObj
  | [], _ => none
  | (k, v) :: l, n => if n = k then some v else objL l n

theorem objL_mem {i : Nat} {o : AObj} : ∀ {l : List (Nat × AObj)}, objL l i = some o → (i, o) ∈ l
  | [], h => by simp [objL] at h
  | (k, v) :: l, h => by
    simp only [objL] at h
    split at h
    · rename_i hk; subst hk; simp at h; subst h; simp
    · exact List.mem_cons_of_mem _ (objL_mem h)

/-- The blocks of the objects that a call is given. -/
def MB (os : List (Nat × AObj)) (β : Places) : Nat → Prop := fun b => ∃ id o s, objL os id = some o ∧ β id = some (b, s)
/-- A frame that has these objects and nothing else. -/
def FC0 (P : Program) (G : List (Nat × Dat)) (w : World) (os : List (Nat × AObj)) (β : Places) (S : Nat → Nat → Prop) : FC := ⟨P, 0, G, w, MB os β, S, [], [], [], β⟩
def ASt.os (os : List (Nat × AObj)) : ASt := ⟨fun _ => .junk, objL os⟩

/-- A contract of a function that is given objects of its caller's: it returns this, and leaves them so. -/
def GivesM (P : Program) (G : List (Nat × Dat)) (f : FuncId) (xs : List AV) (os : List (Nat × AObj)) (rs : List Dat) (os' : List (Nat × AObj)) : Prop :=
  (∃ fn c, P.funcs[f]? = some fn ∧ fn.body = some c ∧ (fn.name == "runtime.NumGoroutine") = false) ∧
  ∀ (w : World) (β : Places) (S : Nat → Nat → Prop) (vals : Array Value), SimB (FC0 P G w os β S) β S (.os os) #[] w → RepAL β S w xs vals.toList →
    Calls P f vals w fun e w' => ∃ v S', e = .returned v ∧ (∀ b i, S b i → S' b i) ∧ SimB (FC0 P G w os β S) β S' (.os os') #[] w' ∧ RetRep S' w' rs v

/-- The caller's objects behind such a call. -/
def ASt.objsM (m : Nat → Nat) (st : ASt) : List (Nat × AObj) → ASt
  | [] => st
  | (id, o) :: l => (st.objsM m l).obj (m id) (o.ren m)

theorem objsM_env (m : Nat → Nat) (st : ASt) : ∀ l, (st.objsM m l).env = st.env
  | [] => rfl
  | (id, o) :: l => objsM_env m st l

theorem objsM_objs (m : Nat → Nat) (st : ASt) {l : List (Nat × AObj)} {i : Nat} {o : AObj} (hn : ∀ p ∈ l, ∀ q ∈ l, m p.1 = m q.1 → p.1 = q.1) (h : (st.objsM m l).objs i = some o) : (∃ id o', objL l id = some o' ∧ m id = i ∧ o = o'.ren m) ∨ (st.objs i = some o ∧ ∀ p ∈ l, m p.1 ≠ i) := by
  induction l with
  | nil => exact .inr ⟨h, by simp⟩
  | cons p l ih =>
    obtain ⟨k, v⟩ := p
    simp only [ASt.objsM, ASt.obj, upd_apply] at h
    split at h
    · rename_i hi
      simp only [Option.some.injEq] at h
      exact .inl ⟨k, v, by simp [objL], hi.symm, h.symm⟩
    · rename_i hi
      rcases ih (fun p hp q hq => hn p (List.mem_cons_of_mem _ hp) q (List.mem_cons_of_mem _ hq)) h with ⟨id, o', h1, h2, h3⟩ | ⟨h1, h2⟩
      · refine .inl ⟨id, o', ?_, h2, h3⟩
        have hk : id ≠ k := fun e => hi (by rw [← h2, e])
        simp only [objL, if_neg hk, h1]
      · refine .inr ⟨h1, fun p hp => ?_⟩
        rcases List.mem_cons.1 hp with rfl | hp
        · exact fun e => hi e.symm
        · exact h2 p hp

/-- What such a contract is to the caller. -/
structure Lent (objs : Nat → Option AObj) (m : Nat → Nat) (os os' : List (Nat × AObj)) : Prop where
  have_ : ∀ p ∈ os, objs (m p.1) = some (p.2.ren m)
  inj : ∀ p ∈ os, ∀ q ∈ os, m p.1 = m q.1 → p.1 = q.1
  same : os'.map (·.1) = os.map (·.1)

theorem Lent.obj {objs : Nat → Option AObj} {m : Nat → Nat} {os os' : List (Nat × AObj)} (h : Lent objs m os os') {id : Nat} {o : AObj} (ho : objL os id = some o) : objs (m id) = some (o.ren m) := h.have_ _ (objL_mem ho)

theorem objL_some {l : List (Nat × AObj)} {id : Nat} (h : id ∈ l.map (·.1)) : ∃ o, objL l id = some o := by
  induction l with
  | nil => simp at h
  | cons p l ih =>
    obtain ⟨k, v⟩ := p
    simp only [List.map_cons, List.mem_cons] at h
    by_cases hk : id = k
    · exact ⟨v, by simp [objL, hk]⟩
    · obtain ⟨o, ho⟩ := ih (h.resolve_left hk)
      exact ⟨o, by simp [objL, hk, ho]⟩

theorem Lent.back {objs : Nat → Option AObj} {m : Nat → Nat} {os os' : List (Nat × AObj)} (h : Lent objs m os os') {id : Nat} {o : AObj} (ho : objL os' id = some o) : ∃ o', objL os id = some o' := by
  have h1 := objL_mem ho
  have h2 : id ∈ os.map (·.1) := by rw [← h.same]; exact List.mem_map.2 ⟨_, h1, rfl⟩
  exact objL_some h2

theorem Lent.inj' {objs : Nat → Option AObj} {m : Nat → Nat} {os os' : List (Nat × AObj)} (h : Lent objs m os os') : ∀ p ∈ os', ∀ q ∈ os', m p.1 = m q.1 → p.1 = q.1 := fun p hp q hq e => by
  have key : ∀ p ∈ os', ∃ p' ∈ os, p'.1 = p.1 := fun p hp => by
    have : p.1 ∈ os.map (·.1) := by rw [← h.same]; exact List.mem_map.2 ⟨p, hp, rfl⟩
    obtain ⟨p', h1, h2⟩ := List.mem_map.1 this
    exact ⟨p', h1, h2⟩
  obtain ⟨p', h1, h2⟩ := key p hp
  obtain ⟨q', h3, h4⟩ := key q hq
  rw [← h2, ← h4]
  exact h.inj p' h1 q' h3 (by rw [h2, h4, e])

theorem MemC.ren {β : Places} {S : Nat → Nat → Prop} {w : World} {m : Nat → Nat} {l : List AV} {b o : Nat} : MemC β S w (l.map (AV.ren m)) b o ↔ MemC (fun i => β (m i)) S w l b o := by
  constructor
  · intro h i c hc
    obtain ⟨v, h1, h2, h3⟩ := h i (c.ren m) (by simp [hc])
    exact ⟨v, h1, h2, (RepA.ren m c v).1 h3⟩
  · intro h i c hc
    rw [List.getElem?_map] at hc
    cases hd : l[i]? with
    | none => simp [hd] at hc
    | some d =>
      simp only [hd, Option.map_some, Option.some.injEq] at hc
      subst hc
      obtain ⟨v, h1, h2, h3⟩ := h i d hd
      exact ⟨v, h1, h2, (RepA.ren m d v).2 h3⟩

theorem SimB.lent {F : FC} {β : Places} {S : Nat → Nat → Prop} {st : ASt} {tm : Array Value} {w : World} (hs : SimB F β S st tm w) {m : Nat → Nat} {os os' : List (Nat × AObj)} (hl : Lent st.objs m os os') :
    SimB (FC0 F.P F.G w os (fun i => β (m i)) S) (fun i => β (m i)) S (.os os) #[] w := by
  refine ⟨Ext.refl _ _, fun p hp => ?_, fun b i h => .inl h, hs.lt, fun id o b s i ho hb => hs.sep (m id) _ b s i (hl.obj ho) hb, fun id id' o o' b s s' ho ho' hb hb' => ?_, fun id o ho => ?_, fun n => by simp [ASt.os, RepA], ⟨Nat.zero_le _, fun _ _ => rfl⟩⟩
  · obtain ⟨h1, h2, _⟩ := hs.glob p hp
    obtain ⟨h3, h4⟩ := hs.gok p hp
    refine ⟨h3, ?_, h4⟩
    rintro ⟨id, o, s, ho, hb⟩
    replace hb : β (m id) = some (p.1, s) := hb
    rcases hs.obj (m id) _ (hl.obj ho) with ⟨hn, _⟩ | ⟨b', s', arr, e, hb', hw, _⟩
    · rw [hn] at hb; cases hb
    · rw [hb'] at hb
      simp only [Option.some.injEq, Prod.mk.injEq] at hb
      rcases hw with h | h
      · omega
      · exact h2 (hb.1 ▸ h)
  · have := hs.inj (m id) (m id') _ _ b s s' (hl.obj ho) (hl.obj ho') hb hb'
    exact hl.inj _ (objL_mem ho) _ (objL_mem ho') this
  · rcases hs.obj (m id) _ (hl.obj ho) with ⟨hn, he⟩ | ⟨b', s', arr, e, hb', hw, hh, hz, hel⟩
    · exact .inl ⟨hn, by simpa [AObj.ren] using he⟩
    · refine .inr ⟨b', s', arr, e, hb', .inr ⟨id, o, s', ho, hb'⟩, hh, by simpa [AObj.ren] using hz, fun k x hx => ?_⟩
      obtain ⟨h1, h2⟩ := hel k (x.ren m) (by simp [AObj.ren, hx])
      rw [cells_ren] at h1 h2
      exact ⟨by simpa [AObj.ren] using h1, MemC.ren.1 h2⟩

theorem SimB.repaid {F : FC} {β : Places} {S S' : Nat → Nat → Prop} {st : ASt} {tm : Array Value} {w w' : World} (hs : SimB F β S st tm w) {m : Nat → Nat} {os os' : List (Nat × AObj)} (hl : Lent st.objs m os os') (hS : ∀ b i, S b i → S' b i)
    (hc : SimB (FC0 F.P F.G w os (fun i => β (m i)) S) (fun i => β (m i)) S' (.os os') #[] w') : SimB F β S' (st.objsM m os') tm w' := by
  have hMB : ∀ b, MB os (fun i => β (m i)) b → F.w0.heap.size ≤ b ∨ F.M0 b := fun b ⟨id, o, s, ho, hb⟩ => by
    replace hb : β (m id) = some (b, s) := hb
    rcases hs.obj (m id) _ (hl.obj ho) with ⟨hn, _⟩ | ⟨b', s', arr, e, hb', hw, _⟩
    · rw [hn] at hb; cases hb
    · rw [hb'] at hb
      simp only [Option.some.injEq, Prod.mk.injEq] at hb
      exact hb.1 ▸ hw
  have hext : Ext (MB os (fun i => β (m i))) w w' := hc.ext
  have hkeep : Keeps S S' w w' := fun b i h => ⟨hS b i h, cell_of_heap (hext.block b (hs.lt b i h) (fun ⟨id, o, s, ho, hb⟩ => hs.sep (m id) _ b s i (hl.obj ho) hb h))⟩
  have hsub : ∀ b i, S' b i → S b i ∨ w.heap.size ≤ b := hc.sub
  have back : ∀ i o, (st.objsM m os').objs i = some o → ∃ p, st.objs i = some p := fun i o h => by
    rcases objsM_objs m st hl.inj' h with ⟨id, o', h1, h2, h3⟩ | ⟨h1, _⟩
    · obtain ⟨p, hp⟩ := hl.back h1
      exact ⟨_, h2 ▸ hl.obj hp⟩
    · exact ⟨o, h1⟩
  refine ⟨hs.ext.trans hext (fun k hk hm => (hMB k hm).elim (fun h => by omega) (fun h => h)), hs.glob, fun b i h => (hsub b i h).elim (hs.sub b i) (fun h => .inr (Nat.le_trans hs.ext.size h)), hc.lt, ?_, ?_, ?_, fun n => ?_, hs.size⟩
  · intro i o b s k ho hb h
    obtain ⟨p, hp⟩ := back i o ho
    rcases hsub b k h with h | h
    · exact hs.sep i p b s k hp hb h
    · have := hs.block_lt hp hb; omega
  · intro i i' o o' b s s' ho ho' hb hb'
    obtain ⟨p, hp⟩ := back i o ho
    obtain ⟨p', hp'⟩ := back i' o' ho'
    exact hs.inj i i' p p' b s s' hp hp' hb hb'
  · intro i o ho
    rcases objsM_objs m st hl.inj' ho with ⟨id, o', h1, rfl, rfl⟩ | ⟨h1, h2⟩
    · rcases hc.obj id o' h1 with ⟨hn, he⟩ | ⟨b', s', arr, e, hb', hw, hh, hz, hel⟩
      · exact .inl ⟨hn, by simp [AObj.ren, he]⟩
      · refine .inr ⟨b', s', arr, e, hb', ?_, hh, by simpa [AObj.ren] using hz, fun k x hx => ?_⟩
        · rcases hw with h | h
          · exact .inl (Nat.le_trans hs.ext.size h)
          · exact hMB b' h
        · simp only [AObj.ren, List.getElem?_map] at hx
          cases hy : o'.elems[k]? with
          | none => simp [hy] at hx
          | some y =>
            simp only [hy, Option.map_some, Option.some.injEq] at hx
            subst hx
            obtain ⟨h3, h4⟩ := hel k y hy
            rw [cells_ren]
            exact ⟨by simpa [AObj.ren] using h3, MemC.ren.2 h4⟩
    · rcases hs.obj i o h1 with h | ⟨b', s', arr, e, hb', hw, hh, hz, hel⟩
      · exact .inl h
      · have hbb : w'.heap[b']? = w.heap[b']? := hext.block b' (hs.block_lt h1 hb') (fun ⟨id, q, s, hq, hb⟩ => by
          have := hs.inj i (m id) _ _ b' s' s h1 (hl.obj hq) hb' hb
          have hid : id ∈ os'.map (·.1) := by rw [hl.same]; exact List.mem_map.2 ⟨_, objL_mem hq, rfl⟩
          obtain ⟨p, hp, hpi⟩ := List.mem_map.1 hid
          exact h2 p hp (by rw [hpi]; exact this.symm))
        exact .inr ⟨b', s', arr, e, hb', hw, hbb.trans hh, hz, fun k x hx => ⟨(hel k x hx).1, (hel k x hx).2.mono hkeep hext.shape hbb⟩⟩
  · rw [objsM_env]
    exact (hs.env n).mono hkeep hext.shape

theorem callM_wp {F : FC} {o : Oper} {β : Places} {S : Nat → Nat → Prop} {st : ASt} {a : Act} {w : World} {f : Operand} {args : Array Operand} {ts : Array TypeId} {g : FuncId} {xs : List AV} {rs : List Dat} (hs : SimB F β S st a.tmps w)
    (ho : o.op = .call { callee := .value f, args := args, argTypes := ts }) {ρ : Operand → AV} (hf : ∀ x ∈ o.op.operands.toList, RepA β S w (ρ x) (a.eval x)) {caps : List AV} (hg : ρ f = .fn g caps) {m : Nat → Nat} (hxs : renL m xs = args.toList.map ρ ++ caps)
    {os os' : List (Nat × AObj)} (hl : Lent st.objs m os os') (hc : GivesM F.P F.G g xs os rs os') {K : Act → World → Prop} {Q : Exit → Act → World → Prop}
    (hK : ∀ S' w' r, SimB F β S' (st.objsM m os') a.tmps w' → RepA β S' w' (retA rs) r → K (a.put o.dst r) w') : o.wp F.P a w K Q := by
  obtain ⟨⟨fn, c, hfn, hbody, hname⟩, hcalls⟩ := hc
  have hrf := hf f (by simp [ho, Op.operands, Call.operands])
  rw [hg] at hrf
  simp only [RepA] at hrf
  obtain ⟨vs, hvf, hvs⟩ := hrf
  have hargs : RepAL (fun i => β (m i)) S w xs ((args.map a.eval) ++ vs).toList := by
    rw [← RepAL.ren, hxs, Array.toList_append, Array.toList_map]
    exact repAL_append (repAL_map args.toList fun x hx => hf x (by simp only [ho, Op.operands, Call.operands]; simp at hx ⊢; exact .inr hx)) hvs
  have hrun : (execOp a.eval o).run F.P w = .ok (.enter g (args.map a.eval ++ vs)) w := by
    have hn' : ¬ fn.name = "runtime.NumGoroutine" := by simpa using hname
    simp [execOp, ho, resolve, hvf, Deferred.ofValue, invoke, callFunc, hfn, hn', hbody]
  unfold Oper.wp
  rw [hrun, Oper.upon_enter]
  refine (hcalls w _ S _ (hs.lent hl) hargs).mono fun e w' h => ?_
  obtain ⟨r, S', rfl, hS, hsim, hret⟩ := h
  exact hK _ _ _ (hs.repaid hl hS hsim) (retA_rep hret)

end Go.Av

