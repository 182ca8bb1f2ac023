/- A part of the proof. -/
import Derived.Test.YtkeopokhnfpgpaaGreatDoorHAv24
set_option linter.all false
namespace Go.Av
def z1m (F : FC) (op : Op) (d : Nat) (env : Nat → AV) (objs : Nat → Option AObj) (ob : AObj) (p : AV) : Prop :=
 match op with
 | .alloc t => match ti F.P t with
  | some i => match zeroA i with
   | some z => (d < F.N ∧ z.storable = true ∧ z.cells.length = i.size) ∧ ob = ⟨i.size, [z.kill d]⟩ ∧ p = .ptr d i.size 0 0
   | none => False
  | none => False
 | .box _ y => (d < F.N ∧ (evA env y).storable = true) ∧ ob = ⟨(evA env y).cells.length, [(evA env y).kill d]⟩ ∧ p = .ptr d (evA env y).cells.length 0 0
 | .buildSlice t len parts => d ∈ F.rows ∧ match ti F.P t with
  | some i => match i.tk with
   | .slice e => match ti F.P e with
    | some j => match j.zero with
     | some z => (d < F.N ∧ len = parts.size ∧ z.length = j.size ∧ len * j.size ≤ 16777216 ∧ parts.toList.map (·.1) = List.range len) ∧
      (∀ x ∈ parts.toList.map (fun p => evA env p.2), x.storable = true ∧ x.cells.length = j.size) ∧ ob = ⟨j.size, (parts.toList.map fun p => evA env p.2).map (AV.kill d)⟩ ∧ p = .osl d j.size 0 len
     | none => False
    | none => False
   | _ => False
  | none => False
 | .makeSlice t ln cp => match ti F.P t with
  | some i => match i.tk with
   | .slice e => match ti F.P e with
    | some j => match zeroA j, evA env ln, evA env cp with
     | some z, .dat (.int _ n), .dat (.int _ m) => (d < F.N ∧ z.storable = true ∧ z.cells.length = j.size ∧ 0 ≤ n ∧ n ≤ m ∧ m * j.bytes ≤ 281474976710656 ∧ m ≤ 9223372036854775807) ∧
      ob = ⟨j.size, (List.replicate n.toNat z).map (AV.kill d)⟩ ∧ p = .osl d j.size 0 n.toNat
     | _, _, _ => False
    | none => False
   | _ => False
  | none => False
 | .call ⟨.builtin .append, ⟨[s, x]⟩, ⟨[t, t']⟩⟩ => (d ∈ F.apps ∧ evA env s = .nils) ∧ match ti F.P t, ti F.P t' with
  | some i, some i' => match i.tk, i'.tk.srcK with
   | .slice e, .slice _ => match ti F.P e with
    | some j => match zeroA j, srcA objs (evA env x) with
     | some z, some xs => ((d < F.N ∧ z.storable = true ∧ z.cells.length = j.size) ∧ (∀ y ∈ xs, y.cells.length = j.size) ∧
       (match evA env x with
         | .osl id es _ len => es = j.size ∧ xs.length = len ∧ (match objs id with | some o => o.es = j.size | none => False)
         | _ => True) ∧
       (0 + xs.length) * j.bytes ≤ 140737488355328 ∧ 0 + xs.length ≤ 9223372036854775807) ∧ ob = ⟨j.size, xs.map (AV.kill d)⟩ ∧ p = .osl d j.size 0 xs.length
     | _, _ => False
    | none => False
   | _, _ => False
  | _, _ => False
 | _ => False
def isC (rows lits apps : List Nat) (o : Oper) : Bool :=
 o.guard.isNone && match o.dst with
 | some d => (match o.op with
  | .alloc _ | .box _ _ | .makeSlice _ _ _ => true
  | .buildSlice _ _ _ => rows.contains d
  | .call ⟨.builtin .append, ⟨[_, _]⟩, ⟨[_, _]⟩⟩ => apps.contains d && !lits.contains d
  | _ => false)
 | none => false
theorem zur {F : FC} {ops : Array Oper} {o : Oper} {st : ASt} {K : ASt → Prop} (hc : isC F.rows F.lits F.apps o = true) :
  wn F ops o st K ↔ ∃ d, o.dst = some d ∧ ∃ ob p, z1m F o.op d st.env st.objs ob p ∧ K (((st.kill d).obj d ob).put (some d) p) := by
 obtain ⟨dst, op, ty, pos, aft, gd⟩ := o
 cases gd with
 | some g => simp [isC] at hc
 | none =>
  cases dst with
  | none => simp [isC] at hc
  | some d =>
   simp only [isC, Option.isNone_none, Bool.true_and] at hc
   simp only [Option.some.injEq, exists_eq_left']
   unfold wn
   simp only
   split at hc <;> (try (simp at hc; done))
   ·rename_i t
    unfold j3 z1m
    simp only
    cases ti F.P t with
    | none => simp
    | some i =>
     simp only
     cases zeroA i with
     | none => simp
     | some z =>
      simp only
      constructor
      ·rintro ⟨h1, h2⟩; exact ⟨_, _, ⟨h1, rfl, rfl⟩, h2⟩
      ·rintro ⟨ob, p, ⟨h1, rfl, rfl⟩, h2⟩; exact ⟨h1, h2⟩
   ·rename_i t y
    unfold j3 z1m
    simp only
    constructor
    ·rintro ⟨h1, h2⟩; exact ⟨_, _, ⟨h1, rfl, rfl⟩, h2⟩
    ·rintro ⟨ob, p, ⟨h1, rfl, rfl⟩, h2⟩; exact ⟨h1, h2⟩
   ·rename_i t ln cp
    unfold j3 z1m
    simp only
    cases ti F.P t with
    | none => simp
    | some i =>
     simp only
     cases i.tk <;> simp only <;> try (simp; done)
     rename_i e
     cases ti F.P e with
     | none => simp
     | some j =>
      simp only
      constructor
      ·intro h
       split at h <;> try (exact h.elim)
       rename_i z k n k' m hz hln hcp
       simp only [hz, hln, hcp]
       exact ⟨_, _, ⟨h.1, rfl, rfl⟩, h.2⟩
      ·rintro ⟨ob, p, h, h2⟩
       split at h <;> try (exact h.elim)
       rename_i z k n k' m hz hln hcp
       obtain ⟨h1, rfl, rfl⟩ := h
       simp only [hz, hln, hcp]
       exact ⟨h1, h2⟩
   ·rename_i t len parts
    have hm : d ∈ F.rows := by simpa using hc
    unfold j3 z1m
    simp only
    cases ti F.P t with
    | none => simp
    | some i =>
     simp only
     cases i.tk <;> simp only <;> try (simp; done)
     rename_i e
     cases ti F.P e with
     | none => simp
     | some j =>
      simp only
      cases j.zero with
      | none => simp
      | some z =>
       simp only [if_pos hm]
       constructor
       ·rintro ⟨h1, h2, h3⟩; exact ⟨_, _, ⟨hm, h1, h2, rfl, rfl⟩, h3⟩
       ·rintro ⟨ob, p, ⟨_, h1, h2, rfl, rfl⟩, h3⟩; exact ⟨h1, h2, h3⟩
   ·rename_i s x t t'
    simp only [Bool.and_eq_true, List.contains_eq_mem, decide_eq_true_eq, Bool.not_eq_true', decide_eq_false_iff_not] at hc
    obtain ⟨ha, hl⟩ := hc
    unfold j3 z1m
    simp only
    cases ti F.P t with
    | none => simp
    | some i =>
     cases ti F.P t' with
     | none => simp
     | some i' =>
      simp only
      cases i.tk <;> cases i'.tk.srcK <;> simp only <;> try (simp; done)
      rename_i e e'
      cases ti F.P e with
      | none => simp
      | some j =>
       simp only [if_neg hl]
       constructor
       ·intro h
        split at h <;> try (exact h.elim)
        rename_i z old olds xs hz hb hx
        obtain ⟨⟨hn, h1, h2, h3, h4, h5⟩, h6⟩ := h
        have hnil := hn ha
        rw [hnil] at hb
        simp only [baseA, Option.some.injEq, Prod.mk.injEq] at hb
        obtain ⟨rfl, rfl⟩ := hb
        simp only [hz, hx]
        refine ⟨_, _, ⟨⟨ha, hnil⟩, ⟨h1, h2, h3, h4, h5⟩, rfl, rfl⟩, ?_⟩
        simpa [appSt, ASt.dropO] using h6
       ·rintro ⟨ob, p, ⟨⟨_, hnil⟩, h⟩, h6⟩
        split at h <;> try (exact h.elim)
        rename_i z xs hz hx
        obtain ⟨⟨h1, h2, h3, h4, h5⟩, rfl, rfl⟩ := h
        simp only [hz, hx, hnil, baseA]
        refine ⟨⟨fun _ => trivial, h1, h2, h3, h4, h5⟩, ?_⟩
        simpa [appSt, ASt.dropO] using h6
theorem Xi {F : FC} {ops : Array Oper} {o : Oper} {e f : Nat → AV} {objs : Nat → Option AObj} {d : Nat} {ob : AObj} {p : AV} (h : Agree ops o e f) (hv : z1m F o.op d e objs ob p) : z1m F o.op d f objs ob p := by
 have hev := h.evA
 unfold z1m at hv ⊢
 split at hv
 ·exact hv
 ·rename_i t y hop
  rw [hop] at hev
  rw [← hev y (by simp [Op.operands])]
  exact hv
 ·rename_i t len parts hop
  rw [hop] at hev
  have hp : (parts.toList.map fun p => evA f p.2) = parts.toList.map fun p => evA e p.2 := List.map_congr_left fun p hp => (hev p.2 (by simp only [Op.operands]; exact List.mem_map.2 ⟨p, hp, rfl⟩)).symm
  simp only [hp]
  exact hv
 ·rename_i t ln cp hop
  rw [hop] at hev
  rw [← hev ln (by simp [Op.operands]), ← hev cp (by simp [Op.operands])]
  exact hv
 ·rename_i s x t t' hop
  rw [hop] at hev
  rw [← hev s (by simp [Op.operands, Call.operands]), ← hev x (by simp [Op.operands, Call.operands])]
  exact hv
 ·exact hv
theorem zeg {F : FC} {op : Op} {e : Nat → AV} {f g : Nat → Option AObj} {d d' : Nat} {ob : AObj} {p : AV} (h : z8n d' f g) (he : ∀ n, (e n).kill d' = e n) : z1m F op d e g ob p ↔ z1m F op d e f ob p := by
 have hk := z0b he
 unfold z1m
 split <;> try exact Iff.rfl
 rename_i s x t t'
 have hs := zff h (hk x)
 simp only [hs]
 cases hx : evA e x with
 | osl id es off len =>
  have hne := hk x
  rw [hx] at hne
  simp only [h id (z5v hne)]
 | _ => exact Iff.rfl
theorem z82 {objs : Nat → Option AObj} {x : AV} {xs : List AV} {d : Nat} (hf : ∀ i o, objs i = some o → o.elems.map (AV.kill d) = o.elems) (h : srcA objs x = some xs) : xs.map (AV.kill d) = xs := by
 unfold srcA at h
 split at h <;> try (simp at h; done)
 ·simp only [Option.some.injEq] at h; subst h; exact z1a d _
 ·rename_i id es off len
  cases ho : objs id with
  | none => simp [ho] at h
  | some o =>
   simp only [ho, Option.map_some, Option.some.injEq] at h
   subst h
   exact z5s fun c hc => vp (hf id o ho) c (List.mem_of_mem_drop (List.mem_of_mem_take hc))
 ·simp only [Option.some.injEq] at h; subst h; rfl
 ·simp only [Option.some.injEq] at h; subst h; exact z1a d _
theorem z50 {P : Program} {t : TypeId} {i : TI} {z : AV} {d : Nat} (ht : ti P t = some i) (hz : zeroA i = some z) : z.kill d = z := by
 unfold zeroA at hz
 split at hz <;> try (simp at hz; done)
 rename_i zs hzz
 have hf := z8l (d := d) ht hzz
 split at hz
 ·simp only [Option.some.injEq] at hz; subst hz; exact z1d hf
 ·split at hz <;> try (simp at hz; done)
  simp only [Option.some.injEq] at hz
  subst hz
  exact hf _ (by simp)
theorem zq6 {F : FC} {op : Op} {e : Nat → AV} {f : Nat → Option AObj} {d d' : Nat} {ob : AObj} {p : AV} (hne : d' ≠ d) (he : ∀ n, (e n).kill d' = e n) (hf : ∀ i o, f i = some o → o.elems.map (AV.kill d') = o.elems) (hd : ∀ n, (e n).kill d = e n) (hfd : ∀ i o, f i = some o → o.elems.map (AV.kill d) = o.elems)
  (hv : z1m F op d e f ob p) : p.kill d' = p ∧ ob.elems.map (AV.kill d') = ob.elems := by
 have hk := z0b he
 have hkd := z0b hd
 have hne' : ¬ d = d' := fun h => hne h.symm
 unfold z1m at hv
 split at hv
 ·split at hv <;> try (exact hv.elim)
  rename_i i hi
  split at hv <;> try (exact hv.elim)
  rename_i z hz
  obtain ⟨_, rfl, rfl⟩ := hv
  simp only [AV.kill, if_neg hne', true_and, List.map_cons, List.map_nil, z50 hi hz]
 ·obtain ⟨_, rfl, rfl⟩ := hv
  rename_i y
  simp only [AV.kill, if_neg hne', true_and, List.map_cons, List.map_nil, hkd, hk]
 ·obtain ⟨_, hv⟩ := hv
  split at hv <;> try (exact hv.elim)
  split at hv <;> try (exact hv.elim)
  split at hv <;> try (exact hv.elim)
  split at hv <;> try (exact hv.elim)
  obtain ⟨_, _, rfl, rfl⟩ := hv
  simp only [AV.kill, if_neg hne', true_and, List.map_map]
  apply List.map_congr_left
  intro q _
  simp only [Function.comp_apply, hkd, hk]
 ·split at hv <;> try (exact hv.elim)
  split at hv <;> try (exact hv.elim)
  split at hv <;> try (exact hv.elim)
  rename_i j hj
  split at hv <;> try (exact hv.elim)
  rename_i z k n k' m hz _ _
  obtain ⟨_, rfl, rfl⟩ := hv
  simp only [AV.kill, if_neg hne', true_and]
  refine z5s fun c hc => ?_
  obtain ⟨q, hq, rfl⟩ := List.mem_map.1 hc
  have : q = z := (List.mem_replicate.1 hq).2
  subst this
  rw [z50 hj hz, z50 hj hz]
 ·obtain ⟨_, hv⟩ := hv
  split at hv <;> try (exact hv.elim)
  split at hv <;> try (exact hv.elim)
  split at hv <;> try (exact hv.elim)
  split at hv <;> try (exact hv.elim)
  rename_i z xs hz hx
  obtain ⟨_, rfl, rfl⟩ := hv
  simp only [AV.kill, if_neg hne', true_and]
  rw [z82 hfd hx]
  exact z82 hf hx
 ·exact hv.elim
end Go.Av

