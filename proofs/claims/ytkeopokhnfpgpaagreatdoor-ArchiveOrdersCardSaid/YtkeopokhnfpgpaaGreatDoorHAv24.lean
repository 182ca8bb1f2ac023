/- A part of the proof. -/
import Derived.Test.YtkeopokhnfpgpaaGreatDoorHAv23
set_option linter.all false
namespace Go.Av
def z8n (d : Nat) (f g : Nat → Option AObj) : Prop := ∀ i, i ≠ d → g i = f i
theorem z5v {d id es off len : Nat} (h : (AV.osl id es off len).kill d = .osl id es off len) : id ≠ d := fun e => by simp [AV.kill, e] at h
theorem zji {d id es k off : Nat} (h : (AV.ptr id es k off).kill d = .ptr id es k off) : id ≠ d := fun e => by simp [AV.kill, e] at h
theorem zl6 {P : Program} {G : List (Nat × Dat)} {f g : Nat → Option AObj} {d : Nat} (h : z8n d f g) {t : TypeId} {x : AV} (hx : x.kill d = x) : loadA P G g t x = loadA P G f t x := by
 unfold loadA
 split <;> try rfl
 split <;> try rfl
 rw [h _ (zji hx)]
theorem zje {F : FC} {f g : Nat → Option AObj} {d : Nat} (h : z8n d f g) {ρ : Operand → AV} {op : Op} (hρ : ∀ x ∈ op.operands.toList, (ρ x).kill d = ρ x) : opV F g ρ op = opV F f ρ op := by
 cases op <;> try rfl
 case load t x => exact zl6 h (hρ x (by simp [Op.operands]))
 all_goals
  unfold opV
  split <;> first | rfl | (rename_i hc; cases hc)
theorem zff {f g : Nat → Option AObj} {d : Nat} (h : z8n d f g) {x : AV} (hx : x.kill d = x) : srcA g x = srcA f x := by
 unfold srcA
 split <;> try rfl
 rw [h _ (z5v hx)]
theorem zee {f g : AV → Option Dat} {l : List AV} (h : ∀ x ∈ l, g x = f x) : km g l = km f l := by
 induction l with
 | nil => rfl
 | cons x l ih =>
  simp only [km]
  rw [h x (by simp), ih fun y hy => h y (by simp [hy])]
theorem z4z {f g : AV → Option Dat} {l : List AV} (h : ∀ x ∈ l, g x = f x) : xx g l = xx f l := by
 unfold xx
 split
 ·rfl
 ·exact zee h
theorem zmz {f g : Nat → Option AObj} {d : Nat} (h : z8n d f g) (hf : ∀ i o, f i = some o → ∀ x ∈ o.elems, x.kill d = x) : ∀ (n : Nat) (x : AV), x.kill d = x → wb g n x = wb f n x := by
 intro n
 induction n with
 | zero => intro x _; rfl
 | succ n ih =>
  intro x hx
  unfold wb
  split <;> try rfl
  ·rw [h _ (z5v hx)]
   split <;> try rfl
   rename_i o ho
   rw [z4z fun y hy => ih y (hf _ o ho y (List.mem_of_mem_drop (List.mem_of_mem_take hy)))]
  ·rw [h _ (zji hx)]
   split <;> try rfl
   rename_i k _ o ho
   cases hy : o.elems[k]? with
   | none => rfl
   | some y => simp only [ih y (hf _ o ho y (List.mem_of_getElem? hy))]
  ·simp only [AV.kill, AV.agg.injEq, yw] at hx
   rw [z4z fun y hy => ih y (vp hx y hy)]
  ·simp only [AV.kill, AV.fn.injEq, true_and, yw] at hx
   rw [z4z fun y hy => ih y (vp hx y hy)]
  ·rename_i id es k off len cap
   have hne : id ≠ d := fun e => by simp [AV.kill, e] at hx
   rw [h _ hne]
theorem z2o {f g : Nat → Option AObj} {d : Nat} (h : z8n d f g) (hf : ∀ i o, f i = some o → ∀ x ∈ o.elems, x.kill d = x) {xs : List AV} (hx : ∀ x ∈ xs, x.kill d = x) (rs : List Dat) : qu g xs rs = qu f xs rs := by
 unfold qu
 split
 ·rfl
 ·rw [zee fun x hxx => zmz h hf 6 x (hx x hxx)]
def Zh (P : Program) (N d : Nat) (i i' : Option TI) (s x : AV) (objs : Nat → Option AObj) (v : AV) : Prop :=
 match i, i' with
 | some i, some i' => match i.tk, i'.tk.srcK with
  | .slice e, .slice _ => match ti P e with
   | some j => match zeroA j, s, srcA objs x with
    | some z, .lits l, some xs => match vz xs with
     | some ds => ((d < N ∧ z.storable = true ∧ z.cells.length = j.size) ∧ (∀ y ∈ l, y.cells.length = j.size) ∧ (∀ y ∈ ds, y.cells.length = j.size) ∧
       (match x with
         | .osl id es _ len => es = j.size ∧ xs.length = len ∧ (match objs id with | some o => o.es = j.size | none => False)
         | _ => True) ∧
       (l.length + ds.length) * j.bytes ≤ 140737488355328 ∧ l.length + ds.length ≤ 9223372036854775807) ∧ v = .dat (.sl (l ++ ds))
     | none => False
    | _, _, _ => False
   | none => False
  | _, _ => False
 | _, _ => False
theorem zk2 {P : Program} {N k : Nat} {i i' : Option TI} {s x : AV} {f g : Nat → Option AObj} {v : AV} {d : Nat} (h : z8n d f g) (hx : x.kill d = x) : Zh P N k i i' s x g v = Zh P N k i i' s x f v := by
 unfold Zh
 rw [zff h hx]
 cases x with
 | osl id es off len => simp only [h id (z5v hx)]
 | _ => rfl
theorem zk1 {P : Program} {N k : Nat} {i i' : Option TI} {s x : AV} {f : Nat → Option AObj} {v : AV} (d : Nat) (h : Zh P N k i i' s x f v) : v.kill d = v := by
 unfold Zh at h
 split at h <;> try (exact h.elim)
 split at h <;> try (exact h.elim)
 split at h <;> try (exact h.elim)
 split at h <;> try (exact h.elim)
 split at h <;> try (exact h.elim)
 rw [h.2]; rfl
theorem zba {F : FC} {d : Nat} {j : TI} {s x : AV} {st : ASt} {K : ASt → Prop} {i i' : TI} {e e' : TypeId} (hi : i.tk = .slice e) (hi' : i'.tk.srcK = .slice e') (hj : ti F.P e = some j) :
  appendLC F d j s x st K ↔ ∃ v, Zh F.P F.N d (some i) (some i') s x st.objs v ∧ d < F.N ∧ K (st.put (some d) v) := by
 unfold appendLC Zh
 simp only [hi, hi', hj]
 cases zeroA j with
 | none => simp
 | some z =>
  cases s with
  | lits l =>
   cases srcA st.objs x with
   | none => simp
   | some xs =>
    simp only
    cases vz xs with
    | none => simp
    | some ds =>
     simp only
     constructor
     ·rintro ⟨h1, h2⟩; exact ⟨_, ⟨h1, rfl⟩, h1.1.1, h2⟩
     ·rintro ⟨v, ⟨h1, rfl⟩, _, h2⟩; exact ⟨h1, h2⟩
  | _ => simp
def zft (F : FC) (op : Op) (d : Option Nat) (ρ : Operand → AV) (objs : Nat → Option AObj) (v : AV) : Prop :=
 match op with
 | .buildSlice t len parts => match d, ti F.P t with
  | some d, some i => match i.tk with
   | .slice e => match ti F.P e with
    | some j => match j.zero with
     | some z => (d < F.N ∧ len = parts.size ∧ z.length = j.size ∧ len * j.size ≤ 16777216 ∧ parts.toList.map (·.1) = List.range len) ∧
      (if len = 0 then v = .nils else match vz (parts.toList.map fun p => ρ p.2) with
      | some ds => (∀ x ∈ ds, x.cells.length = j.size) ∧ v = (if d ∈ F.lits then .lits ds else .dat (.sl ds))
      | none => False)
     | none => False
    | none => False
   | _ => False
  | _, _ => False
 | .call ⟨.builtin .append, ⟨[s, x]⟩, ⟨[t, t']⟩⟩ => match d with
  | some d => Zh F.P F.N d (ti F.P t) (ti F.P t') (ρ s) (ρ x) objs v
  | none => False
 | .call ⟨.value f, args, _⟩ => match ρ f with
  | .fn g caps => ∃ rs ds, qu objs (args.toList.map ρ ++ caps) rs = some ds ∧ zl F.P F.G g ds rs ∧ v = retA rs
  | _ => False
 | op => (opV F objs ρ op).1 ∧ v = (opV F objs ρ op).2
def zn4 (F : FC) (op : Op) (g : Bool) (env : Nat → AV) (objs : Nat → Option AObj) (v : AV) : Prop :=
 match op with
 | .pick c a b => (pickA env g c a b).1 ∧ v = .cond g (pickA env g c a b).2
 | .call ⟨.value f, args, _⟩ => match (evA env f).strip with
  | .fn h caps => ∃ rs ds, qu objs (args.toList.map (fun x => (evA env x).strip) ++ caps) rs = some ds ∧ (g = true → gdAll env (f :: args.toList) ∧ zl F.P F.G h ds rs) ∧ v = .cond g (retA rs)
  | _ => False
 | op => (g = true → gdAll env op.operands.toList ∧ (opV F objs (fun x => (evA env x).strip) op).1) ∧ v = .cond g (opV F objs (fun x => (evA env x).strip) op).2
def z2i (F : FC) (ops : Array Oper) (o : Oper) (env : Nat → AV) (objs : Nat → Option AObj) (v : AV) : Prop :=
 match o.guard with
 | none => (match o.op with
  | .pick c a b => (pickA env true c a b).1 ∧ v = (pickA env true c a b).2
  | op => zft F op o.dst (evA env) objs v)
 | some (j, want) => match x9 ops env j want with
  | some g => zn4 F o.op g env objs v
  | none => False
def isN (rows lits : List Nat) (o : Oper) : Bool :=
 match o.op with
 | .move _ | .assign _ | .binOp _ _ _ _ _ | .unOp _ _ _ | .convert _ _ _ | .fieldAddr _ _ _ | .field _ _ _ | .indexAddr _ _ _ | .index _ _ _ | .extract _ _ | .build _ _ | .slice _ _ _ _ _ | .load _ _ | .makeFunc _ _ _ | .pick _ _ _ | .nilCheck _ | .sliceToArrayPointer _ _ => o.dst.isSome
 | .call ⟨.builtin .len, _, _⟩ | .call ⟨.builtin .min, _, _⟩ | .call ⟨.builtin .max, _, _⟩ => o.dst.isSome
 | .call ⟨.value _, _, _⟩ => match o.dst with
  | some d => !lits.contains d
  | none => false
 | .call ⟨.builtin .append, ⟨[_, _]⟩, ⟨[_, _]⟩⟩ => (match o.dst with
  | some d => lits.contains d
  | none => false) && o.guard.isNone
 | .buildSlice _ _ _ => (match o.dst with
  | some d => !rows.contains d
  | none => false) && o.guard.isNone
 | _ => false
theorem zcd {F : FC} {ops : Array Oper} {o : Oper} {st : ASt} {K : ASt → Prop} (hn : isN F.rows F.lits o = true) : wn F ops o st K ↔ ∃ v, z2i F ops o st.env st.objs v ∧ dstOK F o.dst ∧ K (st.put o.dst v) := by
 obtain ⟨dst, op, ty, pos, aft, gd⟩ := o
 cases gd with
 | none =>
  unfold wn z2i
  simp only
  cases op <;> simp only [isN] at hn <;> try (simp at hn; done)
  case buildSlice t len parts =>
   cases dst with
   | none => simp at hn
   | some d =>
    simp only [Option.isNone_none, Bool.and_true, Bool.not_eq_true', List.contains_eq_mem, decide_eq_false_iff_not] at hn
    unfold j3 zft
    simp only
    cases ti F.P t with
    | none => simp
    | some i =>
     simp only
     cases i.tk <;> simp only <;> try (simp; done)
     rename_i e
     cases ti F.P e with
     | none => simp
     | some j =>
      simp only
      cases j.zero with
      | none => simp
      | some z =>
       simp only [if_neg hn]
       by_cases h0 : len = 0
       ·simp only [if_pos h0]
        constructor
        ·rintro ⟨h1, h2⟩; exact ⟨_, ⟨h1, rfl⟩, h1.1, h2⟩
        ·rintro ⟨v, ⟨h1, rfl⟩, _, h2⟩; exact ⟨h1, h2⟩
       ·simp only [if_neg h0]
        cases vz (parts.toList.map fun p => evA st.env p.2) with
        | none => simp
        | some ds =>
         simp only
         constructor
         ·rintro ⟨h1, h2, h3⟩; exact ⟨_, ⟨h1, h2, rfl⟩, h1.1, h3⟩
         ·rintro ⟨v, ⟨h1, h2, rfl⟩, _, h3⟩; exact ⟨h1, h2, h3⟩
  case pick c a b =>
   show (dstOK F dst ∧ _ ∧ _) ↔ _
   constructor
   ·rintro ⟨h1, h2, h3⟩; exact ⟨_, ⟨h2, rfl⟩, h1, h3⟩
   ·rintro ⟨v, ⟨h2, rfl⟩, h1, h3⟩; exact ⟨h1, h2, h3⟩
  case call c =>
   obtain ⟨cal, args, ts⟩ := c
   cases cal with
   | value f =>
    unfold j3 zft callee
    simp only
    cases evA st.env f <;> simp only <;> try (simp; done)
    constructor
    ·rintro (⟨rs, ds, h1, h2, h3, h4⟩ | ⟨ys, m, os, os', rs, h0, _⟩ | ⟨ys, m, news, os, os', rs, h0, _⟩)
     ·exact ⟨_, ⟨rs, ds, h1, h2, rfl⟩, h3, h4⟩
     ·exfalso
      cases dst with
      | none => exact h0
      | some d => simp at hn; exact hn h0
     ·exfalso
      cases dst with
      | none => exact h0
      | some d => simp at hn; exact hn h0
    ·rintro ⟨v, ⟨rs, ds, h1, h2, rfl⟩, h3, h4⟩; exact .inl ⟨rs, ds, h1, h2, h3, h4⟩
   | invoke r m => simp at hn
   | builtin b =>
    by_cases hb : b = .append
    ·subst hb
     simp only [Option.isNone_none, Bool.and_true] at hn
     split at hn <;> rename_i hop <;> (try (cases hop; done)) <;> (try (simp at hn; done))
     simp only [Op.call.injEq, Call.mk.injEq, true_and] at hop
     obtain ⟨rfl, rfl⟩ := hop
     cases dst with
     | none => simp at hn
     | some d =>
      simp only [List.contains_eq_mem, decide_eq_true_eq] at hn
      rename_i s x t t'
      unfold j3 zft
      simp only
      cases hi : ti F.P t with
      | none => simp [Zh]
      | some i =>
       cases hi' : ti F.P t' with
       | none => simp [Zh]
       | some i' =>
        simp only
        cases hk : i.tk <;> (try simp only) <;> try (simp [Zh, hk]; done)
        cases hk' : i'.tk.srcK <;> (try simp only) <;> try (simp [Zh, hk, hk']; done)
        rename_i e e'
        cases hj : ti F.P e with
        | none => simp [Zh, hk, hk', hj]
        | some j =>
         simp only [if_pos hn]
         exact zba hk hk' hj
    ·cases b <;> simp at hn hb <;> (
      show ((dstOK F dst ∧ _) ∧ _) ↔ _
      constructor
      ·rintro ⟨⟨h1, h2⟩, h3⟩; exact ⟨_, ⟨h2, rfl⟩, h1, h3⟩
      ·rintro ⟨v, ⟨h2, rfl⟩, h1, h3⟩; exact ⟨⟨h1, h2⟩, h3⟩)
  all_goals
   show ((dstOK F dst ∧ _) ∧ _) ↔ _
   constructor
   ·rintro ⟨⟨h1, h2⟩, h3⟩; exact ⟨_, ⟨h2, rfl⟩, h1, h3⟩
   ·rintro ⟨v, ⟨h2, rfl⟩, h1, h3⟩; exact ⟨⟨h1, h2⟩, h3⟩
 | some jw =>
  obtain ⟨j, want⟩ := jw
  unfold wn z2i
  simp only
  cases x9 ops st.env j want with
  | none => simp
  | some g =>
   simp only
   cases op <;> simp only [isN] at hn <;> try (simp at hn; done)
   case pick c a b =>
    show (dstOK F dst ∧ _ ∧ _) ↔ _
    constructor
    ·rintro ⟨h1, h2, h3⟩; exact ⟨_, ⟨h2, rfl⟩, h1, h3⟩
    ·rintro ⟨v, ⟨h2, rfl⟩, h1, h3⟩; exact ⟨h1, h2, h3⟩
   case call c =>
    obtain ⟨cal, args, ts⟩ := c
    cases cal with
    | value f =>
     unfold z5i zn4
     simp only
     cases (evA st.env f).strip <;> simp only <;> try (simp; done)
     constructor
     ·rintro ⟨rs, ds, h1, h2, h3, h4⟩; exact ⟨_, ⟨rs, ds, h1, h2, rfl⟩, h3, h4⟩
     ·rintro ⟨v, ⟨rs, ds, h1, h2, rfl⟩, h3, h4⟩; exact ⟨rs, ds, h1, h2, h3, h4⟩
    | invoke r m => simp at hn
    | builtin b =>
     cases b <;> simp at hn <;> (
      show ((dstOK F dst ∧ _) ∧ _) ↔ _
      constructor
      ·rintro ⟨⟨h1, h2⟩, h3⟩; exact ⟨_, ⟨h2, rfl⟩, h1, h3⟩
      ·rintro ⟨v, ⟨h2, rfl⟩, h1, h3⟩; exact ⟨⟨h1, h2⟩, h3⟩)
   all_goals
    show ((dstOK F dst ∧ _) ∧ _) ↔ _
    constructor
    ·rintro ⟨⟨h1, h2⟩, h3⟩; exact ⟨_, ⟨h2, rfl⟩, h1, h3⟩
    ·rintro ⟨v, ⟨h2, rfl⟩, h1, h3⟩; exact ⟨⟨h1, h2⟩, h3⟩
def Agree (ops : Array Oper) (o : Oper) (e f : Nat → AV) : Prop := ∀ t ∈ o.looksAt ops, e t = f t
theorem Agree.evA {ops : Array Oper} {o : Oper} {e f : Nat → AV} (h : Agree ops o e f) : ∀ x ∈ o.op.operands.toList, evA e x = evA f x := fun x hx => by
 cases x with
 | tmp t =>
  refine h t ?_
  unfold Oper.looksAt
  refine List.mem_append_left _ (List.mem_filterMap.2 ⟨.tmp t, hx, rfl⟩)
 | _ => rfl
theorem Agree.gval {ops : Array Oper} {o : Oper} {e f : Nat → AV} (h : Agree ops o e f) {j : Nat} {want : Bool} (hg : o.guard = some (j, want)) : x9 ops e j want = x9 ops f j want := by
 unfold x9
 cases hs : (ops[j]?).bind (·.dst) with
 | none => rfl
 | some s =>
  simp only
  rw [h s]
  unfold Oper.looksAt
  rw [hg]
  simp only [hs]
  exact List.mem_append_right _ (by simp)
theorem z0f {e f : Nat → AV} : ∀ {l : List Operand}, (∀ x ∈ l, evA e x = evA f x) → (gdAll e l ↔ gdAll f l)
 | [], _ => Iff.rfl
 | x :: l, h => by simp only [gdAll, h x (by simp), z0f fun y hy => h y (List.mem_cons_of_mem _ hy)]
theorem z58 {e f : Nat → AV} {g : Bool} {c a b : Operand} (hc : evA e c = evA f c) (ha : evA e a = evA f a) (hb : evA e b = evA f b) : pickA e g c a b = pickA f g c a b := by simp only [pickA, hc, ha, hb]
theorem Qs {F : FC} {ops : Array Oper} {o : Oper} {e f : Nat → AV} {objs : Nat → Option AObj} {v : AV} (h : Agree ops o e f) (hv : z2i F ops o e objs v) : z2i F ops o f objs v := by
 have hev := h.evA
 unfold z2i at hv ⊢
 split at hv
 ·rename_i hg
  split at hv
  ·rename_i c a b hop
   rw [hop] at hev
   rw [← z58 (hev c (by simp [Op.operands])) (hev a (by simp [Op.operands])) (hev b (by simp [Op.operands]))]
   exact hv
  ·rename_i op hop
   unfold zft at hv ⊢
   split at hv
   ·rename_i t len parts hop'
    rw [hop'] at hev
    have hp : (parts.toList.map fun p => evA f p.2) = parts.toList.map fun p => evA e p.2 := List.map_congr_left fun p hp => (hev p.2 (by simp only [Op.operands]; exact List.mem_map.2 ⟨p, hp, rfl⟩)).symm
    simp only [hp]
    exact hv
   ·rename_i s x t t' hop'
    rw [hop'] at hev
    rw [← hev s (by simp [Op.operands, Call.operands]), ← hev x (by simp [Op.operands, Call.operands])]
    exact hv
   ·rename_i fn args ts hop'
    rw [hop'] at hev
    have h1 := hev fn (by simp [Op.operands, Call.operands])
    have h2 : args.toList.map (evA f) = args.toList.map (evA e) := List.map_congr_left fun x hx => (hev x (by simp [Op.operands, Call.operands]; exact .inr (by simpa using hx))).symm
    rw [← h1, h2]
    exact hv
   ·rw [← za8 hev]
    exact hv
 ·rename_i j want hg
  rw [← h.gval hg]
  split at hv <;> try (exact hv.elim)
  rename_i g hgv
  unfold zn4 at hv ⊢
  split at hv
  ·rename_i c a b hop
   rw [hop] at hev
   rw [← z58 (hev c (by simp [Op.operands])) (hev a (by simp [Op.operands])) (hev b (by simp [Op.operands]))]
   exact hv
  ·rename_i fn args ts hop'
   rw [hop'] at hev
   have h1 := hev fn (by simp [Op.operands, Call.operands])
   have h2 : args.toList.map (fun x => (evA f x).strip) = args.toList.map (fun x => (evA e x).strip) := List.map_congr_left fun x hx => by rw [hev x (by simp [Op.operands, Call.operands]; exact .inr (by simpa using hx))]
   rw [← h1, h2]
   have h3 : gdAll f (fn :: args.toList) ↔ gdAll e (fn :: args.toList) := (z0f fun x hx => hev x (by simpa [Op.operands, Call.operands] using hx)).symm
   simp only [h3]
   exact hv
  ·rw [← za8 (ρ := fun x => (evA e x).strip) (ρ' := fun x => (evA f x).strip) fun x hx => by rw [hev x hx]]
   rw [← z0f hev]
   exact hv
theorem z8f {F : FC} {ops : Array Oper} {o : Oper} {e : Nat → AV} {f g : Nat → Option AObj} {d : Nat} {v : AV} (h : z8n d f g) (he : ∀ n, (e n).kill d = e n) (hf : ∀ i o, f i = some o → ∀ x ∈ o.elems, x.kill d = x) : z2i F ops o e g v ↔ z2i F ops o e f v := by
 have hk := z0b he
 have hks : ∀ x, (evA e x).strip.kill d = (evA e x).strip := fun x => z85 (hk x)
 unfold z2i
 split
 ·split
  ·exact Iff.rfl
  ·unfold zft
   split
   ·exact Iff.rfl
   ·split
    ·rw [zk2 h (hk _)]
    ·exact Iff.rfl
   ·rename_i fn args ts _
    cases hfn : evA e fn <;> simp only
    rename_i q caps
    have hcap := hk fn
    rw [hfn] at hcap
    simp only [AV.kill, AV.fn.injEq, true_and, yw] at hcap
    have : ∀ rs, qu g (args.toList.map (evA e) ++ caps) rs = qu f (args.toList.map (evA e) ++ caps) rs := fun rs => z2o h hf (fun x hx => by
     rcases List.mem_append.1 hx with hx | hx
     ·obtain ⟨y, _, rfl⟩ := List.mem_map.1 hx; exact hk y
     ·exact vp hcap x hx) rs
    simp only [this]
   ·rw [zje h fun x _ => hk x]
 ·split <;> try exact Iff.rfl
  unfold zn4
  split
  ·exact Iff.rfl
  ·rename_i fn args ts _
   cases hfn : (evA e fn).strip <;> simp only
   rename_i q caps
   have hcap := hks fn
   rw [hfn] at hcap
   simp only [AV.kill, AV.fn.injEq, true_and, yw] at hcap
   have : ∀ rs, qu g (args.toList.map (fun x => (evA e x).strip) ++ caps) rs = qu f (args.toList.map (fun x => (evA e x).strip) ++ caps) rs := fun rs => z2o h hf (fun x hx => by
    rcases List.mem_append.1 hx with hx | hx
    ·obtain ⟨y, _, rfl⟩ := List.mem_map.1 hx; exact hks y
    ·exact vp hcap x hx) rs
   simp only [this]
  ·rw [zje h fun x _ => hks x]
theorem zez (d : Nat) (rs : List Dat) : (retA rs).kill d = retA rs := by
 unfold retA
 split
 ·rfl
 ·simp only [AV.kill, yw, z1a]
theorem zfn {F : FC} {ops : Array Oper} {o : Oper} {e : Nat → AV} {f : Nat → Option AObj} {d : Nat} {v : AV} (he : ∀ n, (e n).kill d = e n) (hf : ∀ i o, f i = some o → o.elems.map (AV.kill d) = o.elems) (hv : z2i F ops o e f v) : v.kill d = v := by
 have hk := z0b he
 have hks : ∀ x, (evA e x).strip.kill d = (evA e x).strip := fun x => z85 (hk x)
 have hpick : ∀ g c a b, ((pickA e g c a b).2).kill d = (pickA e g c a b).2 := fun g c a b => by unfold pickA; split <;> rfl
 unfold z2i at hv
 split at hv
 ·split at hv
  ·rw [hv.2]; exact hpick _ _ _ _
  ·unfold zft at hv
   split at hv
   ·split at hv <;> try (exact hv.elim)
    split at hv <;> try (exact hv.elim)
    split at hv <;> try (exact hv.elim)
    split at hv <;> try (exact hv.elim)
    obtain ⟨_, hv⟩ := hv
    split at hv
    ·rw [hv]; rfl
    ·split at hv
     ·rw [hv.2]; split <;> rfl
     ·exact hv.elim
   ·split at hv
    ·exact zk1 d hv
    ·exact hv.elim
   ·split at hv <;> try (exact hv.elim)
    obtain ⟨rs, ds, _, _, rfl⟩ := hv
    exact zez d rs
   ·rw [hv.2]; exact zjd (fun x _ => hk x) hf
 ·split at hv <;> try (exact hv.elim)
  unfold zn4 at hv
  split at hv
  ·rw [hv.2]; simp only [AV.kill, hpick]
  ·split at hv <;> try (exact hv.elim)
   obtain ⟨rs, ds, _, _, rfl⟩ := hv
   simp only [AV.kill, zez]
  ·rw [hv.2]; simp only [AV.kill, zjd (fun x _ => hks x) hf]
end Go.Av

