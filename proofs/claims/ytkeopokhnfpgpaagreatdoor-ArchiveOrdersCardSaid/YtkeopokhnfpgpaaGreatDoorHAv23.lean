/- A part of the proof. -/
import Derived.Test.YtkeopokhnfpgpaaGreatDoorHAv22
set_option linter.all false
namespace Go.Av
def Sub (f g : Nat → Option AObj) : Prop := ∀ i o, f i = some o → g i = some o
def NM (d : Nat) (st : ASt) : Prop := (∀ n, (st.env n).kill d = st.env n) ∧ st.objs d = none ∧ ∀ i o, st.objs i = some o → o.elems.map (AV.kill d) = o.elems
theorem z0b {d : Nat} {env : Nat → AV} (h : ∀ n, (env n).kill d = env n) (x : Operand) : (evA env x).kill d = evA env x := by
 cases x with
 | tmp t => exact h t
 | const v =>
  simp only [evA]
  unfold avOf
  split <;> try rfl
  split <;> rfl
 | global g => rfl
 | func f => simp [evA, AV.kill, killL]
theorem z85 {d : Nat} {x : AV} (h : x.kill d = x) : x.strip.kill d = x.strip := by
 cases x <;> simp_all [AV.strip, AV.kill]
theorem z13 {d : Nat} {x : AV} (h : x.kill d = x) : ∀ c ∈ x.cells, c.kill d = c := by
 have := vo d x
 rw [h] at this
 intro c hc
 obtain ⟨i, hi⟩ := List.getElem?_of_mem hc
 have h2 := congrArg (fun l => l[i]?) this
 simp only [List.getElem?_map, hi, Option.map_some, Option.some.injEq] at h2
 exact h2.symm
theorem z5s {f : AV → AV} {l : List AV} (h : ∀ c ∈ l, f c = c) : l.map f = l := by
 conv => rhs; rw [← List.map_id l]
 exact List.map_congr_left (fun c hc => by simpa using h c hc)
theorem vp {f : AV → AV} {l : List AV} (h : l.map f = l) : ∀ c ∈ l, f c = c := by
 intro c hc
 obtain ⟨i, hi⟩ := List.getElem?_of_mem hc
 have h2 := congrArg (fun l => l[i]?) h
 simp only [List.getElem?_map, hi, Option.map_some, Option.some.injEq] at h2
 exact h2
theorem z1d {d : Nat} {l : List AV} (h : ∀ c ∈ l, c.kill d = c) : (mkAgg l).kill d = mkAgg l := by
 unfold mkAgg
 split
 ·rfl
 ·simp only [AV.kill, yw]; rw [z5s h]
theorem z6o {d i : Nat} {l : List AV} (h : ∀ c ∈ l, c.kill d = c) : ((l[i]?).getD .junk).kill d = (l[i]?).getD .junk := by
 cases hi : l[i]? with
 | none => rfl
 | some c => exact h c (List.mem_of_getElem? hi)
theorem z4l {d : Nat} {agg : Bool} {off size : Nat} {l : List AV} (h : ∀ c ∈ l, c.kill d = c) : ((partA agg off size l).2).kill d = (partA agg off size l).2 := by
 unfold partA
 split
 ·exact z1d fun c hc => h c (List.mem_of_mem_drop (List.mem_of_mem_take hc))
 ·exact z6o h
theorem z1b {d : Nat} {i : TI} {off : Nat} {x : AV} (h : x.kill d = x) : ((loadW i off x).2).kill d = (loadW i off x).2 := by
 unfold loadW
 split
 ·exact h
 ·exact z4l (z13 h)
theorem z41 {d : Nat} {place : Nat → Option (Nat × Nat)} : ∀ {parts : List (Nat × AV)} {cells : List AV}, (∀ p ∈ parts, p.2.kill d = p.2) → (∀ c ∈ cells, c.kill d = c) → ∀ c ∈ (zo place cells parts).2, c.kill d = c
 | [], cells, _, hc => by simpa [zo] using hc
 | (i, x) :: parts, cells, hp, hc => by
  unfold zo
  split
  ·intro c hc'; simp at hc'
  ·refine z41 (fun p hpp => hp p (by simp [hpp])) fun c hc' => ?_
   simp only [List.mem_append] at hc'
   rcases hc' with (h | h) | h
   ·exact hc c (List.mem_of_mem_take h)
   ·exact z13 (hp (i, x) (by simp)) c h
   ·exact hc c (List.mem_of_mem_drop h)
theorem z44 {d : Nat} {f : AV → AV → VR} (hf : ∀ x y, x.kill d = x → ((f x y).2).kill d = (f x y).2) : ∀ {l : List AV} {x : AV}, x.kill d = x → ((foldA f x l).2).kill d = (foldA f x l).2
 | [], x, h => h
 | y :: l, x, h => by simp only [foldA]; exact z44 hf (hf x y h)
theorem z8l {P : Program} {t : TypeId} {i : TI} {z : List AV} {d : Nat} (ht : ti P t = some i) (hz : i.zero = some z) : ∀ c ∈ z, c.kill d = c := by
 obtain ⟨j, u, _, _, _, _, hzz, _⟩ := ti_info ht
 rw [hzz] at hz
 cases hj : j.zero with
 | none => simp [hj] at hz
 | some v =>
  simp only [hj, Option.map_some, Option.some.injEq] at hz
  subst hz
  intro c hc
  obtain ⟨v', _, rfl⟩ := List.mem_map.1 hc
  unfold avOf
  split <;> try rfl
  split <;> rfl
theorem z5q {d : Nat} {r : VR} (h : ∀ x, r.2 = x → x = .junk ∨ ∃ q, x = .dat q) : (r.2).kill d = r.2 := by
 rcases h _ rfl with h | ⟨q, h⟩ <;> rw [h] <;> rfl
theorem znh {P : Program} {op : BinOp} {t : TypeId} {x y : AV} {d : Nat} : ((binA P op t x y).2).kill d = (binA P op t x y).2 := by
 refine z5q fun z hz => ?_
 subst hz
 unfold binA
 split
 ·cases op <;> first | exact .inr ⟨_, rfl⟩ | exact .inl rfl
 ·cases op <;> first | exact .inr ⟨_, rfl⟩ | exact .inl rfl
 ·cases op <;> exact .inr ⟨_, rfl⟩
 ·cases op <;> first | exact .inr ⟨_, rfl⟩ | exact .inl rfl
 ·split
  ·rename_i i _
   cases hk : i.tk <;> cases op <;> first | exact .inr ⟨_, rfl⟩ | exact .inl rfl
  ·exact .inl rfl
 ·cases op <;> first | exact .inr ⟨_, rfl⟩ | exact .inl rfl
 ·cases op <;> first | exact .inr ⟨_, rfl⟩ | exact .inl rfl
 ·exact .inl rfl
theorem zjd {F : FC} {objs : Nat → Option AObj} {ρ : Operand → AV} {op : Op} {d : Nat} (hρ : ∀ x ∈ op.operands.toList, (ρ x).kill d = ρ x) (ho : ∀ i o, objs i = some o → o.elems.map (AV.kill d) = o.elems) :
  ((opV F objs ρ op).2).kill d = (opV F objs ρ op).2 := by
 unfold opV
 split
 ·exact hρ _ (by simp [Op.operands])
 ·exact hρ _ (by simp [Op.operands])
 ·exact znh
 ·refine z5q fun z hz => ?_
  subst hz
  unfold unA
  split <;> first | exact .inr ⟨_, rfl⟩ | exact .inl rfl
 ·refine z5q fun z hz => ?_
  subst hz
  unfold convA
  split <;> first | exact .inr ⟨_, rfl⟩ | exact .inl rfl | (split <;> first | exact .inr ⟨_, rfl⟩ | exact .inl rfl)
 ·rename_i s x f
  have hx := hρ x (by simp [Op.operands])
  unfold fieldAddrA
  split <;> try rfl
  split <;> try rfl
  split <;> try rfl
  split
  ·rename_i h; rw [h] at hx; simp only [AV.kill] at hx ⊢; split at hx <;> simp_all
  all_goals rfl
 ·rename_i s x f
  have hx := hρ x (by simp [Op.operands])
  unfold fieldA
  split <;> try rfl
  split <;> try rfl
  split <;> try rfl
  exact z4l (z13 hx)
 ·rename_i t x i
  have hx := hρ x (by simp [Op.operands])
  unfold indexAddrA
  split <;> try rfl
  ·split <;> try rfl
   split
   ·rfl
   ·rename_i h; rw [h] at hx; simp only [AV.kill] at hx ⊢; split at hx <;> simp_all
   ·rfl
  ·split <;> try rfl
   split
   ·rename_i h; rw [h] at hx; simp only [AV.kill] at hx ⊢; split at hx <;> simp_all
   all_goals rfl
 ·rename_i t x i
  have hx := hρ x (by simp [Op.operands])
  unfold indexA
  split <;> try rfl
  ·split <;> rfl
  ·split <;> try rfl
   exact z4l (z13 hx)
 ·rename_i x i
  have hx := hρ x (by simp [Op.operands])
  unfold extractA
  split
  ·rename_i l h
   rw [h] at hx
   simp only [AV.kill, AV.tup.injEq, yw] at hx
   exact z6o (vp hx)
  ·rfl
 ·rename_i t parts
  have hp : ∀ p ∈ (parts.toList.map fun p => (p.1, ρ p.2)), p.2.kill d = p.2 := fun p hpp => by
   obtain ⟨q, hq, rfl⟩ := List.mem_map.1 hpp
   exact hρ q.2 (by simp only [Op.operands]; exact List.mem_map.2 ⟨q, hq, rfl⟩)
  unfold buildA
  split
  ·rename_i hti; exact z1d (z41 hp (z8l hti rfl))
  ·rename_i hti
   split
   ·exact z1d (z41 hp (z8l hti rfl))
   ·rfl
  ·rfl
 ·rename_i t x lo hi mx
  have hx := hρ x (by simp [Op.operands])
  unfold sliceA
  split <;> try rfl
  ·split <;> try rfl
   split <;> try rfl
   ·split <;> rfl
   ·rename_i h
    split <;> try rfl
    rw [h] at hx; simp only [AV.kill] at hx ⊢; split at hx <;> simp_all
   ·split <;> rfl
  ·split <;> try rfl
   split <;> rfl
  ·split <;> try rfl
   split <;> try rfl
   split <;> try rfl
   rename_i h
   rw [h] at hx; simp only [AV.kill] at hx ⊢; split at hx <;> simp_all
  ·split <;> try rfl
   split <;> try rfl
   split <;> try rfl
   split <;> rfl
 ·rename_i t x
  have hx := hρ x (by simp [Op.operands])
  unfold loadA
  split <;> try rfl
  split <;> try rfl
  ·split <;> try rfl
   rename_i ob hob
   exact z1b (z6o (vp (ho _ ob hob)))
  ·exact z1b rfl
  ·exact z1b rfl
  ·split <;> try rfl
   exact z1b rfl
 ·rename_i x
  have hx := hρ x (by simp [Op.operands])
  unfold nilA
  split
  ·rename_i h; rw [h] at hx; exact hx
  all_goals rfl
 ·rename_i t x
  have hx := hρ x (by simp [Op.operands])
  unfold arrA
  split
  ·rename_i h
   rw [h] at hx; simp only [AV.kill] at hx ⊢; split at hx <;> simp_all
  ·rfl
 ·rename_i f caps
  simp only [AV.kill, yw, AV.fn.injEq, true_and, List.map_map]
  apply List.map_congr_left
  intro x hx
  exact hρ x (by simp only [Op.operands]; simpa using hx)
 ·refine z5q fun z hz => ?_
  subst hz
  unfold lenA
  split <;> first | (split <;> first | exact .inr ⟨_, rfl⟩ | exact .inl rfl) | exact .inr ⟨_, rfl⟩ | exact .inl rfl
 ·rename_i xs ts
  cases h : xs.toList with
  | nil => rfl
  | cons x l =>
   simp only [List.map_cons, minA]
   refine z44 (fun x y hx => ?_) (hρ x (by simp [Op.operands, Call.operands, h]))
   unfold min2A; split <;> rfl
 ·rename_i xs ts
  cases h : xs.toList with
  | nil => rfl
  | cons x l =>
   simp only [List.map_cons, maxA]
   refine z44 (fun x y hx => ?_) (hρ x (by simp [Op.operands, Call.operands, h]))
   unfold max2A; split <;> rfl
 ·rfl
theorem za8 {F : FC} {objs : Nat → Option AObj} {ρ ρ' : Operand → AV} {op : Op} (h : ∀ x ∈ op.operands.toList, ρ x = ρ' x) : opV F objs ρ op = opV F objs ρ' op := by
 unfold opV
 split <;> first
  | rfl
  | (simp only [Op.operands, Call.operands, List.mem_cons, List.not_mem_nil, or_false, forall_eq_or_imp, forall_eq] at h; simp only [h]; done)
  | skip
 ·rename_i t parts
  have : (parts.toList.map fun p => (p.1, ρ p.2)) = parts.toList.map fun p => (p.1, ρ' p.2) := by
   apply List.map_congr_left
   intro p hp
   rw [h p.2 (by simp only [Op.operands]; exact List.mem_map.2 ⟨p, hp, rfl⟩)]
  rw [this]
 ·rename_i t x lo hi mx
  have hx := h x (by simp [Op.operands])
  have h1 : lo.map ρ = lo.map ρ' := by cases lo <;> simp; exact h _ (by simp [Op.operands])
  have h2 : hi.map ρ = hi.map ρ' := by cases hi <;> simp; exact h _ (by simp [Op.operands])
  have h3 : mx.map ρ = mx.map ρ' := by cases mx <;> simp; exact h _ (by simp [Op.operands])
  rw [hx, h1, h2, h3]
 ·rename_i f caps
  have : caps.toList.map ρ = caps.toList.map ρ' := List.map_congr_left fun x hx => h x (by simp only [Op.operands]; simpa using hx)
  rw [this]
 ·rename_i x t
  rw [h x (by simp [Op.operands, Call.operands])]
 ·rename_i xs ts
  have : xs.toList.map ρ = xs.toList.map ρ' := List.map_congr_left fun x hx => h x (by simpa [Op.operands, Call.operands] using hx)
  rw [this]
 ·rename_i xs ts
  have : xs.toList.map ρ = xs.toList.map ρ' := List.map_congr_left fun x hx => h x (by simpa [Op.operands, Call.operands] using hx)
  rw [this]
theorem zh7 {P : Program} {G : List (Nat × Dat)} {f g : Nat → Option AObj} (hs : Sub f g) {t : TypeId} {x : AV} (h : (loadA P G f t x).1) : loadA P G g t x = loadA P G f t x := by
 unfold loadA at h ⊢
 split at h <;> try rfl
 split at h <;> try rfl
 split at h <;> try (simp [VR.bad] at h; done)
 rename_i ob hob
 simp only [hs _ _ hob, hob]
theorem zqi {F : FC} {f g : Nat → Option AObj} (hs : Sub f g) {ρ : Operand → AV} {op : Op} (h : (opV F f ρ op).1) : opV F g ρ op = opV F f ρ op := by
 cases op <;> try rfl
 case load t x => exact zh7 hs h
 all_goals
  unfold opV
  split <;> first | rfl | (rename_i hc; cases hc)
end Go.Av

