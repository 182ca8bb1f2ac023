/- The steps of a walk, each with what closes it: a walk's text gives what is live, and no more. -/
import Derived.Test.YtabjaaonfaejmaaHAv41
import Derived.Scope
set_option linter.all false
namespace Go.Av
theorem SD {p : Prop} (h : p := by
    first | omega | assumption | with_reducible rfl | exact rfl | exact (fun _ hf => False.elim hf) | (intro hside; (repeat' refine And.intro ?_ ?_) <;> first | exact hside | omega | (rw [hside]; rfl) | (simp only [pickB_true, pickB_false, Bool.false_or, Bool.false_and, Bool.true_and, decide_eq_true_eq, decide_eq_false_iff_not, Bool.or_eq_true, Bool.and_eq_true, Bool.or_eq_false_iff, Bool.and_eq_false_imp, Bool.not_eq_true, Bool.not_eq_false, Bool.not_eq_eq_eq_not, Bool.not_true, Bool.not_false, Int.not_lt, Int.not_le, beq_iff_eq, beq_eq_false_iff_ne, bne_iff_ne, bne_eq_false_iff_eq, ne_eq, Bool.decide_eq_true, Classical.not_not] at hside; omega) | (simp_all; done) | grind)) : p := h
theorem SC {p : Prop} (h : p := by
    first | exact rfl | exact ⟨rfl, rfl⟩ | ((repeat' first | refine And.intro ?_ ?_ | intro _) <;> first | with_reducible rfl | assumption | omega | rfl | (rename_i hq; rw [hq]; rfl) | (rename_i hq; simp only [pickB_true, pickB_false, Bool.false_or, Bool.false_and, Bool.true_and, decide_eq_true_eq, decide_eq_false_iff_not, Bool.or_eq_true, Bool.and_eq_true, Bool.or_eq_false_iff, Bool.and_eq_false_imp, Bool.not_eq_true, Bool.not_eq_false, Bool.not_eq_eq_eq_not, Bool.not_true, Bool.not_false, Int.not_lt, Int.not_le, beq_iff_eq, beq_eq_false_iff_ne, bne_iff_ne, bne_eq_false_iff_eq, ne_eq, Bool.decide_eq_true, Classical.not_not] at hq; omega) | (simp_all; done) | grind)) : p := h
section
variable {F : FC} {Q : Exit → ASt → Prop} {st : ASt}
theorem WS (ns ids : List Nat) {e : List (Nat × AV)} {o : List (Nat × AObj)} {id : Nat} {l : List Oper} {y : Code} (k : AWp F y Q (.of e o))
    (h : RunOps F l.toArray l st (Kept ns ids e o) := by
      simp (maxSteps := 2000000) (disch := omega) only [avR2, avA, datsOf, fillA, seval, ↓List.forall_mem_cons, Op.operands, hA, tiA, hE]
      first | exact ⟨rfl, rfl⟩ | ((repeat' first | refine And.intro ?_ ?_ | intro _) <;> first | with_reducible rfl | assumption | omega | rfl | (rename_i hq; rw [hq]; rfl) | (rename_i hq; simp only [pickB_true, pickB_false, Bool.false_or, Bool.false_and, Bool.true_and, decide_eq_true_eq, decide_eq_false_iff_not, Bool.or_eq_true, Bool.and_eq_true, Bool.or_eq_false_iff, Bool.and_eq_false_imp, Bool.not_eq_true, Bool.not_eq_false, Bool.not_eq_eq_eq_not, Bool.not_true, Bool.not_false, Int.not_lt, Int.not_le, beq_iff_eq, beq_eq_false_iff_ne, bne_iff_ne, bne_eq_false_iff_eq, ne_eq, Bool.decide_eq_true, Classical.not_not] at hq; omega) | (simp_all; done) | grind)) :
    AWp F (.seq (.region id l.toArray false) y) Q st := aw_regs ns ids h k
theorem WQ (ns ids : List Nat) {e : List (Nat × AV)} {o : List (Nat × AObj)} {id : Nat} {l : List Oper} (k : Q .normal (.of e o))
    (h : RunOps F l.toArray l st (Kept ns ids e o) := by
      simp (maxSteps := 2000000) (disch := omega) only [avR2, avA, datsOf, fillA, seval, ↓List.forall_mem_cons, Op.operands, hA, tiA, hE]
      first | exact ⟨rfl, rfl⟩ | ((repeat' first | refine And.intro ?_ ?_ | intro _) <;> first | with_reducible rfl | assumption | omega | rfl | (rename_i hq; rw [hq]; rfl) | (rename_i hq; simp only [pickB_true, pickB_false, Bool.false_or, Bool.false_and, Bool.true_and, decide_eq_true_eq, decide_eq_false_iff_not, Bool.or_eq_true, Bool.and_eq_true, Bool.or_eq_false_iff, Bool.and_eq_false_imp, Bool.not_eq_true, Bool.not_eq_false, Bool.not_eq_eq_eq_not, Bool.not_true, Bool.not_false, Int.not_lt, Int.not_le, beq_iff_eq, beq_eq_false_iff_ne, bne_iff_ne, bne_eq_false_iff_eq, ne_eq, Bool.decide_eq_true, Classical.not_not] at hq; omega) | (simp_all; done) | grind)) :
    AWp F (.region id l.toArray false) Q st := aw_reg ns ids h k
theorem WSc (ns ids : List Nat) {e : List (Nat × AV)} {o : List (Nat × AObj)} {id : Nat} {l : List Oper} {y : Code} (k : AWp F y Q (.of e o))
    (h : RunOps F l.toArray l st (Kept ns ids e o) := by
      simp (maxSteps := 2000000) (disch := omega) only [avR2, avA, datsOf, fillA, seval, ↓List.forall_mem_cons, Op.operands, hA, tiA, hE]
      (repeat' refine And.intro ?_ ?_) <;> try exact SD
      refine CallC.use hc rfl ?_
      try simp (maxSteps := 2000000) (disch := omega) only [avR2, avA, datsOf, fillA, seval, ↓List.forall_mem_cons, Op.operands, hA, tiA, hE]
      first | exact ⟨rfl, rfl⟩ | ((repeat' first | refine And.intro ?_ ?_ | intro _) <;> first | with_reducible rfl | assumption | omega | rfl | (rename_i hq; rw [hq]; rfl) | (rename_i hq; simp only [pickB_true, pickB_false, Bool.false_or, Bool.false_and, Bool.true_and, decide_eq_true_eq, decide_eq_false_iff_not, Bool.or_eq_true, Bool.and_eq_true, Bool.or_eq_false_iff, Bool.and_eq_false_imp, Bool.not_eq_true, Bool.not_eq_false, Bool.not_eq_eq_eq_not, Bool.not_true, Bool.not_false, Int.not_lt, Int.not_le, beq_iff_eq, beq_eq_false_iff_ne, bne_iff_ne, bne_eq_false_iff_eq, ne_eq, Bool.decide_eq_true, Classical.not_not] at hq; omega) | (simp_all; done) | grind)) :
    AWp F (.seq (.region id l.toArray false) y) Q st := aw_regs ns ids h k
theorem WQc (ns ids : List Nat) {e : List (Nat × AV)} {o : List (Nat × AObj)} {id : Nat} {l : List Oper} (k : Q .normal (.of e o))
    (h : RunOps F l.toArray l st (Kept ns ids e o) := by
      simp (maxSteps := 2000000) (disch := omega) only [avR2, avA, datsOf, fillA, seval, ↓List.forall_mem_cons, Op.operands, hA, tiA, hE]
      (repeat' refine And.intro ?_ ?_) <;> try exact SD
      refine CallC.use hc rfl ?_
      try simp (maxSteps := 2000000) (disch := omega) only [avR2, avA, datsOf, fillA, seval, ↓List.forall_mem_cons, Op.operands, hA, tiA, hE]
      first | exact ⟨rfl, rfl⟩ | ((repeat' first | refine And.intro ?_ ?_ | intro _) <;> first | with_reducible rfl | assumption | omega | rfl | (rename_i hq; rw [hq]; rfl) | (rename_i hq; simp only [pickB_true, pickB_false, Bool.false_or, Bool.false_and, Bool.true_and, decide_eq_true_eq, decide_eq_false_iff_not, Bool.or_eq_true, Bool.and_eq_true, Bool.or_eq_false_iff, Bool.and_eq_false_imp, Bool.not_eq_true, Bool.not_eq_false, Bool.not_eq_eq_eq_not, Bool.not_true, Bool.not_false, Int.not_lt, Int.not_le, beq_iff_eq, beq_eq_false_iff_ne, bne_iff_ne, bne_eq_false_iff_eq, ne_eq, Bool.decide_eq_true, Classical.not_not] at hq; omega) | (simp_all; done) | grind)) :
    AWp F (.region id l.toArray false) Q st := aw_reg ns ids h k
theorem WD (ns ids perm ks : List Nat) {e : List (Nat × AV)} {o : List (Nat × AObj)} {rows lits apps : List Nat} {l l' : List Oper} {Pm : Prop} {id : Nat} {y : Code} (k : AWp F y Q (.of e o))
    (hm : F.P.follows .mixedOrders = true := by rw [hP]; kernel_rfl) (hR : F.rows = rows ∧ F.lits = lits ∧ F.apps = apps ∧ Pm := by exact hR)
    (hp : (permOK rows lits apps l.toArray perm && ksB rows lits apps l ks) = true := by kernel_rfl) (hl : PickL l perm l' := by ((repeat (apply PickL.cons; exact rfl)); exact PickL.nil _))
    (h : RunOps F l.toArray l' (killAll ks st) (Kept ns ids e o) := by
      simp (maxSteps := 2000000) (disch := omega) only [avR2, avA, datsOf, fillA, seval, ↓List.forall_mem_cons, Op.operands, hA, tiA, hE]
      first | exact ⟨rfl, rfl⟩ | ((repeat' first | refine And.intro ?_ ?_ | intro _) <;> first | with_reducible rfl | assumption | omega | rfl | (rename_i hq; rw [hq]; rfl) | (rename_i hq; simp only [pickB_true, pickB_false, Bool.false_or, Bool.false_and, Bool.true_and, decide_eq_true_eq, decide_eq_false_iff_not, Bool.or_eq_true, Bool.and_eq_true, Bool.or_eq_false_iff, Bool.and_eq_false_imp, Bool.not_eq_true, Bool.not_eq_false, Bool.not_eq_eq_eq_not, Bool.not_true, Bool.not_false, Int.not_lt, Int.not_le, beq_iff_eq, beq_eq_false_iff_ne, bne_iff_ne, bne_eq_false_iff_eq, ne_eq, Bool.decide_eq_true, Classical.not_not] at hq; omega) | (simp_all; done) | grind)) :
    AWp F (.seq (.region id l.toArray true) y) Q st := aw_rgds ns ids perm ks hm hR hp hl h k
theorem WDQ (ns ids perm ks : List Nat) {e : List (Nat × AV)} {o : List (Nat × AObj)} {rows lits apps : List Nat} {l l' : List Oper} {Pm : Prop} {id : Nat} (k : Q .normal (.of e o))
    (hm : F.P.follows .mixedOrders = true := by rw [hP]; kernel_rfl) (hR : F.rows = rows ∧ F.lits = lits ∧ F.apps = apps ∧ Pm := by exact hR)
    (hp : (permOK rows lits apps l.toArray perm && ksB rows lits apps l ks) = true := by kernel_rfl) (hl : PickL l perm l' := by ((repeat (apply PickL.cons; exact rfl)); exact PickL.nil _))
    (h : RunOps F l.toArray l' (killAll ks st) (Kept ns ids e o) := by
      simp (maxSteps := 2000000) (disch := omega) only [avR2, avA, datsOf, fillA, seval, ↓List.forall_mem_cons, Op.operands, hA, tiA, hE]
      first | exact ⟨rfl, rfl⟩ | ((repeat' first | refine And.intro ?_ ?_ | intro _) <;> first | with_reducible rfl | assumption | omega | rfl | (rename_i hq; rw [hq]; rfl) | (rename_i hq; simp only [pickB_true, pickB_false, Bool.false_or, Bool.false_and, Bool.true_and, decide_eq_true_eq, decide_eq_false_iff_not, Bool.or_eq_true, Bool.and_eq_true, Bool.or_eq_false_iff, Bool.and_eq_false_imp, Bool.not_eq_true, Bool.not_eq_false, Bool.not_eq_eq_eq_not, Bool.not_true, Bool.not_false, Int.not_lt, Int.not_le, beq_iff_eq, beq_eq_false_iff_ne, bne_iff_ne, bne_eq_false_iff_eq, ne_eq, Bool.decide_eq_true, Classical.not_not] at hq; omega) | (simp_all; done) | grind)) :
    AWp F (.region id l.toArray true) Q st := aw_rgd ns ids perm ks hm hR hp hl h k
theorem WI {c : Operand} {x y : Code} {b : Bool} {p q : Prop} (ht : p → AWp F x Q st) (hf : q → AWp F y Q st) (hc : evA st.env c = .dat (.bool b) := by exact rfl)
    (hp : (b = true) = p := by
      (try simp only [pickB_true, pickB_false, Bool.false_or, Bool.false_and, Bool.true_and, decide_eq_true_eq, decide_eq_false_iff_not, Bool.or_eq_true, Bool.and_eq_true, Bool.or_eq_false_iff, Bool.and_eq_false_imp, Bool.not_eq_true, Bool.not_eq_false, Bool.not_eq_eq_eq_not, Bool.not_true, Bool.not_false, Int.not_lt, Int.not_le, beq_iff_eq, beq_eq_false_iff_ne, bne_iff_ne, bne_eq_false_iff_eq, ne_eq, Bool.true_eq_false, Bool.false_eq_true, if_false_left, if_true_left, Bool.decide_eq_true, Classical.not_not])
      exact rfl)
    (hq : (b = false) = q := by
      (try simp only [pickB_true, pickB_false, Bool.false_or, Bool.false_and, Bool.true_and, decide_eq_true_eq, decide_eq_false_iff_not, Bool.or_eq_true, Bool.and_eq_true, Bool.or_eq_false_iff, Bool.and_eq_false_imp, Bool.not_eq_true, Bool.not_eq_false, Bool.not_eq_eq_eq_not, Bool.not_true, Bool.not_false, Int.not_lt, Int.not_le, beq_iff_eq, beq_eq_false_iff_ne, bne_iff_ne, bne_eq_false_iff_eq, ne_eq, Bool.true_eq_false, Bool.false_eq_true, if_false_left, if_true_left, Bool.decide_eq_true, Classical.not_not])
      exact rfl) : AWp F (.cond c x y) Q st := aw_if b hc (fun h => ht (hp ▸ h)) (fun h => hf (hq ▸ h))
def selE (e : List (Nat × AV)) : List Nat → List (Nat × AV)
  | [] => []
  | n :: ns => (n, envL e n) :: selE e ns
def selO (o : List (Nat × AObj)) : List Nat → List (Nat × AObj)
  | [] => []
  | n :: ns => match objL o n with
    | some v => (n, v) :: selO o ns
    | none => selO o ns
theorem LeE.append {f : Nat → AV} : ∀ {l l' : List (Nat × AV)}, LeE f l → LeE f l' → LeE f (l ++ l')
  | [], _, _, h => h
  | (_, _) :: _, _, h1, h2 => ⟨h1.1, LeE.append h1.2 h2⟩
theorem LeO.append {f : Nat → Option AObj} : ∀ {l l' : List (Nat × AObj)}, LeO f l → LeO f l' → LeO f (l ++ l')
  | [], _, _, h => h
  | (_, _) :: _, _, h1, h2 => ⟨h1.1, LeO.append h1.2 h2⟩
theorem LeE.sel (e : List (Nat × AV)) : ∀ ns, LeE (envL e) (selE e ns)
  | [] => trivial
  | _ :: ns => ⟨rfl, LeE.sel e ns⟩
theorem LeO.sel (o : List (Nat × AObj)) : ∀ ns : List Nat, LeO (objL o) (selO o ns)
  | [] => trivial
  | n :: ns => by
    unfold selO
    cases h : objL o n with
    | none => exact LeO.sel o ns
    | some v => exact ⟨h, LeO.sel o ns⟩
theorem WL {ι : Type} {c : Code} {e0 e1 : List (Nat × AV)} {o0 o1 : List (Nat × AObj)} (ns ids : List Nat) (E : ι → List (Nat × AV)) (O : ι → List (Nat × AObj)) (μ : ι → Nat) (i0 : ι)
    (hr : ∀ i, AWp F c (QLoop F (fun i => .of (E i ++ e1) (O i ++ o1)) μ i Q) (.of (E i ++ e1) (O i ++ o1)))
    (he : selE e0 ns = e1 := by (simp only [selE, avA, seval]; exact rfl)) (ho : selO o0 ids = o1 := by (simp only [selO, avA, seval]; exact rfl))
    (h1 : LeE (envL e0) (E i0) := by
      (try simp (disch := omega) only [LeE, LeO, avA, datsOf, fillA, seval, ↓List.forall_mem_cons, Op.operands, hE])
      all_goals first | done | (repeat' apply And.intro) <;> first | rfl | omega | assumption | (simp only [AV.dat.injEq, Dat.int.injEq, true_and]; omega) | (congr <;> omega))
    (h2 : LeO (objL o0) (O i0) := by
      (try simp (disch := omega) only [LeE, LeO, avA, datsOf, fillA, seval, ↓List.forall_mem_cons, Op.operands, hE])
      all_goals first | done | (repeat' apply And.intro) <;> first | rfl | omega | assumption | (simp only [AV.dat.injEq, Dat.int.injEq, true_and]; omega) | (congr <;> omega)) :
    AWp F (.loop c) Q (.of e0 o0) :=
  aw_loop (fun i => .of (E i ++ e1) (O i ++ o1)) μ i0 (Le.of (h1.append (he ▸ LeE.sel e0 ns)) (h2.append (ho ▸ LeO.sel o0 ids))) hr
theorem WN {ι : Type} {I : ι → ASt} {μ : ι → Nat} {i : ι} (i' : ι)
    (h : Le F st (I i') := by
      refine Le.of ?_ ?_
      · (try simp (disch := omega) only [LeE, LeO, avA, datsOf, fillA, seval, ↓List.forall_mem_cons, Op.operands, hE])
        all_goals first | done | (repeat' apply And.intro) <;> first | rfl | omega | assumption | (simp only [AV.dat.injEq, Dat.int.injEq, true_and]; omega) | (congr <;> omega)
      · (try simp (disch := omega) only [LeE, LeO, avA, datsOf, fillA, seval, ↓List.forall_mem_cons, Op.operands, hE])
        all_goals first | done | (repeat' apply And.intro) <;> first | rfl | omega | assumption | (simp only [AV.dat.injEq, Dat.int.injEq, true_and]; omega) | (congr <;> omega))
    (hm : μ i' < μ i := by (dsimp only; omega)) : QLoop F I μ i Q .normal st := ⟨i', h, hm⟩
theorem aw_lit {l l' : List Oper} {id : Nat} {d : Bool} {y : Code} (h : l = l') (k : AWp F (.seq (.region id l'.toArray d) y) Q st) : AWp F (.seq (.region id l.toArray d) y) Q st := h ▸ k
def QScope (Q : Exit → ASt → Prop) : Exit → ASt → Prop
  | .goto _, _ => False
  | e, st => Q e st
theorem stepR_scope {P : Program} {b : Frame} {a : Act} {k : List Item} {cs : List Frame} {w : World} {c : Code} : step P (lone (b.atR a (.code (.scope c) :: k)) cs w) = .next (lone (b.atR a (.code c :: .inScope c :: k)) cs w) :=
  step_lone_go (by simp [stepG, stepG.exec, Frame.atR])
theorem stepR_inScope {P : Program} {b : Frame} {a : Act} {k : List Item} {cs : List Frame} {w : World} {c : Code} : step P (lone (b.atR a (.inScope c :: k)) cs w) = .next (lone (b.atR a k) cs w) :=
  step_lone_go (by simp [stepG, stepG.exec, Frame.atR])
theorem wpIn_scope_straight {F : Fence} {n : Nat} {P : Program} {Q : Exit → Act → World → Prop} {a : Act} {w : World} {c : Code} (h : c.wpIn F n P (Exit.noGoto Q) a w) : (Code.scope c).wpIn F n P Q a w := by
  intro b k cs hro hb hr
  have h0 : (lone (b.atR a (.code (.scope c) :: k)) cs w).fenced P F := fenced_calm hb hr rfl
  obtain ⟨e, a₁, w₁, hq, harr⟩ := h b (.inScope c :: k) cs hro hb hr
  cases e with
  | normal => exact ⟨.normal, a₁, w₁, hq, .head h0 stepR_scope (StepsIn.trans harr (.one (fenced_calm hb hr rfl) stepR_inScope))⟩
  | exit id =>
    have hx : exitTo id (.inScope c :: k) = exitTo id k := by simp [exitTo]
    exact ⟨_, a₁, w₁, hq, fun k' hk => .head h0 stepR_scope (harr.1 k' (by rw [hx]; exact hk)),
      fun hr' hk => let ⟨k₁, h1, h2⟩ := harr.2 hr' (by rw [hx]; exact hk); ⟨k₁, h1, .head h0 stepR_scope h2⟩⟩
  | goto l => exact hq.elim
  | ret => exact ⟨_, a₁, w₁, hq, .of_steps (.one h0 stepR_scope) harr⟩
  | panic ch => exact ⟨_, a₁, w₁, hq, .of_steps (.one h0 stepR_scope) harr⟩
  | outgrown => exact ⟨_, a₁, w₁, hq, .of_steps (.one h0 stepR_scope) harr⟩
theorem aw_scope {c : Code} (h : AWp F c (QScope Q) st) : AWp F (.scope c) Q st := fun a w hs =>
  wpIn_scope_straight (wpIn_mono (h a w hs) fun e a' w' h => by
    obtain ⟨st', hq, hs'⟩ := h
    cases e <;> first | exact hq.elim | exact ⟨st', hq, hs'⟩)
theorem aw_label {l : Nat} (h : Q .normal st) : AWp F (.label l) Q st := fun a w hs => wpIn_label ⟨st, h, hs⟩
theorem q_ret_scope (h : Q .ret st) : QScope Q .ret st := h
end
end Go.Av

