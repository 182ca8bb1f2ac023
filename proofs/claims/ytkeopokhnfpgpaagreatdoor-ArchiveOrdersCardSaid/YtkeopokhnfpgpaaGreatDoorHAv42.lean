/- A part of the proof. -/
import Derived.Test.YtkeopokhnfpgpaaGreatDoorHAv41
import Derived.Scope
set_option linter.all false
namespace Go.Av
theorem SD {p : Prop} (h : p := by
  first | omega | assumption | with_reducible rfl | exact rfl | exact (fun _ hf => False.elim hf) | (intro hside; (repeat' refine And.intro ?_ ?_) <;> first | exact hside | omega | (rw [hside]; rfl) | (simp only [pickB_true, pickB_false, Bool.false_or, Bool.false_and, Bool.true_and, decide_eq_true_eq, decide_eq_false_iff_not, Bool.or_eq_true, Bool.and_eq_true, Bool.or_eq_false_iff, Bool.and_eq_false_imp, Bool.not_eq_true, Bool.not_eq_false, Bool.not_eq_eq_eq_not, Bool.not_true, Bool.not_false, Int.not_lt, Int.not_le, beq_iff_eq, beq_eq_false_iff_ne, bne_iff_ne, bne_eq_false_iff_eq, ne_eq, Bool.decide_eq_true, Classical.not_not] at hside; omega) | (simp_all; done) | grind)) : p := h
theorem SC {p : Prop} (h : p := by
  first | exact rfl | exact ⟨rfl, rfl⟩ | ((repeat' first | refine And.intro ?_ ?_ | intro _) <;> first | with_reducible rfl | assumption | omega | rfl | (rename_i hq; rw [hq]; rfl) | (rename_i hq; simp only [pickB_true, pickB_false, Bool.false_or, Bool.false_and, Bool.true_and, decide_eq_true_eq, decide_eq_false_iff_not, Bool.or_eq_true, Bool.and_eq_true, Bool.or_eq_false_iff, Bool.and_eq_false_imp, Bool.not_eq_true, Bool.not_eq_false, Bool.not_eq_eq_eq_not, Bool.not_true, Bool.not_false, Int.not_lt, Int.not_le, beq_iff_eq, beq_eq_false_iff_ne, bne_iff_ne, bne_eq_false_iff_eq, ne_eq, Bool.decide_eq_true, Classical.not_not] at hq; omega) | (simp_all; done) | grind)) : p := h
theorem BL {p q : Prop} (h : p = q := by
  (try simp only [pickB_true, pickB_false, Bool.false_or, Bool.false_and, Bool.true_and, decide_eq_true_eq, decide_eq_false_iff_not, Bool.or_eq_true, Bool.and_eq_true, Bool.or_eq_false_iff, Bool.and_eq_false_imp, Bool.not_eq_true, Bool.not_eq_false, Bool.not_eq_eq_eq_not, Bool.not_true, Bool.not_false, Int.not_lt, Int.not_le, beq_iff_eq, beq_eq_false_iff_ne, bne_iff_ne, bne_eq_false_iff_eq, ne_eq, Bool.true_eq_false, Bool.false_eq_true, if_false_left, if_true_left, Bool.decide_eq_true, Classical.not_not])
  exact rfl) : p = q := h
theorem LC {p : Prop} (h : p := by
  (try simp (disch := omega) only [LeE, LeO, avA, zk, zo, seval, ↓List.forall_mem_cons, Op.operands, hE])
  all_goals first | done | (repeat' apply And.intro) <;> first | rfl | omega | assumption | (simp only [AV.dat.injEq, Dat.int.injEq, true_and]; omega) | (congr <;> omega)) : p := h
theorem ML {F : FC} {st : ASt} {e : List (Nat × AV)} {o : List (Nat × AObj)} (h1 : LeE st.env e := by exact LC) (h2 : LeO st.objs o := by exact LC) : Le F st (.of e o) := Le.of h1 h2
theorem RN {p q : Prop} (k : q) (e : p = q := by
  (try simp (maxSteps := 2000000) (disch := omega) only [wm, avA, zk, zo, seval, ↓List.forall_mem_cons, Op.operands, hA, tiA, hE])
  exact rfl) : p := e.mpr k
theorem RX {p q : Prop} (k : q) (e : p = q := by
  (try simp (maxSteps := 2000000) (disch := omega) only [wm, avA, zk, zo, seval, ↓List.forall_mem_cons, Op.operands, hA, tiA, hE, avX])
  exact rfl) : p := e.mpr k
theorem RK {p q : Prop} (k : q) (e : p = q := by
  (try simp (maxSteps := 2000000) (disch := omega) only [wm, avA, zk, zo, seval, ↓List.forall_mem_cons, Op.operands, hA, tiA, hE, zn2])
  exact rfl) : p := e.mpr k
theorem EN {p q : Prop} (k : q) (e : p = q := by
  simp only [kj, y6, vk, qq, qi, x5, vb, qh, q9, xn, qy, wy, xk, xq, xm, wx, xp, xr, w3, xx, avA, zk, zo, seval, ↓List.forall_mem_cons, Op.operands, hP, hG, tiA, hE]
  exact rfl) : p := e.mpr k
theorem E0 {p : Prop} (h : p := by
  simp only [kj, y6, vk, qq, qi, x5, vb, qh, q9, xn, qy, wy, xk, xq, xm, wx, xp, xr, w3, xx, avA, zk, zo, seval, ↓List.forall_mem_cons, Op.operands, hP, hG, tiA, hE]
  all_goals try trivial) : p := h
structure Bx (q : Prop) : Prop where
 out : q
theorem CU {p q : Prop} {P : Program} {G : List (Nat × Dat)} {g : FuncId} {ds rs : List Dat} (h : zl P G g ds rs) (k : q) (e : zl P G g ds rs → Bx q → p := by
  intro hc hk
  (repeat' refine And.intro ?_ ?_) <;> try exact SD
  refine CallC.use (gvF hP hG hc) rfl ?_
  exact RN hk.out) : p := e h ⟨k⟩
theorem CG {p q : Prop} {P : Program} {G : List (Nat × Dat)} {g : FuncId} {ds rs : List Dat} (h : zl P G g ds rs) (k : q) (e : zl P G g ds rs → Bx q → p := by
  intro hc hk
  (repeat' refine And.intro ?_ ?_) <;> try exact SD
  refine CallGC.use rfl (fun hg => ⟨by first | trivial | (simp only [gdAll, AV.gd, avA, seval]; (repeat' apply And.intro) <;> first | trivial | rfl | exact hg) | simp_all [gdAll], gvF hP hG hc⟩) ?_
  exact RN hk.out) : p := e h ⟨k⟩
def Tag (_ : Nat → Nat) (_ : List Nat) : Prop := True
theorem CallC.useT {F : FC} {ops : Array Oper} {rest : List Oper} {st : ASt} {K : ASt → Prop} {g : FuncId} {xs ys rs : List AV} {dst : Option Nat} {os os' : List (Nat × AObj)} {m : Nat → Nat} {news : List Nat} (_ : Tag m news) (hm : zcp F dst) (h : GivesX F.P F.G g ys os rs os') (ha : renL m ys = xs) (hl : LentX F st.objs m news os os')
  (hc : zh F ops rest ((st.backX m news os os').put dst (z0s (renL m rs))) K) : CallC F ops rest st K (some (g, xs)) dst := CallC.useX m news hm h ha hl hc
theorem CX {p q : Prop} {P : Program} {G : List (Nat × Dat)} {g : FuncId} {ys rs : List AV} {os os' : List (Nat × AObj)} (m : Nat → Nat) (news : List Nat) (h : GivesX P G g ys os rs os') (k : q) (e : Tag m news → GivesX P G g ys os rs os' → Bx q → p := by
  intro ht hc hk
  (repeat' refine And.intro ?_ ?_) <;> try exact SD
  refine CallC.useT ht (by simp [zcp, hR.2.1]) (z5k hP hG hc) rfl (vw hN (by first | trivial | ((try simp only [z6q, AObj.ren, AV.ren, renL, z5x, List.map_cons, List.map_nil, z4d, z7e]) <;> ((repeat' apply And.intro) <;> first | trivial | rfl))) (by rfl)) ?_
  exact RX hk.out) : p := e trivial h ⟨k⟩
theorem GI {P : Program} {G : List (Nat × Dat)} {f : FuncId} {fn : Func} {c : Code} {args rs : List Dat} {n : Nat} (rows lits apps : List Nat) (hf : P.funcs[f]? = some fn) (hn : fn.ntmps = n)
  (h : ∀ F : FC, F.P = P → F.G = G → F.N = n → (F.rows = rows ∧ F.lits = lits ∧ F.apps = apps ∧ TopF F) → (F.N = n ∧ F.P = P ∧ F.G = G ∧ F.rows = rows ∧ F.lits = lits ∧ F.apps = apps) → AWp F c (kj F fn.results.toList rs) (.init args))
  (hb : fn.body = some c := by rfl) (hname : (fn.name == "runtime.NumGoroutine") = false := by rfl) (hl : args.length ≤ n := by simp) : zl P G f args rs :=
 z54 rows lits apps hf hb hname (hn ▸ hl) fun F h1 h2 h3 h4 => h F h1 h2 (h3.trans hn) h4 ⟨h3.trans hn, h1, h2, h4.1, h4.2.1, h4.2.2.1⟩
theorem GX {P : Program} {G : List (Nat × Dat)} {f : FuncId} {fn : Func} {c : Code} {xs rs : List AV} {os os' : List (Nat × AObj)} {n : Nat} (rows lits apps : List Nat) (hf : P.funcs[f]? = some fn) (hn : fn.ntmps = n)
  (h : ∀ F : FC, F.P = P → F.G = G → F.N = n → (F.rows = rows ∧ F.lits = lits ∧ F.apps = apps ∧ PinM F (os.map (·.1))) → (F.N = n ∧ F.P = P ∧ F.G = G ∧ F.rows = rows ∧ F.lits = lits ∧ F.apps = apps) → AWp F c (vk F fn.results.toList rs os') (.of (initL 0 xs) os))
  (hb : fn.body = some c := by rfl) (hname : (fn.name == "runtime.NumGoroutine") = false := by rfl) (hl : xs.length ≤ n := by simp)
  (hid : (os.all (fun p => decide (fn.ntmps ≤ p.1)) && os'.all (fun p => !decide (fn.ntmps ≤ p.1) || (os.map (·.1)).contains p.1)) = true := by kernel_rfl) (hrs : wl (kl os') rs = true := by simp [za7, z7i, AV.only, kl]) (hos : z4h (kl os') os' = true := by simp only [z4h, za7, z7i, z36, Xj, zlg, AV.only, Bool.and_true] <;> simp [kl]) : GivesX P G f xs os rs os' :=
 z8r rows lits apps hf hb hname (hn ▸ hl) hid hrs hos fun F h1 h2 h3 h4 => h F h1 h2 (h3.trans hn) h4 ⟨h3.trans hn, h1, h2, h4.1, h4.2.1, h4.2.2.1⟩
section
variable {F : FC} {Q : Exit → ASt → Prop} {st : ASt}
theorem WS (ns ids : List Nat) {e : List (Nat × AV)} {o : List (Nat × AObj)} {id : Nat} {l : List Oper} {y : Code} (k : AWp F y Q (.of e o))
  (h : zh F l.toArray l st (Kept ns ids e o) := by
    simp (maxSteps := 2000000) (disch := omega) only [wm, avA, zk, zo, seval, ↓List.forall_mem_cons, Op.operands, hA, tiA, hE]
    exact SC) :
  AWp F (.seq (.region id l.toArray false) y) Q st := zm ns ids h k
theorem WQ (ns ids : List Nat) {e : List (Nat × AV)} {o : List (Nat × AObj)} {id : Nat} {l : List Oper} (k : Q .normal (.of e o))
  (h : zh F l.toArray l st (Kept ns ids e o) := by
    simp (maxSteps := 2000000) (disch := omega) only [wm, avA, zk, zo, seval, ↓List.forall_mem_cons, Op.operands, hA, tiA, hE]
    exact SC) :
  AWp F (.region id l.toArray false) Q st := yp ns ids h k
theorem WSc (ns ids : List Nat) {e : List (Nat × AV)} {o : List (Nat × AObj)} {id : Nat} {l : List Oper} {y : Code} (k : AWp F y Q (.of e o))
  (h : zh F l.toArray l st (Kept ns ids e o) := by
    simp (maxSteps := 2000000) (disch := omega) only [wm, avA, zk, zo, seval, ↓List.forall_mem_cons, Op.operands, hA, tiA, hE]
    (repeat' refine And.intro ?_ ?_) <;> try exact SD
    refine CallC.use hc rfl ?_
    try simp (maxSteps := 2000000) (disch := omega) only [wm, avA, zk, zo, seval, ↓List.forall_mem_cons, Op.operands, hA, tiA, hE]
    exact SC) :
  AWp F (.seq (.region id l.toArray false) y) Q st := zm ns ids h k
theorem WQc (ns ids : List Nat) {e : List (Nat × AV)} {o : List (Nat × AObj)} {id : Nat} {l : List Oper} (k : Q .normal (.of e o))
  (h : zh F l.toArray l st (Kept ns ids e o) := by
    simp (maxSteps := 2000000) (disch := omega) only [wm, avA, zk, zo, seval, ↓List.forall_mem_cons, Op.operands, hA, tiA, hE]
    (repeat' refine And.intro ?_ ?_) <;> try exact SD
    refine CallC.use hc rfl ?_
    try simp (maxSteps := 2000000) (disch := omega) only [wm, avA, zk, zo, seval, ↓List.forall_mem_cons, Op.operands, hA, tiA, hE]
    exact SC) :
  AWp F (.region id l.toArray false) Q st := yp ns ids h k
theorem WD (ns ids perm ks : List Nat) {e : List (Nat × AV)} {o : List (Nat × AObj)} {rows lits apps : List Nat} {l l' : List Oper} {Pm : Prop} {id : Nat} {y : Code} (k : AWp F y Q (.of e o))
  (hm : F.P.follows .mixedOrders = true := by rw [hP]; kernel_rfl) (hR : F.rows = rows ∧ F.lits = lits ∧ F.apps = apps ∧ Pm := by exact hR)
  (hp : (z0m rows lits apps l.toArray perm && ksB rows lits apps l ks) = true := by kernel_rfl) (hl : PickL l perm l' := by ((repeat (apply PickL.cons; exact rfl)); exact PickL.nil _))
  (h : zh F l.toArray l' (killAll ks st) (Kept ns ids e o) := by
    simp (maxSteps := 2000000) (disch := omega) only [wm, avA, zk, zo, seval, ↓List.forall_mem_cons, Op.operands, hA, tiA, hE]
    exact SC) :
  AWp F (.seq (.region id l.toArray true) y) Q st := w6 ns ids perm ks hm hR hp hl h k
theorem WDQ (ns ids perm ks : List Nat) {e : List (Nat × AV)} {o : List (Nat × AObj)} {rows lits apps : List Nat} {l l' : List Oper} {Pm : Prop} {id : Nat} (k : Q .normal (.of e o))
  (hm : F.P.follows .mixedOrders = true := by rw [hP]; kernel_rfl) (hR : F.rows = rows ∧ F.lits = lits ∧ F.apps = apps ∧ Pm := by exact hR)
  (hp : (z0m rows lits apps l.toArray perm && ksB rows lits apps l ks) = true := by kernel_rfl) (hl : PickL l perm l' := by ((repeat (apply PickL.cons; exact rfl)); exact PickL.nil _))
  (h : zh F l.toArray l' (killAll ks st) (Kept ns ids e o) := by
    simp (maxSteps := 2000000) (disch := omega) only [wm, avA, zk, zo, seval, ↓List.forall_mem_cons, Op.operands, hA, tiA, hE]
    exact SC) :
  AWp F (.region id l.toArray true) Q st := z05 ns ids perm ks hm hR hp hl h k
theorem WI {c : Operand} {x y : Code} {b : Bool} {p q : Prop} (ht : p → AWp F x Q st) (hf : q → AWp F y Q st) (hc : evA st.env c = .dat (.bool b) := by exact rfl)
  (hp : (b = true) = p := by
    exact BL)
  (hq : (b = false) = q := by
    exact BL) : AWp F (.cond c x y) Q st := zxr b hc (fun h => ht (hp ▸ h)) (fun h => hf (hq ▸ h))
def zut (e : List (Nat × AV)) : List Nat → List (Nat × AV)
 | [] => []
 | n :: ns => (n, y0 e n) :: zut e ns
def zmb (o : List (Nat × AObj)) : List Nat → List (Nat × AObj)
 | [] => []
 | n :: ns => match qm o n with
  | some v => (n, v) :: zmb o ns
  | none => zmb o ns
theorem LeE.append {f : Nat → AV} : ∀ {l l' : List (Nat × AV)}, LeE f l → LeE f l' → LeE f (l ++ l')
 | [], _, _, h => h
 | (_, _) :: _, _, h1, h2 => ⟨h1.1, LeE.append h1.2 h2⟩
theorem LeO.append {f : Nat → Option AObj} : ∀ {l l' : List (Nat × AObj)}, LeO f l → LeO f l' → LeO f (l ++ l')
 | [], _, _, h => h
 | (_, _) :: _, _, h1, h2 => ⟨h1.1, LeO.append h1.2 h2⟩
theorem LeE.sel (e : List (Nat × AV)) : ∀ ns, LeE (y0 e) (zut e ns)
 | [] => trivial
 | _ :: ns => ⟨rfl, LeE.sel e ns⟩
theorem LeO.sel (o : List (Nat × AObj)) : ∀ ns : List Nat, LeO (qm o) (zmb o ns)
 | [] => trivial
 | n :: ns => by
  unfold zmb
  cases h : qm o n with
  | none => exact LeO.sel o ns
  | some v => exact ⟨h, LeO.sel o ns⟩
theorem LA {p q : Prop} (k : q) (e : p = q := by
  dsimp only [List.cons_append, List.nil_append]
  all_goals exact rfl) : p := e.mpr k
theorem WL {ι : Type} {c : Code} {e0 e1 : List (Nat × AV)} {o0 o1 : List (Nat × AObj)} (ns ids : List Nat) (E : ι → List (Nat × AV)) (O : ι → List (Nat × AObj)) (μ : ι → Nat) (i0 : ι)
  (hr : ∀ i, AWp F c (z8z F (fun i => .of (E i ++ e1) (O i ++ o1)) μ i Q) (.of (E i ++ e1) (O i ++ o1)))
  (he : zut e0 ns = e1 := by (simp only [zut, avA, seval]; exact rfl)) (ho : zmb o0 ids = o1 := by (simp only [zmb, avA, seval]; exact rfl))
  (h1 : LeE (y0 e0) (E i0) := by
    exact LC)
  (h2 : LeO (qm o0) (O i0) := by
    exact LC) :
  AWp F (.loop c) Q (.of e0 o0) :=
 zsh (fun i => .of (E i ++ e1) (O i ++ o1)) μ i0 (Le.of (h1.append (he ▸ LeE.sel e0 ns)) (h2.append (ho ▸ LeO.sel o0 ids))) hr
theorem WN {ι : Type} {I : ι → ASt} {μ : ι → Nat} {i : ι} (i' : ι)
  (h : Le F st (I i') := by
    refine Le.of ?_ ?_
    ·exact LC
    ·exact LC)
  (hm : μ i' < μ i := by (dsimp only; omega)) : z8z F I μ i Q .normal st := ⟨i', h, hm⟩
theorem zvz {l l' : List Oper} {id : Nat} {d : Bool} {y : Code} (h : l = l') (k : AWp F (.seq (.region id l'.toArray d) y) Q st) : AWp F (.seq (.region id l.toArray d) y) Q st := h ▸ k
def zn3 (Q : Exit → ASt → Prop) : Exit → ASt → Prop
 | .goto _, _ => False
 | e, st => Q e st
theorem jf {P : Program} {b : Frame} {a : Act} {k : List Item} {cs : List Frame} {w : World} {c : Code} : step P (lone (b.atR a (.code (.scope c) :: k)) cs w) = .next (lone (b.atR a (.code c :: .inScope c :: k)) cs w) :=
 step_lone_go (by simp [stepG, stepG.exec, Frame.atR])
theorem z8y {P : Program} {b : Frame} {a : Act} {k : List Item} {cs : List Frame} {w : World} {c : Code} : step P (lone (b.atR a (.inScope c :: k)) cs w) = .next (lone (b.atR a k) cs w) :=
 step_lone_go (by simp [stepG, stepG.exec, Frame.atR])
theorem z1q {F : Fence} {n : Nat} {P : Program} {Q : Exit → Act → World → Prop} {a : Act} {w : World} {c : Code} (h : c.wpIn F n P (Exit.noGoto Q) a w) : (Code.scope c).wpIn F n P Q a w := by
 intro b k cs hro hb hr
 have h0 : (lone (b.atR a (.code (.scope c) :: k)) cs w).fenced P F := fenced_calm hb hr rfl
 obtain ⟨e, a₁, w₁, hq, harr⟩ := h b (.inScope c :: k) cs hro hb hr
 cases e with
 | normal => exact ⟨.normal, a₁, w₁, hq, .head h0 jf (StepsIn.trans harr (.one (fenced_calm hb hr rfl) z8y))⟩
 | exit id =>
  have hx : exitTo id (.inScope c :: k) = exitTo id k := by simp [exitTo]
  exact ⟨_, a₁, w₁, hq, fun k' hk => .head h0 jf (harr.1 k' (by rw [hx]; exact hk)),
   fun hr' hk => let ⟨k₁, h1, h2⟩ := harr.2 hr' (by rw [hx]; exact hk); ⟨k₁, h1, .head h0 jf h2⟩⟩
 | goto l => exact hq.elim
 | ret => exact ⟨_, a₁, w₁, hq, .of_steps (.one h0 jf) harr⟩
 | panic ch => exact ⟨_, a₁, w₁, hq, .of_steps (.one h0 jf) harr⟩
 | outgrown => exact ⟨_, a₁, w₁, hq, .of_steps (.one h0 jf) harr⟩
theorem zne {c : Code} (h : AWp F c (zn3 Q) st) : AWp F (.scope c) Q st := fun a w hs =>
 z1q (wpIn_mono (h a w hs) fun e a' w' h => by
  obtain ⟨st', hq, hs'⟩ := h
  cases e <;> first | exact hq.elim | exact ⟨st', hq, hs'⟩)
theorem znb {l : Nat} (h : Q .normal st) : AWp F (.label l) Q st := fun a w hs => wpIn_label ⟨st, h, hs⟩
theorem z5c (h : Q .ret st) : zn3 Q .ret st := h
end
end Go.Av

