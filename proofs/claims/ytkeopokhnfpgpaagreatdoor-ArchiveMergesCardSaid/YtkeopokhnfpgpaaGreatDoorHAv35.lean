/- A part of the proof. -/
import Derived.Test.YtkeopokhnfpgpaaGreatDoorHAv34
set_option linter.all false
namespace Go.Av
theorem z2y (env : Nat → AV) (n : Nat) : evA env (.tmp n) = env n := rfl
theorem zl0 (env : Nat → AV) (v : Value) : evA env (.const v) = avOf v := rfl
theorem zh3 (env : Nat → AV) (g : Nat) : evA env (.global g) = .gl g 0 := rfl
theorem zok (env : Nat → AV) (f : Nat) : evA env (.func f) = .fn f [] := rfl
def evAL (env : Nat → AV) : List Operand → List AV
 | [] => []
 | x :: l => evA env x :: evAL env l
theorem zj5 (env : Nat → AV) : ∀ l, evAL env l = l.map (evA env)
 | [] => rfl
 | x :: l => by simp [evAL, zj5 env l]
def evSL (env : Nat → AV) : List Operand → List AV
 | [] => []
 | x :: l => (evA env x).strip :: evSL env l
theorem zj7 (env : Nat → AV) : ∀ l, evSL env l = l.map fun x => (evA env x).strip
 | [] => rfl
 | x :: l => by simp [evSL, zj7 env l]
def evPL (env : Nat → AV) : List (Nat × Operand) → List (Nat × AV)
 | [] => []
 | p :: l => (p.1, evA env p.2) :: evPL env l
theorem zbx (env : Nat → AV) : ∀ l, evPL env l = l.map fun p => (p.1, evA env p.2)
 | [] => rfl
 | p :: l => by simp [evPL, zbx env l]
def evPS (env : Nat → AV) : List (Nat × Operand) → List (Nat × AV)
 | [] => []
 | p :: l => (p.1, (evA env p.2).strip) :: evPS env l
theorem zj6 (env : Nat → AV) : ∀ l, evPS env l = l.map fun p => (p.1, (evA env p.2).strip)
 | [] => rfl
 | p :: l => by simp [evPS, zj6 env l]
def calleeP (f : AV) (xs : List AV) : Option (FuncId × List AV) :=
 match f with
 | .fn g caps => some (g, xs ++ caps)
 | _ => none
theorem zki (env : Nat → AV) (f : Operand) (args : List Operand) : callee env f args = calleeP (evA env f) (evAL env args) := by
 unfold callee calleeP
 rw [zj5]
 cases evA env f <;> rfl
def CallGC (F : FC) (ops : Array Oper) (rest : List Oper) (st : ASt) (K : ASt → Prop) (c : Option (FuncId × List AV)) (g : Bool) (gd : Prop) (dst : Option Nat) : Prop :=
 match c with
 | some (h, xs) => ∃ rs ds, qp st.objs xs rs = some ds ∧ (g = true → gd ∧ zl F.P F.G h ds rs) ∧ zg F ops rest (st.put dst (.cond g (retA rs))) K
 | none => False
@[congr] theorem callGC_congr {F : FC} {ops : Array Oper} {rest : List Oper} {st st' : ASt} {K : ASt → Prop} {c c' : Option (FuncId × List AV)} {g : Bool} {gd : Prop} {dst : Option Nat} (h : st = st') (h1 : c = c') : CallGC F ops rest st K c g gd dst = CallGC F ops rest st' K c' g gd dst := by rw [h, h1]
theorem CallGC.use {F : FC} {ops : Array Oper} {rest : List Oper} {st : ASt} {K : ASt → Prop} {h : FuncId} {xs : List AV} {g : Bool} {gd : Prop} {dst : Option Nat} {ds rs : List Dat} (ha : qp st.objs xs rs = some ds) (hg : g = true → gd ∧ zl F.P F.G h ds rs) (hc : zg F ops rest (st.put dst (.cond g (retA rs))) K) :
  CallGC F ops rest st K (some (h, xs)) g gd dst := ⟨rs, ds, ha, hg, hc⟩
section
variable (F : FC) (ops : Array Oper) (rest : List Oper) (st : ASt) (K : ASt → Prop) (ty : TypeId) (pos : String) (aft : Array Edge) (j : Nat) (want : Bool)
theorem zm6 (dst : Option Nat) (f : Operand) (args : List Operand) (ts : Array TypeId) : zg F ops (⟨dst, .call ⟨.value f, args.toArray, ts⟩, ty, pos, aft, some (j, want)⟩ :: rest) st K ↔
  GC (x5 ops st.env j want) fun g => dstOK F dst ∧ CallGC F ops rest st K (calleeP (evA st.env f).strip (evSL st.env args)) g (gdAll st.env (f :: args)) dst := by
 rw [zr1]
 unfold GC
 cases x5 ops st.env j want with
 | none => exact Iff.rfl
 | some g =>
  simp only [zj7]
  unfold CallG CallGC calleeP
  cases (evA st.env f).strip <;> exact Iff.rfl
theorem zm2 (d : Nat) (t : TypeId) (ps : List (Nat × Operand)) : zg F ops (⟨some d, .build t ps.toArray, ty, pos, aft, none⟩ :: rest) st K ↔ d < F.N ∧ (buildA F.P t (evPL st.env ps)).1 ∧ zg F ops rest (st.put (some d) (buildA F.P t (evPL st.env ps)).2) K := by
 rw [zqw, zbx]
theorem zi7 (d : Nat) (t : TypeId) (ps : List (Nat × Operand)) : zg F ops (⟨some d, .build t ps.toArray, ty, pos, aft, some (j, want)⟩ :: rest) st K ↔ GC (x5 ops st.env j want) fun g => d < F.N ∧ (g = true → gdAll st.env (Op.build t ps.toArray).operands.toList ∧ (buildA F.P t (evPS st.env ps)).1) ∧ zg F ops rest (st.put (some d) (.cond g (buildA F.P t (evPS st.env ps)).2)) K := by
 rw [zm5, zj6]
theorem z83 (d : Nat) (t : TypeId) (len : Nat) (ps : List (Nat × Operand)) : zg F ops (⟨some d, .buildSlice t len ps.toArray, ty, pos, aft, none⟩ :: rest) st K ↔ buildSliceC F.P F.N F.rows F.lits d (ti F.P t) len (evPL st.env ps) st (fun st' => zg F ops rest st' K) := by
 rw [z94, zbx]
end
def wo := And.intro @zm1 (And.intro @z82 (And.intro @zui (And.intro @zqv (And.intro @zuk (And.intro @zi5 (And.intro @zcj (And.intro @zqx (And.intro @zck (And.intro @zqy (And.intro @zi6 (And.intro @zm2 (And.intro @zqz (And.intro @zuh (And.intro @zfj (And.intro @zx3 (And.intro @zx5 (And.intro @zx4 (And.intro @zuj (And.intro @zqu (And.intro @zx2 (And.intro @zr0 (And.intro @z83 (And.intro @zcl (And.intro @zm0 (And.intro @zug (And.intro @zx6 (And.intro @zm4 (And.intro @zr5 (And.intro @zfl (And.intro @z95 (And.intro @zm7 (And.intro @z96 (And.intro @zm8 (And.intro @zfm (And.intro @zr2 (And.intro @zr3 (And.intro @zun (And.intro @zum (And.intro @zul (And.intro @zm9 (And.intro @zi7 (And.intro @zr4 (@zm6)))))))))))))))))))))))))))))))))))))))))))
end Go.Av

