/- A part of the proof. -/
import Derived.Test.YtkeopokhnfpgpaaGreatDoorHAv34
set_option linter.all false
namespace Go.Av
theorem z2s (env : Nat → AV) (n : Nat) : evA env (.tmp n) = env n := rfl
theorem zkp (env : Nat → AV) (v : Value) : evA env (.const v) = avOf v := rfl
theorem zgl (env : Nat → AV) (g : Nat) : evA env (.global g) = .gl g 0 := rfl
theorem zoh (env : Nat → AV) (f : Nat) : evA env (.func f) = .fn f [] := rfl
def evAL (env : Nat → AV) : List Operand → List AV
 | [] => []
 | x :: l => evA env x :: evAL env l
theorem ziq (env : Nat → AV) : ∀ l, evAL env l = l.map (evA env)
 | [] => rfl
 | x :: l => by simp [evAL, ziq env l]
def evSL (env : Nat → AV) : List Operand → List AV
 | [] => []
 | x :: l => (evA env x).strip :: evSL env l
theorem zis (env : Nat → AV) : ∀ l, evSL env l = l.map fun x => (evA env x).strip
 | [] => rfl
 | x :: l => by simp [evSL, zis env l]
def evPL (env : Nat → AV) : List (Nat × Operand) → List (Nat × AV)
 | [] => []
 | p :: l => (p.1, evA env p.2) :: evPL env l
theorem zbl (env : Nat → AV) : ∀ l, evPL env l = l.map fun p => (p.1, evA env p.2)
 | [] => rfl
 | p :: l => by simp [evPL, zbl env l]
def evPS (env : Nat → AV) : List (Nat × Operand) → List (Nat × AV)
 | [] => []
 | p :: l => (p.1, (evA env p.2).strip) :: evPS env l
theorem zir (env : Nat → AV) : ∀ l, evPS env l = l.map fun p => (p.1, (evA env p.2).strip)
 | [] => rfl
 | p :: l => by simp [evPS, zir env l]
def calleeP (f : AV) (xs : List AV) : Option (FuncId × List AV) :=
 match f with
 | .fn g caps => some (g, xs ++ caps)
 | _ => none
theorem zk6 (env : Nat → AV) (f : Operand) (args : List Operand) : callee env f args = calleeP (evA env f) (evAL env args) := by
 unfold callee calleeP
 rw [ziq]
 cases evA env f <;> rfl
def CallGC (F : FC) (ops : Array Oper) (rest : List Oper) (st : ASt) (K : ASt → Prop) (c : Option (FuncId × List AV)) (g : Bool) (gd : Prop) (dst : Option Nat) : Prop :=
 match c with
 | some (h, xs) => ∃ rs ds, qu st.objs xs rs = some ds ∧ (g = true → gd ∧ zl F.P F.G h ds rs) ∧ zh F ops rest (st.put dst (.cond g (retA rs))) K
 | none => False
@[congr] theorem callGC_congr {F : FC} {ops : Array Oper} {rest : List Oper} {st st' : ASt} {K : ASt → Prop} {c c' : Option (FuncId × List AV)} {g : Bool} {gd : Prop} {dst : Option Nat} (h : st = st') (h1 : c = c') : CallGC F ops rest st K c g gd dst = CallGC F ops rest st' K c' g gd dst := by rw [h, h1]
theorem CallGC.use {F : FC} {ops : Array Oper} {rest : List Oper} {st : ASt} {K : ASt → Prop} {h : FuncId} {xs : List AV} {g : Bool} {gd : Prop} {dst : Option Nat} {ds rs : List Dat} (ha : qu st.objs xs rs = some ds) (hg : g = true → gd ∧ zl F.P F.G h ds rs) (hc : zh F ops rest (st.put dst (.cond g (retA rs))) K) :
  CallGC F ops rest st K (some (h, xs)) g gd dst := ⟨rs, ds, ha, hg, hc⟩
section
variable (F : FC) (ops : Array Oper) (rest : List Oper) (st : ASt) (K : ASt → Prop) (ty : TypeId) (pos : String) (aft : Array Edge) (j : Nat) (want : Bool)
theorem zly (dst : Option Nat) (f : Operand) (args : List Operand) (ts : Array TypeId) : zh F ops (⟨dst, .call ⟨.value f, args.toArray, ts⟩, ty, pos, aft, some (j, want)⟩ :: rest) st K ↔
  GC (x9 ops st.env j want) fun g => dstOK F dst ∧ CallGC F ops rest st K (calleeP (evA st.env f).strip (evSL st.env args)) g (gdAll st.env (f :: args)) dst := by
 rw [zr5]
 unfold GC
 cases x9 ops st.env j want with
 | none => exact Iff.rfl
 | some g =>
  simp only [zis]
  unfold CallG CallGC calleeP
  cases (evA st.env f).strip <;> exact Iff.rfl
theorem zlu (d : Nat) (t : TypeId) (ps : List (Nat × Operand)) : zh F ops (⟨some d, .build t ps.toArray, ty, pos, aft, none⟩ :: rest) st K ↔ d < F.N ∧ (buildA F.P t (evPL st.env ps)).1 ∧ zh F ops rest (st.put (some d) (buildA F.P t (evPL st.env ps)).2) K := by
 rw [zr0, zbl]
theorem zhr (d : Nat) (t : TypeId) (ps : List (Nat × Operand)) : zh F ops (⟨some d, .build t ps.toArray, ty, pos, aft, some (j, want)⟩ :: rest) st K ↔ GC (x9 ops st.env j want) fun g => d < F.N ∧ (g = true → gdAll st.env (Op.build t ps.toArray).operands.toList ∧ (buildA F.P t (evPS st.env ps)).1) ∧ zh F ops rest (st.put (some d) (.cond g (buildA F.P t (evPS st.env ps)).2)) K := by
 rw [zlx, zir]
theorem z7u (d : Nat) (t : TypeId) (len : Nat) (ps : List (Nat × Operand)) : zh F ops (⟨some d, .buildSlice t len ps.toArray, ty, pos, aft, none⟩ :: rest) st K ↔ buildSliceC F.P F.N F.rows F.lits d (ti F.P t) len (evPL st.env ps) st (fun st' => zh F ops rest st' K) := by
 rw [z8u, zbl]
end
def wm := And.intro @zlt (And.intro @z7t (And.intro @zuj (And.intro @zqz (And.intro @zul (And.intro @zhp (And.intro @zc5 (And.intro @zr1 (And.intro @zc6 (And.intro @zr2 (And.intro @zhq (And.intro @zlu (And.intro @zr3 (And.intro @zui (And.intro @zf2 (And.intro @zx3 (And.intro @zx5 (And.intro @zx4 (And.intro @zuk (And.intro @zqy (And.intro @zx2 (And.intro @zr4 (And.intro @z7u (And.intro @zc7 (And.intro @zls (And.intro @zuh (And.intro @zx6 (And.intro @zlw (And.intro @zr9 (And.intro @zf4 (And.intro @z8v (And.intro @zlz (And.intro @z8w (And.intro @zm0 (And.intro @zf5 (And.intro @zr6 (And.intro @zr7 (And.intro @zuo (And.intro @zun (And.intro @zum (And.intro @zm1 (And.intro @zhr (And.intro @zr8 (@zly)))))))))))))))))))))))))))))))))))))))))))
end Go.Av

