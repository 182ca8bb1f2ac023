/- A part of the proof. -/
import Derived.Test.YtabjaaonfaejmaaGreatDoorHAv34
set_option linter.all false
namespace Go.Av
theorem xi (env : Nat → AV) (n : Nat) : evA env (.tmp n) = env n := rfl
theorem zn8 (env : Nat → AV) (v : Value) : evA env (.const v) = avOf v := rfl
theorem zj4 (env : Nat → AV) (g : Nat) : evA env (.global g) = .gl g 0 := rfl
theorem zqu (env : Nat → AV) (f : Nat) : evA env (.func f) = .fn f [] := rfl
def evAL (env : Nat → AV) : List Operand → List AV
 | [] => []
 | x :: l => evA env x :: evAL env l
theorem zl3 (env : Nat → AV) : ∀ l, evAL env l = l.map (evA env)
 | [] => rfl
 | x :: l => by simp [evAL, zl3 env l]
def evSL (env : Nat → AV) : List Operand → List AV
 | [] => []
 | x :: l => (evA env x).strip :: evSL env l
theorem zl6 (env : Nat → AV) : ∀ l, evSL env l = l.map fun x => (evA env x).strip
 | [] => rfl
 | x :: l => by simp [evSL, zl6 env l]
def evPL (env : Nat → AV) : List (Nat × Operand) → List (Nat × AV)
 | [] => []
 | p :: l => (p.1, evA env p.2) :: evPL env l
theorem zef (env : Nat → AV) : ∀ l, evPL env l = l.map fun p => (p.1, evA env p.2)
 | [] => rfl
 | p :: l => by simp [evPL, zef env l]
def evPS (env : Nat → AV) : List (Nat × Operand) → List (Nat × AV)
 | [] => []
 | p :: l => (p.1, (evA env p.2).strip) :: evPS env l
theorem zl5 (env : Nat → AV) : ∀ l, evPS env l = l.map fun p => (p.1, (evA env p.2).strip)
 | [] => rfl
 | p :: l => by simp [evPS, zl5 env l]
def calleeP (f : AV) (xs : List AV) : Option (FuncId × List AV) :=
 match f with
 | .fn g caps => some (g, xs ++ caps)
 | _ => none
theorem zmn (env : Nat → AV) (f : Operand) (args : List Operand) : callee env f args = calleeP (evA env f) (evAL env args) := by
 unfold callee calleeP
 rw [zl3]
 cases evA env f <;> rfl
def CallGC (F : FC) (ops : Array Oper) (rest : List Oper) (st : ASt) (K : ASt → Prop) (c : Option (FuncId × List AV)) (g : Bool) (gd : Prop) (dst : Option Nat) : Prop :=
 match c with
 | some (h, xs) => ∃ rs ds, xe st.objs xs rs = some ds ∧ (g = true → gd ∧ zo F.P F.G h ds rs) ∧ zi F ops rest (st.put dst (.cond g (retA rs))) K
 | none => False
@[congr] theorem callGC_congr {F : FC} {ops : Array Oper} {rest : List Oper} {st st' : ASt} {K : ASt → Prop} {c c' : Option (FuncId × List AV)} {g : Bool} {gd : Prop} {dst : Option Nat} (h : st = st') (h1 : c = c') : CallGC F ops rest st K c g gd dst = CallGC F ops rest st' K c' g gd dst := by rw [h, h1]
theorem CallGC.use {F : FC} {ops : Array Oper} {rest : List Oper} {st : ASt} {K : ASt → Prop} {h : FuncId} {xs : List AV} {g : Bool} {gd : Prop} {dst : Option Nat} {ds rs : List Dat} (ha : xe st.objs xs rs = some ds) (hg : g = true → gd ∧ zo F.P F.G h ds rs) (hc : zi F ops rest (st.put dst (.cond g (retA rs))) K) :
  CallGC F ops rest st K (some (h, xs)) g gd dst := ⟨rs, ds, ha, hg, hc⟩
section
variable (F : FC) (ops : Array Oper) (rest : List Oper) (st : ASt) (K : ASt → Prop) (ty : TypeId) (pos : String) (aft : Array Edge) (j : Nat) (want : Bool)
theorem zol (dst : Option Nat) (f : Operand) (args : List Operand) (ts : Array TypeId) : zi F ops (⟨dst, .call ⟨.value f, args.toArray, ts⟩, ty, pos, aft, some (j, want)⟩ :: rest) st K ↔
  GC (wb ops st.env j want) fun g => dstOK F dst ∧ CallGC F ops rest st K (calleeP (evA st.env f).strip (evSL st.env args)) g (gdAll st.env (f :: args)) dst := by
 rw [zsp]
 unfold GC
 cases wb ops st.env j want with
 | none => exact Iff.rfl
 | some g =>
  simp only [zl6]
  unfold CallG CallGC calleeP
  cases (evA st.env f).strip <;> exact Iff.rfl
theorem zoh (d : Nat) (t : TypeId) (ps : List (Nat × Operand)) : zi F ops (⟨some d, .build t ps.toArray, ty, pos, aft, none⟩ :: rest) st K ↔ d < F.N ∧ (buildA F.P t (evPL st.env ps)).1 ∧ zi F ops rest (st.put (some d) (buildA F.P t (evPL st.env ps)).2) K := by
 rw [zsk, zef]
theorem zk5 (d : Nat) (t : TypeId) (ps : List (Nat × Operand)) : zi F ops (⟨some d, .build t ps.toArray, ty, pos, aft, some (j, want)⟩ :: rest) st K ↔ GC (wb ops st.env j want) fun g => d < F.N ∧ (g = true → gdAll st.env (Op.build t ps.toArray).operands.toList ∧ (buildA F.P t (evPS st.env ps)).1) ∧ zi F ops rest (st.put (some d) (.cond g (buildA F.P t (evPS st.env ps)).2)) K := by
 rw [zok, zl5]
theorem zas (d : Nat) (t : TypeId) (len : Nat) (ps : List (Nat × Operand)) : zi F ops (⟨some d, .buildSlice t len ps.toArray, ty, pos, aft, none⟩ :: rest) st K ↔ buildSliceC F.P F.N F.rows F.lits d (ti F.P t) len (evPL st.env ps) st (fun st' => zi F ops rest st' K) := by
 rw [zbx, zef]
end
def qq := And.intro @zog (And.intro @zar (And.intro @zvo (And.intro @zsj (And.intro @zvq (And.intro @zk3 (And.intro @zf1 (And.intro @zsl (And.intro @zf2 (And.intro @zsm (And.intro @zk4 (And.intro @zoh (And.intro @zsn (And.intro @zvn (And.intro @zhr (And.intro @zyf (And.intro @zyh (And.intro @zyg (And.intro @zvp (And.intro @zsi (And.intro @zye (And.intro @zso (And.intro @zas (And.intro @zf3 (And.intro @zof (And.intro @zvm (And.intro @zyi (And.intro @zoj (And.intro @zst (And.intro @zht (And.intro @zby (And.intro @zom (And.intro @zbz (And.intro @zon (And.intro @zhu (And.intro @zsq (And.intro @zsr (And.intro @zvt (And.intro @zvs (And.intro @zvr (And.intro @zoo (And.intro @zk5 (And.intro @zss (@zol)))))))))))))))))))))))))))))))))))))))))))
end Go.Av

