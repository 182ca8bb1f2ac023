/- Walks again: what is called, and what is built, without a bound name for simp to walk into. -/
import Derived.Test.YtabjaaonfaejmaaHAv34
set_option linter.all false
namespace Go.Av
theorem evA_tmp (env : Nat → AV) (n : Nat) : evA env (.tmp n) = env n := rfl
theorem evA_const (env : Nat → AV) (v : Value) : evA env (.const v) = avOf v := rfl
theorem evA_global (env : Nat → AV) (g : Nat) : evA env (.global g) = .gl g 0 := rfl
theorem evA_func (env : Nat → AV) (f : Nat) : evA env (.func f) = .fn f [] := rfl
def evAL (env : Nat → AV) : List Operand → List AV
  | [] => []
  | x :: l => evA env x :: evAL env l
theorem evAL_eq (env : Nat → AV) : ∀ l, evAL env l = l.map (evA env)
  | [] => rfl
  | x :: l => by simp [evAL, evAL_eq env l]
def evSL (env : Nat → AV) : List Operand → List AV
  | [] => []
  | x :: l => (evA env x).strip :: evSL env l
theorem evSL_eq (env : Nat → AV) : ∀ l, evSL env l = l.map fun x => (evA env x).strip
  | [] => rfl
  | x :: l => by simp [evSL, evSL_eq env l]
def evPL (env : Nat → AV) : List (Nat × Operand) → List (Nat × AV)
  | [] => []
  | p :: l => (p.1, evA env p.2) :: evPL env l
theorem evPL_eq (env : Nat → AV) : ∀ l, evPL env l = l.map fun p => (p.1, evA env p.2)
  | [] => rfl
  | p :: l => by simp [evPL, evPL_eq env l]
def evPS (env : Nat → AV) : List (Nat × Operand) → List (Nat × AV)
  | [] => []
  | p :: l => (p.1, (evA env p.2).strip) :: evPS env l
theorem evPS_eq (env : Nat → AV) : ∀ l, evPS env l = l.map fun p => (p.1, (evA env p.2).strip)
  | [] => rfl
  | p :: l => by simp [evPS, evPS_eq env l]
def calleeP (f : AV) (xs : List AV) : Option (FuncId × List AV) :=
  match f with
  | .fn g caps => some (g, xs ++ caps)
  | _ => none
theorem callee_eq (env : Nat → AV) (f : Operand) (args : List Operand) : callee env f args = calleeP (evA env f) (evAL env args) := by
  unfold callee calleeP
  rw [evAL_eq]
  cases evA env f <;> rfl
def CallGC (F : FC) (ops : Array Oper) (rest : List Oper) (st : ASt) (K : ASt → Prop) (c : Option (FuncId × List AV)) (g : Bool) (gd : Prop) (dst : Option Nat) : Prop :=
  match c with
  | some (h, xs) => ∃ rs ds, callArgs st.objs xs rs = some ds ∧ (g = true → gd ∧ Gives F.P F.G h ds rs) ∧ RunOps F ops rest (st.put dst (.cond g (retA rs))) K
  | none => False
@[congr] theorem callGC_congr {F : FC} {ops : Array Oper} {rest : List Oper} {st st' : ASt} {K : ASt → Prop} {c c' : Option (FuncId × List AV)} {g : Bool} {gd : Prop} {dst : Option Nat} (h : st = st') (h1 : c = c') : CallGC F ops rest st K c g gd dst = CallGC F ops rest st' K c' g gd dst := by rw [h, h1]
theorem CallGC.use {F : FC} {ops : Array Oper} {rest : List Oper} {st : ASt} {K : ASt → Prop} {h : FuncId} {xs : List AV} {g : Bool} {gd : Prop} {dst : Option Nat} {ds rs : List Dat} (ha : callArgs st.objs xs rs = some ds) (hg : g = true → gd ∧ Gives F.P F.G h ds rs) (hc : RunOps F ops rest (st.put dst (.cond g (retA rs))) K) :
    CallGC F ops rest st K (some (h, xs)) g gd dst := ⟨rs, ds, ha, hg, hc⟩
section
variable (F : FC) (ops : Array Oper) (rest : List Oper) (st : ASt) (K : ASt → Prop) (ty : TypeId) (pos : String) (aft : Array Edge) (j : Nat) (want : Bool)
theorem rng_call2 (dst : Option Nat) (f : Operand) (args : List Operand) (ts : Array TypeId) : RunOps F ops (⟨dst, .call ⟨.value f, args.toArray, ts⟩, ty, pos, aft, some (j, want)⟩ :: rest) st K ↔
    GC (gvalA ops st.env j want) fun g => dstOK F dst ∧ CallGC F ops rest st K (calleeP (evA st.env f).strip (evSL st.env args)) g (gdAll st.env (f :: args)) dst := by
  rw [rng_call]
  unfold GC
  cases gvalA ops st.env j want with
  | none => exact Iff.rfl
  | some g =>
    simp only [evSL_eq]
    unfold CallG CallGC calleeP
    cases (evA st.env f).strip <;> exact Iff.rfl
theorem rn_build2 (d : Nat) (t : TypeId) (ps : List (Nat × Operand)) : RunOps F ops (⟨some d, .build t ps.toArray, ty, pos, aft, none⟩ :: rest) st K ↔ d < F.N ∧ (buildA F.P t (evPL st.env ps)).1 ∧ RunOps F ops rest (st.put (some d) (buildA F.P t (evPL st.env ps)).2) K := by
  rw [rn_build, evPL_eq]
theorem rng_build2 (d : Nat) (t : TypeId) (ps : List (Nat × Operand)) : RunOps F ops (⟨some d, .build t ps.toArray, ty, pos, aft, some (j, want)⟩ :: rest) st K ↔ GC (gvalA ops st.env j want) fun g => d < F.N ∧ (g = true → gdAll st.env (Op.build t ps.toArray).operands.toList ∧ (buildA F.P t (evPS st.env ps)).1) ∧ RunOps F ops rest (st.put (some d) (.cond g (buildA F.P t (evPS st.env ps)).2)) K := by
  rw [rng_build, evPS_eq]
theorem rn_buildSlice2 (d : Nat) (t : TypeId) (len : Nat) (ps : List (Nat × Operand)) : RunOps F ops (⟨some d, .buildSlice t len ps.toArray, ty, pos, aft, none⟩ :: rest) st K ↔ buildSliceC F.P F.N F.rows F.lits d (ti F.P t) len (evPL st.env ps) st (fun st' => RunOps F ops rest st' K) := by
  rw [rn_buildSlice, evPL_eq]
end
theorem avR2 : type_of% (And.intro @rn_assign (And.intro @rn_assign_none (And.intro @rn_move (And.intro @rn_binOp (And.intro @rn_unOp (And.intro @rn_convert (And.intro @rn_fieldAddr (And.intro @rn_field (And.intro @rn_indexAddr (And.intro @rn_index (And.intro @rn_extract (And.intro @rn_build2 (And.intro @rn_slice (And.intro @rn_load (And.intro @rn_makeFunc (And.intro @rn_len (And.intro @rn_min (And.intro @rn_max (And.intro @rn_pick (And.intro @rn_alloc (And.intro @rn_box (And.intro @rn_store (And.intro @rn_buildSlice2 (And.intro @rn_makeSlice (And.intro @rn_append (And.intro @rn_call (And.intro @rn_nil (And.intro @rng_binOp (And.intro @rng_unOp (And.intro @rng_convert (And.intro @rng_fieldAddr (And.intro @rng_field (And.intro @rng_indexAddr (And.intro @rng_index (And.intro @rng_extract (And.intro @rng_load (And.intro @rng_move (And.intro @rng_min (And.intro @rng_max (And.intro @rng_len (And.intro @rng_slice (And.intro @rng_build2 (And.intro @rng_pick (@rng_call2)))))))))))))))))))))))))))))))))))))))))))) := And.intro @rn_assign (And.intro @rn_assign_none (And.intro @rn_move (And.intro @rn_binOp (And.intro @rn_unOp (And.intro @rn_convert (And.intro @rn_fieldAddr (And.intro @rn_field (And.intro @rn_indexAddr (And.intro @rn_index (And.intro @rn_extract (And.intro @rn_build2 (And.intro @rn_slice (And.intro @rn_load (And.intro @rn_makeFunc (And.intro @rn_len (And.intro @rn_min (And.intro @rn_max (And.intro @rn_pick (And.intro @rn_alloc (And.intro @rn_box (And.intro @rn_store (And.intro @rn_buildSlice2 (And.intro @rn_makeSlice (And.intro @rn_append (And.intro @rn_call (And.intro @rn_nil (And.intro @rng_binOp (And.intro @rng_unOp (And.intro @rng_convert (And.intro @rng_fieldAddr (And.intro @rng_field (And.intro @rng_indexAddr (And.intro @rng_index (And.intro @rng_extract (And.intro @rng_load (And.intro @rng_move (And.intro @rng_min (And.intro @rng_max (And.intro @rng_len (And.intro @rng_slice (And.intro @rng_build2 (And.intro @rng_pick (@rng_call2)))))))))))))))))))))))))))))))))))))))))))
end Go.Av

