/- A part of the proof. -/
import Derived.Test.YtkeopokhnfpgpaaGreatDoorHAv20
set_option linter.all false
namespace Go.Av
section
variable (F : FC) (ops : Array Oper) (rest : List Oper) (st : ASt) (K : ASt → Prop) (ty : TypeId) (pos : String) (aft : Array Edge)
theorem zx6 : zh F ops [] st K = K st := rfl
theorem zuj (d : Nat) (x : Operand) : zh F ops (⟨some d, .move x, ty, pos, aft, none⟩ :: rest) st K ↔ d < F.N ∧ zh F ops rest (st.put (some d) (evA st.env x)) K := by
 show ((d < F.N ∧ True) ∧ _) ↔ _; rw [and_true]; rfl
theorem zlt (d : Nat) (x : Operand) : zh F ops (⟨some d, .assign x, ty, pos, aft, none⟩ :: rest) st K ↔ d < F.N ∧ zh F ops rest (st.put (some d) (evA st.env x)) K := by
 show ((d < F.N ∧ True) ∧ _) ↔ _; rw [and_true]; rfl
theorem z7t (x : Operand) : zh F ops (⟨none, .assign x, ty, pos, aft, none⟩ :: rest) st K ↔ zh F ops rest st K := by
 show ((True ∧ True) ∧ _) ↔ _; rw [and_true, true_and]; rfl
theorem yu {op : Op} {r : VR} (d : Nat) (h : ∀ K, j3 F ⟨some d, op, ty, pos, aft, none⟩ st K = ((dstOK F (some d) ∧ r.1) ∧ K (st.put (some d) r.2))) :
  zh F ops (⟨some d, op, ty, pos, aft, none⟩ :: rest) st K ↔ d < F.N ∧ r.1 ∧ zh F ops rest (st.put (some d) r.2) K := by
 show j3 F ⟨some d, op, ty, pos, aft, none⟩ st (fun st' => zh F ops rest st' K) ↔ _
 rw [h]
 show ((d < F.N ∧ _) ∧ _) ↔ _
 rw [and_assoc]
theorem zqz (d : Nat) (b : BinOp) (t : TypeId) (x y : Operand) (yt : TypeId) : zh F ops (⟨some d, .binOp b t x y yt, ty, pos, aft, none⟩ :: rest) st K ↔ d < F.N ∧ (binA F.P b t (evA st.env x) (evA st.env y)).1 ∧ zh F ops rest (st.put (some d) (binA F.P b t (evA st.env x) (evA st.env y)).2) K := yu F ops rest st K ty pos aft d fun _ => rfl
theorem zul (d : Nat) (u : UnOp) (t : TypeId) (x : Operand) : zh F ops (⟨some d, .unOp u t x, ty, pos, aft, none⟩ :: rest) st K ↔ d < F.N ∧ (unA u (evA st.env x)).1 ∧ zh F ops rest (st.put (some d) (unA u (evA st.env x)).2) K := yu F ops rest st K ty pos aft d fun _ => rfl
theorem zhp (d : Nat) (s t : TypeId) (x : Operand) : zh F ops (⟨some d, .convert s t x, ty, pos, aft, none⟩ :: rest) st K ↔ d < F.N ∧ (convA F.P s t (evA st.env x)).1 ∧ zh F ops rest (st.put (some d) (convA F.P s t (evA st.env x)).2) K := yu F ops rest st K ty pos aft d fun _ => rfl
theorem zc5 (d : Nat) (s : TypeId) (x : Operand) (f : Nat) : zh F ops (⟨some d, .fieldAddr s x f, ty, pos, aft, none⟩ :: rest) st K ↔ d < F.N ∧ (fieldAddrA F.P s (evA st.env x) f).1 ∧ zh F ops rest (st.put (some d) (fieldAddrA F.P s (evA st.env x) f).2) K := yu F ops rest st K ty pos aft d fun _ => rfl
theorem zr1 (d : Nat) (s : TypeId) (x : Operand) (f : Nat) : zh F ops (⟨some d, .field s x f, ty, pos, aft, none⟩ :: rest) st K ↔ d < F.N ∧ (fieldA F.P s (evA st.env x) f).1 ∧ zh F ops rest (st.put (some d) (fieldA F.P s (evA st.env x) f).2) K := yu F ops rest st K ty pos aft d fun _ => rfl
theorem zc6 (d : Nat) (t : TypeId) (x i : Operand) : zh F ops (⟨some d, .indexAddr t x i, ty, pos, aft, none⟩ :: rest) st K ↔ d < F.N ∧ (indexAddrA F.P t (evA st.env x) (evA st.env i)).1 ∧ zh F ops rest (st.put (some d) (indexAddrA F.P t (evA st.env x) (evA st.env i)).2) K := yu F ops rest st K ty pos aft d fun _ => rfl
theorem zr2 (d : Nat) (t : TypeId) (x i : Operand) : zh F ops (⟨some d, .index t x i, ty, pos, aft, none⟩ :: rest) st K ↔ d < F.N ∧ (indexA F.P t (evA st.env x) (evA st.env i)).1 ∧ zh F ops rest (st.put (some d) (indexA F.P t (evA st.env x) (evA st.env i)).2) K := yu F ops rest st K ty pos aft d fun _ => rfl
theorem zhq (d : Nat) (x : Operand) (i : Nat) : zh F ops (⟨some d, .extract x i, ty, pos, aft, none⟩ :: rest) st K ↔ d < F.N ∧ (extractA (evA st.env x) i).1 ∧ zh F ops rest (st.put (some d) (extractA (evA st.env x) i).2) K := yu F ops rest st K ty pos aft d fun _ => rfl
theorem zf3 (d : Nat) (x : Operand) : zh F ops (⟨some d, .nilCheck x, ty, pos, aft, none⟩ :: rest) st K ↔ d < F.N ∧ (nilA (evA st.env x)).1 ∧ zh F ops rest (st.put (some d) (nilA (evA st.env x)).2) K := yu F ops rest st K ty pos aft d fun _ => rfl
theorem zx1 (d : Nat) (t : TypeId) (x : Operand) : zh F ops (⟨some d, .sliceToArrayPointer t x, ty, pos, aft, none⟩ :: rest) st K ↔ d < F.N ∧ (arrA F.P t (evA st.env x)).1 ∧ zh F ops rest (st.put (some d) (arrA F.P t (evA st.env x)).2) K := yu F ops rest st K ty pos aft d fun _ => rfl
theorem zr0 (d : Nat) (t : TypeId) (ps : List (Nat × Operand)) : zh F ops (⟨some d, .build t ps.toArray, ty, pos, aft, none⟩ :: rest) st K ↔ d < F.N ∧ (buildA F.P t (ps.map fun p => (p.1, evA st.env p.2))).1 ∧ zh F ops rest (st.put (some d) (buildA F.P t (ps.map fun p => (p.1, evA st.env p.2))).2) K := yu F ops rest st K ty pos aft d fun _ => rfl
theorem zr3 (d : Nat) (t : TypeId) (x : Operand) (lo hi mx : Option Operand) : zh F ops (⟨some d, .slice t x lo hi mx, ty, pos, aft, none⟩ :: rest) st K ↔ d < F.N ∧ (sliceA F.P t (evA st.env x) (lo.map (evA st.env)) (hi.map (evA st.env)) (mx.map (evA st.env))).1 ∧ zh F ops rest (st.put (some d) (sliceA F.P t (evA st.env x) (lo.map (evA st.env)) (hi.map (evA st.env)) (mx.map (evA st.env))).2) K := yu F ops rest st K ty pos aft d fun _ => rfl
theorem zui (d : Nat) (t : TypeId) (x : Operand) : zh F ops (⟨some d, .load t x, ty, pos, aft, none⟩ :: rest) st K ↔ d < F.N ∧ (loadA F.P F.G st.objs t (evA st.env x)).1 ∧ zh F ops rest (st.put (some d) (loadA F.P F.G st.objs t (evA st.env x)).2) K := yu F ops rest st K ty pos aft d fun _ => rfl
theorem zf2 (d : Nat) (f : FuncId) (caps : List Operand) : zh F ops (⟨some d, .makeFunc (.func f) #[] caps.toArray, ty, pos, aft, none⟩ :: rest) st K ↔ d < F.N ∧ zh F ops rest (st.put (some d) (.fn f (caps.map (evA st.env)))) K := by
 show ((d < F.N ∧ True) ∧ _) ↔ _; rw [and_true]; rfl
theorem zx3 (d : Nat) (x : Operand) (t : TypeId) : zh F ops (⟨some d, .call ⟨.builtin .len, #[x], #[t]⟩, ty, pos, aft, none⟩ :: rest) st K ↔ d < F.N ∧ (lenA F.P t (evA st.env x)).1 ∧ zh F ops rest (st.put (some d) (lenA F.P t (evA st.env x)).2) K := yu F ops rest st K ty pos aft d fun _ => rfl
theorem zx5 (d : Nat) (xs : List Operand) (ts : Array TypeId) : zh F ops (⟨some d, .call ⟨.builtin .min, xs.toArray, ts⟩, ty, pos, aft, none⟩ :: rest) st K ↔ d < F.N ∧ (minA (xs.map (evA st.env))).1 ∧ zh F ops rest (st.put (some d) (minA (xs.map (evA st.env))).2) K := yu F ops rest st K ty pos aft d fun _ => rfl
theorem zx4 (d : Nat) (xs : List Operand) (ts : Array TypeId) : zh F ops (⟨some d, .call ⟨.builtin .max, xs.toArray, ts⟩, ty, pos, aft, none⟩ :: rest) st K ↔ d < F.N ∧ (maxA (xs.map (evA st.env))).1 ∧ zh F ops rest (st.put (some d) (maxA (xs.map (evA st.env))).2) K := yu F ops rest st K ty pos aft d fun _ => rfl
theorem zuk (d : Nat) (c x y : Operand) : zh F ops (⟨some d, .pick c x y, ty, pos, aft, none⟩ :: rest) st K ↔ d < F.N ∧ (pickA st.env true c x y).1 ∧ zh F ops rest (st.put (some d) (pickA st.env true c x y).2) K := Iff.rfl
def allocC (F : FC) (d : Nat) (i : Option TI) (st : ASt) (K : ASt → Prop) : Prop :=
 match i with
 | some i => match zeroA i with
  | some z => (d < F.N ∧ z.storable = true ∧ z.cells.length = i.size) ∧ K (((st.kill d).obj d ⟨i.size, [z.kill d]⟩).put (some d) (.ptr d i.size 0 0))
  | none => False
 | none => False
theorem zqy (d : Nat) (t : TypeId) : zh F ops (⟨some d, .alloc t, ty, pos, aft, none⟩ :: rest) st K ↔ allocC F d (ti F.P t) st (fun st' => zh F ops rest st' K) := by
 show j3 F ⟨some d, .alloc t, ty, pos, aft, none⟩ st (fun st' => zh F ops rest st' K) ↔ _
 unfold j3 allocC
 simp only
 cases ti F.P t <;> exact Iff.rfl
theorem zx2 (d : Nat) (t : TypeId) (y : Operand) : zh F ops (⟨some d, .box t y, ty, pos, aft, none⟩ :: rest) st K ↔ (d < F.N ∧ (evA st.env y).storable = true) ∧ zh F ops rest (((st.kill d).obj d ⟨(evA st.env y).cells.length, [(evA st.env y).kill d]⟩).put (some d) (.ptr d (evA st.env y).cells.length 0 0)) K := Iff.rfl
def storeC (i : Option TI) (ad : AV) (x : AV) (st : ASt) (K : ASt → Prop) : Prop :=
 match i, ad with
 | some i, .ptr id es k off => match st.objs id with
  | some ob => ((ob.es = es ∧ k < ob.elems.length) ∧ x.storable = true ∧ x.cells.length = i.size ∧ off + i.size ≤ ((ob.elems[k]?).getD .junk).cells.length) ∧ K (st.obj id ⟨es, ob.elems.set k (storeW x off ((ob.elems[k]?).getD .junk))⟩)
  | none => False
 | _, _ => False
theorem zr4 (t : TypeId) (ad x : Operand) : zh F ops (⟨none, .store t ad x, ty, pos, aft, none⟩ :: rest) st K ↔ storeC (ti F.P t) (evA st.env ad) (evA st.env x) st (fun st' => zh F ops rest st' K) := by
 show j3 F ⟨none, .store t ad x, ty, pos, aft, none⟩ st (fun st' => zh F ops rest st' K) ↔ _
 unfold j3 storeC
 simp only
 cases ti F.P t
 ·exact Iff.rfl
 ·cases evA st.env ad <;> exact Iff.rfl
def buildSliceC (P : Program) (N : Nat) (rows lits : List Nat) (d : Nat) (i : Option TI) (len : Nat) (parts : List (Nat × AV)) (st : ASt) (K : ASt → Prop) : Prop :=
 match i with
 | some i => match i.tk with
  | .slice e => match ti P e with
   | some j => match j.zero with
    | some z => (d < N ∧ len = parts.length ∧ z.length = j.size ∧ len * j.size ≤ 16777216 ∧ parts.map (·.1) = List.range len) ∧
     (if d ∈ rows then (∀ x ∈ parts.map (·.2), x.storable = true ∧ x.cells.length = j.size) ∧ K (((st.kill d).obj d ⟨j.size, (parts.map (·.2)).map (AV.kill d)⟩).put (some d) (.osl d j.size 0 len))
     else if len = 0 then K (st.put (some d) .nils) else match vz (parts.map (·.2)) with
     | some ds => (∀ x ∈ ds, x.cells.length = j.size) ∧ K (st.put (some d) (if d ∈ lits then .lits ds else .dat (.sl ds)))
     | none => False)
    | none => False
   | none => False
  | _ => False
 | none => False
theorem z8u (d : Nat) (t : TypeId) (len : Nat) (ps : List (Nat × Operand)) : zh F ops (⟨some d, .buildSlice t len ps.toArray, ty, pos, aft, none⟩ :: rest) st K ↔ buildSliceC F.P F.N F.rows F.lits d (ti F.P t) len (ps.map fun p => (p.1, evA st.env p.2)) st (fun st' => zh F ops rest st' K) := by
 show j3 F ⟨some d, .buildSlice t len ps.toArray, ty, pos, aft, none⟩ st (fun st' => zh F ops rest st' K) ↔ _
 unfold j3 buildSliceC
 simp only [List.size_toArray, List.map_map, Function.comp_def, List.length_map]
 cases ti F.P t with
 | none => exact Iff.rfl
 | some i =>
  simp only
  cases i.tk <;> exact Iff.rfl
def makeSliceC (P : Program) (N d : Nat) (i : Option TI) (ln cp : AV) (st : ASt) (K : ASt → Prop) : Prop :=
 match i with
 | some i => match i.tk with
  | .slice e => match ti P e with
   | some j => match zeroA j, ln, cp with
    | some z, .dat (.int _ n), .dat (.int _ m) => (d < N ∧ z.storable = true ∧ z.cells.length = j.size ∧ 0 ≤ n ∧ n ≤ m ∧ m * j.bytes ≤ 281474976710656 ∧ m ≤ 9223372036854775807) ∧
     K (((st.kill d).obj d ⟨j.size, (List.replicate n.toNat z).map (AV.kill d)⟩).put (some d) (.osl d j.size 0 n.toNat))
    | _, _, _ => False
   | none => False
  | _ => False
 | none => False
theorem zc7 (d : Nat) (t : TypeId) (ln cp : Operand) : zh F ops (⟨some d, .makeSlice t ln cp, ty, pos, aft, none⟩ :: rest) st K ↔ makeSliceC F.P F.N d (ti F.P t) (evA st.env ln) (evA st.env cp) st (fun st' => zh F ops rest st' K) := by
 show j3 F ⟨some d, .makeSlice t ln cp, ty, pos, aft, none⟩ st (fun st' => zh F ops rest st' K) ↔ _
 unfold j3 makeSliceC
 simp only
 cases ti F.P t with
 | none => exact Iff.rfl
 | some i =>
  simp only
  cases i.tk <;> exact Iff.rfl
def appendC (F : FC) (d : Nat) (i i' : Option TI) (s x : AV) (st : ASt) (K : ASt → Prop) : Prop :=
 match i, i' with
 | some i, some i' => match i.tk, i'.tk.srcK with
  | .slice e, .slice _ => match ti F.P e with
   | some j => if d ∈ F.lits then appendLC F d j s x st K else match zeroA j, baseA st.objs j.size s, srcA st.objs x with
    | some z, some (old, olds), some xs => ((d ∈ F.apps → s = .nils) ∧ (d < F.N ∧ z.storable = true ∧ z.cells.length = j.size) ∧ (∀ y ∈ xs, y.cells.length = j.size) ∧
      (match x with
        | .osl id es _ len => es = j.size ∧ xs.length = len ∧ (match st.objs id with | some o => o.es = j.size | none => False)
        | _ => True) ∧
      (olds.length + xs.length) * j.bytes ≤ 140737488355328 ∧ olds.length + xs.length ≤ 9223372036854775807) ∧ K (appSt st d j.size old (olds ++ xs))
    | _, _, _ => False
   | none => False
  | _, _ => False
 | _, _ => False
theorem zls (d : Nat) (s x : Operand) (t t' : TypeId) : zh F ops (⟨some d, .call ⟨.builtin .append, #[s, x], #[t, t']⟩, ty, pos, aft, none⟩ :: rest) st K ↔ appendC F d (ti F.P t) (ti F.P t') (evA st.env s) (evA st.env x) st (fun st' => zh F ops rest st' K) := by
 show j3 F ⟨some d, .call ⟨.builtin .append, #[s, x], #[t, t']⟩, ty, pos, aft, none⟩ st (fun st' => zh F ops rest st' K) ↔ _
 unfold j3 appendC
 simp only
 cases ti F.P t with
 | none => exact Iff.rfl
 | some i => cases ti F.P t' <;> exact Iff.rfl
def CallC (g : Option (FuncId × List AV)) (dst : Option Nat) : Prop :=
 match g with
 | some (g, xs) => (∃ rs ds, qu st.objs xs rs = some ds ∧ zl F.P F.G g ds rs ∧ zh F ops rest (st.put dst (retA rs)) K) ∨
   (∃ ys m os os' rs, zcp F dst ∧ renL m ys = xs ∧ Lent st.objs m os os' ∧ zfr F.P F.G g ys os rs os' ∧ zh F ops rest ((st.objsM m os').put dst (retA rs)) K) ∨
   ∃ ys m news os os' rs, zcp F dst ∧ renL m ys = xs ∧ LentX F st.objs m news os os' ∧ GivesX F.P F.G g ys os rs os' ∧ zh F ops rest ((st.backX m news os os').put dst (z0s (renL m rs))) K
 | none => False
theorem zuh (dst : Option Nat) (f : Operand) (args : List Operand) (ts : Array TypeId) : zh F ops (⟨dst, .call ⟨.value f, args.toArray, ts⟩, ty, pos, aft, none⟩ :: rest) st K ↔ dstOK F dst ∧ CallC F ops rest st K (callee st.env f args) dst := by
 show j3 F ⟨dst, .call ⟨.value f, args.toArray, ts⟩, ty, pos, aft, none⟩ st (fun st' => zh F ops rest st' K) ↔ _
 unfold j3 CallC
 simp only
 cases hc : callee st.env f args with
 | none => simp [hc]
 | some p =>
  obtain ⟨g, xs⟩ := p
  simp only [hc]
  constructor
  ·rintro (⟨rs, ds, h1, h2, h3, h4⟩ | ⟨ys, m, os, os', rs, h0, h1, hl, h2, h3, h4⟩ | ⟨ys, m, news, os, os', rs, h0, h1, hl, h2, h3, h4⟩)
   ·exact ⟨h3, .inl ⟨rs, ds, h1, h2, h4⟩⟩
   ·exact ⟨h3, .inr (.inl ⟨ys, m, os, os', rs, h0, h1, hl, h2, h4⟩)⟩
   ·exact ⟨h3, .inr (.inr ⟨ys, m, news, os, os', rs, h0, h1, hl, h2, h4⟩)⟩
  ·rintro ⟨h3, ⟨rs, ds, h1, h2, h4⟩ | ⟨ys, m, os, os', rs, h0, h1, hl, h2, h4⟩ | ⟨ys, m, news, os, os', rs, h0, h1, hl, h2, h4⟩⟩
   ·exact .inl ⟨rs, ds, h1, h2, h3, h4⟩
   ·exact .inr (.inl ⟨ys, m, os, os', rs, h0, h1, hl, h2, h3, h4⟩)
   ·exact .inr (.inr ⟨ys, m, news, os, os', rs, h0, h1, hl, h2, h3, h4⟩)
variable {F ops rest st K}
theorem CallC.use {g : FuncId} {xs : List AV} {dst : Option Nat} {ds rs : List Dat} (h : zl F.P F.G g ds rs) (ha : qu st.objs xs rs = some ds) (hc : zh F ops rest (st.put dst (retA rs)) K) : CallC F ops rest st K (some (g, xs)) dst := .inl ⟨rs, ds, ha, h, hc⟩
theorem CallC.useX {g : FuncId} {xs ys rs : List AV} {dst : Option Nat} {os os' : List (Nat × AObj)} (m : Nat → Nat) (news : List Nat) (hm : zcp F dst) (h : GivesX F.P F.G g ys os rs os') (ha : renL m ys = xs) (hl : LentX F st.objs m news os os')
  (hc : zh F ops rest ((st.backX m news os os').put dst (z0s (renL m rs))) K) : CallC F ops rest st K (some (g, xs)) dst := .inr (.inr ⟨ys, m, news, os, os', rs, hm, ha, hl, h, hc⟩)
end
end Go.Av

