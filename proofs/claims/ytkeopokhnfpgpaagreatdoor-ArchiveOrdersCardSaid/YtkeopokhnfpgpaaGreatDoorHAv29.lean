/- A part of the proof. -/
import Derived.Test.YtkeopokhnfpgpaaGreatDoorHAv28
set_option linter.all false
namespace Go.Av
def GC (g : Option Bool) (C : Bool → Prop) : Prop := match g with
 | some g => C g
 | none => False
def gvB (x : AV) (want : Bool) : Option Bool := match x with
 | .dat (.bool b) => some (b == want)
 | .cond c (.dat (.bool b)) => some (c && (b == want))
 | _ => none
def gvS (o : Option Oper) (env : Nat → AV) (want : Bool) : Option Bool := match o with
 | some ⟨some s, _, _, _, _, _⟩ => gvB (env s) want
 | _ => none
theorem zop (ops : List Oper) (env : Nat → AV) (j : Nat) (want : Bool) : x9 ops.toArray env j want = gvS ops[j]? env want := by
 unfold x9 gvS
 simp only [List.getElem?_toArray]
 cases h : ops[j]? with
 | none => rfl
 | some o =>
  obtain ⟨dst, _, _, _, _, _⟩ := o
  cases dst <;> rfl
section
variable (F : FC) (ops : Array Oper) (rest : List Oper) (st : ASt) (K : ASt → Prop) (ty : TypeId) (pos : String) (aft : Array Edge) (j : Nat) (want : Bool)
theorem vu {op : Op} {r : VR} {gd : Prop} (d : Nat) (h : ∀ g K, z5i F ⟨some d, op, ty, pos, aft, some (j, want)⟩ g st K = ((dstOK F (some d) ∧ (g = true → gd ∧ r.1)) ∧ K (st.put (some d) (.cond g r.2)))) :
  zh F ops (⟨some d, op, ty, pos, aft, some (j, want)⟩ :: rest) st K ↔ GC (x9 ops st.env j want) fun g => d < F.N ∧ (g = true → gd ∧ r.1) ∧ zh F ops rest (st.put (some d) (.cond g r.2)) K := by
 show (match x9 ops st.env j want with
  | some g => z5i F ⟨some d, op, ty, pos, aft, some (j, want)⟩ g st (fun st' => zh F ops rest st' K)
  | none => False) ↔ _
 unfold GC
 cases x9 ops st.env j want with
 | none => exact Iff.rfl
 | some g =>
  simp only
  rw [h]
  show ((d < F.N ∧ _) ∧ _) ↔ _
  rw [and_assoc]
theorem zlw (d : Nat) (b : BinOp) (t : TypeId) (x y : Operand) (yt : TypeId) : zh F ops (⟨some d, .binOp b t x y yt, ty, pos, aft, some (j, want)⟩ :: rest) st K ↔ GC (x9 ops st.env j want) fun g => d < F.N ∧ (g = true → ((evA st.env x).gd = true ∧ (evA st.env y).gd = true ∧ True) ∧ (binA F.P b t (evA st.env x).strip (evA st.env y).strip).1) ∧ zh F ops rest (st.put (some d) (.cond g (binA F.P b t (evA st.env x).strip (evA st.env y).strip).2)) K := vu F ops rest st K ty pos aft j want d fun _ _ => rfl
theorem zr9 (d : Nat) (u : UnOp) (t : TypeId) (x : Operand) : zh F ops (⟨some d, .unOp u t x, ty, pos, aft, some (j, want)⟩ :: rest) st K ↔ GC (x9 ops st.env j want) fun g => d < F.N ∧ (g = true → ((evA st.env x).gd = true ∧ True) ∧ (unA u (evA st.env x).strip).1) ∧ zh F ops rest (st.put (some d) (.cond g (unA u (evA st.env x).strip).2)) K := vu F ops rest st K ty pos aft j want d fun _ _ => rfl
theorem zf4 (d : Nat) (s t : TypeId) (x : Operand) : zh F ops (⟨some d, .convert s t x, ty, pos, aft, some (j, want)⟩ :: rest) st K ↔ GC (x9 ops st.env j want) fun g => d < F.N ∧ (g = true → ((evA st.env x).gd = true ∧ True) ∧ (convA F.P s t (evA st.env x).strip).1) ∧ zh F ops rest (st.put (some d) (.cond g (convA F.P s t (evA st.env x).strip).2)) K := vu F ops rest st K ty pos aft j want d fun _ _ => rfl
theorem z8v (d : Nat) (s : TypeId) (x : Operand) (f : Nat) : zh F ops (⟨some d, .fieldAddr s x f, ty, pos, aft, some (j, want)⟩ :: rest) st K ↔ GC (x9 ops st.env j want) fun g => d < F.N ∧ (g = true → ((evA st.env x).gd = true ∧ True) ∧ (fieldAddrA F.P s (evA st.env x).strip f).1) ∧ zh F ops rest (st.put (some d) (.cond g (fieldAddrA F.P s (evA st.env x).strip f).2)) K := vu F ops rest st K ty pos aft j want d fun _ _ => rfl
theorem zlz (d : Nat) (s : TypeId) (x : Operand) (f : Nat) : zh F ops (⟨some d, .field s x f, ty, pos, aft, some (j, want)⟩ :: rest) st K ↔ GC (x9 ops st.env j want) fun g => d < F.N ∧ (g = true → ((evA st.env x).gd = true ∧ True) ∧ (fieldA F.P s (evA st.env x).strip f).1) ∧ zh F ops rest (st.put (some d) (.cond g (fieldA F.P s (evA st.env x).strip f).2)) K := vu F ops rest st K ty pos aft j want d fun _ _ => rfl
theorem z8w (d : Nat) (t : TypeId) (x i : Operand) : zh F ops (⟨some d, .indexAddr t x i, ty, pos, aft, some (j, want)⟩ :: rest) st K ↔ GC (x9 ops st.env j want) fun g => d < F.N ∧ (g = true → ((evA st.env x).gd = true ∧ (evA st.env i).gd = true ∧ True) ∧ (indexAddrA F.P t (evA st.env x).strip (evA st.env i).strip).1) ∧ zh F ops rest (st.put (some d) (.cond g (indexAddrA F.P t (evA st.env x).strip (evA st.env i).strip).2)) K := vu F ops rest st K ty pos aft j want d fun _ _ => rfl
theorem zm0 (d : Nat) (t : TypeId) (x i : Operand) : zh F ops (⟨some d, .index t x i, ty, pos, aft, some (j, want)⟩ :: rest) st K ↔ GC (x9 ops st.env j want) fun g => d < F.N ∧ (g = true → ((evA st.env x).gd = true ∧ (evA st.env i).gd = true ∧ True) ∧ (indexA F.P t (evA st.env x).strip (evA st.env i).strip).1) ∧ zh F ops rest (st.put (some d) (.cond g (indexA F.P t (evA st.env x).strip (evA st.env i).strip).2)) K := vu F ops rest st K ty pos aft j want d fun _ _ => rfl
theorem zf5 (d : Nat) (x : Operand) (i : Nat) : zh F ops (⟨some d, .extract x i, ty, pos, aft, some (j, want)⟩ :: rest) st K ↔ GC (x9 ops st.env j want) fun g => d < F.N ∧ (g = true → ((evA st.env x).gd = true ∧ True) ∧ (extractA (evA st.env x).strip i).1) ∧ zh F ops rest (st.put (some d) (.cond g (extractA (evA st.env x).strip i).2)) K := vu F ops rest st K ty pos aft j want d fun _ _ => rfl
theorem zr6 (d : Nat) (t : TypeId) (x : Operand) : zh F ops (⟨some d, .load t x, ty, pos, aft, some (j, want)⟩ :: rest) st K ↔ GC (x9 ops st.env j want) fun g => d < F.N ∧ (g = true → ((evA st.env x).gd = true ∧ True) ∧ (loadA F.P F.G st.objs t (evA st.env x).strip).1) ∧ zh F ops rest (st.put (some d) (.cond g (loadA F.P F.G st.objs t (evA st.env x).strip).2)) K := vu F ops rest st K ty pos aft j want d fun _ _ => rfl
theorem zr7 (d : Nat) (x : Operand) : zh F ops (⟨some d, .move x, ty, pos, aft, some (j, want)⟩ :: rest) st K ↔ GC (x9 ops st.env j want) fun g => d < F.N ∧ (g = true → ((evA st.env x).gd = true ∧ True) ∧ True) ∧ zh F ops rest (st.put (some d) (.cond g (evA st.env x).strip)) K := vu (r := (True, (evA st.env x).strip)) F ops rest st K ty pos aft j want d fun _ _ => rfl
theorem zum (d : Nat) (x : Operand) (t : TypeId) : zh F ops (⟨some d, .call ⟨.builtin .len, #[x], #[t]⟩, ty, pos, aft, some (j, want)⟩ :: rest) st K ↔ GC (x9 ops st.env j want) fun g => d < F.N ∧ (g = true → ((evA st.env x).gd = true ∧ True) ∧ (lenA F.P t (evA st.env x).strip).1) ∧ zh F ops rest (st.put (some d) (.cond g (lenA F.P t (evA st.env x).strip).2)) K := vu F ops rest st K ty pos aft j want d fun _ _ => rfl
theorem zuo (d : Nat) (x y : Operand) (ts : Array TypeId) : zh F ops (⟨some d, .call ⟨.builtin .min, #[x, y], ts⟩, ty, pos, aft, some (j, want)⟩ :: rest) st K ↔ GC (x9 ops st.env j want) fun g => d < F.N ∧ (g = true → ((evA st.env x).gd = true ∧ (evA st.env y).gd = true ∧ True) ∧ (minA [(evA st.env x).strip, (evA st.env y).strip]).1) ∧ zh F ops rest (st.put (some d) (.cond g (minA [(evA st.env x).strip, (evA st.env y).strip]).2)) K := vu F ops rest st K ty pos aft j want d fun _ _ => rfl
theorem zun (d : Nat) (x y : Operand) (ts : Array TypeId) : zh F ops (⟨some d, .call ⟨.builtin .max, #[x, y], ts⟩, ty, pos, aft, some (j, want)⟩ :: rest) st K ↔ GC (x9 ops st.env j want) fun g => d < F.N ∧ (g = true → ((evA st.env x).gd = true ∧ (evA st.env y).gd = true ∧ True) ∧ (maxA [(evA st.env x).strip, (evA st.env y).strip]).1) ∧ zh F ops rest (st.put (some d) (.cond g (maxA [(evA st.env x).strip, (evA st.env y).strip]).2)) K := vu F ops rest st K ty pos aft j want d fun _ _ => rfl
theorem zm1 (d : Nat) (t : TypeId) (x : Operand) (lo hi mx : Option Operand) : zh F ops (⟨some d, .slice t x lo hi mx, ty, pos, aft, some (j, want)⟩ :: rest) st K ↔ GC (x9 ops st.env j want) fun g => d < F.N ∧ (g = true → gdAll st.env (Op.slice t x lo hi mx).operands.toList ∧ (sliceA F.P t (evA st.env x).strip (lo.map fun x => (evA st.env x).strip) (hi.map fun x => (evA st.env x).strip) (mx.map fun x => (evA st.env x).strip)).1) ∧ zh F ops rest (st.put (some d) (.cond g (sliceA F.P t (evA st.env x).strip (lo.map fun x => (evA st.env x).strip) (hi.map fun x => (evA st.env x).strip) (mx.map fun x => (evA st.env x).strip)).2)) K := vu F ops rest st K ty pos aft j want d fun _ _ => rfl
theorem zlx (d : Nat) (t : TypeId) (ps : List (Nat × Operand)) : zh F ops (⟨some d, .build t ps.toArray, ty, pos, aft, some (j, want)⟩ :: rest) st K ↔ GC (x9 ops st.env j want) fun g => d < F.N ∧ (g = true → gdAll st.env (Op.build t ps.toArray).operands.toList ∧ (buildA F.P t (ps.map fun p => (p.1, (evA st.env p.2).strip))).1) ∧ zh F ops rest (st.put (some d) (.cond g (buildA F.P t (ps.map fun p => (p.1, (evA st.env p.2).strip))).2)) K := vu F ops rest st K ty pos aft j want d fun _ _ => rfl
theorem zr8 (d : Nat) (c x y : Operand) : zh F ops (⟨some d, .pick c x y, ty, pos, aft, some (j, want)⟩ :: rest) st K ↔ GC (x9 ops st.env j want) fun g => d < F.N ∧ (pickA st.env g c x y).1 ∧ zh F ops rest (st.put (some d) (.cond g (pickA st.env g c x y).2)) K := by
 show (match x9 ops st.env j want with
  | some g => z5i F ⟨some d, .pick c x y, ty, pos, aft, some (j, want)⟩ g st (fun st' => zh F ops rest st' K)
  | none => False) ↔ _
 unfold GC
 cases x9 ops st.env j want <;> exact Iff.rfl
def CallG (F : FC) (objs : Nat → Option AObj) (f : AV) (xs : List AV) (g : Bool) (gd : Prop) (C : List Dat → Prop) : Prop := match f with
 | .fn h caps => ∃ rs ds, qu objs (xs ++ caps) rs = some ds ∧ (g = true → gd ∧ zl F.P F.G h ds rs) ∧ C rs
 | _ => False
theorem CallG.use {F : FC} {objs : Nat → Option AObj} {h : FuncId} {caps xs : List AV} {g : Bool} {gd : Prop} {C : List Dat → Prop} {ds rs : List Dat} (ha : qu objs (xs ++ caps) rs = some ds) (hg : g = true → gd ∧ zl F.P F.G h ds rs) (hc : C rs) : CallG F objs (.fn h caps) xs g gd C := ⟨rs, ds, ha, hg, hc⟩
theorem zr5 (dst : Option Nat) (f : Operand) (args : List Operand) (ts : Array TypeId) : zh F ops (⟨dst, .call ⟨.value f, args.toArray, ts⟩, ty, pos, aft, some (j, want)⟩ :: rest) st K ↔
  GC (x9 ops st.env j want) fun g => dstOK F dst ∧ CallG F st.objs (evA st.env f).strip (args.map fun x => (evA st.env x).strip) g (gdAll st.env (f :: args)) fun rs => zh F ops rest (st.put dst (.cond g (retA rs))) K := by
 show (match x9 ops st.env j want with
  | some g => z5i F ⟨dst, .call ⟨.value f, args.toArray, ts⟩, ty, pos, aft, some (j, want)⟩ g st (fun st' => zh F ops rest st' K)
  | none => False) ↔ _
 unfold GC
 cases x9 ops st.env j want with
 | none => exact Iff.rfl
 | some g =>
  simp only
  unfold z5i CallG
  simp only
  cases (evA st.env f).strip with
  | fn h caps =>
   simp only
   constructor
   ·rintro ⟨rs, ds, h1, h2, h3, h4⟩; exact ⟨h3, rs, ds, h1, h2, h4⟩
   ·rintro ⟨h3, rs, ds, h1, h2, h4⟩; exact ⟨rs, ds, h1, h2, h3, h4⟩
  | _ => simp
end
end Go.Av

