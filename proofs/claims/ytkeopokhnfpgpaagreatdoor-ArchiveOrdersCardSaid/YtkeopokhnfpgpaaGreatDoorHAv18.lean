/- A part of the proof. -/
import Derived.Test.YtkeopokhnfpgpaaGreatDoorHP2
set_option linter.all false
namespace Go.Av
def AV.strip : AV → AV
 | .cond _ x => x
 | x => x
def AV.gd : AV → Bool
 | .cond b _ => b
 | _ => true
theorem Zw {β : zg} {S : Nat → Nat → Prop} {w : World} {x : AV} {v : Value} (h : RepA β S w x v) (hg : x.gd = true) : RepA β S w x.strip v := by
 cases x <;> simp_all [AV.strip, AV.gd]
 simp only [RepA] at h
 exact h.1 trivial
def gdAll (env : Nat → AV) : List Operand → Prop
 | [] => True
 | x :: l => (evA env x).gd = true ∧ gdAll env l
theorem z46 {env : Nat → AV} : ∀ {l : List Operand}, gdAll env l → ∀ x ∈ l, (evA env x).gd = true
 | [], _, x, hx => by simp at hx
 | y :: l, h, x, hx => by
  simp only [gdAll] at h
  rcases List.mem_cons.1 hx with rfl | hx
  ·exact h.1
  ·exact z46 h.2 x hx
def asB : AV → Option Bool
 | .dat (.bool b) => some b
 | _ => none
def z59 (c x y : Bool) : Bool := (c && x) || (!c && y)
@[simp] theorem pickB_true (c y : Bool) : z59 c true y = (c || y) := by cases c <;> simp [z59]
@[simp] theorem pickB_false (c x : Bool) : z59 c x false = (c && x) := by cases c <;> simp [z59]
def pickA (env : Nat → AV) (g : Bool) (c a b : Operand) : VR :=
 match asB (evA env c).strip, asB (evA env a).strip, asB (evA env b).strip with
 | some cb, some x, some y => ((g = true → (evA env c).gd = true) ∧ (g = true → cb = true → (evA env a).gd = true) ∧ (g = true → cb = false → (evA env b).gd = true), .dat (.bool (z59 cb x y)))
 | _, _, _ => .bad
theorem zac {P : Program} {β : zg} {S : Nat → Nat → Prop} {w : World} {env : Nat → AV} {a : Act} (he : ∀ n, RepA β S w (env n) (a.tmps.getD n undef)) {o : Oper} {c x y : Operand} (ho : o.op = .pick c x y) {g : Bool} (hg : g = true) (h : (pickA env g c x y).1) :
  ∃ r, (execOp a.eval o).run P w = .ok (.value r) w ∧ RepA β S w (pickA env g c x y).2 r := by
 unfold pickA at h ⊢
 split at h <;> try (simp [VR.bad] at h; done)
 rename_i cb xb yb hc hx hy
 simp only [hg, true_implies] at h
 obtain ⟨h1, h2, h3⟩ := h
 have asb : ∀ {z : AV} {b : Bool}, asB z = some b → z = .dat (.bool b) := fun {z b} h => by
  unfold asB at h
  split at h
  ·simp only [Option.some.injEq] at h; subst h; rfl
  ·simp at h
 have rc := Zw (qj he c) h1
 rw [asb hc] at rc
 simp only [RepA, RepX] at rc ⊢
 refine ⟨.bool (z59 cb xb yb), ?_, rfl⟩
 cases cb
 ·have ry := Zw (qj he y) (h3 rfl)
  rw [asb hy] at ry
  simp only [RepA, RepX] at ry
  simp [execOp, ho, asBool, rc, ry, z59]
 ·have rx := Zw (qj he x) (h2 rfl)
  rw [asb hx] at rx
  simp only [RepA, RepX] at rx
  simp [execOp, ho, asBool, rc, rx, z59]
def x9 (ops : Array Oper) (env : Nat → AV) (j : Nat) (want : Bool) : Option Bool :=
 match (ops[j]?).bind (·.dst) with
 | some s => match env s with
  | .dat (.bool b) => some (b == want)
  | .cond c (.dat (.bool b)) => some (c && (b == want))
  | _ => none
 | none => none
def appendLC (F : FC) (d : Nat) (j : TI) (s x : AV) (st : ASt) (K : ASt → Prop) : Prop :=
 match zeroA j, s, srcA st.objs x with
 | some z, .lits l, some xs => match vz xs with
  | some ds => ((d < F.N ∧ z.storable = true ∧ z.cells.length = j.size) ∧ (∀ y ∈ l, y.cells.length = j.size) ∧ (∀ y ∈ ds, y.cells.length = j.size) ∧
    (match x with
      | .osl id es _ len => es = j.size ∧ xs.length = len ∧ (match st.objs id with | some o => o.es = j.size | none => False)
      | _ => True) ∧
    (l.length + ds.length) * j.bytes ≤ 140737488355328 ∧ l.length + ds.length ≤ 9223372036854775807) ∧ K (st.put (some d) (.dat (.sl (l ++ ds))))
  | none => False
 | _, _, _ => False
def zcp (F : FC) : Option Nat → Prop
 | some d => d ∈ F.lits
 | none => False
def j3 (F : FC) (o : Oper) (st : ASt) (K : ASt → Prop) : Prop :=
 match o.op with
 | .pick c a b => dstOK F o.dst ∧ (pickA st.env true c a b).1 ∧ K (st.put o.dst (pickA st.env true c a b).2)
 | .alloc t => match o.dst, ti F.P t with
  | some d, some i => match zeroA i with
   | some z => (d < F.N ∧ z.storable = true ∧ z.cells.length = i.size) ∧ K (((st.kill d).obj d ⟨i.size, [z.kill d]⟩).put (some d) (.ptr d i.size 0 0))
   | none => False
  | _, _ => False
 | .box _ y => match o.dst with
  | some d => (d < F.N ∧ (evA st.env y).storable = true) ∧ K (((st.kill d).obj d ⟨(evA st.env y).cells.length, [(evA st.env y).kill d]⟩).put (some d) (.ptr d (evA st.env y).cells.length 0 0))
  | none => False
 | .buildSlice t len parts => match o.dst, ti F.P t with
  | some d, some i => match i.tk with
   | .slice e => match ti F.P e with
    | some j => match j.zero with
     | some z => (d < F.N ∧ len = parts.size ∧ z.length = j.size ∧ len * j.size ≤ 16777216 ∧ parts.toList.map (·.1) = List.range len) ∧
      (if d ∈ F.rows then (∀ x ∈ parts.toList.map (fun p => evA st.env p.2), x.storable = true ∧ x.cells.length = j.size) ∧ K (((st.kill d).obj d ⟨j.size, (parts.toList.map fun p => evA st.env p.2).map (AV.kill d)⟩).put (some d) (.osl d j.size 0 len))
      else if len = 0 then K (st.put (some d) .nils) else match vz (parts.toList.map fun p => evA st.env p.2) with
      | some ds => (∀ x ∈ ds, x.cells.length = j.size) ∧ K (st.put (some d) (if d ∈ F.lits then .lits ds else .dat (.sl ds)))
      | none => False)
     | none => False
    | none => False
   | _ => False
  | _, _ => False
 | .makeSlice t ln cp => match o.dst, ti F.P t with
  | some d, some i => match i.tk with
   | .slice e => match ti F.P e with
    | some j => match zeroA j, evA st.env ln, evA st.env cp with
     | some z, .dat (.int _ n), .dat (.int _ m) => (d < F.N ∧ z.storable = true ∧ z.cells.length = j.size ∧ 0 ≤ n ∧ n ≤ m ∧ m * j.bytes ≤ 281474976710656 ∧ m ≤ 9223372036854775807) ∧
      K (((st.kill d).obj d ⟨j.size, (List.replicate n.toNat z).map (AV.kill d)⟩).put (some d) (.osl d j.size 0 n.toNat))
     | _, _, _ => False
    | none => False
   | _ => False
  | _, _ => False
 | .store t ad x => match o.dst, ti F.P t, evA st.env ad with
  | none, some i, .ptr id es k off => match st.objs id with
   | some ob => ((ob.es = es ∧ k < ob.elems.length) ∧ (evA st.env x).storable = true ∧ (evA st.env x).cells.length = i.size ∧ off + i.size ≤ ((ob.elems[k]?).getD .junk).cells.length) ∧
    K (st.obj id ⟨es, ob.elems.set k (storeW (evA st.env x) off ((ob.elems[k]?).getD .junk))⟩)
   | none => False
  | _, _, _ => False
 | .call { callee := .builtin .append, args := ⟨[s, x]⟩, argTypes := ⟨[t, t']⟩ } => match o.dst, ti F.P t, ti F.P t' with
  | some d, some i, some i' => match i.tk, i'.tk.srcK with
   | .slice e, .slice _ => match ti F.P e with
    | some j => if d ∈ F.lits then appendLC F d j (evA st.env s) (evA st.env x) st K else match zeroA j, baseA st.objs j.size (evA st.env s), srcA st.objs (evA st.env x) with
     | some z, some (old, olds), some xs => ((d ∈ F.apps → evA st.env s = .nils) ∧ (d < F.N ∧ z.storable = true ∧ z.cells.length = j.size) ∧ (∀ y ∈ xs, y.cells.length = j.size) ∧
       (match evA st.env x with
         | .osl id es _ len => es = j.size ∧ xs.length = len ∧ (match st.objs id with | some o => o.es = j.size | none => False)
         | _ => True) ∧
       (olds.length + xs.length) * j.bytes ≤ 140737488355328 ∧ olds.length + xs.length ≤ 9223372036854775807) ∧ K (appSt st d j.size old (olds ++ xs))
     | _, _, _ => False
    | none => False
   | _, _ => False
  | _, _, _ => False
 | .call { callee := .value f, args := args, argTypes := _ } => match callee st.env f args.toList with
  | some (g, xs) => (∃ rs ds, qu st.objs xs rs = some ds ∧ zl F.P F.G g ds rs ∧ dstOK F o.dst ∧ K (st.put o.dst (retA rs))) ∨
    (∃ ys m os os' rs, zcp F o.dst ∧ renL m ys = xs ∧ Lent st.objs m os os' ∧ zfr F.P F.G g ys os rs os' ∧ dstOK F o.dst ∧ K ((st.objsM m os').put o.dst (retA rs))) ∨
    ∃ ys m news os os' rs, zcp F o.dst ∧ renL m ys = xs ∧ LentX F st.objs m news os os' ∧ GivesX F.P F.G g ys os rs os' ∧ dstOK F o.dst ∧ K ((st.backX m news os os').put o.dst (z0s (renL m rs)))
  | none => False
 | op => (dstOK F o.dst ∧ (opV F st.objs (evA st.env) op).1) ∧ K (st.put o.dst (opV F st.objs (evA st.env) op).2)
def z5i (F : FC) (o : Oper) (g : Bool) (st : ASt) (K : ASt → Prop) : Prop :=
 match o.op with
 | .pick c a b => dstOK F o.dst ∧ (pickA st.env g c a b).1 ∧ K (st.put o.dst (.cond g (pickA st.env g c a b).2))
 | .call { callee := .value f, args := args, argTypes := _ } => match (evA st.env f).strip with
  | .fn h caps => ∃ rs ds, qu st.objs (args.toList.map (fun x => (evA st.env x).strip) ++ caps) rs = some ds ∧ (g = true → gdAll st.env (f :: args.toList) ∧ zl F.P F.G h ds rs) ∧ dstOK F o.dst ∧ K (st.put o.dst (.cond g (retA rs)))
  | _ => False
 | op => (dstOK F o.dst ∧ (g = true → gdAll st.env op.operands.toList ∧ (opV F st.objs (fun x => (evA st.env x).strip) op).1)) ∧ K (st.put o.dst (.cond g (opV F st.objs (fun x => (evA st.env x).strip) op).2))
def wn (F : FC) (ops : Array Oper) (o : Oper) (st : ASt) (K : ASt → Prop) : Prop :=
 match o.guard with
 | none => j3 F o st K
 | some (j, want) => match x9 ops st.env j want with
  | some g => z5i F o g st K
  | none => False
def zh (F : FC) (ops : Array Oper) : List Oper → ASt → (ASt → Prop) → Prop
 | [], st, K => K st
 | o :: rest, st, K => wn F ops o st fun st' => zh F ops rest st' K
theorem zre {F : FC} {o : Oper} {st : ASt} {a : Act} {w : World} {R : Act → World → Prop} {Q : Exit → Act → World → Prop} (hs : Sim F st a w) (hd : dstOK F o.dst) (h : (opV F st.objs (evA st.env) o.op).1)
  (hR : ∀ a' w', Sim F (st.put o.dst (opV F st.objs (evA st.env) o.op).2) a' w' → R a' w') : o.wpIn F.fence 0 F.P a w R Q :=
 StepOK.of_value (st1 := st) hd rfl (fun β S a w hsim => by
  obtain ⟨r, h1, h2⟩ := zjf (o := o) hsim (ρ := evA st.env) (fun x _ => qj hsim.env x) h
  exact ⟨r, w, β, S, h1, h2, hsim⟩) a w hs R Q hR
end Go.Av

