/- A part of the proof. -/
import Derived.Test.YtabjaaonfaejmaaGreatDoorHAv29
import Derived.IntWalk
set_option linter.all false
namespace Go.Av
theorem zv1 {α : Type} [Inhabited α] (f : α → Dat) (l : List α) (i : Nat) (d : Dat) (h : i < l.length) : ((l.map f)[i]?).getD d = f (l.getD i default) := by
 simp [List.getD_eq_getElem?_getD, List.getElem?_eq_getElem h]
abbrev iD (n : Int) : Dat := .int .i64 n
abbrev isD (l : List Int) : Dat := .sl (l.map (Dat.int .i64))
def I64 (n : Int) : Prop := -9223372036854775808 ≤ n ∧ n ≤ 9223372036854775807
theorem ztv : AV.cells .junk = [.junk] := rfl
theorem zx9 (l : List AV) : AV.cells (.agg l) = l := rfl
theorem ztu (l : List Dat) : AV.cells (.dat (.agg l)) = l.map .dat := rfl
theorem zxb (k : IntKind) (n : Int) : AV.cells (.dat (.int k n)) = [.dat (.int k n)] := rfl
theorem ztt (b : Bool) : AV.cells (.dat (.bool b)) = [.dat (.bool b)] := rfl
theorem zxh (b : ByteArray) : AV.cells (.dat (.str b)) = [.dat (.str b)] := rfl
theorem zyw (l : List Dat) : AV.cells (.dat (.sl l)) = [.dat (.sl l)] := rfl
theorem zxg (d : Dat) : AV.cells (.dat (.ref d)) = [.dat (.ref d)] := rfl
theorem ztx : AV.cells (.dat .nilp) = [.dat .nilp] := rfl
theorem zxa (f : FuncId) (l : List Dat) : AV.cells (.dat (.fn f l)) = [.dat (.fn f l)] := rfl
theorem ztw : AV.cells (.dat .nilI) = [.dat .nilI] := rfl
theorem zq7 (t : TypeId) (d : Dat) : AV.cells (.dat (.iface t d)) = [.dat (.iface t d)] := rfl
theorem zxd (i es off len : Nat) : AV.cells (.osl i es off len) = [.osl i es off len] := rfl
theorem zty : AV.cells .nils = [.nils] := rfl
theorem zxe (i es k off : Nat) : AV.cells (.ptr i es k off) = [.ptr i es k off] := rfl
theorem zyv (d : Dat) (o : Nat) : AV.cells (.rp d o) = [.rp d o] := rfl
theorem zyu (d : Nat) (o : Nat) : AV.cells (.gl d o) = [.gl d o] := rfl
theorem zyt (f : FuncId) (l : List AV) : AV.cells (.fn f l) = [.fn f l] := rfl
theorem zxf (v : Value) : AV.cells (.raw v) = [.raw v] := rfl
theorem zxc (d : Dat) : (AV.cells (.dat d)).length = d.cells.length := by rw [wq]; simp
theorem zyo (d : Dat) : AV.storable (.dat d) = true := rfl
theorem zqg : j6 [] = some [] := rfl
theorem zmu (d : Dat) (l : List AV) : j6 (.dat d :: l) = (j6 l).map (d :: ·) := rfl
theorem zga (ds : List Dat) (l : List AV) : j6 (ds.map .dat ++ l) = (j6 l).map (ds ++ ·) := by
 induction ds with
 | nil => simp
 | cons d ds ih => simp only [List.map_cons, List.cons_append, j6, ih]; cases j6 l <;> rfl
theorem zqh (i es off len : Nat) (l : List AV) : j6 (.osl i es off len :: l) = none := rfl
theorem zmv (l : List AV) : j6 (.nils :: l) = none := rfl
theorem zqf (x l : List AV) : j6 (.agg x :: l) = none := rfl
theorem zqi (i es k off : Nat) (l : List AV) : j6 (.ptr i es k off :: l) = none := rfl
theorem ztz (f : FuncId) (c l : List AV) : j6 (.fn f c :: l) = none := rfl
theorem xu (objs : Nat → Option AObj) (n : Nat) (d : Dat) : vc objs n (.dat d) = some d := by cases n <;> rfl
theorem qx (objs : Nat → Option AObj) (n : Nat) : vc objs n .nils = some (.sl []) := by cases n <;> rfl
theorem vg (objs : Nat → Option AObj) (n : Nat) (d : Dat) : vc objs n (.rp d 0) = some (.ref d) := by cases n <;> rfl
theorem xk (objs : Nat → Option AObj) (n id es off len : Nat) : vc objs (n + 1) (.osl id es off len) = match objs id with
   | some o => if o.es = es ∧ off + len ≤ o.elems.length then (xd (vc objs n) ((o.elems.drop off).take len)).map .sl else none
   | none => none := rfl
theorem xx (objs : Nat → Option AObj) (n id es k : Nat) : vc objs (n + 1) (.ptr id es k 0) = match objs id with
   | some o => if o.es = es then (match o.elems[k]? with
    | some x => (vc objs n x).map .ref
    | none => none) else none
   | none => none := rfl
theorem xt (objs : Nat → Option AObj) (n : Nat) (l : List AV) : vc objs (n + 1) (.agg l) = match xd (vc objs n) l with
   | some ds => if ds.all (fun d => !d.isAgg) then some (.agg ds) else none
   | none => none := rfl
theorem xw (objs : Nat → Option AObj) (n id es k off len cap : Nat) : vc objs (n + 1) (.isl id es k off len cap) = match objs id with
   | some o => if o.es = es then (match o.elems[k]? with
    | some (.dat (.agg l)) => if off + len ≤ l.length then some (.sl ((l.drop off).take len)) else none
    | _ => none) else none
   | none => none := rfl
theorem vf (objs : Nat → Option AObj) (n : Nat) (f : FuncId) (caps : List AV) : vc objs (n + 1) (.fn f caps) = (xd (vc objs n) caps).map (.fn f) := rfl
theorem xh (f : AV → Option Dat) (ds : List Dat) : xd f (ds.map .dat) = some ds := by simp [xd]
theorem xy (f : AV → Option Dat) (ds : List Dat) (d : Dat) : xd f (ds.map .dat ++ [.dat d]) = some (ds ++ [d]) := by simp [xd, zga, j6]
theorem qg (f : AV → Option Dat) : Qf f [] = some [] := rfl
theorem qa (f : AV → Option Dat) (x : AV) (l : List AV) : Qf f (x :: l) = match f x, Qf f l with
   | some d, some ds => some (d :: ds)
   | _, _ => none := rfl
theorem ztb {α β : Type} (f : α → β) (l : List α) (n : Nat) : (l.map f).take n = (l.take n).map f := by rw [List.map_take]
theorem zqm {α β : Type} (f : α → β) (l : List α) (n : Nat) : (l.map f).drop n = (l.drop n).map f := by rw [List.map_drop]
theorem zta {α : Type} (l : List α) (n : Nat) (h : l.length ≤ n) : l.take n = l := List.take_of_length_le h
end Go.Av

