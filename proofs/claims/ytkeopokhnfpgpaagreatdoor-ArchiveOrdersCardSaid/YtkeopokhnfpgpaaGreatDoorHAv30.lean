/- A part of the proof. -/
import Derived.Test.YtkeopokhnfpgpaaGreatDoorHAv29
import Derived.IntWalk
set_option linter.all false
namespace Go.Av
theorem zty {α : Type} [Inhabited α] (f : α → Dat) (l : List α) (i : Nat) (d : Dat) (h : i < l.length) : ((l.map f)[i]?).getD d = f (l.getD i default) := by
 simp [List.getD_eq_getElem?_getD, List.getElem?_eq_getElem h]
abbrev iD (n : Int) : Dat := .int .i64 n
abbrev isD (l : List Int) : Dat := .sl (l.map (Dat.int .i64))
def I64 (n : Int) : Prop := -9223372036854775808 ≤ n ∧ n ≤ 9223372036854775807
theorem zsp : AV.cells .junk = [.junk] := rfl
theorem zw7 (l : List AV) : AV.cells (.agg l) = l := rfl
theorem zso (l : List Dat) : AV.cells (.dat (.agg l)) = l.map .dat := rfl
theorem zw9 (k : IntKind) (n : Int) : AV.cells (.dat (.int k n)) = [.dat (.int k n)] := rfl
theorem zsn (b : Bool) : AV.cells (.dat (.bool b)) = [.dat (.bool b)] := rfl
theorem zwf (b : ByteArray) : AV.cells (.dat (.str b)) = [.dat (.str b)] := rfl
theorem zxv (l : List Dat) : AV.cells (.dat (.sl l)) = [.dat (.sl l)] := rfl
theorem zwe (d : Dat) : AV.cells (.dat (.ref d)) = [.dat (.ref d)] := rfl
theorem zsr : AV.cells (.dat .nilp) = [.dat .nilp] := rfl
theorem zw8 (f : FuncId) (l : List Dat) : AV.cells (.dat (.fn f l)) = [.dat (.fn f l)] := rfl
theorem zsq : AV.cells (.dat .nilI) = [.dat .nilI] := rfl
theorem znm (t : TypeId) (d : Dat) : AV.cells (.dat (.iface t d)) = [.dat (.iface t d)] := rfl
theorem zwb (i es off len : Nat) : AV.cells (.osl i es off len) = [.osl i es off len] := rfl
theorem zss : AV.cells .nils = [.nils] := rfl
theorem zwc (i es k off : Nat) : AV.cells (.ptr i es k off) = [.ptr i es k off] := rfl
theorem zxu (d : Dat) (o : Nat) : AV.cells (.rp d o) = [.rp d o] := rfl
theorem zxt (d : Nat) (o : Nat) : AV.cells (.gl d o) = [.gl d o] := rfl
theorem zxs (f : FuncId) (l : List AV) : AV.cells (.fn f l) = [.fn f l] := rfl
theorem zwd (v : Value) : AV.cells (.raw v) = [.raw v] := rfl
theorem zwa (d : Dat) : (AV.cells (.dat d)).length = d.cells.length := by rw [xt]; simp
theorem zxf (d : Dat) : AV.storable (.dat d) = true := rfl
theorem zo1 : vz [] = some [] := rfl
theorem zke (d : Dat) (l : List AV) : vz (.dat d :: l) = (vz l).map (d :: ·) := rfl
theorem zdd (ds : List Dat) (l : List AV) : vz (ds.map .dat ++ l) = (vz l).map (ds ++ ·) := by
 induction ds with
 | nil => simp
 | cons d ds ih => simp only [List.map_cons, List.cons_append, vz, ih]; cases vz l <;> rfl
theorem zo2 (i es off len : Nat) (l : List AV) : vz (.osl i es off len :: l) = none := rfl
theorem zkf (l : List AV) : vz (.nils :: l) = none := rfl
theorem zo0 (x l : List AV) : vz (.agg x :: l) = none := rfl
theorem zo3 (i es k off : Nat) (l : List AV) : vz (.ptr i es k off :: l) = none := rfl
theorem zsv (f : FuncId) (c l : List AV) : vz (.fn f c :: l) = none := rfl
theorem xn (objs : Nat → Option AObj) (n : Nat) (d : Dat) : wb objs n (.dat d) = some d := by cases n <;> rfl
theorem qy (objs : Nat → Option AObj) (n : Nat) : wb objs n .nils = some (.sl []) := by cases n <;> rfl
theorem wy (objs : Nat → Option AObj) (n : Nat) (d : Dat) : wb objs n (.rp d 0) = some (.ref d) := by cases n <;> rfl
theorem xk (objs : Nat → Option AObj) (n id es off len : Nat) : wb objs (n + 1) (.osl id es off len) = match objs id with
   | some o => if o.es = es ∧ off + len ≤ o.elems.length then (xx (wb objs n) ((o.elems.drop off).take len)).map .sl else none
   | none => none := rfl
theorem xq (objs : Nat → Option AObj) (n id es k : Nat) : wb objs (n + 1) (.ptr id es k 0) = match objs id with
   | some o => if o.es = es then (match o.elems[k]? with
    | some x => (wb objs n x).map .ref
    | none => none) else none
   | none => none := rfl
theorem xm (objs : Nat → Option AObj) (n : Nat) (l : List AV) : wb objs (n + 1) (.agg l) = match xx (wb objs n) l with
   | some ds => if ds.all (fun d => !d.isAgg) then some (.agg ds) else none
   | none => none := rfl
theorem xp (objs : Nat → Option AObj) (n id es k off len cap : Nat) : wb objs (n + 1) (.isl id es k off len cap) = match objs id with
   | some o => if o.es = es then (match o.elems[k]? with
    | some (.dat (.agg l)) => if off + len ≤ l.length then some (.sl ((l.drop off).take len)) else none
    | _ => none) else none
   | none => none := rfl
theorem wx (objs : Nat → Option AObj) (n : Nat) (f : FuncId) (caps : List AV) : wb objs (n + 1) (.fn f caps) = (xx (wb objs n) caps).map (.fn f) := rfl
theorem xr (f : AV → Option Dat) (ds : List Dat) : xx f (ds.map .dat) = some ds := by simp [xx]
theorem w3 (f : AV → Option Dat) (ds : List Dat) (d : Dat) : xx f (ds.map .dat ++ [.dat d]) = some (ds ++ [d]) := by simp [xx, zdd, vz]
theorem qh (f : AV → Option Dat) : km f [] = some [] := rfl
theorem q9 (f : AV → Option Dat) (x : AV) (l : List AV) : km f (x :: l) = match f x, km f l with
   | some d, some ds => some (d :: ds)
   | _, _ => none := rfl
theorem zru {α β : Type} (f : α → β) (l : List α) (n : Nat) : (l.map f).take n = (l.take n).map f := by rw [List.map_take]
theorem zo7 {α β : Type} (f : α → β) (l : List α) (n : Nat) : (l.map f).drop n = (l.drop n).map f := by rw [List.map_drop]
theorem zrt {α : Type} (l : List α) (n : Nat) (h : l.length ≤ n) : l.take n = l := List.take_of_length_le h
end Go.Av

