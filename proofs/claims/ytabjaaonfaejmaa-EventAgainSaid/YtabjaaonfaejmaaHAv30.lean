/- Small equations for walks. -/
import Derived.Test.YtabjaaonfaejmaaHAv29
import Derived.IntWalk
set_option linter.all false
namespace Go.Av
theorem nth_map {α : Type} [Inhabited α] (f : α → Dat) (l : List α) (i : Nat) (d : Dat) (h : i < l.length) : ((l.map f)[i]?).getD d = f (l.getD i default) := by
  simp [List.getD_eq_getElem?_getD, List.getElem?_eq_getElem h]
abbrev iD (n : Int) : Dat := .int .i64 n
abbrev isD (l : List Int) : Dat := .sl (l.map (Dat.int .i64))
def I64 (n : Int) : Prop := -9223372036854775808 ≤ n ∧ n ≤ 9223372036854775807
theorem cA_junk : AV.cells .junk = [.junk] := rfl
theorem cA_agg (l : List AV) : AV.cells (.agg l) = l := rfl
theorem cA_dagg (l : List Dat) : AV.cells (.dat (.agg l)) = l.map .dat := rfl
theorem cA_int (k : IntKind) (n : Int) : AV.cells (.dat (.int k n)) = [.dat (.int k n)] := rfl
theorem cA_bool (b : Bool) : AV.cells (.dat (.bool b)) = [.dat (.bool b)] := rfl
theorem cA_str (b : ByteArray) : AV.cells (.dat (.str b)) = [.dat (.str b)] := rfl
theorem cA_sl (l : List Dat) : AV.cells (.dat (.sl l)) = [.dat (.sl l)] := rfl
theorem cA_ref (d : Dat) : AV.cells (.dat (.ref d)) = [.dat (.ref d)] := rfl
theorem cA_nilp : AV.cells (.dat .nilp) = [.dat .nilp] := rfl
theorem cA_fnd (f : FuncId) (l : List Dat) : AV.cells (.dat (.fn f l)) = [.dat (.fn f l)] := rfl
theorem cA_nilI : AV.cells (.dat .nilI) = [.dat .nilI] := rfl
theorem cA_iface (t : TypeId) (d : Dat) : AV.cells (.dat (.iface t d)) = [.dat (.iface t d)] := rfl
theorem cA_osl (i es off len : Nat) : AV.cells (.osl i es off len) = [.osl i es off len] := rfl
theorem cA_nils : AV.cells .nils = [.nils] := rfl
theorem cA_ptr (i es k off : Nat) : AV.cells (.ptr i es k off) = [.ptr i es k off] := rfl
theorem cA_rp (d : Dat) (o : Nat) : AV.cells (.rp d o) = [.rp d o] := rfl
theorem cA_gl (d : Nat) (o : Nat) : AV.cells (.gl d o) = [.gl d o] := rfl
theorem cA_fn (f : FuncId) (l : List AV) : AV.cells (.fn f l) = [.fn f l] := rfl
theorem cA_raw (v : Value) : AV.cells (.raw v) = [.raw v] := rfl
theorem cA_len (d : Dat) : (AV.cells (.dat d)).length = d.cells.length := by rw [dat_cells]; simp
theorem st_dat (d : Dat) : AV.storable (.dat d) = true := rfl
theorem datE_nil : datE [] = some [] := rfl
theorem datE_cons (d : Dat) (l : List AV) : datE (.dat d :: l) = (datE l).map (d :: ·) := rfl
theorem datE_app (ds : List Dat) (l : List AV) : datE (ds.map .dat ++ l) = (datE l).map (ds ++ ·) := by
  induction ds with
  | nil => simp
  | cons d ds ih => simp only [List.map_cons, List.cons_append, datE, ih]; cases datE l <;> rfl
theorem datE_osl (i es off len : Nat) (l : List AV) : datE (.osl i es off len :: l) = none := rfl
theorem datE_nils (l : List AV) : datE (.nils :: l) = none := rfl
theorem datE_agg (x l : List AV) : datE (.agg x :: l) = none := rfl
theorem datE_ptr (i es k off : Nat) (l : List AV) : datE (.ptr i es k off :: l) = none := rfl
theorem datE_fn (f : FuncId) (c l : List AV) : datE (.fn f c :: l) = none := rfl
theorem vD_dat (objs : Nat → Option AObj) (n : Nat) (d : Dat) : viewD objs n (.dat d) = some d := by cases n <;> rfl
theorem vD_nils (objs : Nat → Option AObj) (n : Nat) : viewD objs n .nils = some (.sl []) := by cases n <;> rfl
theorem vD_rp (objs : Nat → Option AObj) (n : Nat) (d : Dat) : viewD objs n (.rp d 0) = some (.ref d) := by cases n <;> rfl
theorem vD_osl (objs : Nat → Option AObj) (n id es off len : Nat) : viewD objs (n + 1) (.osl id es off len) = match objs id with
      | some o => if o.es = es ∧ off + len ≤ o.elems.length then (viewL (viewD objs n) ((o.elems.drop off).take len)).map .sl else none
      | none => none := rfl
theorem vD_ptr (objs : Nat → Option AObj) (n id es k : Nat) : viewD objs (n + 1) (.ptr id es k 0) = match objs id with
      | some o => if o.es = es then (match o.elems[k]? with
        | some x => (viewD objs n x).map .ref
        | none => none) else none
      | none => none := rfl
theorem vD_agg (objs : Nat → Option AObj) (n : Nat) (l : List AV) : viewD objs (n + 1) (.agg l) = match viewL (viewD objs n) l with
      | some ds => if ds.all (fun d => !d.isAgg) then some (.agg ds) else none
      | none => none := rfl
theorem vD_isl (objs : Nat → Option AObj) (n id es k off len cap : Nat) : viewD objs (n + 1) (.isl id es k off len cap) = match objs id with
      | some o => if o.es = es then (match o.elems[k]? with
        | some (.dat (.agg l)) => if off + len ≤ l.length then some (.sl ((l.drop off).take len)) else none
        | _ => none) else none
      | none => none := rfl
theorem vD_fn (objs : Nat → Option AObj) (n : Nat) (f : FuncId) (caps : List AV) : viewD objs (n + 1) (.fn f caps) = (viewL (viewD objs n) caps).map (.fn f) := rfl
theorem vL_dat (f : AV → Option Dat) (ds : List Dat) : viewL f (ds.map .dat) = some ds := by simp [viewL]
theorem vL_app (f : AV → Option Dat) (ds : List Dat) (d : Dat) : viewL f (ds.map .dat ++ [.dat d]) = some (ds ++ [d]) := by simp [viewL, datE_app, datE]
theorem mapO_nil (f : AV → Option Dat) : mapO f [] = some [] := rfl
theorem mapO_cons (f : AV → Option Dat) (x : AV) (l : List AV) : mapO f (x :: l) = match f x, mapO f l with
      | some d, some ds => some (d :: ds)
      | _, _ => none := rfl
theorem take_map {α β : Type} (f : α → β) (l : List α) (n : Nat) : (l.map f).take n = (l.take n).map f := by rw [List.map_take]
theorem drop_map {α β : Type} (f : α → β) (l : List α) (n : Nat) : (l.map f).drop n = (l.drop n).map f := by rw [List.map_drop]
theorem take_len {α : Type} (l : List α) (n : Nat) (h : l.length ≤ n) : l.take n = l := List.take_of_length_le h
end Go.Av

