/- A part of the proof. -/
import Derived.Test.YtkeopokhnfpgpaaGreatDoorHAv51
set_option linter.all false
namespace Go.Av
theorem SimB.storeRow {F : FC} {β : zg} {S : Nat → Nat → Prop} {st : ASt} {tm : Array Value} {w : World} (hsim : SimB F β S st tm w) {id k off b s : Nat} {ob : AObj} {old new : AV} {xs : List AV} {vs : List Value} (hob : st.objs id = some ob) (hb : β id = some (b, s))
  (hcl : ∃ arr e, w.heap[b]? = some (.cells arr e (0, 0))) (hold' : ob.elems[k]? = some old) (hxc : RepAL β S w xs vs) (hx1 : ∀ v ∈ vs, v.oneCell' = true) (hoff : off + vs.length ≤ old.cells.length)
  (hnew : new.cells = old.cells.take off ++ xs ++ old.cells.drop (off + vs.length)) :
  ∃ arr e, w.heap[b]? = some (.cells arr e (0, 0)) ∧ s + k * ob.es + off + vs.length ≤ arr.size ∧
   SimB F β S (st.obj id ⟨ob.es, ob.elems.set k new⟩) tm (w.setRow b (arr.toList.take (s + k * ob.es + off) ++ vs ++ arr.toList.drop (s + k * ob.es + off + vs.length)).toArray) := by
 rcases hsim.obj id ob hob with ⟨hn, _⟩ | ⟨b', s', arr, e, hb', hw, hh, hz, hel⟩ | hm
 rotate_left 2
 ·exact (hm.noCells hb hcl).elim
 ·rw [hn] at hb; cases hb
 rw [hb'] at hb
 simp only [Option.some.injEq, Prod.mk.injEq] at hb
 obtain ⟨rfl, rfl⟩ := hb
 have hk : k < ob.elems.length := (List.getElem?_eq_some_iff.1 hold').1
 have hold := hel k _ hold'
 have hvl : xs.length = vs.length := (zy hxc).symm
 have hkz : s' + k * ob.es + ob.es ≤ arr.size := by
  have : (k + 1) * ob.es ≤ ob.elems.length * ob.es := Nat.mul_le_mul_right _ hk
  rw [Nat.add_mul] at this
  omega
 have hstl : s' + k * ob.es + off + vs.length ≤ arr.size := by have := hold.1; omega
 let cs : Array Value := (arr.toList.take (s' + k * ob.es + off) ++ vs ++ arr.toList.drop (s' + k * ob.es + off + vs.length)).toArray
 have hcs : cs.size = arr.size := by simp only [cs, List.size_toArray, List.length_append, List.length_take, List.length_drop, Array.length_toList] at hstl ⊢; omega
 refine ⟨arr, e, hh, hstl, hsim.setElems hob hb' hh hcs (by simpa using hz) fun q y hy => ?_⟩
 rw [List.getElem?_set] at hy
 have hn : ∀ j c, new.cells[j]? = some c → ∃ v, cs[s' + k * ob.es + j]? = some v ∧ v.oneCell' = true ∧ RepA β S w c v := fun j c hj => by
  rw [hnew] at hj
  simp only [cs]
  rw [Z4 (by simpa using hstl)]
  by_cases h1 : j < off
  ·rw [if_pos (by omega)]
   rw [List.append_assoc, List.getElem?_append_left (by simp; omega), List.getElem?_take, if_pos h1] at hj
   obtain ⟨v, hv, h2, hr⟩ := hold.2 j c hj
   rw [cell_of_row w b' _ arr e _ hh] at hv
   exact ⟨v, hv, h2, hr⟩
  ·by_cases h2 : j < off + vs.length
   ·rw [if_neg (by omega), if_pos (by omega)]
    rw [List.getElem?_append_left (by simp; omega), List.getElem?_append_right (by simp; omega)] at hj
    simp only [List.length_take, show min off old.cells.length = off from by omega] at hj
    obtain ⟨v, hv, hr⟩ := xu hxc hj
    exact ⟨v, by rw [show s' + k * ob.es + j - (s' + k * ob.es + off) = j - off from by omega]; exact hv, hx1 v (List.mem_of_getElem? hv), hr⟩
   ·rw [if_neg (by omega), if_neg (by omega)]
    rw [List.getElem?_append_right (by simp; omega), List.getElem?_drop] at hj
    simp only [List.length_append, List.length_take, show min off old.cells.length = off from by omega, hvl] at hj
    rw [show off + vs.length + (j - (off + vs.length)) = j from by omega] at hj
    obtain ⟨v, hv, h2, hr⟩ := hold.2 j c hj
    rw [cell_of_row w b' _ arr e _ hh] at hv
    exact ⟨v, hv, h2, hr⟩
 split at hy
 ·rename_i hkq
  subst hkq
  have hy : new = y := by simpa [hk] using hy
  subst hy
  refine ⟨?_, hn⟩
  rw [hnew]
  have := hold.1
  have h2 : (List.take off old.cells ++ xs ++ List.drop (off + vs.length) old.cells).length = old.cells.length := by
   rw [List.length_append, List.length_append, List.length_take, List.length_drop]
   omega
  exact h2.trans this
 ·rename_i hkq
  obtain ⟨h1, h2⟩ := hel q y hy
  refine ⟨h1, fun j c hj => ?_⟩
  obtain ⟨v, hv, h3, hr⟩ := h2 j c hj
  rw [cell_of_row w b' _ arr e _ hh] at hv
  refine ⟨v, ?_, h3, hr⟩
  have hjl : j < ob.es := by have := (List.getElem?_eq_some_iff.1 hj).1; omega
  have hol := hold.1
  rw [Z4 (by simpa using hstl)]
  have hsep : s' + q * ob.es + j < s' + k * ob.es + off ∨ s' + k * ob.es + off + vs.length ≤ s' + q * ob.es + j := by
   rcases Nat.lt_or_ge q k with h | h
   ·left
    have : (q + 1) * ob.es ≤ k * ob.es := Nat.mul_le_mul_right _ h
    rw [Nat.add_mul] at this
    omega
   ·right
    have : (k + 1) * ob.es ≤ q * ob.es := Nat.mul_le_mul_right _ (by omega)
    rw [Nat.add_mul] at this
    omega
  rcases hsep with h | h
  ·rw [if_pos h]; exact hv
  ·rw [if_neg (by omega), if_neg (by omega)]; exact hv
theorem znz {F : FC} {o : Oper} {st : ASt} {d : Nat} {x y : Operand} {t t' e : TypeId} {i j : TI} {id es k off len cap : Nat} {ob : AObj} {s : ByteArray} {l : List Dat} (ho : o.op = .call { callee := .builtin .copy, args := #[x, y], argTypes := #[t, t'] }) (hdst : o.dst = some d) (hd : d < F.N)
  (ht : ti F.P t = some i) (hk : i.tk = .slice e) (hj : ti F.P e = some j) (hj1 : j.size = 1) (hx : evA st.env x = .isl id es k off len cap) (hy : evA st.env y = .dat (.str s)) (hob : st.objs id = some ob) (hes : ob.es = es)
  (hel : ob.elems[k]? = some (.dat (.agg l))) (hoff : off + min s.size len ≤ l.length) :
  StepOK F o st ((st.obj id ⟨es, ob.elems.set k (.dat (.agg (l.take off ++ ((vj s).take len).map (Dat.int .u8) ++ l.drop (off + min s.size len))))⟩).put (some d) (.dat (.int .i64 (min s.size len : Nat)))) := by
 subst hes
 refine StepOK.of_value (st1 := st.obj id ⟨ob.es, ob.elems.set k (.dat (.agg (l.take off ++ ((vj s).take len).map (Dat.int .u8) ++ l.drop (off + min s.size len))))⟩) (by rw [hdst]; exact hd) (by rw [hdst]) fun β S a w hsim => ?_
 obtain ⟨_, u1, _, hu1, _, _, _, hk1⟩ := ti_info ht
 rw [hk] at hk1
 have := wt hk1.symm
 subst this
 have ex := qj (a := a) hsim.env x
 have ey := qj (a := a) hsim.env y
 rw [hx] at ex
 rw [hy] at ey
 simp only [RepA, RepX] at ex ey
 obtain ⟨hlc, b, s0, hb, ex, hcl⟩ := ex
 let vs : List Value := ((vj s).take len).map (Value.int .u8)
 have hvl : vs.length = min s.size len := by simp only [vs, List.length_map, List.length_take, yf]; exact Nat.min_comm _ _
 have hrep : RepAL β S w (((vj s).take len).map fun n => AV.dat (.int .u8 n)) vs := z3c (by simp [vs]) fun q z hz => by
  rw [List.getElem?_map] at hz
  cases hq : ((vj s).take len)[q]? with
  | none => simp [hq] at hz
  | some n =>
   simp only [hq, Option.map_some, Option.some.injEq] at hz
   subst hz
   exact ⟨.int .u8 n, by simp only [vs, List.getElem?_map, hq, Option.map_some], by simp only [RepA, RepX]⟩
 have h1 : ∀ v ∈ vs, v.oneCell' = true := fun v hv => by
  obtain ⟨n, _, rfl⟩ := List.mem_map.1 hv
  rfl
 obtain ⟨arr, e', hh, hfit, hs2⟩ := hsim.storeRow (old := .dat (.agg l)) (off := off) (xs := ((vj s).take len).map fun n => AV.dat (.int .u8 n)) (vs := vs) hob hb hcl hel hrep h1 (by rw [hvl]; simpa [AV.cells] using hoff)
  (new := .dat (.agg (l.take off ++ ((vj s).take len).map (Dat.int .u8) ++ l.drop (off + min s.size len)))) (by simp only [AV.cells, hvl, List.map_append, List.map_map, List.map_take, List.map_drop]; rfl)
 refine ⟨.int .i64 (min s.size len : Nat), _, β, S, ?_, by simp only [RepA, RepX], hs2⟩
 have hst := run_storeCells_at F.P b (s0 + k * ob.es + off) e' vs 0 arr w hh (by simpa using hfit) h1
 simp only [Nat.add_zero] at hst
 have hcells : ((s.extract 0 (min s.size len)).data.map fun b : UInt8 => Value.int .u8 b.toNat).toList = vs := by
  apply List.ext_getElem?
  intro q
  simp only [vs, vj, Array.toList_map, ByteArray.data_extract, Array.toList_extract, List.extract_eq_take_drop, List.drop_zero, Nat.sub_zero, List.getElem?_map, List.getElem?_take, List.map_take]
  have hs : s.data.toList.length = s.size := by simp
  by_cases hq : q < min s.size len
  ·have h2 : q < len := by omega
   simp only [hq, h2, if_true, List.getElem?_map, Option.map_map]
   rfl
  ·simp only [hq, if_false, Option.map_none]
   by_cases h2 : q < len
   ·simp only [h2, if_true, List.getElem?_map]
    rw [List.getElem?_eq_none (by omega)]
    rfl
   ·simp [h2]
 have hz : (sizeOf e).run F.P w = .ok 1 w := by rw [qe hj, hj1]
 have hex : (execOp a.eval o).run F.P w = .ok (.value (.int .i64 (min s.size len : Nat))) (w.setRow b (arr.toList.take (s0 + k * ob.es + off) ++ vs ++ arr.toList.drop (s0 + k * ob.es + off + vs.length)).toArray) := by
  simp only [execOp, ho, resolve, Sem.run_bind, Sem.run_pure, Result.andThen_ok, invoke, builtin, List.map_toArray, List.map_cons, List.map_nil, ex, ey, Builtin.copy_]
  have hmin : Nat.min s.size len = min s.size len := rfl
  simp only [List.getElem?_toArray, List.getElem?_cons_zero, List.getElem?_cons_succ, Sem.run_bind, run_underlying hu1, Result.andThen_ok, Builtin.lenOf, Sem.run_pure, hz, Builtin.firstCells, hmin, hcells, hst]
  rfl
 exact hex
end Go.Av

