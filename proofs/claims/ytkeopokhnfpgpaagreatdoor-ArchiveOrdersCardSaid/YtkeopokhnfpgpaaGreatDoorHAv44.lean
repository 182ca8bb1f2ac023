/- A part of the proof. -/
import Derived.Test.YtkeopokhnfpgpaaGreatDoorHAv43
import Derived.Lib.ConvBytes
set_option linter.all false
namespace Go.Av
theorem yi {F : FC} {ops : Array Oper} {o : Oper} {l : List Oper} {Q : Exit → ASt → Prop} {st st' : ASt} (hg : o.guard = none) (h : StepOK F o st st') (k : AList F ops l Q st') : AList F ops (o :: l) Q st := fun a w hs => by
 unfold wpListIn
 rw [if_pos (by simp [Region.wanted, hg])]
 exact (h a w hs _ _ fun a' w' hs' => k a' w' hs')
theorem zgg {F : FC} {o : Oper} {st : ASt} {d : Nat} {src dst e : TypeId} {x : Operand} {i i' j : TI} {s : ByteArray} (ho : o.op = .convert src dst x) (hdst : o.dst = some d) (hd : d < F.N) (ht : ti F.P src = some i) (ht' : ti F.P dst = some i')
  (hk' : i'.tk = .slice e) (hj : ti F.P e = some j) (hu : j.tk = .int .u8) (hx : evA st.env x = .dat (.str s)) : StepOK F o st (st.put (some d) (.dat (.sl ((vj s).map (Dat.int .u8))))) := by
 refine StepOK.of_value (st1 := st) (by rw [hdst]; exact hd) (by rw [hdst]) fun β S a w hsim => ?_
 obtain ⟨_, u1, _, hu1, _⟩ := ti_info ht
 obtain ⟨_, u2, _, hu2, _, _, _, hk2⟩ := ti_info ht'
 obtain ⟨_, u3, _, hu3, _, _, _, hk3⟩ := ti_info hj
 rw [hk'] at hk2
 have := wt hk2.symm
 subst this
 rw [hu] at hk3
 have := zci hk3.symm
 subst this
 have ex := qj (a := a) hsim.env x
 rw [hx] at ex
 simp only [RepA, RepX] at ex
 have hrun := Lib.run_convert_string_bytes (P := F.P) w src dst e s hu1 hu2 hu3
 have hw : Lib.bytesWorld w e s = w.drew.alloc (.cells (Lib.bytesCells w e s) e ((Lib.bytesCells w e s).size, (Lib.bytesCells w e s).size + 1)) := by
  have hh : (Lib.bytesWorld w e s).heap = (w.drew.alloc (.cells (Lib.bytesCells w e s) e ((Lib.bytesCells w e s).size, (Lib.bytesCells w e s).size + 1))).heap := by
   apply Array.ext_getElem?
   intro k
   rcases Nat.lt_trichotomy k w.heap.size with h | h | h
   ·rw [Lib.bytesWorld_at_old w e s k h, RowKit.Below.heap_alloc _ _ k (by simpa using h)]
    rfl
   ·subst h
    rw [Lib.bytesWorld_at_new]
    exact (heap_alloc_new w.drew _).symm
   ·rw [Array.getElem?_eq_none (by rw [Lib.bytesWorld_size]; omega), Array.getElem?_eq_none (by simp; omega)]
  unfold Lib.bytesWorld World.freeze at hh ⊢
  simp only [Nat.add_one_ne_zero, if_false, Nat.one_ne_zero] at hh ⊢
  rw [hh]
  rfl
 have hn := (hsim.drew).newDat (.cells (Lib.bytesCells w e s) e ((Lib.bytesCells w e s).size, (Lib.bytesCells w e s).size + 1))
 refine ⟨_, _, β, _, by simp only [execOp, ho, ex, Sem.run_bind, hrun, Result.andThen_ok, Sem.run_pure]; rfl, ?_, hw ▸ hn⟩
 simp only [RepA, RepX]
 refine ⟨1, _, _, by rw [List.length_map, yf], by rw [List.length_map, yf]; exact grownCap_ge w s.size 0 e, Q4 fun k dd hk => ?_⟩
 rw [List.getElem?_map] at hk
 cases hb : (vj s)[k]? with
 | none => simp [hb] at hk
 | some n =>
  simp only [hb, Option.map_some, Option.some.injEq] at hk
  subst hk
  have hlt : k < s.size := by have := (List.getElem?_eq_some_iff.1 hb).1; rwa [yf] at this
  refine ⟨rfl, Q3 fun m dd hm => ?_⟩
  simp only [Dat.cells_int] at hm
  cases m with
  | succ m => simp at hm
  | zero =>
   simp only [List.getElem?_cons_zero, Option.some.injEq] at hm
   subst hm
   refine ⟨.inr (by simp), _, by simpa using Lib.bytesWorld_cell w e s k hlt, ?_⟩
   simp only [Rep1]
   congr 1
   simp only [vj, List.getElem?_map] at hb
   cases hs : s.data.toList[k]? with
   | none => simp [hs] at hb
   | some c =>
    simp only [hs, Option.map_some, Option.some.injEq] at hb
    rw [Array.getElem?_toList] at hs
    rw [hs, ← hb]
    rfl
theorem Le.litD {F : FC} {st : ASt} (n : Nat) {l : List Dat} (hn : st.env n = .lits l) : Le F st (st.put (some n) (.dat (.sl l))) := fun a w ⟨hd, β, S, hs⟩ => by
 refine ⟨hd, β, S, hs.ext, hs.glob, hs.sub, hs.lt, hs.sep, hs.inj, hs.obj, fun k => ?_, hs.size⟩
 simp only [ASt.put, zq]
 split
 ·rename_i hk
  subst hk
  have h := hs.env k
  rw [hn] at h
  simp only [RepA] at h ⊢
  obtain ⟨es, x, h, hr⟩ := h
  rw [h]
  simp only [RepX]
  exact ⟨es, x, _, rfl, Nat.le_refl _, hr⟩
 ·exact hs.env k
theorem zsg {F : FC} (n : Nat) {l : List Dat} {c : Code} {Q : Exit → ASt → Prop} {e : List (Nat × AV)} {o : List (Nat × AObj)} (hn : y0 e n = .lits l) (h : AWp F c Q (.of ((n, .dat (.sl l)) :: e) o)) : AWp F c Q (.of e o) := h.le (Le.litD n hn)
theorem tr2 {α : Type} {f : α → Dat} (A B : List α) (n : Nat) (h : A.length + B.length ≤ n) : List.take n (List.map AV.dat (List.map f A) ++ List.map AV.dat (List.map f B)) = List.map AV.dat (List.map f A) ++ List.map AV.dat (List.map f B) := List.take_of_length_le (by simpa using h)
theorem tr3 {α : Type} {f : α → Dat} (A B C : List α) (n : Nat) (h : A.length + B.length + C.length ≤ n) : List.take n (List.map AV.dat (List.map f A) ++ List.map AV.dat (List.map f B) ++ List.map AV.dat (List.map f C)) = List.map AV.dat (List.map f A) ++ List.map AV.dat (List.map f B) ++ List.map AV.dat (List.map f C) := List.take_of_length_le (by simpa [Nat.add_assoc] using h)
theorem tr4 {α : Type} {f : α → Dat} (A B C D : List α) (n : Nat) (h : A.length + B.length + C.length + D.length ≤ n) : List.take n (List.map AV.dat (List.map f A) ++ List.map AV.dat (List.map f B) ++ List.map AV.dat (List.map f C) ++ List.map AV.dat (List.map f D)) = List.map AV.dat (List.map f A) ++ List.map AV.dat (List.map f B) ++ List.map AV.dat (List.map f C) ++ List.map AV.dat (List.map f D) := List.take_of_length_le (by simpa [Nat.add_assoc] using h)
theorem tr5 {α : Type} {f : α → Dat} (A B C D E : List α) (n : Nat) (h : A.length + B.length + C.length + D.length + E.length ≤ n) : List.take n (List.map AV.dat (List.map f A) ++ List.map AV.dat (List.map f B) ++ List.map AV.dat (List.map f C) ++ List.map AV.dat (List.map f D) ++ List.map AV.dat (List.map f E)) = List.map AV.dat (List.map f A) ++ List.map AV.dat (List.map f B) ++ List.map AV.dat (List.map f C) ++ List.map AV.dat (List.map f D) ++ List.map AV.dat (List.map f E) := List.take_of_length_le (by simpa [Nat.add_assoc] using h)
end Go.Av

