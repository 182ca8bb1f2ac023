/- A part of the proof. -/
import Derived.Test.YtkeopokhnfpgpaaGreatDoorHAv44
set_option linter.all false
namespace Go.Av
theorem z5o {F : FC} {o : Oper} {st : ASt} {d : Nat} {x : Operand} {t e : TypeId} {i : TI} (ho : o.op = .call { callee := .builtin .cap, args := #[x], argTypes := #[t] }) (hdst : o.dst = some d) (hd : d < F.N) (ht : ti F.P t = some i) (hk : i.tk = .slice e)
  (hx : evA st.env x = .nils) : StepOK F o st (st.put (some d) (.dat (.int .i64 0))) := by
 refine StepOK.of_value (st1 := st) (by rw [hdst]; exact hd) (by rw [hdst]) fun β S a w hsim => ?_
 obtain ⟨_, u1, _, hu1, _, _, _, hk1⟩ := ti_info ht
 rw [hk] at hk1
 have := wt hk1.symm
 subst this
 have ex := qj (a := a) hsim.env x
 rw [hx] at ex
 simp only [RepA] at ex
 obtain ⟨ad, ex⟩ := ex
 refine ⟨.int .i64 0, w, β, S, ?_, by simp only [RepA, RepX], hsim⟩
 simp only [execOp, ho, resolve, Sem.run_bind, Sem.run_pure, Result.andThen_ok, invoke, builtin, List.map_toArray, List.map_cons, List.map_nil, ex]
 simp [Builtin.cap_, run_underlying hu1]
 rfl
theorem z4r {P : Program} {w : World} {t t' ty e : TypeId} {kn : IntKind} {i : TypeInfo} {z : Value} (ht : P.underlying t = some (.slice e)) (ht' : P.underlying t' = some (.int kn)) (hi : P.info? e = some i) (hz : i.zero = some z)
  {a : Option Addr} {k : IntKind} {n : Int} (h0 : 0 < n) (h63 : n ≤ 9223372036854775807) (hs : z.cells.size = i.size) (hfit : n.toNat * i.bytes ≤ 140737488355328) :
  (Builtin.append_ #[t, t'] ty #[.slice a 0 0, .int k n]).run P w =
   .ok (.slice (some ⟨w.heap.size, 0, none⟩) n.toNat (grownCap w n.toNat 0 e)) (w.drew.alloc (.cells ((if n.toNat * i.size = 0 then #[] else Builtin.zeroCells z.cells n.toNat) ++ Builtin.zeroCells z.cells (grownCap w n.toNat 0 e - n.toNat)) e)) := by
 have hw : IntKind.i64.wrap n = n := IntWalk.i64_in _ (by omega)
 have h48 : ¬ (281474976710656 < n * i.bytes) := by
  have : ((n.toNat * i.bytes : Nat) : Int) = n * i.bytes := by rw [Int.natCast_mul, Int.toNat_of_nonneg (by omega)]
  omega
 have hn : ¬ (n.toNat ≤ 0) := by omega
 have hn' : ¬ (n ≤ 0) := by omega
 have h63' : ¬ (9223372036854775807 < max n 0) := by omega
 have hf48 := growslice_fits (old := 0) (need := n.toNat) (by omega) hfit
 have h48' : ¬ (281474976710656 < Builtin.nextslicecap n.toNat 0 * i.bytes) := by omega
 have hold : ∀ w : World, (Builtin.firstCells i.size 0 (.slice a 0 0)).run P w = .ok #[] w := fun w => by cases a <;> simp [Builtin.firstCells, loadCells, loadCellsFrom]
 have hlt : ¬ (n < 0) := by omega
 have hint : ∀ w : World, (asInt (.int k n)).run P w = .ok n w := fun _ => rfl
 by_cases hsz : n.toNat * i.size = 0
 ·simp [Builtin.append_, run_underlying ht, run_underlying ht', sizeOf, typeInfo, zeroValue, hi, hz, hint, hw, hlt, h48, hn, hn', h63', h48', Question.forced, hold, newRow, grownCap, hsz]
 ·simp [Builtin.append_, run_underlying ht, run_underlying ht', sizeOf, typeInfo, zeroValue, hi, hz, hint, hw, hlt, h48, hn, hn', h63', h48', Question.forced, hold, newRow, grownCap, hsz]
theorem z62 {F : FC} {o : Oper} {st : ASt} {d : Nat} {s x : Operand} {t t' e : TypeId} {kn k : IntKind} {i i' j : TI} {z : AV} {n : Int}
  (ho : o.op = .call { callee := .builtin .append, args := #[s, x], argTypes := #[t, t'] }) (hdst : o.dst = some d) (hd : d < F.N) (ht : ti F.P t = some i) (hk : i.tk = .slice e) (ht' : ti F.P t' = some i') (hk' : i'.tk = .int kn)
  (hj : ti F.P e = some j) (hz : zeroA j = some z) (hzs : z.storable = true) (hzl : z.cells.length = j.size) (hs : evA st.env s = .nils) (hx : evA st.env x = .dat (.int k n)) (h0 : 0 < n) (h63 : n ≤ 9223372036854775807) (hfit : n.toNat * j.bytes ≤ 140737488355328) :
  StepOK F o st (((st.kill d).obj d ⟨j.size, []⟩).put (some d) (.osl d j.size 0 n.toNat)) := by
 refine StepOK.of_value (st1 := (st.kill d).obj d ⟨j.size, []⟩) (x := .osl d j.size 0 n.toNat) (by rw [hdst]; exact hd) (by rw [hdst]) fun β S a w hsim => ?_
 have es := qj (a := a) hsim.env s
 have ex := qj (a := a) hsim.env x
 rw [hs] at es
 rw [hx] at ex
 simp only [RepA, RepX] at es ex
 obtain ⟨ad, es⟩ := es
 obtain ⟨_, u1, _, hu1, _, _, _, hk1⟩ := ti_info ht
 rw [hk] at hk1
 have := wt hk1.symm
 subst this
 obtain ⟨_, u2, _, hu2, _, _, _, hk2⟩ := ti_info ht'
 rw [hk'] at hk2
 have := zci hk2.symm
 subst this
 obtain ⟨j', u3, hj', _, hjs, hjb, hjz, _⟩ := ti_info hj
 obtain ⟨zv, hzr, hzrep, hz1⟩ := Q9 (β := β) (S := S) (w := w) hj hz hzs
 have hzsz : zv.cells.size = j.size := by have := zy hzrep; simp at this; omega
 have hjzero : j'.zero = some zv := by
  simp only [zeroValue, typeInfo, Sem.run_bind, run_program, Result.andThen_ok, hj', Sem.run_pure] at hzr
  cases hh : j'.zero with
  | none => simp [hh] at hzr
  | some q => simp [hh] at hzr; rw [hzr]
 have hrun := z4r (P := F.P) (w := w) (ty := o.type) (a := ad) (k := k) hu1 hu2 hj' hjzero h0 h63 (by rw [hzsz, hjs]) (by rw [← hjb]; exact hfit)
 let NC := grownCap w n.toNat 0 e
 have hNC : n.toNat ≤ NC := grownCap_ge w _ _ _
 let arr : Array Value := (if n.toNat * j'.size = 0 then #[] else Builtin.zeroCells zv.cells n.toNat) ++ Builtin.zeroCells zv.cells (NC - n.toNat)
 have hasz : arr.size = NC * j.size := by
  simp only [arr, Array.size_append, size_zeroCells, hzsz]
  rw [← hjs]
  split
  ·rename_i h
   rcases Nat.mul_eq_zero.1 h with h | h
   ·simp [h]
   ·simp [h]
  ·rw [size_zeroCells, hzsz, ← Nat.add_mul]
   congr 1
   omega
 have hkeep : Keeps S S w (w.drew.alloc (.cells arr e)) := ya (w := w.drew) _ (fun _ _ h => h) hsim.lt
 have hsim2 : SimB F β S st a.tmps (w.drew.alloc (.cells arr e)) := hsim.drew.world (Ext.alloc (fun _ => False) w.drew _) (fun _ _ h => h.elim) hkeep hsim.sub (fun b i h => by simp only [World.size_alloc]; exact Nat.lt_succ_of_lt (hsim.lt b i h)) hsim.sep
  (fun i o b s hio hb => RowKit.Below.heap_alloc w.drew _ b (hsim.block_lt hio hb))
 have hnewb : (w.drew.alloc (.cells arr e)).heap[w.heap.size]? = some (.cells arr e (0, 0)) := heap_alloc_new w.drew _
 refine ⟨.slice (some ⟨w.heap.size, 0, none⟩) n.toNat NC, _, _, _, ?_, ?_, hsim2.introObj d w.heap.size 0 hd arr e j.size [] hnewb (.inl hsim.ext.size) (fun i h => by have := hsim.lt _ i h; omega) (fun i o b' s' hio hb' => ?_) (by simp) (fun k y hy => by simp at hy)⟩
 ·simp only [execOp, ho, resolve, Sem.run_bind, Sem.run_pure, Result.andThen_ok, invoke, builtin, List.map_toArray, List.map_cons, List.map_nil, es, ex, hrun]
  rfl
 ·simp only [RepA]
  exact .inr ⟨w.heap.size, 0, NC, arr, e, _, upd_same _ _ _, rfl, fun _ => by simp, hNC, hnewb, by rw [hasz, Nat.zero_add, Nat.zero_add]; exact Nat.le_refl _⟩
 ·simp only [ASt.kill] at hio
  split at hio
  ·simp at hio
  ·cases hq : st.objs i with
   | none => simp [hq] at hio
   | some q => have := hsim.block_lt hq hb'; omega
end Go.Av

