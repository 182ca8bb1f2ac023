/- A part of the proof. -/
import Derived.Test.YtkeopokhnfpgpaaGreatDoorHAv32
set_option linter.all false
namespace Go.Av
@[congr] theorem runOps_congr {F : FC} {ops : Array Oper} {rest : List Oper} {st st' : ASt} {K : ASt → Prop} (h : st = st') : zh F ops rest st K = zh F ops rest st' K := by rw [h]
@[congr] theorem gc_congr {o o' : Option Bool} {f : Bool → Prop} (h : o = o') : GC o f = GC o' f := by rw [h]
@[congr] theorem allocC_congr {F : FC} {d : Nat} {i i' : Option TI} {st st' : ASt} {K : ASt → Prop} (h : i = i') (h2 : st = st') : allocC F d i st K = allocC F d i' st' K := by rw [h, h2]
@[congr] theorem storeC_congr {i i' : Option TI} {a a' x x' : AV} {st st' : ASt} {K : ASt → Prop} (h : i = i') (h1 : a = a') (h2 : x = x') (h3 : st = st') : storeC i a x st K = storeC i' a' x' st' K := by rw [h, h1, h2, h3]
@[congr] theorem buildSliceC_congr {P P' : Program} {N N' : Nat} {rows rows' lits lits' : List Nat} {d : Nat} {i i' : Option TI} {len : Nat} {ps ps' : List (Nat × AV)} {st st' : ASt} {K : ASt → Prop} (h : P = P') (h0 : N = N') (h1 : rows = rows') (h2 : lits = lits') (h3 : i = i') (h4 : ps = ps') (h5 : st = st') : buildSliceC P N rows lits d i len ps st K = buildSliceC P' N' rows' lits' d i' len ps' st' K := by rw [h, h0, h1, h2, h3, h4, h5]
@[congr] theorem makeSliceC_congr {P P' : Program} {N N' : Nat} {d : Nat} {i i' : Option TI} {a a' x x' : AV} {st st' : ASt} {K : ASt → Prop} (h : P = P') (h0 : N = N') (h3 : i = i') (h1 : a = a') (h2 : x = x') (h5 : st = st') : makeSliceC P N d i a x st K = makeSliceC P' N' d i' a' x' st' K := by rw [h, h0, h1, h2, h3, h5]
@[congr] theorem appendC_congr {F : FC} {d : Nat} {i i' j j' : Option TI} {a a' x x' : AV} {st st' : ASt} {K : ASt → Prop} (h : i = i') (h0 : j = j') (h1 : a = a') (h2 : x = x') (h3 : st = st') : appendC F d i j a x st K = appendC F d i' j' a' x' st' K := by rw [h, h0, h1, h2, h3]
@[congr] theorem appendLC_congr {F : FC} {d : Nat} {i i' : TI} {a a' x x' : AV} {st st' : ASt} {K : ASt → Prop} (h : i = i') (h1 : a = a') (h2 : x = x') (h3 : st = st') : appendLC F d i a x st K = appendLC F d i' a' x' st' K := by rw [h, h1, h2, h3]
@[congr] theorem callC_congr {F : FC} {ops : Array Oper} {rest : List Oper} {st st' : ASt} {K : ASt → Prop} {g g' : Option (FuncId × List AV)} {dst : Option Nat} (h : st = st') (h1 : g = g') : CallC F ops rest st K g dst = CallC F ops rest st' K g' dst := by rw [h, h1]
@[congr] theorem callG_congr {F : FC} {objs objs' : Nat → Option AObj} {f f' : AV} {xs xs' : List AV} {g : Bool} {gd : Prop} {C : List Dat → Prop} (h : objs = objs') (h1 : f = f') (h2 : xs = xs') : CallG F objs f xs g gd C = CallG F objs' f' xs' g gd C := by rw [h, h1, h2]
def setO (id : Nat) (ob : AObj) : List (Nat × AObj) → List (Nat × AObj)
 | [] => [(id, ob)]
 | (k, v) :: l => if k = id then (id, ob) :: l else (k, v) :: setO id ob l
theorem za6 (id : Nat) (ob : AObj) (n : Nat) : ∀ l, qm (setO id ob l) n = if n = id then some ob else qm l n
 | [] => by simp [setO, qm]
 | (k, v) :: l => by
  have ih := za6 id ob n l
  by_cases hk : k = id
  ·subst hk
   simp only [setO, if_true, qm]
   split <;> rfl
  ·simp only [setO, if_neg hk, qm, ih]
   by_cases hn : n = k
   ·subst hn; simp [hk]
   ·simp [hn]
def dropL (id : Nat) : List (Nat × AObj) → List (Nat × AObj)
 | [] => []
 | (k, v) :: l => if k = id then dropL id l else (k, v) :: dropL id l
theorem z7c (id : Nat) (n : Nat) : ∀ l, qm (dropL id l) n = if n = id then none else qm l n
 | [] => by simp [dropL, qm]
 | (k, v) :: l => by
  have ih := z7c id n l
  by_cases hk : k = id
  ·subst hk
   simp only [dropL, if_true, qm, ih]
   split <;> rfl
  ·simp only [dropL, if_neg hk, qm, ih]
   by_cases hn : n = k
   ·subst hn; simp [hk]
   ·simp [hn]
theorem yr (e : List (Nat × AV)) (o : List (Nat × AObj)) (d : Nat) (v : AV) : (ASt.of e o).put (some d) v = .of ((d, v) :: e) o := rfl
theorem zu4 (e : List (Nat × AV)) (o : List (Nat × AObj)) (v : AV) : (ASt.of e o).put none v = .of e o := rfl
theorem z4f (e : List (Nat × AV)) (o : List (Nat × AObj)) (id : Nat) (ob : AObj) : (ASt.of e o).obj id ob = .of e (setO id ob o) := by
 unfold ASt.obj ASt.of
 congr 1
 funext n
 rw [za6]
 rfl
theorem zu1 (e : List (Nat × AV)) (o : List (Nat × AObj)) (id : Nat) : (ASt.of e o).drop id = .of e (dropL id o) := by
 unfold ASt.drop ASt.of
 congr 1
 funext n
 rw [z7c]
 rfl
theorem z7h (e : List (Nat × AV)) (o : List (Nat × AObj)) : (ASt.of e o).env = y0 e := rfl
theorem zu3 (e : List (Nat × AV)) (o : List (Nat × AObj)) : (ASt.of e o).objs = qm o := rfl
def initL : Nat → List AV → List (Nat × AV)
 | _, [] => []
 | n, x :: l => (n, x) :: initL (n + 1) l
theorem z6h (n : Nat) : ∀ (l : List AV) (k : Nat), y0 (initL k l) n = if n < k then .junk else Av.initM l (n - k)
 | [], k => by simp [initL, y0, Av.initM]
 | x :: l, k => by
  simp only [initL, y0, z6h n l (k + 1), Av.initM]
  by_cases h : n = k
  ·subst h; simp
  ·by_cases h2 : n < k
   ·simp [h, h2]; omega
   ·rw [if_neg h, if_neg (by omega), if_neg h2]
    have : n - k = (n - (k + 1)) + 1 := by omega
    rw [this]
    simp
theorem z34 (xs : List AV) (os : List (Nat × AObj)) : ASt.initM xs os = .of (initL 0 xs) os := by
 unfold ASt.initM ASt.of
 congr 1
 funext n
 rw [z6h]
 simp
theorem zu2 (args : List Dat) : ASt.init args = .of (initL 0 (args.map .dat)) [] := by
 rw [← z34]
 unfold ASt.init ASt.initM
 congr 1
 funext n
 simp only [ziz, Av.initM, List.getElem?_map]
 cases args[n]? <;> rfl
theorem z0a (n : Nat) : y0 [] n = .junk := rfl
theorem Zm (k n : Nat) (v : AV) (l : List (Nat × AV)) : y0 ((k, v) :: l) n = if n = k then v else y0 l n := rfl
theorem z7e (n : Nat) : qm [] n = none := rfl
theorem z4d (k n : Nat) (v : AObj) (l : List (Nat × AObj)) : qm ((k, v) :: l) n = if n = k then some v else qm l n := rfl
theorem zlf (m : Nat → Nat) (st : ASt) : st.objsM m [] = st := rfl
theorem zhi (m : Nat → Nat) (st : ASt) (id : Nat) (o : AObj) (l : List (Nat × AObj)) : st.objsM m ((id, o) :: l) = (st.objsM m l).obj (m id) (o.ren m) := rfl
end Go.Av

