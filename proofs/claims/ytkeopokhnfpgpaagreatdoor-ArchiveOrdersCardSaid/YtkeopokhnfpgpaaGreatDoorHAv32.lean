/- A part of the proof. -/
import Derived.Test.YtkeopokhnfpgpaaGreatDoorHAv31
import Derived.Test.YtkeopokhnfpgpaaGreatDoorHAvM2
set_option linter.all false
namespace Go.Av
def PickL (l : List Oper) : List Nat → List Oper → Prop
 | [], l' => l' = []
 | i :: p, l' => ∃ o r, l[i]? = some o ∧ l' = o :: r ∧ PickL l p r
theorem PickL.eq {l : List Oper} : ∀ {p : List Nat} {l' : List Oper}, PickL l p l' → p.filterMap (fun i => l.toArray[i]?) = l'
 | [], l', h => by simp only [PickL] at h; simp [h]
 | i :: p, l', h => by
  simp only [PickL] at h
  obtain ⟨o, r, h1, rfl, h2⟩ := h
  have h3 : l.toArray[i]? = some o := by simpa using h1
  rw [List.filterMap_cons, h3]
  simp only
  rw [h2.eq]
theorem PickL.nil (l : List Oper) : PickL l [] [] := rfl
theorem PickL.cons {l : List Oper} {i : Nat} {p : List Nat} {o : Oper} {r : List Oper} (h : l[i]? = some o) (k : PickL l p r) : PickL l (i :: p) (o :: r) := ⟨o, r, h, rfl, k⟩
theorem z05 {F : FC} (ns ids : List Nat) (perm ks : List Nat) {e : List (Nat × AV)} {o : List (Nat × AObj)} {rows lits apps : List Nat} {l l' : List Oper} (hm : F.P.follows .mixedOrders = true) {Pm : Prop} (hR : F.rows = rows ∧ F.lits = lits ∧ F.apps = apps ∧ Pm)
  (hp : (z0m rows lits apps l.toArray perm && ksB rows lits apps l ks) = true) (hl : PickL l perm l')
  {id : Nat} {Q : Exit → ASt → Prop} {st : ASt} (h : zh F l.toArray l' (killAll ks st) (Kept ns ids e o)) (k : Q .normal (.of e o)) : AWp F (.region id l.toArray true) Q st :=
 zih ns ids perm ks hm hR hp hl.eq h k
theorem w6 {F : FC} (ns ids : List Nat) (perm ks : List Nat) {e : List (Nat × AV)} {o : List (Nat × AObj)} {rows lits apps : List Nat} {l l' : List Oper} (hm : F.P.follows .mixedOrders = true) {Pm : Prop} (hR : F.rows = rows ∧ F.lits = lits ∧ F.apps = apps ∧ Pm)
  (hp : (z0m rows lits apps l.toArray perm && ksB rows lits apps l ks) = true) (hl : PickL l perm l')
  {id : Nat} {y : Code} {Q : Exit → ASt → Prop} {st : ASt} (h : zh F l.toArray l' (killAll ks st) (Kept ns ids e o)) (k : AWp F y Q (.of e o)) : AWp F (.seq (.region id l.toArray true) y) Q st :=
 znd ns ids perm ks hm hR hp hl.eq h k
def killE (d : Nat) : List (Nat × AV) → List (Nat × AV)
 | [] => []
 | (k, v) :: l => (k, v.kill d) :: killE d l
def killO (d : Nat) : List (Nat × AObj) → List (Nat × AObj)
 | [] => []
 | (k, o) :: l => if k = d then killO d l else (k, ⟨o.es, o.elems.map (AV.kill d)⟩) :: killO d l
theorem z6i (d n : Nat) : ∀ l, y0 (killE d l) n = (y0 l n).kill d
 | [] => by simp [killE, y0, AV.kill]
 | (k, v) :: l => by
  simp only [killE, y0, z6i d n l]
  split <;> rfl
theorem z7d (d n : Nat) : ∀ l, qm (killO d l) n = if n = d then none else (qm l n).map fun o => ⟨o.es, o.elems.map (AV.kill d)⟩
 | [] => by simp [killO, qm]
 | (k, o) :: l => by
  have ih := z7d d n l
  by_cases hk : k = d
  ·simp only [killO, if_pos hk, ih, qm]
   subst hk
   split
   ·rfl
   ·simp [*]
  ·simp only [killO, if_neg hk, qm, ih]
   by_cases hn : n = k
   ·subst hn; simp [hk]
   ·simp [hn]
theorem zbq (d : Nat) (e : List (Nat × AV)) (o : List (Nat × AObj)) : (ASt.of e o).kill d = .of (killE d e) (killO d o) := by
 unfold ASt.kill ASt.of
 congr 1
 ·funext n; rw [z6i]
 ·funext n; rw [z7d]
theorem zpc (d : Nat) (ds : List Nat) (e : List (Nat × AV)) (o : List (Nat × AObj)) : killAll (d :: ds) (ASt.of e o) = killAll ds (.of (killE d e) (killO d o)) := by
 rw [killAll, zbq]
theorem zl2 (st : ASt) : killAll [] st = st := rfl
end Go.Av

