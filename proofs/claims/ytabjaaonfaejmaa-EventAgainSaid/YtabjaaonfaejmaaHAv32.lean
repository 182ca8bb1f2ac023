/- Drawn regions: the order's operations written out; what a kill leaves of a state that is written out. -/
import Derived.Test.YtabjaaonfaejmaaHAv31
import Derived.Test.YtabjaaonfaejmaaHAvM2
set_option linter.all false
namespace Go.Av
def PickL (l : List Oper) : List Nat → List Oper → Prop
  | [], l' => l' = []
  | i :: p, l' => ∃ o r, l[i]? = some o ∧ l' = o :: r ∧ PickL l p r
theorem PickL.eq {l : List Oper} : ∀ {p : List Nat} {l' : List Oper}, PickL l p l' → p.filterMap (fun i => l.toArray[i]?) = l'
  | [], l', h => by simp only [PickL] at h; simp [h]
  | i :: p, l', h => by
    simp only [PickL] at h
    obtain ⟨o, r, h1, rfl, h2⟩ := h
    have h3 : l.toArray[i]? = some o := by simpa using h1
    rw [List.filterMap_cons, h3]
    simp only
    rw [h2.eq]
theorem PickL.nil (l : List Oper) : PickL l [] [] := rfl
theorem PickL.cons {l : List Oper} {i : Nat} {p : List Nat} {o : Oper} {r : List Oper} (h : l[i]? = some o) (k : PickL l p r) : PickL l (i :: p) (o :: r) := ⟨o, r, h, rfl, k⟩
theorem aw_rgd {F : FC} (ns ids : List Nat) (perm ks : List Nat) {e : List (Nat × AV)} {o : List (Nat × AObj)} {rows lits apps : List Nat} {l l' : List Oper} (hm : F.P.follows .mixedOrders = true) {Pm : Prop} (hR : F.rows = rows ∧ F.lits = lits ∧ F.apps = apps ∧ Pm)
    (hp : (permOK rows lits apps l.toArray perm && ksB rows lits apps l ks) = true) (hl : PickL l perm l')
    {id : Nat} {Q : Exit → ASt → Prop} {st : ASt} (h : RunOps F l.toArray l' (killAll ks st) (Kept ns ids e o)) (k : Q .normal (.of e o)) : AWp F (.region id l.toArray true) Q st :=
  aw_regd ns ids perm ks hm hR hp hl.eq h k
theorem aw_rgds {F : FC} (ns ids : List Nat) (perm ks : List Nat) {e : List (Nat × AV)} {o : List (Nat × AObj)} {rows lits apps : List Nat} {l l' : List Oper} (hm : F.P.follows .mixedOrders = true) {Pm : Prop} (hR : F.rows = rows ∧ F.lits = lits ∧ F.apps = apps ∧ Pm)
    (hp : (permOK rows lits apps l.toArray perm && ksB rows lits apps l ks) = true) (hl : PickL l perm l')
    {id : Nat} {y : Code} {Q : Exit → ASt → Prop} {st : ASt} (h : RunOps F l.toArray l' (killAll ks st) (Kept ns ids e o)) (k : AWp F y Q (.of e o)) : AWp F (.seq (.region id l.toArray true) y) Q st :=
  aw_regds ns ids perm ks hm hR hp hl.eq h k
def killE (d : Nat) : List (Nat × AV) → List (Nat × AV)
  | [] => []
  | (k, v) :: l => (k, v.kill d) :: killE d l
def killO (d : Nat) : List (Nat × AObj) → List (Nat × AObj)
  | [] => []
  | (k, o) :: l => if k = d then killO d l else (k, ⟨o.es, o.elems.map (AV.kill d)⟩) :: killO d l
theorem envL_killE (d n : Nat) : ∀ l, envL (killE d l) n = (envL l n).kill d
  | [] => by simp [killE, envL, AV.kill]
  | (k, v) :: l => by
    simp only [killE, envL, envL_killE d n l]
    split <;> rfl
theorem objL_killO (d n : Nat) : ∀ l, objL (killO d l) n = if n = d then none else (objL l n).map fun o => ⟨o.es, o.elems.map (AV.kill d)⟩
  | [] => by simp [killO, objL]
  | (k, o) :: l => by
    have ih := objL_killO d n l
    by_cases hk : k = d
    · simp only [killO, if_pos hk, ih, objL]
      subst hk
      split
      · rfl
      · simp [*]
    · simp only [killO, if_neg hk, objL, ih]
      by_cases hn : n = k
      · subst hn; simp [hk]
      · simp [hn]
theorem kill_of (d : Nat) (e : List (Nat × AV)) (o : List (Nat × AObj)) : (ASt.of e o).kill d = .of (killE d e) (killO d o) := by
  unfold ASt.kill ASt.of
  congr 1
  · funext n; rw [envL_killE]
  · funext n; rw [objL_killO]
theorem kills_of (d : Nat) (ds : List Nat) (e : List (Nat × AV)) (o : List (Nat × AObj)) : killAll (d :: ds) (ASt.of e o) = killAll ds (.of (killE d e) (killO d o)) := by
  rw [killAll, kill_of]
theorem kills_nil (st : ASt) : killAll [] st = st := rfl
end Go.Av

