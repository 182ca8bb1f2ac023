/- A part of the proof. -/
import Derived.Test.YtkeopokhnfpgpaaGreatDoorHAv22
set_option linter.all false
namespace Go.Av
def initM (xs : List AV) : Nat → AV := fun n => match xs[n]? with
 | some x => x
 | none => .junk
def ASt.initM (xs : List AV) (os : List (Nat × AObj)) : ASt := ⟨Av.initM xs, qm os⟩
def x5 (objs : Nat → Option AObj) : List (Nat × AObj) → Prop
 | [] => True
 | (id, o) :: l => objs id = some o ∧ x5 objs l
theorem k8 {objs : Nat → Option AObj} {id : Nat} {o : AObj} : ∀ {l : List (Nat × AObj)}, x5 objs l → qm l id = some o → objs id = some o
 | [], _, h => by simp [qm] at h
 | (k, v) :: l, hs, h => by
  simp only [qm] at h
  simp only [x5] at hs
  split at h
  ·rename_i hk; subst hk; simp at h; subst h; exact hs.1
  ·exact k8 hs.2 h
def y6 (F : FC) (res : List ResultVar) (rs : List Dat) (os' : List (Nat × AObj)) : Exit → ASt → Prop
 | .normal, st | .ret, st => (vb F st res).1 ∧ km (wb (fun _ => none) 6) (vb F st res).2 = some rs ∧ x5 st.objs os'
 | _, _ => False
end Go.Av

