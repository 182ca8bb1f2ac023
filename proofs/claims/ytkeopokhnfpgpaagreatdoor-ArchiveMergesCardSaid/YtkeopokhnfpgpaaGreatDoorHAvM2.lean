/- A part of the proof. -/
import Derived.Test.YtkeopokhnfpgpaaGreatDoorHAv22
set_option linter.all false
namespace Go.Av
def initM (xs : List AV) : Nat → AV := fun n => match xs[n]? with
 | some x => x
 | none => .junk
def ASt.initM (xs : List AV) (os : List (Nat × AObj)) : ASt := ⟨Av.initM xs, ql os⟩
def qq (objs : Nat → Option AObj) : List (Nat × AObj) → Prop
 | [] => True
 | (id, o) :: l => objs id = some o ∧ qq objs l
theorem jv {objs : Nat → Option AObj} {id : Nat} {o : AObj} : ∀ {l : List (Nat × AObj)}, qq objs l → ql l id = some o → objs id = some o
 | [], _, h => by simp [ql] at h
 | (k, v) :: l, hs, h => by
  simp only [ql] at h
  simp only [qq] at hs
  split at h
  ·rename_i hk; subst hk; simp at h; subst h; exact hs.1
  ·exact jv hs.2 h
def y5 (F : FC) (res : List ResultVar) (rs : List Dat) (os' : List (Nat × AObj)) : Exit → ASt → Prop
 | .normal, st | .ret, st => (vb F st res).1 ∧ kg (wc (fun _ => none) 6) (vb F st res).2 = some rs ∧ qq st.objs os'
 | _, _ => False
end Go.Av

