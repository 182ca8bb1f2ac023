/- A part of the proof. -/
import Derived.Test.YtabjaaonfaejmaaGreatDoorHAv22
set_option linter.all false
namespace Go.Av
def initM (xs : List AV) : Nat → AV := fun n => match xs[n]? with
 | some x => x
 | none => .junk
def ASt.initM (xs : List AV) (os : List (Nat × AObj)) : ASt := ⟨Av.initM xs, qm os⟩
def qr (objs : Nat → Option AObj) : List (Nat × AObj) → Prop
 | [] => True
 | (id, o) :: l => objs id = some o ∧ qr objs l
theorem wi {objs : Nat → Option AObj} {id : Nat} {o : AObj} : ∀ {l : List (Nat × AObj)}, qr objs l → qm l id = some o → objs id = some o
 | [], _, h => by simp [qm] at h
 | (k, v) :: l, hs, h => by
  simp only [qm] at h
  simp only [qr] at hs
  split at h
  ·rename_i hk; subst hk; simp at h; subst h; exact hs.1
  ·exact wi hs.2 h
def ym (F : FC) (res : List ResultVar) (rs : List Dat) (os' : List (Nat × AObj)) : Exit → ASt → Prop
 | .normal, st | .ret, st => (vn F st res).1 ∧ Qf (vc (fun _ => none) 6) (vn F st res).2 = some rs ∧ qr st.objs os'
 | _, _ => False
end Go.Av

