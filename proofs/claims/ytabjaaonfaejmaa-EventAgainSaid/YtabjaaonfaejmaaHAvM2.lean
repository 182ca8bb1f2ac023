/- The contract of a function that is given objects of its caller's, from its body. -/
import Derived.Test.YtabjaaonfaejmaaHAv22
set_option linter.all false
namespace Go.Av
def initM (xs : List AV) : Nat → AV := fun n => match xs[n]? with
  | some x => x
  | none => .junk
def ASt.initM (xs : List AV) (os : List (Nat × AObj)) : ASt := ⟨Av.initM xs, objL os⟩
def objsAre (objs : Nat → Option AObj) : List (Nat × AObj) → Prop
  | [] => True
  | (id, o) :: l => objs id = some o ∧ objsAre objs l
theorem objsAre_at {objs : Nat → Option AObj} {id : Nat} {o : AObj} : ∀ {l : List (Nat × AObj)}, objsAre objs l → objL l id = some o → objs id = some o
  | [], _, h => by simp [objL] at h
  | (k, v) :: l, hs, h => by
    simp only [objL] at h
    simp only [objsAre] at hs
    split at h
    · rename_i hk; subst hk; simp at h; subst h; exact hs.1
    · exact objsAre_at hs.2 h
def QRetM (F : FC) (res : List ResultVar) (rs : List Dat) (os' : List (Nat × AObj)) : Exit → ASt → Prop
  | .normal, st | .ret, st => (resA F st res).1 ∧ mapO (viewD (fun _ => none) 6) (resA F st res).2 = some rs ∧ objsAre st.objs os'
  | _, _ => False
end Go.Av

