/- A part of the proof. -/
import Derived.Test.YtkeopokhnfpgpaaGreatDoorHAv35
set_option linter.all false
namespace Go.Av
theorem zjc {α : Type} [Inhabited α] (f : α → Dat) (l : List α) (i : Nat) (d : AV) (h : i < l.length) : (((l.map f).map AV.dat)[i]?).getD d = .dat (f (l.getD i default)) := by
 simp [List.getD_eq_getElem?_getD, List.getElem?_eq_getElem h]
theorem zcf {α : Type} (f : α → Dat) (l : List α) (i : Nat) (x : α) : ((l.map f).map AV.dat).set i (.dat (f x)) = ((l.set i x).map f).map AV.dat := by
 rw [List.map_set, List.map_set]
theorem zup {α : Type} (f : α → Dat) (l : List α) : ((l.map f).map AV.dat).length = l.length := by simp
theorem zpb {α : Type} (f : α → Dat) (l : List α) (k : Nat) : ((l.map f).map AV.dat).map (AV.kill k) = (l.map f).map AV.dat := by
 simp [List.map_map, Function.comp_def, AV.kill]
end Go.Av

