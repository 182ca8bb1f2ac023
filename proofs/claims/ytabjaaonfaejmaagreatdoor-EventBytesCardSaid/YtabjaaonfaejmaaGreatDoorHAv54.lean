/- A part of the proof. -/
import Derived.Test.YtabjaaonfaejmaaGreatDoorHAv53
set_option linter.all false
namespace Go.Av
theorem ztf (f : AV → Option Dat) (A B : List Dat) : xd f (A.map AV.dat ++ B.map AV.dat) = some (A ++ B) := by
 have h := datE_map (A ++ B)
 simp only [List.map_append] at h
 simp [xd, h]
end Go.Av

