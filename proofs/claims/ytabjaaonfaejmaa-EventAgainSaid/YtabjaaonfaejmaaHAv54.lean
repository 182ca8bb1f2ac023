/- Views of rows that are made in parts. -/
import Derived.Test.YtabjaaonfaejmaaHAv53
set_option linter.all false
namespace Go.Av
theorem vL_two (f : AV → Option Dat) (A B : List Dat) : viewL f (A.map AV.dat ++ B.map AV.dat) = some (A ++ B) := by
  have h := datE_map (A ++ B)
  simp only [List.map_append] at h
  simp [viewL, h]
end Go.Av

