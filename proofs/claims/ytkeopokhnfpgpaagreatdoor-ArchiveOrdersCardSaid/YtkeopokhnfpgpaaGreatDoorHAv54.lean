/- A part of the proof. -/
import Derived.Test.YtkeopokhnfpgpaaGreatDoorHAv53
set_option linter.all false
namespace Go.Av
end Go.Av

