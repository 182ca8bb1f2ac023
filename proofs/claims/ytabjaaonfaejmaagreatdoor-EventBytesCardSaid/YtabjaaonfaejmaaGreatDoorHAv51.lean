/- A part of the proof. -/
import Derived.Test.YtabjaaonfaejmaaGreatDoorHAv50
set_option linter.all false
namespace Go.Av
end Go.Av

