/- A copy of a string's bytes into a part of an own array; arrays whose elements are a list. -/
import Derived.Test.YtabjaaonfaejmaaHAv51
set_option linter.all false
namespace Go.Av
end Go.Av

