/- The points of the unit circle that short spectra need, as words and as whole numbers. Conditions: none. -/
import Derived.Test.YtgjdkhocnnoimaaPvK
import Derived.Test.YtgjdkhocnnoimaaPvT
namespace Go.Sim
open Go

/-! ### The points of the unit circle -/

end Go.Sim
