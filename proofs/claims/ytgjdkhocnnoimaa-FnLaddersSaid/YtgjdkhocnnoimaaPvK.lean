/- Lists of complex numbers, spectra. Conditions: none. -/
import Derived.Test.YtgjdkhocnnoimaaPvI
import Derived.Test.YtgjdkhocnnoimaaPvR

section
namespace Go.Sim
open Go

/-! ### Phasors -/

end Go.Sim
end

section
namespace Go.Sim
open Go

/-! ### Lists that the laws mark -/

/-! ### Remainders -/

/-! ### Spectra -/

end Go.Sim
end
