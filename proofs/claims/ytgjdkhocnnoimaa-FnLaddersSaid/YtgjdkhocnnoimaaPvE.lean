/- The logarithm between 1 and 256, absolute values, numbers made whole. Conditions: none. -/
import Derived.Test.YtgjdkhocnnoimaaPvD
import Derived.Test.YtgjdkhocnnoimaaS22
namespace Go.Sim
open Go

section
variable {k : FloatKind} {x a b : Nat}
theorem Iv.fin (h : Iv .f32 x a b) : fin32 x = true := fin32_isF.2 h.fx
end

/-! ### Halves -/

/-! ### The logarithm -/

/-! ### Numbers made whole -/

end Go.Sim
