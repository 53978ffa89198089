/- When two float32 words stand for the same number. Conditions: none. -/
import Derived.Test.YtgjdkhocnnoimaaPu2
import Derived.Test.YtgjdkhocnnoimaaS22
namespace Go.Sim
open Go

theorem wrap_i64 (n : Int) : IntKind.wrap .i64 n = (if (true && decide (n % 18446744073709551616 ≥ 9223372036854775808)) = true then n % 18446744073709551616 - 18446744073709551616 else n % 18446744073709551616) := by
  rfl

end Go.Sim
