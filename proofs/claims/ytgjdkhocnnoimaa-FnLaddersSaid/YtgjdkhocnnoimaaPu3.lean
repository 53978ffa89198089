/- When two float32 words stand for the same number. Conditions: none. -/
import Derived.Test.YtgjdkhocnnoimaaPu2
import Derived.Test.YtgjdkhocnnoimaaS22
namespace Go.Sim
open Go

/-- A canonical float32 word. -/
def w32 (x : Nat) : Prop := x < 4294967296 ∧ canon .f32 x = x

theorem w32_of {b : Nat} (h : b < 4294967296) : w32 (canon .f32 b) := by
  refine ⟨?_, canon_canon _ _⟩
  unfold canon
  split
  · decide
  · exact h

theorem wrap_i64 (n : Int) : IntKind.wrap .i64 n = (if (true && decide (n % 18446744073709551616 ≥ 9223372036854775808)) = true then n % 18446744073709551616 - 18446744073709551616 else n % 18446744073709551616) := by
  rfl

end Go.Sim
