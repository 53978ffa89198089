/- Sums and crossings of small whole numbers. Conditions: none. -/
import Derived.Test.YtgjdkhocnnoimaaPvM
import Derived.Test.YtgjdkhocnnoimaaPu5
namespace Go.Sim
open Go

theorem sameW_self (xs : List Nat) : sameW xs xs = true := by
  simp only [sameW, beq_self_eq_true, Bool.true_and]
  exact allBelow_true.2 fun k _ => by simp [sameN]

end Go.Sim
