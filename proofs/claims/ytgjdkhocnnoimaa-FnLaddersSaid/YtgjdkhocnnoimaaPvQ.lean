/- Square roots of float32s are float32s again. Conditions: none. -/
import Derived.Test.YtgjdkhocnnoimaaS22
import Derived.Test.YtgjdkhocnnoimaaPvD
namespace Go.Sim
open Go

theorem rootFrom_sq (n : Nat) : ∀ (todo root : Nat), root * root ≤ n → Ieee.Datum.rootFrom n todo root * Ieee.Datum.rootFrom n todo root ≤ n
  | 0, root, h => h
  | todo + 1, root, h => by
    simp only [Ieee.Datum.rootFrom]
    split
    · rename_i h'; exact rootFrom_sq n todo _ h'
    · exact rootFrom_sq n todo _ h

end Go.Sim
