/- Short spectra of small whole numbers: how far they are from the exact ones. Conditions: none. -/
import Derived.Test.YtgjdkhocnnoimaaPvW
import Derived.Test.YtgjdkhocnnoimaaPvN
namespace Go.Sim
open Go

/-! ### Products with bounded numbers -/

/-- A product of numbers within bounds. -/
theorem mul_bd {a b A B : Rat} (ha : a ≤ A) (ha' : -A ≤ a) (hb : b ≤ B) (hb' : -B ≤ b) : a * b ≤ A * B ∧ -(A * B) ≤ a * b := by
  have hA : 0 ≤ A := by grind
  have hB : 0 ≤ B := by grind
  have e1 : 0 ≤ (A - a) * (B + b) := Rat.mul_nonneg (by grind) (by grind)
  have e2 : 0 ≤ (A + a) * (B - b) := Rat.mul_nonneg (by grind) (by grind)
  have e3 : 0 ≤ (A - a) * (B - b) := Rat.mul_nonneg (by grind) (by grind)
  have e4 : 0 ≤ (A + a) * (B + b) := Rat.mul_nonneg (by grind) (by grind)
  exact ⟨by grind, by grind⟩

/-! ### Which points -/

end Go.Sim
