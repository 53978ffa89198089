/- Absolute values of float32, there and back by float64. Conditions: none. -/
import Derived.Test.YtgjdkhocnnoimaaPvE
import Derived.Test.YtgjdkhocnnoimaaPu3
namespace Go.Sim
open Go

theorem rgv_pos {f : Ieee.Format} {r : Nat} (h : 0 < r) : 0 < rgv f r := by
  have := rv_lt f h; rw [rv_zero] at this; exact this

/-- A number that a rung has is written as that rung. -/
theorem Rd.rung {k : FloatKind} {q : Rat} {z : Nat} (h : Rd k q z) {r : Nat} (hr : r < k.format.infRung) (hp : 0 < r) (e : q = rgv k.format r) : z = k.format.word false r := by
  obtain ⟨s, t, a, rfl, ha, hq, ht, hup, hlo, _⟩ := h
  have := rgv_pos (f := k.format) hp
  rcases sg_cases s with ⟨rfl, es⟩ | ⟨rfl, es⟩ <;> rw [es] at hq
  · have e1 : a = rgv k.format r := by grind
    have := hup r (Nat.le_of_lt hr) (by rw [e1]; exact Rat.le_refl)
    have := hlo r (Nat.le_of_lt hr) (by rw [e1]; exact Rat.le_refl)
    have : t = r := by omega
    rw [this]
  · grind

/-! ### The code of a number -/

end Go.Sim
