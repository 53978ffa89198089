/- The logarithm between 1 and 256, absolute values, numbers made whole. Conditions: none. -/
import Derived.Test.YtgjdkhocnnoimaaPvD
import Derived.Test.YtgjdkhocnnoimaaS22
namespace Go.Sim
open Go

section
variable {k : FloatKind} {x a b : Nat}
def ltB (k : FloatKind) (b c : Nat) : Bool := finB k c && decide (fv k b < fv k c)
def geB (k : FloatKind) (c a : Nat) : Bool := finB k c && decide (fv k c ≤ fv k a)

theorem Iv.lss_f (h : Iv k x a b) {c : Nat} (hc : geB k c a = true) : fcmp .lss k x c = false := by
  simp only [geB, Bool.and_eq_true, decide_eq_true_eq] at hc
  rw [Bool.eq_false_iff]; intro hh; rw [lss_iff h.fx (finB_fl hc.1)] at hh; have := h.lo; grind
theorem Iv.geq_f (h : Iv k x a b) {c : Nat} (hc : ltB k b c = true) : fcmp .geq k x c = false := by
  simp only [ltB, Bool.and_eq_true, decide_eq_true_eq] at hc
  rw [Bool.eq_false_iff]; intro hh; rw [geq_iff h.fx (finB_fl hc.1)] at hh; have := h.hi; grind
theorem Iv.fin (h : Iv .f32 x a b) : fin32 x = true := fin32_isF.2 h.fx
end

/-! ### Halves -/

/-! ### The logarithm -/

/-! ### Numbers made whole -/

end Go.Sim
