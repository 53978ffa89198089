/- The numbers of the codes: finite, from -1 to 1 (checked one by one); the worst of codes. Conditions: none. -/
import Derived.Test.YtgjdkhocnnoimaaPvF
namespace Go.Sim
open Go

def ivB (k : FloatKind) (x l h : Nat) : Bool := finB k x && finB k l && finB k h && decide (fv k l ≤ fv k x) && decide (fv k x ≤ fv k h)

theorem Iv.of {k : FloatKind} {x l h : Nat} (hc : ivB k x l h = true) : Iv k x l h := by
  simp only [ivB, Bool.and_eq_true, decide_eq_true_eq] at hc
  exact ⟨finB_fl hc.1.1.1.1, finB_fl hc.1.1.1.2, finB_fl hc.1.1.2, hc.1.2, hc.2⟩

end Go.Sim
