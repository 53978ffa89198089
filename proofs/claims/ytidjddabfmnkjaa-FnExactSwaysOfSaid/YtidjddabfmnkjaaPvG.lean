/- The numbers of the codes: finite, from -1 to 1 (checked one by one); the worst of codes. Conditions: none. -/
import Derived.Test.YtidjddabfmnkjaaPvF
namespace Go.Sim
open Go

def codeXn (n : Int) : Nat := fop .quo .f32 (fop .sub .f32 (fcv .f64 .f32 (expW (fcv .f32 .f64 (fop .mul .f32 1085370904 (fop .quo .f32 (canon .f32 (FloatKind.nearest .f32 n)) 1123942400))))) 1065353216) 1132396544

def ivB (k : FloatKind) (x l h : Nat) : Bool := finB k x && finB k l && finB k h && decide (fv k l ≤ fv k x) && decide (fv k x ≤ fv k h)

theorem Iv.of {k : FloatKind} {x l h : Nat} (hc : ivB k x l h = true) : Iv k x l h := by
  simp only [ivB, Bool.and_eq_true, decide_eq_true_eq] at hc
  exact ⟨finB_fl hc.1.1.1.1, finB_fl hc.1.1.1.2, finB_fl hc.1.1.2, hc.1.2, hc.2⟩

theorem codeX_tab : ∀ n, n < 128 → ivB .f32 (codeXn ((n : Nat) : Int)) 0 1065353216 = true := by decide +kernel

end Go.Sim
