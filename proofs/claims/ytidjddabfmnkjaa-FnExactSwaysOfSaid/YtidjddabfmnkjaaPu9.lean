/- The exponential function of all codes is told by the language (checked one by one). Conditions: none. -/
import Derived.Test.YtidjddabfmnkjaaPu8
namespace Go.Sim
open Go

theorem code_okN : ∀ n, n < 128 → expOkB (fop .mul .f32 1085370904 (fop .quo .f32 (canon .f32 (FloatKind.nearest .f32 ((n : Nat) : Int))) 1123942400)) = true := by decide +kernel

theorem code_ok (n : Int) (h : 0 ≤ n) (g : n ≤ 127) : expOkB (fop .mul .f32 1085370904 (fop .quo .f32 (canon .f32 (FloatKind.nearest .f32 n)) 1123942400)) = true := by
  obtain ⟨m, rfl⟩ := Int.eq_ofNat_of_zero_le h
  exact code_okN m (by omega)

end Go.Sim
