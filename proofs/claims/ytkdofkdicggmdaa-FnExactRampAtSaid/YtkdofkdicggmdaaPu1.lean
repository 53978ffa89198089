/- What the program's small functions of numbers compute, in plain Lean. Conditions: none. -/
import Derived.Test.YtkdofkdicggmdaaS19
namespace Go.Sim
open Go

/-- A float32 that is a number and not too great. -/
def fin32 (x : Nat) : Bool := fcmp .eql .f32 (fop .sub .f32 x x) 0

/-- Two float64 words are the same number (not-a-number is one; the zeros are two). -/
def sameD (a b : Nat) : Bool :=
  bif fcmp .neq .f64 a a || fcmp .neq .f64 b b then fcmp .neq .f64 a a && fcmp .neq .f64 b b
  else bif fcmp .eql .f64 a 0 && fcmp .eql .f64 b 0 then fcmp .gtr .f64 (fop .quo .f64 4607182418800017408 a) 0 == fcmp .gtr .f64 (fop .quo .f64 4607182418800017408 b) 0
  else fcmp .eql .f64 a b

theorem fcmp_neq (k : FloatKind) (a b : Nat) : fcmp .neq k a b = !(fcmp .eql k a b) := by
  cases k <;> (unfold fcmp; first | rfl | (simp; done) | (split <;> rfl))

theorem sameD_self (a : Nat) : sameD a a = true := by
  unfold sameD
  rw [fcmp_neq]
  cases fcmp .eql .f64 a a <;> simp

def rampF (x : Nat) : Nat :=
  bif fcmp .lss .f32 x 0 then 0 else bif fcmp .gtr .f32 x 1065353216 then 1065353216
  else fop .mul .f32 (fop .mul .f32 x x) (fop .sub .f32 1077936128 (fop .mul .f32 1073741824 x))

end Go.Sim
