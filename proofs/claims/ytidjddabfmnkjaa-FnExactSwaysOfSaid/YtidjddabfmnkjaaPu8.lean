/- The exponential function of small numbers, and numbers of codes. Conditions: none. -/
import Derived.Test.YtidjddabfmnkjaaPu7
namespace Go.Sim
open Go

def expP (t : Nat) : Nat → Nat
  | 0 => 4607182418800017408
  | k + 1 => fop .add .f64 4607182418800017408 (fop .quo .f64 (fop .mul .f64 t (expP t k)) (canon .f64 (FloatKind.nearest .f64 ((12 : Int) + (-1 : Int) * ((k : Nat) : Int)))))

def expQ (p : Nat) : Nat → Nat
  | 0 => p
  | k + 1 => fop .mul .f64 (expQ p k) (expQ p k)

@[irreducible] def expW (y : Nat) : Nat := expQ (expP (fop .quo .f64 y 4643211215818981376) 12) 8

def fconvOkB (x : Nat) : Bool := match FloatKind.decode .f64 x with
  | .number sg m e => !(FloatKind.decode .f32 (FloatKind.encode .f32 (.number sg m e))).isInfinity
  | _ => true

theorem fconvOk_of {x : Nat} (h : fconvOkB x = true) : fconvOk .f64 .f32 x := by
  unfold fconvOkB at h
  unfold fconvOk
  cases hd : FloatKind.decode .f64 x with
  | number s m e => rw [hd] at h; simpa using h
  | infinity s => trivial
  | nan s f => trivial

/-- The exponential function of 'x' is told by the language. -/
def expOkB (x : Nat) : Bool :=
  !(fcmp .gtr .f32 x 1128792064) && !(fcmp .lss .f32 x 3276275712) && !(fcmp .neq .f64 (fcv .f32 .f64 x) (fcv .f32 .f64 x)) &&
  !(fcmp .gtr .f64 (fcv .f32 .f64 x) 4641240890982006784) && !(fcmp .lss .f64 (fcv .f32 .f64 x) 13864612927836782592) && fconvOkB (expW (fcv .f32 .f64 x))

theorem expOk_1 {x : Nat} (h : expOkB x = true) : fcmp .gtr .f32 x 1128792064 = false := by
  simp only [expOkB, Bool.and_eq_true, Bool.not_eq_true'] at h; exact h.1.1.1.1.1
theorem expOk_2 {x : Nat} (h : expOkB x = true) : fcmp .lss .f32 x 3276275712 = false := by
  simp only [expOkB, Bool.and_eq_true, Bool.not_eq_true'] at h; exact h.1.1.1.1.2
theorem expOk_3 {x : Nat} (h : expOkB x = true) : fcmp .neq .f64 (fcv .f32 .f64 x) (fcv .f32 .f64 x) = false := by
  simp only [expOkB, Bool.and_eq_true, Bool.not_eq_true'] at h; exact h.1.1.1.2
theorem expOk_4 {x : Nat} (h : expOkB x = true) : fcmp .gtr .f64 (fcv .f32 .f64 x) 4641240890982006784 = false := by
  simp only [expOkB, Bool.and_eq_true, Bool.not_eq_true'] at h; exact h.1.1.2
theorem expOk_5 {x : Nat} (h : expOkB x = true) : fcmp .lss .f64 (fcv .f32 .f64 x) 13864612927836782592 = false := by
  simp only [expOkB, Bool.and_eq_true, Bool.not_eq_true'] at h; exact h.1.2
theorem expOk_6 {x : Nat} (h : expOkB x = true) : fconvOk .f64 .f32 (expW (fcv .f32 .f64 x)) := by
  simp only [expOkB, Bool.and_eq_true, Bool.not_eq_true'] at h; exact fconvOk_of h.2

def codeN (c : Int) : Int := if (c - 128).natAbs < 127 then ((c - 128).natAbs : Int) else 127

theorem codeN_impl (c : Int) : (if (if (128 : Int) - c > c - (128 : Int) then (128 : Int) - c else c - (128 : Int)) < (127 : Int) then (if (128 : Int) - c > c - (128 : Int) then (128 : Int) - c else c - (128 : Int)) else (127 : Int)) = codeN c := by
  unfold codeN
  repeat' split
  all_goals omega

theorem codeN_spec (c m : Int) (h : m = c - 128 ∧ ¬ c - 128 < 0 ∨ m = 0 - (c - 128) ∧ c - 128 < 0) : (if m < (127 : Int) then m else (127 : Int)) = codeN c := by
  unfold codeN
  repeat' split
  all_goals omega

def codeX (c : Int) : Nat := fop .quo .f32 (fop .sub .f32 (fcv .f64 .f32 (expW (fcv .f32 .f64 (fop .mul .f32 1085370904 (fop .quo .f32 (canon .f32 (FloatKind.nearest .f32 (codeN c))) 1123942400))))) 1065353216) 1132396544

def codeF (c : Int) : Nat := if c < 128 then fneg .f32 (codeX c) else codeX c

end Go.Sim
