/- What the program's small functions of numbers compute, in plain Lean. Conditions: none. -/
import Derived.Test.YtgjdkhocnnoimaaS19
namespace Go.Sim
open Go

theorem and_tt {a b : Bool} (h : a = true) (g : b = true) : (a && b) = true := by rw [h, g]; rfl
theorem and_fl {a b : Bool} (h : a = false) : (a && b) = false := by rw [h]; rfl
theorem and_fr {a b : Bool} (g : b = false) : (a && b) = false := by rw [g]; exact Bool.and_false a

/-- A float32 that is a number and not too great. -/
def fin32 (x : Nat) : Bool := fcmp .eql .f32 (fop .sub .f32 x x) 0

theorem fcmp_neq (k : FloatKind) (a b : Nat) : fcmp .neq k a b = !(fcmp .eql k a b) := by
  cases k <;> (unfold fcmp; first | rfl | (simp; done) | (split <;> rfl))

def allFin (xs : List Nat) : Bool := allBelow (fun k => fin32 (xs.getD k 0)) xs.length

def isSnd (xs : List Nat) : Bool := decide (xs.length ≤ 256) && allFin xs

theorem isSnd_len {xs : List Nat} (h : isSnd xs = true) : xs.length ≤ 256 := by
  simp only [isSnd, Bool.and_eq_true, decide_eq_true_eq] at h; exact h.1

theorem if_not (b : Bool) : (if b = true then false else true) = !b := by cases b <;> rfl

end Go.Sim
