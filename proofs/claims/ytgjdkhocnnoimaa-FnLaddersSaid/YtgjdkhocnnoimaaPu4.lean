/- How float32 words stand to each other; finite words. Conditions: none. -/
import Derived.Test.YtgjdkhocnnoimaaPu3
namespace Go.Sim
open Go

theorem allBelow_congr {p q : Nat → Bool} {n : Nat} (h : ∀ k, k < n → p k = q k) : allBelow p n = allBelow q n := by
  induction n with
  | zero => rfl
  | succ n ih => simp only [allBelow]; rw [ih fun k hk => h k (by omega), h n (by omega)]

theorem isN_fop_l {op : BinOp} {k : FloatKind} {x : Nat} (y : Nat) (hop : op = .add ∨ op = .sub ∨ op = .mul ∨ op = .quo) (h : isN k x = true) : fop op k x y = cNaN k := by
  have h' : (k.format.read x).isNaN = true := h
  unfold fop
  rcases hop with rfl | rfl | rfl | rfl <;> simp only [floatBits, Ieee.Format.add, Ieee.Format.sub, Ieee.Format.mul, Ieee.Format.div]
  · rw [sum_nan_l h']; rfl
  · rw [sum_nan_l h']; rfl
  · rw [product_nan_l h']; rfl
  · rw [quotient_nan_l _ h']; rfl

/-- What is not a number is not finite. -/
theorem fin32_nan {x : Nat} (h : isN .f32 x = true) : fin32 x = false := by
  unfold fin32
  rw [isN_fop_l x (Or.inr (Or.inl rfl)) h]
  decide

def isStp (x : Nat) : Bool := fcmp .gtr .f32 x 3212836864 && fcmp .lss .f32 x 1065353216

def allStp (xs : List Nat) : Bool := allBelow (fun k => isStp (xs.getD k 0)) xs.length

/-- What a predictor tells of number 'n': 'k' steps of it. -/
def predV (st xs : List Nat) (n : Nat) : Nat → Nat
  | 0 => 0
  | k + 1 => fop .add .f32 (predV st xs n k) (fop .mul .f32 (List.getD st k 0) (List.getD xs (n - (k + 1)) 0))

def predAt (st xs : List Nat) (n : Nat) : Nat := predV st xs n (min st.length n)

end Go.Sim
