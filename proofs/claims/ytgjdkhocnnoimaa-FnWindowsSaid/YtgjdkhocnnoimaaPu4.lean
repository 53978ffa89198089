/- How float32 words stand to each other; finite words. Conditions: none. -/
import Derived.Test.YtgjdkhocnnoimaaPu3
namespace Go.Sim
open Go

theorem allBelow_congr {p q : Nat → Bool} {n : Nat} (h : ∀ k, k < n → p k = q k) : allBelow p n = allBelow q n := by
  induction n with
  | zero => rfl
  | succ n ih => simp only [allBelow]; rw [ih fun k hk => h k (by omega), h n (by omega)]

theorem allBelow_and (p q : Nat → Bool) (n : Nat) : allBelow (fun k => p k && q k) n = (allBelow p n && allBelow q n) := by
  induction n with
  | zero => rfl
  | succ n ih =>
    simp only [allBelow]; rw [ih]
    cases allBelow p n <;> cases allBelow q n <;> cases p n <;> cases q n <;> rfl

theorem order_some {k : FloatKind} {x y : Nat} (hx : isN k x = false) (hy : isN k y = false) : ∃ o, k.format.order x y = some o := by
  simp only [Ieee.Format.order]
  have h1 : (k.format.read x).isNaN = false := hx
  have h2 : (k.format.read y).isNaN = false := hy
  generalize k.format.read x = d at h1
  generalize k.format.read y = e at h2
  cases d <;> cases e <;> simp [Ieee.Datum.isNaN] at h1 h2 <;> exact ⟨_, rfl⟩

theorem geq_not {k : FloatKind} {x y : Nat} (hx : isN k x = false) (hy : isN k y = false) : fcmp .geq k x y = !fcmp .lss k x y := by
  obtain ⟨o, h⟩ := order_some hx hy
  cases o <;> simp [fcmp, h]

theorem isN_fop_l {op : BinOp} {k : FloatKind} {x : Nat} (y : Nat) (hop : op = .add ∨ op = .sub ∨ op = .mul ∨ op = .quo) (h : isN k x = true) : fop op k x y = cNaN k := by
  have h' : (k.format.read x).isNaN = true := h
  unfold fop
  rcases hop with rfl | rfl | rfl | rfl <;> simp only [floatBits, Ieee.Format.add, Ieee.Format.sub, Ieee.Format.mul, Ieee.Format.div]
  · rw [sum_nan_l h']; rfl
  · rw [sum_nan_l h']; rfl
  · rw [product_nan_l h']; rfl
  · rw [quotient_nan_l _ h']; rfl

/-- What is not a number is not finite. -/
theorem fin32_nan {x : Nat} (h : isN .f32 x = true) : fin32 x = false := by
  unfold fin32
  rw [isN_fop_l x (Or.inr (Or.inl rfl)) h]
  decide

theorem fin32_N {x : Nat} (h : fin32 x = true) : isN .f32 x = false := by
  cases n : isN .f32 x with
  | false => rfl
  | true => rw [fin32_nan n] at h; cases h

theorem zero_N : isN .f32 0 = false := by decide

def allGe0 (xs : List Nat) : Bool := allBelow (fun k => fin32 (xs.getD k 0) && fcmp .geq .f32 (xs.getD k 0) 0) xs.length

theorem allGe0_of (xs : List Nat) : allGe0 xs = (allFin xs && allBelow (fun k => !fcmp .lss .f32 (List.getD xs k 0) 0) xs.length) := by
  unfold allGe0 allFin
  rw [← allBelow_and]
  refine allBelow_congr fun k _ => ?_
  cases h : fin32 (xs.getD k 0) with
  | false => rfl
  | true => rw [geq_not (fin32_N h) zero_N]

end Go.Sim
