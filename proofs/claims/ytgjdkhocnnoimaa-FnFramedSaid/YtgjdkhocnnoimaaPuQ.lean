/- Places of frames. Conditions: none. -/
import Derived.Test.YtgjdkhocnnoimaaS26
namespace Go.Sim
open Go

theorem rowF_snoc {xs : List (List Nat)} {n : Nat} {y : List Nat} (h : xs.length = n) (i : Nat) (hi : i < n + 1) : (bif Nat.blt i n then rowF xs i else (fun (_ : Nat) => [HC.r y]) (i - n)) = rowF (xs ++ [y]) i := by
  subst h
  cases hb : Nat.blt i xs.length with
  | true =>
    have hl : i < xs.length := Nat.le_of_ble_eq_true hb
    simp [rowF, List.getElem?_append_left hl]
  | false =>
    have hl : i = xs.length := by
      rcases Nat.lt_or_ge i xs.length with h' | h'
      · have : Nat.blt i xs.length = true := Nat.ble_eq_true_of_le h'
        rw [this] at hb; cases hb
      · omega
    subst hl
    simp [rowF]

/-! ### Places of frames -/

theorem mulA (n : Nat) (s : Int) : 1 ≤ s → s ≤ 256 → 1 ≤ n → n ≤ 256 → 0 ≤ (((n : Nat) : Int) - (1 : Int)) * s ∧ (((n : Nat) : Int) - (1 : Int)) * s ≤ 65536 := by
  intro h1 h2 h3 h4
  constructor
  · exact Int.mul_nonneg (by omega) (by omega)
  · have := Int.mul_le_mul (show ((n : Nat) : Int) - 1 ≤ 256 by omega) h2 (by omega) (by omega)
    omega
theorem mulAc (n : Nat) (s : Int) : 1 ≤ s → s ≤ 256 → 1 ≤ n → n ≤ 256 → 0 ≤ s * (((n : Nat) : Int) - (1 : Int)) ∧ s * (((n : Nat) : Int) - (1 : Int)) ≤ 65536 := by
  rw [Int.mul_comm]; exact mulA n s
theorem mulK {k n : Nat} (h : k < n) (s : Int) : 1 ≤ s → 0 ≤ ((k : Nat) : Int) * s ∧ ((k : Nat) : Int) * s ≤ (((n : Nat) : Int) - (1 : Int)) * s := by
  intro h1
  exact ⟨Int.mul_nonneg (by omega) (by omega), Int.mul_le_mul_of_nonneg_right (by omega) (by omega)⟩
theorem mulKc {k n : Nat} (h : k < n) (s : Int) : 1 ≤ s → 0 ≤ s * ((k : Nat) : Int) ∧ s * ((k : Nat) : Int) ≤ s * (((n : Nat) : Int) - (1 : Int)) := by
  rw [Int.mul_comm s, Int.mul_comm s]; exact mulK h s

end Go.Sim
