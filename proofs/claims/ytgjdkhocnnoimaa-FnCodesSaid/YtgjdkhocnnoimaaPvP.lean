/- Codes lead to numbers and back (checked one by one). Conditions: none. -/
import Derived.Test.YtgjdkhocnnoimaaPvH
namespace Go.Sim
open Go

def backB (c : Int) : Bool := decide (codeOfF (codeF c) = c) && (fcmp .lss .f32 (codeF c) 0 == decide (c < 128))

theorem back_tab1 : ∀ n, n < 64 → backB (((n : Nat) : Int) + 1) = true := by decide +kernel
theorem back_tab2 : ∀ n, n < 64 → backB (((n : Nat) : Int) + 65) = true := by decide +kernel
theorem back_tab3 : ∀ n, n < 64 → backB (((n : Nat) : Int) + 129) = true := by decide +kernel
theorem back_tab4 : ∀ n, n < 63 → backB (((n : Nat) : Int) + 193) = true := by decide +kernel

theorem back_tab {c : Int} (h0 : 1 ≤ c) (h1 : c ≤ 255) : backB c = true := by
  rcases (show c ≤ 64 ∨ (65 ≤ c ∧ c ≤ 128) ∨ (129 ≤ c ∧ c ≤ 192) ∨ 193 ≤ c by omega) with h | h | h | h
  · obtain ⟨n, rfl⟩ : ∃ n : Nat, c = ((n : Nat) : Int) + 1 := ⟨(c - 1).toNat, by omega⟩
    exact back_tab1 n (by omega)
  · obtain ⟨n, rfl⟩ : ∃ n : Nat, c = ((n : Nat) : Int) + 65 := ⟨(c - 65).toNat, by omega⟩
    exact back_tab2 n (by omega)
  · obtain ⟨n, rfl⟩ : ∃ n : Nat, c = ((n : Nat) : Int) + 129 := ⟨(c - 129).toNat, by omega⟩
    exact back_tab3 n (by omega)
  · obtain ⟨n, rfl⟩ : ∃ n : Nat, c = ((n : Nat) : Int) + 193 := ⟨(c - 193).toNat, by omega⟩
    exact back_tab4 n (by omega)

end Go.Sim
