/- Whole numbers as float32, lists that a law marks. Conditions: none. -/
import Derived.Test.YtgjdkhocnnoimaaPu1
import Derived.Laws.FloatBits
namespace Go.Sim
open Go

/-- A whole number as float32. -/
def cvI (n : Int) : Nat := canon .f32 (FloatKind.nearest .f32 n)

theorem set_all {α : Type} (n : Nat) (f : Nat → α) (S : Nat → List α) (h0 : (S 0).length = n) (hs : ∀ k, S (k + 1) = (S k).set k (f k)) : S n = (List.range n).map f := by
  have hl : ∀ k, (S k).length = n := by
    intro k
    induction k with
    | zero => exact h0
    | succ k ih => rw [hs]; simpa using ih
  have key : ∀ k, k ≤ n → ∀ i, i < k → (S k)[i]? = some (f i) := by
    intro k
    induction k with
    | zero => intro _ i hi; omega
    | succ k ih =>
      intro hk i hi
      rw [hs, List.getElem?_set]
      split
      · rename_i e
        subst e
        have := hl k
        rw [if_pos (by omega)]
      · exact ih (by omega) i (by omega)
  apply List.ext_getElem?
  intro i
  rcases Nat.lt_or_ge i n with h | h
  · rw [key n (Nat.le_refl _) i h]; simp [h]
  · rw [List.getElem?_eq_none (by rw [hl]; exact h)]
    rw [List.getElem?_eq_none (by simp; exact h)]

end Go.Sim
