/- Lists that loops write, by what stands in their places. Conditions: none. -/
import Derived.Test.YtgjdkhocnnoimaaPu4
namespace Go.Sim
open Go

theorem pred_at (st xs : List Nat) (n : Nat) (S : Nat → Nat) (m : Nat) (h0 : S 0 = 0) (hs : ∀ k, S (k + 1) = fop .add .f32 (S k) (fop .mul .f32 (List.getD st k 0) (List.getD xs (n - (k + 1)) 0))) (hm : m = min st.length n) : S m = predAt st xs n := by
  have key : ∀ k, S k = predV st xs n k := by
    intro k
    induction k with
    | zero => exact h0
    | succ k ih => rw [hs, ih]; rfl
  rw [key, hm]; rfl

end Go.Sim
