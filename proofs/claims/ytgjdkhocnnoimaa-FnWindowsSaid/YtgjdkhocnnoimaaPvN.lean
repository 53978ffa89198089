/- Sums and crossings of small whole numbers. Conditions: none. -/
import Derived.Test.YtgjdkhocnnoimaaPvM
import Derived.Test.YtgjdkhocnnoimaaPu5
namespace Go.Sim
open Go

theorem getD_cvI (vs : List Int) (k : Nat) : (vs.map cvI).getD k 0 = cvI (vs.getD k 0) := by
  rcases Nat.lt_or_ge k vs.length with h | h
  · simp [h]
  · have e1 : (vs.map cvI).getD k 0 = 0 := by simp [h]
    have e2 : vs.getD k 0 = 0 := by simp [h]
    rw [e1, e2, cvI_zero]

def small8 (vs : List Int) : Prop := ∀ v ∈ vs, v ≠ 0 ∧ v.natAbs ≤ 8

theorem small8_at {vs : List Int} (h : small8 vs) {k : Nat} (hk : k < vs.length) : vs.getD k 0 ≠ 0 ∧ (vs.getD k 0).natAbs ≤ 8 := by
  have : vs.getD k 0 = vs[k] := by simp [hk]
  rw [this]; exact h _ (List.getElem_mem hk)

theorem isSnd_int {vs : List Int} (h : small8 vs) (hl : vs.length ≤ 256) : isSnd (vs.map cvI) = true := by
  simp only [isSnd, Bool.and_eq_true, decide_eq_true_eq, List.length_map]
  refine ⟨hl, allBelow_true.2 fun k hk => ?_⟩
  rw [getD_cvI]
  exact cvI_fin (by have := small8_at h (k := k) (by simpa using hk); omega)

end Go.Sim
