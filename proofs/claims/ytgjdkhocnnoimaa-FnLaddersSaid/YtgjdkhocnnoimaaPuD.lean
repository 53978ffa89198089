/- Contents that agree on their rows. Conditions: none. -/
import Derived.Test.YtgjdkhocnnoimaaS23
namespace Go.Sim
open Go

theorem BlkOk.rows {ι : List Place} {w : World} {p : Place} {o : Bool} {n sz : Nat} {g g' : Nat → List Sc} (hg : ∀ i, i < n → g i = g' i) (h : BlkOk ι w p ⟨o, .fn n sz g⟩) : BlkOk ι w p ⟨o, .fn n sz g'⟩ := by
  refine ⟨h.sz, fun r hr => ?_, fun r j hr hj => ?_, h.own⟩
  · have := h.len r hr
    simp only [Cont.row] at this ⊢
    rw [← hg r hr]; exact this
  · have := h.cells r j hr hj
    simp only [Cont.row] at this ⊢
    rw [← hg r hr]; exact this

end Go.Sim
