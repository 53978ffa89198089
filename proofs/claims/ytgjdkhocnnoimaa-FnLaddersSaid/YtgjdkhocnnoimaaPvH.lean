/- The numbers of the codes, the worst of codes. Conditions: none. -/
import Derived.Test.YtgjdkhocnnoimaaPvG
namespace Go.Sim
open Go

theorem w32_fop (op : BinOp) (x y : Nat) : w32 (fop op .f32 x y) := by
  unfold fop
  cases hb : floatBits op .f32 x y with
  | some r =>
    have := floatBits_wf hb
    simp [Lit.wf] at this
    exact w32_of this
  | none => exact ⟨by decide, by decide⟩

end Go.Sim
