/- Numbers within bounds. Conditions: none. -/

import Derived.Test.YtgjdkhocnnoimaaProg
import Derived.KernelRfl
import Derived.Test.YtgjdkhocnnoimaaQGb
import Derived.Test.YtgjdkhocnnoimaaPu4

set_option linter.unusedSimpArgs false

set_option linter.unusedVariables false

namespace Go.Sim

open Go Go.Proofs

theorem ev_isBetween (x : Nat) (lo : Nat) (hi : Nat)  : Ev Try.prog 142 [.float .f32 x, .float .f32 lo, .float .f32 hi] [] (.bool ((fcmp .geq .f32 x lo) && (fcmp .leq .f32 x hi))) [] := by
  rcases Bool.eq_false_or_eq_true (fcmp .geq .f32 x lo) with h1 | h1
  ·
    have e : evF Try.prog Try.f142 [.float .f32 x, .float .f32 lo, .float .f32 hi] [] [.b true, .b true, .b true, .b true] [] [] (.bool ((fcmp .geq .f32 x lo) && (fcmp .leq .f32 x hi))) [] = some [((fcmp .geq .f32 x lo) = true), ((fcmp .geq .f32 x lo) = true), ((fcmp .geq .f32 x lo) = true), ((fcmp .geq .f32 x lo) = true), ((fcmp .leq .f32 x hi) = ((fcmp .geq .f32 x lo) && (fcmp .leq .f32 x hi)))] := by kernel_rfl
    exact Ev.of mixed _ _ _ Try.func142 (by kernel_rfl) e ⟨h1, h1, h1, h1, (by simp [-List.getD_eq_getElem?_getD, h1]), trivial⟩
  ·
    have e : evF Try.prog Try.f142 [.float .f32 x, .float .f32 lo, .float .f32 hi] [] [.b false, .b false, .b false, .b false] [] [] (.bool ((fcmp .geq .f32 x lo) && (fcmp .leq .f32 x hi))) [] = some [((fcmp .geq .f32 x lo) = false), ((fcmp .geq .f32 x lo) = false), ((fcmp .geq .f32 x lo) = false), ((fcmp .geq .f32 x lo) = false), (false = ((fcmp .geq .f32 x lo) && (fcmp .leq .f32 x hi)))] := by kernel_rfl
    exact Ev.of mixed _ _ _ Try.func142 (by kernel_rfl) e ⟨h1, h1, h1, h1, (by simp [-List.getD_eq_getElem?_getD, h1]), trivial⟩

end Go.Sim
