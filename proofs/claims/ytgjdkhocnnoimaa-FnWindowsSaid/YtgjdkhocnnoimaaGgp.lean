/- How far numbers are apart. Conditions: none. -/

import Derived.Test.YtgjdkhocnnoimaaProg
import Derived.KernelRfl
import Derived.Test.YtgjdkhocnnoimaaGb

set_option linter.unusedSimpArgs false

set_option linter.unusedVariables false

namespace Go.Sim

open Go Go.Proofs

def gapB (x : Nat) (y : Nat) : Nat := (if (fcmp .lss .f64 x y) then (fop .sub .f64 y x) else (fop .sub .f64 x y))

theorem ev_b10Gap (x : Nat) (y : Nat)  : Ev Try.prog 16 [.float .f64 x, .float .f64 y] [] (.float .f64 (gapB x y)) [] := by
  rcases Bool.eq_false_or_eq_true (fcmp .lss .f64 x y) with h1 | h1
  ·
    have e : evF Try.prog Try.f16 [.float .f64 x, .float .f64 y] [] [.b true] [] [] (.float .f64 (gapB x y)) [] = some [((fcmp .lss .f64 x y) = true), ((fop .sub .f64 y x) = (gapB x y))] := by kernel_rfl
    exact Ev.of mixed _ _ _ Try.func16 (by kernel_rfl) e ⟨h1, (by first | (simp [-List.getD_eq_getElem?_getD, gapB, h1]; done) | (simp_all [-List.getD_eq_getElem?_getD, gapB]; done)), trivial⟩
  ·
    have e : evF Try.prog Try.f16 [.float .f64 x, .float .f64 y] [] [.b false] [] [] (.float .f64 (gapB x y)) [] = some [((fcmp .lss .f64 x y) = false), ((fop .sub .f64 x y) = (gapB x y))] := by kernel_rfl
    exact Ev.of mixed _ _ _ Try.func16 (by kernel_rfl) e ⟨h1, (by first | (simp [-List.getD_eq_getElem?_getD, gapB, h1]; done) | (simp_all [-List.getD_eq_getElem?_getD, gapB]; done)), trivial⟩

end Go.Sim
