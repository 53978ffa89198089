/- Complex numbers and lists of them. Conditions: none. -/

import Derived.Test.YtgjdkhocnnoimaaProg
import Derived.KernelRfl
import Derived.Test.YtgjdkhocnnoimaaPGb
import Derived.Test.YtgjdkhocnnoimaaPvK

set_option linter.unusedSimpArgs false

set_option linter.unusedVariables false

namespace Go.Sim

open Go Go.Proofs

theorem ev_addComplex (x_r : Nat) (x_i : Nat) (y_r : Nat) (y_i : Nat)  : Ev Try.prog 110 [.complex .f32 x_r x_i, .complex .f32 y_r y_i] [] (.complex .f32 (fop .add .f32 x_r y_r) (fop .add .f32 x_i y_i)) [] := by
  have e : evF Try.prog Try.f110 [.complex .f32 x_r x_i, .complex .f32 y_r y_i] [] [] [] [] (.complex .f32 (fop .add .f32 x_r y_r) (fop .add .f32 x_i y_i)) [] = some [((fop .add .f32 x_r y_r) = (fop .add .f32 x_r y_r)), ((fop .add .f32 x_i y_i) = (fop .add .f32 x_i y_i))] := by kernel_rfl
  exact Ev.of mixed _ _ _ Try.func110 (by kernel_rfl) e ⟨rfl, rfl, trivial⟩

theorem ev_ScaleComplex (x_r : Nat) (x_i : Nat) (b : Nat)  : Ev Try.prog 111 [.complex .f32 x_r x_i, .float .f32 b] [] (.complex .f32 (fop .mul .f32 x_r b) (fop .mul .f32 x_i b)) [] := by
  have e : evF Try.prog Try.f111 [.complex .f32 x_r x_i, .float .f32 b] [] [] [] [] (.complex .f32 (fop .mul .f32 x_r b) (fop .mul .f32 x_i b)) [] = some [((fop .mul .f32 x_r b) = (fop .mul .f32 x_r b)), ((fop .mul .f32 x_i b) = (fop .mul .f32 x_i b))] := by kernel_rfl
  exact Ev.of mixed _ _ _ Try.func111 (by kernel_rfl) e ⟨rfl, rfl, trivial⟩

theorem ev_IsFiniteComplex (x_r : Nat) (x_i : Nat)  : Ev Try.prog 113 [.complex .f32 x_r x_i] [] (.bool ((fin32 x_r) && (fin32 x_i))) [] := by
  rcases Bool.eq_false_or_eq_true (fin32 x_r) with h1 | h1
  ·
    have e : evF Try.prog Try.f113 [.complex .f32 x_r x_i] [] [.c [] (.bool (fin32 x_r)) [], .b true, .b true, .b true, .c [] (.bool (fin32 x_i)) [], .b true] [] [] (.bool ((fin32 x_r) && (fin32 x_i))) [] = some [(Ev Try.prog 86 [.float .f32 x_r] [] (.bool (fin32 x_r)) []), ((fin32 x_r) = true), ((fin32 x_r) = true), ((fin32 x_r) = true), (Ev Try.prog 86 [.float .f32 x_i] [] (.bool (fin32 x_i)) []), ((fin32 x_r) = true), ((fin32 x_i) = ((fin32 x_r) && (fin32 x_i)))] := by kernel_rfl
    exact Ev.of mixed _ _ _ Try.func113 (by kernel_rfl) e ⟨(ev_IsFinite x_r), h1, h1, h1, (ev_IsFinite x_i), h1, (by simp [-List.getD_eq_getElem?_getD, h1]), trivial⟩
  ·
    have e : evF Try.prog Try.f113 [.complex .f32 x_r x_i] [] [.c [] (.bool (fin32 x_r)) [], .b false, .b false, .b false, .b false] [] [] (.bool ((fin32 x_r) && (fin32 x_i))) [] = some [(Ev Try.prog 86 [.float .f32 x_r] [] (.bool (fin32 x_r)) []), ((fin32 x_r) = false), ((fin32 x_r) = false), ((fin32 x_r) = false), ((fin32 x_r) = false), (false = ((fin32 x_r) && (fin32 x_i)))] := by kernel_rfl
    exact Ev.of mixed _ _ _ Try.func113 (by kernel_rfl) e ⟨(ev_IsFinite x_r), h1, h1, h1, h1, (by simp [-List.getD_eq_getElem?_getD, h1]), trivial⟩

end Go.Sim
