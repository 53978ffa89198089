/- The law FnExactCodeOf, walked. Conditions: none. -/

import Derived.Test.YtidjddabfmnkjaaProg
import Derived.KernelRfl
import Derived.Test.YtidjddabfmnkjaaGcd

set_option linter.unusedSimpArgs false

set_option linter.unusedVariables false

namespace Go.Sim

open Go Go.Proofs

theorem ev_lawExactCodeOf (x : Nat)  (hx : w32 x) : Ev Try.prog 4 [.float .f32 x] [] (.bool true) [] := by
  rcases Bool.eq_false_or_eq_true (codeOfR x).2 with h1 | h1
  ·
    have e : evF Try.prog Try.f4 [.float .f32 x] [] [.c [] (.tuple ⟨[.int .i64 (codeOfR x).1, .bool (codeOfR x).2]⟩) [], .c [] (.tuple ⟨[.int .i64 (codeOfR x).1, .bool (codeOfR x).2]⟩) [], .b false, .b false, .b false, .b false, .b false] [] [] (.bool true) [] = some [(Ev Try.prog 23 [.float .f32 x] [] (.tuple ⟨[.int .i64 (codeOfR x).1, .bool (codeOfR x).2]⟩) []), (Ev Try.prog 24 [.float .f32 x] [] (.tuple ⟨[.int .i64 (codeOfR x).1, .bool (codeOfR x).2]⟩) []), (((codeOfR x).1 != (codeOfR x).1) = false), (((codeOfR x).1 != (codeOfR x).1) = false), (((codeOfR x).1 != (codeOfR x).1) = false), (((codeOfR x).1 != (codeOfR x).1) = false), ((!((codeOfR x).2 == (codeOfR x).2)) = false), (true = true)] := by kernel_rfl
    exact Ev.of mixed _ _ _ Try.func4 (by kernel_rfl) e ⟨(ev_spec_CodeOf x hx), (ev_impl_CodeOf x hx), (bne_eq_false_iff_eq.2 (by omega)), (bne_eq_false_iff_eq.2 (by omega)), (bne_eq_false_iff_eq.2 (by omega)), (bne_eq_false_iff_eq.2 (by omega)), (congrArg Bool.not ((beq_of h1 h1).trans rfl)), rfl, trivial⟩
  ·
    have e : evF Try.prog Try.f4 [.float .f32 x] [] [.c [] (.tuple ⟨[.int .i64 (codeOfR x).1, .bool (codeOfR x).2]⟩) [], .c [] (.tuple ⟨[.int .i64 (codeOfR x).1, .bool (codeOfR x).2]⟩) [], .b false, .b false, .b false, .b false, .b false] [] [] (.bool true) [] = some [(Ev Try.prog 23 [.float .f32 x] [] (.tuple ⟨[.int .i64 (codeOfR x).1, .bool (codeOfR x).2]⟩) []), (Ev Try.prog 24 [.float .f32 x] [] (.tuple ⟨[.int .i64 (codeOfR x).1, .bool (codeOfR x).2]⟩) []), (((codeOfR x).1 != (codeOfR x).1) = false), (((codeOfR x).1 != (codeOfR x).1) = false), (((codeOfR x).1 != (codeOfR x).1) = false), (((codeOfR x).1 != (codeOfR x).1) = false), ((!((codeOfR x).2 == (codeOfR x).2)) = false), (true = true)] := by kernel_rfl
    exact Ev.of mixed _ _ _ Try.func4 (by kernel_rfl) e ⟨(ev_spec_CodeOf x hx), (ev_impl_CodeOf x hx), (bne_eq_false_iff_eq.2 (by omega)), (bne_eq_false_iff_eq.2 (by omega)), (bne_eq_false_iff_eq.2 (by omega)), (bne_eq_false_iff_eq.2 (by omega)), (congrArg Bool.not ((beq_of h1 h1).trans rfl)), rfl, trivial⟩

end Go.Sim
