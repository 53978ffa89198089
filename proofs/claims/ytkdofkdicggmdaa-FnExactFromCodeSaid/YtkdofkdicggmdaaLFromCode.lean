/- The law FnExactFromCode, walked. Conditions: none. -/

import Derived.Test.YtkdofkdicggmdaaProg
import Derived.KernelRfl
import Derived.Test.YtkdofkdicggmdaaGco

set_option linter.unusedSimpArgs false

set_option linter.unusedVariables false

namespace Go.Sim

open Go Go.Proofs

theorem ev_lawExactFromCode (c : Int)  : Ev Try.prog 6 [.int .i64 c] [] (.bool true) [] := by
  rcases Bool.eq_false_or_eq_true (fromCodeF c).2 with h1 | h1
  ·
    have e : evF Try.prog Try.f6 [.int .i64 c] [] [.c [] (.tuple ⟨[.float .f32 (fromCodeF c).1, .bool (fromCodeF c).2]⟩) [], .c [] (.tuple ⟨[.float .f32 (fromCodeF c).1, .bool (fromCodeF c).2]⟩) [], .c [] (.bool (sameD (fcv .f32 .f64 (fromCodeF c).1) (fcv .f32 .f64 (fromCodeF c).1))) [], .b false, .b false, .b false, .b false, .b false] [] [] (.bool true) [] = some [(Ev Try.prog 25 [.int .i64 c] [] (.tuple ⟨[.float .f32 (fromCodeF c).1, .bool (fromCodeF c).2]⟩) []), (Ev Try.prog 26 [.int .i64 c] [] (.tuple ⟨[.float .f32 (fromCodeF c).1, .bool (fromCodeF c).2]⟩) []), (Ev Try.prog 17 [.float .f64 (fcv .f32 .f64 (fromCodeF c).1), .float .f64 (fcv .f32 .f64 (fromCodeF c).1)] [] (.bool (sameD (fcv .f32 .f64 (fromCodeF c).1) (fcv .f32 .f64 (fromCodeF c).1))) []), ((!(sameD (fcv .f32 .f64 (fromCodeF c).1) (fcv .f32 .f64 (fromCodeF c).1))) = false), ((!(sameD (fcv .f32 .f64 (fromCodeF c).1) (fcv .f32 .f64 (fromCodeF c).1))) = false), ((!(sameD (fcv .f32 .f64 (fromCodeF c).1) (fcv .f32 .f64 (fromCodeF c).1))) = false), ((!(sameD (fcv .f32 .f64 (fromCodeF c).1) (fcv .f32 .f64 (fromCodeF c).1))) = false), ((!((fromCodeF c).2 == (fromCodeF c).2)) = false), (true = true)] := by kernel_rfl
    exact Ev.of mixed _ _ _ Try.func6 (by kernel_rfl) e ⟨(ev_spec_FromCode (c)), (ev_impl_FromCode (c)), (ev_sameFloat (fcv .f32 .f64 (fromCodeF c).1) (fcv .f32 .f64 (fromCodeF c).1)), (congrArg Bool.not (sameD_self _)), (congrArg Bool.not (sameD_self _)), (congrArg Bool.not (sameD_self _)), (congrArg Bool.not (sameD_self _)), (congrArg Bool.not ((beq_of h1 h1).trans rfl)), rfl, trivial⟩
  ·
    have e : evF Try.prog Try.f6 [.int .i64 c] [] [.c [] (.tuple ⟨[.float .f32 (fromCodeF c).1, .bool (fromCodeF c).2]⟩) [], .c [] (.tuple ⟨[.float .f32 (fromCodeF c).1, .bool (fromCodeF c).2]⟩) [], .c [] (.bool (sameD (fcv .f32 .f64 (fromCodeF c).1) (fcv .f32 .f64 (fromCodeF c).1))) [], .b false, .b false, .b false, .b false, .b false] [] [] (.bool true) [] = some [(Ev Try.prog 25 [.int .i64 c] [] (.tuple ⟨[.float .f32 (fromCodeF c).1, .bool (fromCodeF c).2]⟩) []), (Ev Try.prog 26 [.int .i64 c] [] (.tuple ⟨[.float .f32 (fromCodeF c).1, .bool (fromCodeF c).2]⟩) []), (Ev Try.prog 17 [.float .f64 (fcv .f32 .f64 (fromCodeF c).1), .float .f64 (fcv .f32 .f64 (fromCodeF c).1)] [] (.bool (sameD (fcv .f32 .f64 (fromCodeF c).1) (fcv .f32 .f64 (fromCodeF c).1))) []), ((!(sameD (fcv .f32 .f64 (fromCodeF c).1) (fcv .f32 .f64 (fromCodeF c).1))) = false), ((!(sameD (fcv .f32 .f64 (fromCodeF c).1) (fcv .f32 .f64 (fromCodeF c).1))) = false), ((!(sameD (fcv .f32 .f64 (fromCodeF c).1) (fcv .f32 .f64 (fromCodeF c).1))) = false), ((!(sameD (fcv .f32 .f64 (fromCodeF c).1) (fcv .f32 .f64 (fromCodeF c).1))) = false), ((!((fromCodeF c).2 == (fromCodeF c).2)) = false), (true = true)] := by kernel_rfl
    exact Ev.of mixed _ _ _ Try.func6 (by kernel_rfl) e ⟨(ev_spec_FromCode (c)), (ev_impl_FromCode (c)), (ev_sameFloat (fcv .f32 .f64 (fromCodeF c).1) (fcv .f32 .f64 (fromCodeF c).1)), (congrArg Bool.not (sameD_self _)), (congrArg Bool.not (sameD_self _)), (congrArg Bool.not (sameD_self _)), (congrArg Bool.not (sameD_self _)), (congrArg Bool.not ((beq_of h1 h1).trans rfl)), rfl, trivial⟩

end Go.Sim
