/- What the functions that RampAt reaches compute. Conditions: none. -/

import Derived.Test.YtkdofkdicggmdaaProg
import Derived.KernelRfl
import Derived.Test.YtkdofkdicggmdaaPu1

set_option linter.unusedSimpArgs false

set_option linter.unusedVariables false

namespace Go.Sim

open Go Go.Proofs

theorem mixed : Try.prog.follows .mixedOrders = true := by kernel_rfl

theorem ev_l01Finite (x : Nat)  : Ev Try.prog 54 [.float .f32 x] [] (.bool (fin32 x)) [] := by
  have e : evF Try.prog Try.f54 [.float .f32 x] [] [] [] [] (.bool (fin32 x)) [] = some [((fcmp .eql .f32 (fop .sub .f32 x x) 0) = (fin32 x))] := by kernel_rfl
  exact Ev.of mixed _ _ _ Try.func54 (by kernel_rfl) e ⟨(by first | (simp [-List.getD_eq_getElem?_getD, fin32]; done) | (simp_all [-List.getD_eq_getElem?_getD, fin32]; done)), trivial⟩

theorem ev_IsFinite (x : Nat)  : Ev Try.prog 56 [.float .f32 x] [] (.bool (fin32 x)) [] := by
  have e : evF Try.prog Try.f56 [.float .f32 x] [] [] [] [] (.bool (fin32 x)) [] = some [((fcmp .eql .f32 (fop .sub .f32 x x) 0) = (fin32 x))] := by kernel_rfl
  exact Ev.of mixed _ _ _ Try.func56 (by kernel_rfl) e ⟨(by first | (simp [-List.getD_eq_getElem?_getD, fin32]; done) | (simp_all [-List.getD_eq_getElem?_getD, fin32]; done)), trivial⟩

theorem ev_sameFloat (a : Nat) (b : Nat)  : Ev Try.prog 17 [.float .f64 a, .float .f64 b] [] (.bool (sameD a b)) [] := by
  rcases Bool.eq_false_or_eq_true (fcmp .neq .f64 a a) with h1 | h1
  ·
    have e : evF Try.prog Try.f17 [.float .f64 a, .float .f64 b] [] [.b true, .b true, .b true, .b true, .b true, .b true, .b true, .b true, .b true] [] [] (.bool (sameD a b)) [] = some [((fcmp .neq .f64 a a) = true), ((fcmp .neq .f64 a a) = true), ((fcmp .neq .f64 a a) = true), ((fcmp .neq .f64 a a) = true), (true = true), ((fcmp .neq .f64 a a) = true), ((fcmp .neq .f64 a a) = true), ((fcmp .neq .f64 a a) = true), ((fcmp .neq .f64 a a) = true), ((fcmp .neq .f64 b b) = (sameD a b))] := by kernel_rfl
    exact Ev.of mixed _ _ _ Try.func17 (by kernel_rfl) e ⟨h1, h1, h1, h1, rfl, h1, h1, h1, h1, (by first | (simp [-List.getD_eq_getElem?_getD, sameD, h1]; done) | (simp_all [-List.getD_eq_getElem?_getD, sameD]; done)), trivial⟩
  ·
    rcases Bool.eq_false_or_eq_true (fcmp .neq .f64 b b) with h2 | h2
    ·
      have e : evF Try.prog Try.f17 [.float .f64 a, .float .f64 b] [] [.b false, .b false, .b false, .b false, .b true, .b false, .b false, .b false, .b false] [] [] (.bool (sameD a b)) [] = some [((fcmp .neq .f64 a a) = false), ((fcmp .neq .f64 a a) = false), ((fcmp .neq .f64 a a) = false), ((fcmp .neq .f64 a a) = false), ((fcmp .neq .f64 b b) = true), ((fcmp .neq .f64 a a) = false), ((fcmp .neq .f64 a a) = false), ((fcmp .neq .f64 a a) = false), ((fcmp .neq .f64 a a) = false), (false = (sameD a b))] := by kernel_rfl
      exact Ev.of mixed _ _ _ Try.func17 (by kernel_rfl) e ⟨h1, h1, h1, h1, h2, h1, h1, h1, h1, (by first | (simp [-List.getD_eq_getElem?_getD, sameD, h1, h2]; done) | (simp_all [-List.getD_eq_getElem?_getD, sameD]; done)), trivial⟩
    ·
      rcases Bool.eq_false_or_eq_true (fcmp .eql .f64 a 0) with h3 | h3
      ·
        rcases Bool.eq_false_or_eq_true (fcmp .eql .f64 b 0) with h4 | h4
        ·
          have e : evF Try.prog Try.f17 [.float .f64 a, .float .f64 b] [] [.b false, .b false, .b false, .b false, .b false, .b true, .b true, .b true, .b true] [] [] (.bool (sameD a b)) [] = some [((fcmp .neq .f64 a a) = false), ((fcmp .neq .f64 a a) = false), ((fcmp .neq .f64 a a) = false), ((fcmp .neq .f64 a a) = false), ((fcmp .neq .f64 b b) = false), ((fcmp .eql .f64 a 0) = true), ((fcmp .eql .f64 a 0) = true), ((fcmp .eql .f64 a 0) = true), ((fcmp .eql .f64 b 0) = true), (((fcmp .gtr .f64 (fop .quo .f64 4607182418800017408 a) 0) == (fcmp .gtr .f64 (fop .quo .f64 4607182418800017408 b) 0)) = (sameD a b))] := by kernel_rfl
          exact Ev.of mixed _ _ _ Try.func17 (by kernel_rfl) e ⟨h1, h1, h1, h1, h2, h3, h3, h3, h4, (by first | (simp [-List.getD_eq_getElem?_getD, sameD, h1, h2, h3, h4]; done) | (simp_all [-List.getD_eq_getElem?_getD, sameD]; done)), trivial⟩
        ·
          have e : evF Try.prog Try.f17 [.float .f64 a, .float .f64 b] [] [.b false, .b false, .b false, .b false, .b false, .b true, .b true, .b true, .b false] [] [] (.bool (sameD a b)) [] = some [((fcmp .neq .f64 a a) = false), ((fcmp .neq .f64 a a) = false), ((fcmp .neq .f64 a a) = false), ((fcmp .neq .f64 a a) = false), ((fcmp .neq .f64 b b) = false), ((fcmp .eql .f64 a 0) = true), ((fcmp .eql .f64 a 0) = true), ((fcmp .eql .f64 a 0) = true), ((fcmp .eql .f64 b 0) = false), ((fcmp .eql .f64 a b) = (sameD a b))] := by kernel_rfl
          exact Ev.of mixed _ _ _ Try.func17 (by kernel_rfl) e ⟨h1, h1, h1, h1, h2, h3, h3, h3, h4, (by first | (simp [-List.getD_eq_getElem?_getD, sameD, h1, h2, h3, h4]; done) | (simp_all [-List.getD_eq_getElem?_getD, sameD]; done)), trivial⟩
      ·
        have e : evF Try.prog Try.f17 [.float .f64 a, .float .f64 b] [] [.b false, .b false, .b false, .b false, .b false, .b false, .b false, .b false, .b false] [] [] (.bool (sameD a b)) [] = some [((fcmp .neq .f64 a a) = false), ((fcmp .neq .f64 a a) = false), ((fcmp .neq .f64 a a) = false), ((fcmp .neq .f64 a a) = false), ((fcmp .neq .f64 b b) = false), ((fcmp .eql .f64 a 0) = false), ((fcmp .eql .f64 a 0) = false), ((fcmp .eql .f64 a 0) = false), (false = false), ((fcmp .eql .f64 a b) = (sameD a b))] := by kernel_rfl
        exact Ev.of mixed _ _ _ Try.func17 (by kernel_rfl) e ⟨h1, h1, h1, h1, h2, h3, h3, h3, rfl, (by first | (simp [-List.getD_eq_getElem?_getD, sameD, h1, h2, h3]; done) | (simp_all [-List.getD_eq_getElem?_getD, sameD]; done)), trivial⟩

theorem ev_l06Ramp (x : Nat)  : Ev Try.prog 55 [.float .f32 x] [] (.float .f32 (rampF x)) [] := by
  rcases Bool.eq_false_or_eq_true (fcmp .lss .f32 x 0) with h1 | h1
  ·
    have e : evF Try.prog Try.f55 [.float .f32 x] [] [.b true] [] [] (.float .f32 (rampF x)) [] = some [((fcmp .lss .f32 x 0) = true), (0 = (rampF x))] := by kernel_rfl
    exact Ev.of mixed _ _ _ Try.func55 (by kernel_rfl) e ⟨h1, (by first | (simp [-List.getD_eq_getElem?_getD, rampF, h1]; done) | (simp_all [-List.getD_eq_getElem?_getD, rampF]; done)), trivial⟩
  ·
    rcases Bool.eq_false_or_eq_true (fcmp .gtr .f32 x 1065353216) with h2 | h2
    ·
      have e : evF Try.prog Try.f55 [.float .f32 x] [] [.b false, .b true] [] [] (.float .f32 (rampF x)) [] = some [((fcmp .lss .f32 x 0) = false), ((fcmp .gtr .f32 x 1065353216) = true), (1065353216 = (rampF x))] := by kernel_rfl
      exact Ev.of mixed _ _ _ Try.func55 (by kernel_rfl) e ⟨h1, h2, (by first | (simp [-List.getD_eq_getElem?_getD, rampF, h1, h2]; done) | (simp_all [-List.getD_eq_getElem?_getD, rampF]; done)), trivial⟩
    ·
      have e : evF Try.prog Try.f55 [.float .f32 x] [] [.b false, .b false] [] [] (.float .f32 (rampF x)) [] = some [((fcmp .lss .f32 x 0) = false), ((fcmp .gtr .f32 x 1065353216) = false), ((fop .mul .f32 (fop .mul .f32 x x) (fop .sub .f32 1077936128 (fop .mul .f32 1073741824 x))) = (rampF x))] := by kernel_rfl
      exact Ev.of mixed _ _ _ Try.func55 (by kernel_rfl) e ⟨h1, h2, (by first | (simp [-List.getD_eq_getElem?_getD, rampF, h1, h2]; done) | (simp_all [-List.getD_eq_getElem?_getD, rampF]; done)), trivial⟩

theorem ev_rampAt (x : Nat)  : Ev Try.prog 57 [.float .f32 x] [] (.float .f32 (rampF x)) [] := by
  rcases Bool.eq_false_or_eq_true (fcmp .lss .f32 x 0) with h1 | h1
  ·
    have e : evF Try.prog Try.f57 [.float .f32 x] [] [.b true] [] [] (.float .f32 (rampF x)) [] = some [((fcmp .lss .f32 x 0) = true), (0 = (rampF x))] := by kernel_rfl
    exact Ev.of mixed _ _ _ Try.func57 (by kernel_rfl) e ⟨h1, (by first | (simp [-List.getD_eq_getElem?_getD, rampF, h1]; done) | (simp_all [-List.getD_eq_getElem?_getD, rampF]; done)), trivial⟩
  ·
    rcases Bool.eq_false_or_eq_true (fcmp .gtr .f32 x 1065353216) with h2 | h2
    ·
      have e : evF Try.prog Try.f57 [.float .f32 x] [] [.b false, .b true] [] [] (.float .f32 (rampF x)) [] = some [((fcmp .lss .f32 x 0) = false), ((fcmp .gtr .f32 x 1065353216) = true), (1065353216 = (rampF x))] := by kernel_rfl
      exact Ev.of mixed _ _ _ Try.func57 (by kernel_rfl) e ⟨h1, h2, (by first | (simp [-List.getD_eq_getElem?_getD, rampF, h1, h2]; done) | (simp_all [-List.getD_eq_getElem?_getD, rampF]; done)), trivial⟩
    ·
      have e : evF Try.prog Try.f57 [.float .f32 x] [] [.b false, .b false] [] [] (.float .f32 (rampF x)) [] = some [((fcmp .lss .f32 x 0) = false), ((fcmp .gtr .f32 x 1065353216) = false), ((fop .mul .f32 (fop .mul .f32 x x) (fop .sub .f32 1077936128 (fop .mul .f32 1073741824 x))) = (rampF x))] := by kernel_rfl
      exact Ev.of mixed _ _ _ Try.func57 (by kernel_rfl) e ⟨h1, h2, (by first | (simp [-List.getD_eq_getElem?_getD, rampF, h1, h2]; done) | (simp_all [-List.getD_eq_getElem?_getD, rampF]; done)), trivial⟩

theorem ev_spec_RampAt (x : Nat)  : Ev Try.prog 15 [.float .f32 x] [] (.tuple ⟨[.float .f32 (bif fin32 x then rampF x else 0), .bool (fin32 x)]⟩) [] := by
  rcases Bool.eq_false_or_eq_true (fin32 x) with h1 | h1
  ·
    have e : evF Try.prog Try.f15 [.float .f32 x] [] [.c [] (.bool (fin32 x)) [], .b false, .c [] (.float .f32 (rampF x)) []] [] [] (.tuple ⟨[.float .f32 (bif fin32 x then rampF x else 0), .bool (fin32 x)]⟩) [] = some [(Ev Try.prog 54 [.float .f32 x] [] (.bool (fin32 x)) []), ((!(fin32 x)) = false), (Ev Try.prog 55 [.float .f32 x] [] (.float .f32 (rampF x)) []), ((rampF x) = (bif fin32 x then rampF x else 0)), (true = (fin32 x))] := by kernel_rfl
    exact Ev.of mixed _ _ _ Try.func15 (by kernel_rfl) e ⟨(ev_l01Finite x), (congrArg Bool.not h1), (ev_l06Ramp x), (by first | (simp [-List.getD_eq_getElem?_getD, h1]; done) | (simp_all [-List.getD_eq_getElem?_getD, ]; done)), (by first | (simp [-List.getD_eq_getElem?_getD, h1]; done) | (simp_all [-List.getD_eq_getElem?_getD, ]; done)), trivial⟩
  ·
    have e : evF Try.prog Try.f15 [.float .f32 x] [] [.c [] (.bool (fin32 x)) [], .b true] [] [] (.tuple ⟨[.float .f32 (bif fin32 x then rampF x else 0), .bool (fin32 x)]⟩) [] = some [(Ev Try.prog 54 [.float .f32 x] [] (.bool (fin32 x)) []), ((!(fin32 x)) = true), (0 = (bif fin32 x then rampF x else 0)), (false = (fin32 x))] := by kernel_rfl
    exact Ev.of mixed _ _ _ Try.func15 (by kernel_rfl) e ⟨(ev_l01Finite x), (congrArg Bool.not h1), (by first | (simp [-List.getD_eq_getElem?_getD, h1]; done) | (simp_all [-List.getD_eq_getElem?_getD, ]; done)), (by first | (simp [-List.getD_eq_getElem?_getD, h1]; done) | (simp_all [-List.getD_eq_getElem?_getD, ]; done)), trivial⟩

theorem ev_impl_RampAt (x : Nat)  : Ev Try.prog 16 [.float .f32 x] [] (.tuple ⟨[.float .f32 (bif fin32 x then rampF x else 0), .bool (fin32 x)]⟩) [] := by
  rcases Bool.eq_false_or_eq_true (fin32 x) with h1 | h1
  ·
    have e : evF Try.prog Try.f16 [.float .f32 x] [] [.c [] (.bool (fin32 x)) [], .b false, .c [] (.float .f32 (rampF x)) []] [] [] (.tuple ⟨[.float .f32 (bif fin32 x then rampF x else 0), .bool (fin32 x)]⟩) [] = some [(Ev Try.prog 56 [.float .f32 x] [] (.bool (fin32 x)) []), ((!(fin32 x)) = false), (Ev Try.prog 57 [.float .f32 x] [] (.float .f32 (rampF x)) []), ((rampF x) = (bif fin32 x then rampF x else 0)), (true = (fin32 x))] := by kernel_rfl
    exact Ev.of mixed _ _ _ Try.func16 (by kernel_rfl) e ⟨(ev_IsFinite x), (congrArg Bool.not h1), (ev_rampAt x), (by first | (simp [-List.getD_eq_getElem?_getD, h1]; done) | (simp_all [-List.getD_eq_getElem?_getD, ]; done)), (by first | (simp [-List.getD_eq_getElem?_getD, h1]; done) | (simp_all [-List.getD_eq_getElem?_getD, ]; done)), trivial⟩
  ·
    have e : evF Try.prog Try.f16 [.float .f32 x] [] [.c [] (.bool (fin32 x)) [], .b true] [] [] (.tuple ⟨[.float .f32 (bif fin32 x then rampF x else 0), .bool (fin32 x)]⟩) [] = some [(Ev Try.prog 56 [.float .f32 x] [] (.bool (fin32 x)) []), ((!(fin32 x)) = true), (0 = (bif fin32 x then rampF x else 0)), (false = (fin32 x))] := by kernel_rfl
    exact Ev.of mixed _ _ _ Try.func16 (by kernel_rfl) e ⟨(ev_IsFinite x), (congrArg Bool.not h1), (by first | (simp [-List.getD_eq_getElem?_getD, h1]; done) | (simp_all [-List.getD_eq_getElem?_getD, ]; done)), (by first | (simp [-List.getD_eq_getElem?_getD, h1]; done) | (simp_all [-List.getD_eq_getElem?_getD, ]; done)), trivial⟩

theorem ev_law (x : Nat)  : Ev Try.prog 3 [.float .f32 x] [] (.bool true) [] := by
  rcases Bool.eq_false_or_eq_true (fin32 x) with h1 | h1
  ·
    have e : evF Try.prog Try.f3 [.float .f32 x] [] [.c [] (.tuple ⟨[.float .f32 (bif fin32 x then rampF x else 0), .bool (fin32 x)]⟩) [], .c [] (.tuple ⟨[.float .f32 (bif fin32 x then rampF x else 0), .bool (fin32 x)]⟩) [], .c [] (.bool (sameD (fcv .f32 .f64 (bif fin32 x then rampF x else 0)) (fcv .f32 .f64 (bif fin32 x then rampF x else 0)))) [], .b false, .b false, .b false, .b false, .b false] [] [] (.bool true) [] = some [(Ev Try.prog 15 [.float .f32 x] [] (.tuple ⟨[.float .f32 (bif fin32 x then rampF x else 0), .bool (fin32 x)]⟩) []), (Ev Try.prog 16 [.float .f32 x] [] (.tuple ⟨[.float .f32 (bif fin32 x then rampF x else 0), .bool (fin32 x)]⟩) []), (Ev Try.prog 17 [.float .f64 (fcv .f32 .f64 (bif fin32 x then rampF x else 0)), .float .f64 (fcv .f32 .f64 (bif fin32 x then rampF x else 0))] [] (.bool (sameD (fcv .f32 .f64 (bif fin32 x then rampF x else 0)) (fcv .f32 .f64 (bif fin32 x then rampF x else 0)))) []), ((!(sameD (fcv .f32 .f64 (bif fin32 x then rampF x else 0)) (fcv .f32 .f64 (bif fin32 x then rampF x else 0)))) = false), ((!(sameD (fcv .f32 .f64 (bif fin32 x then rampF x else 0)) (fcv .f32 .f64 (bif fin32 x then rampF x else 0)))) = false), ((!(sameD (fcv .f32 .f64 (bif fin32 x then rampF x else 0)) (fcv .f32 .f64 (bif fin32 x then rampF x else 0)))) = false), ((!(sameD (fcv .f32 .f64 (bif fin32 x then rampF x else 0)) (fcv .f32 .f64 (bif fin32 x then rampF x else 0)))) = false), ((!((fin32 x) == (fin32 x))) = false), (true = true)] := by kernel_rfl
    exact Ev.of mixed _ _ _ Try.func3 (by kernel_rfl) e ⟨(ev_spec_RampAt x), (ev_impl_RampAt x), (ev_sameFloat (fcv .f32 .f64 (bif fin32 x then rampF x else 0)) (fcv .f32 .f64 (bif fin32 x then rampF x else 0))), (congrArg Bool.not (sameD_self _)), (congrArg Bool.not (sameD_self _)), (congrArg Bool.not (sameD_self _)), (congrArg Bool.not (sameD_self _)), (congrArg Bool.not ((beq_of h1 h1).trans rfl)), rfl, trivial⟩
  ·
    have e : evF Try.prog Try.f3 [.float .f32 x] [] [.c [] (.tuple ⟨[.float .f32 (bif fin32 x then rampF x else 0), .bool (fin32 x)]⟩) [], .c [] (.tuple ⟨[.float .f32 (bif fin32 x then rampF x else 0), .bool (fin32 x)]⟩) [], .c [] (.bool (sameD (fcv .f32 .f64 (bif fin32 x then rampF x else 0)) (fcv .f32 .f64 (bif fin32 x then rampF x else 0)))) [], .b false, .b false, .b false, .b false, .b false] [] [] (.bool true) [] = some [(Ev Try.prog 15 [.float .f32 x] [] (.tuple ⟨[.float .f32 (bif fin32 x then rampF x else 0), .bool (fin32 x)]⟩) []), (Ev Try.prog 16 [.float .f32 x] [] (.tuple ⟨[.float .f32 (bif fin32 x then rampF x else 0), .bool (fin32 x)]⟩) []), (Ev Try.prog 17 [.float .f64 (fcv .f32 .f64 (bif fin32 x then rampF x else 0)), .float .f64 (fcv .f32 .f64 (bif fin32 x then rampF x else 0))] [] (.bool (sameD (fcv .f32 .f64 (bif fin32 x then rampF x else 0)) (fcv .f32 .f64 (bif fin32 x then rampF x else 0)))) []), ((!(sameD (fcv .f32 .f64 (bif fin32 x then rampF x else 0)) (fcv .f32 .f64 (bif fin32 x then rampF x else 0)))) = false), ((!(sameD (fcv .f32 .f64 (bif fin32 x then rampF x else 0)) (fcv .f32 .f64 (bif fin32 x then rampF x else 0)))) = false), ((!(sameD (fcv .f32 .f64 (bif fin32 x then rampF x else 0)) (fcv .f32 .f64 (bif fin32 x then rampF x else 0)))) = false), ((!(sameD (fcv .f32 .f64 (bif fin32 x then rampF x else 0)) (fcv .f32 .f64 (bif fin32 x then rampF x else 0)))) = false), ((!((fin32 x) == (fin32 x))) = false), (true = true)] := by kernel_rfl
    exact Ev.of mixed _ _ _ Try.func3 (by kernel_rfl) e ⟨(ev_spec_RampAt x), (ev_impl_RampAt x), (ev_sameFloat (fcv .f32 .f64 (bif fin32 x then rampF x else 0)) (fcv .f32 .f64 (bif fin32 x then rampF x else 0))), (congrArg Bool.not (sameD_self _)), (congrArg Bool.not (sameD_self _)), (congrArg Bool.not (sameD_self _)), (congrArg Bool.not (sameD_self _)), (congrArg Bool.not ((beq_of h1 h1).trans rfl)), rfl, trivial⟩

end Go.Sim
