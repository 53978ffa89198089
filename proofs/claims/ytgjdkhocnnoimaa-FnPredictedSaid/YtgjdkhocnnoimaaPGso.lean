/- Predictors of lags, ladders of lags. Conditions: none. -/

import Derived.Test.YtgjdkhocnnoimaaProg
import Derived.KernelRfl
import Derived.Test.YtgjdkhocnnoimaaPGlv
import Derived.Test.YtgjdkhocnnoimaaPGma

set_option linter.unusedSimpArgs false

set_option linter.unusedVariables false

namespace Go.Sim

open Go Go.Proofs

theorem ev_Sqrt (x : Nat)  : Ev Try.prog 145 [.float .f64 x] [] (.float .f64 (sqrtW x)) [] := by
  have e : evF Try.prog Try.f145 [.float .f64 x] [] [.x (.float .f64 (sqrtW x))] [] [] (.float .f64 (sqrtW x)) [] = some [(EvX Try.prog 178 [.float .f64 x] (.float .f64 (sqrtW x))), ((sqrtW x) = (sqrtW x))] := by kernel_rfl
  exact Ev.of mixed _ _ _ Try.func145 (by kernel_rfl) e ⟨(evx_sqrt Try.func178 (by kernel_rfl) (by kernel_rfl) (by kernel_rfl) (by kernel_rfl) x (by decide)), rfl, trivial⟩

def predOfF (xs : List Nat) : (List Nat) × Nat × Bool := ((narF (solveF xs).2.1), (fcv .f64 .f32 (sqrtW (solveF xs).2.2.1)), true)

theorem ev_PredictorOf (xs : List Nat) (xs_n : Nat) (xs_h : xs.length = xs_n) (xs_b : xs_n ≤ 9223372036854775807)  (hp : ∀ k, fconvOk .f64 .f32 (List.getD (solveF xs).2.1 k 0)) (hs : fconvOk .f64 .f32 (sqrtW (solveF xs).2.2.1)) (ho : (solveF xs).2.2.2 = true) (hl : fcmp .lss .f64 (solveF xs).2.2.1 0 = false) (hn1 : 1 ≤ List.length (narF (solveF xs).2.1)) (hn2 : List.length (narF (solveF xs).2.1) ≤ 16) (hf : allFin (narF (solveF xs).2.1) = true) (hq : fin32 (fcv .f64 .f32 (sqrtW (solveF xs).2.2.1)) = true) (hq0 : fcmp .geq .f32 (fcv .f64 .f32 (sqrtW (solveF xs).2.2.1)) 0 = true) : Ev Try.prog 75 [.slice (some ⟨0, 0, none⟩) xs_n 1] [some ⟨false, .fl .f32 xs⟩] (.tuple ⟨[.agg ⟨[.slice (some ⟨1, 0, none⟩) (List.length (predOfF xs).1) 1, .float .f32 (predOfF xs).2.1]⟩, .bool (predOfF xs).2.2]⟩) [some ⟨false, .fl .f32 xs⟩, some ⟨true, .fl .f32 (predOfF xs).1⟩] := by
  have a0 := (solveF_le0 xs xs_n xs_h xs_b)
  have a1 := (solveF_le1 xs xs_n xs_h xs_b)
  have a2 := (narF_le0 (solveF xs).2.1 (List.length (solveF xs).2.1) rfl (by omega) hp (by omega))
  have e : evF Try.prog Try.f75 [.slice (some ⟨0, 0, none⟩) xs_n 1] [some ⟨false, .fl .f32 xs⟩] [.c [(0, false)] (.tuple ⟨[.slice (some ⟨1, 0, none⟩) (List.length (solveF xs).1) 1, .slice (some ⟨2, 0, none⟩) (List.length (solveF xs).2.1) 1, .float .f64 (solveF xs).2.2.1, .bool (solveF xs).2.2.2]⟩) [some ⟨false, .fl .f32 xs⟩, some ⟨true, .fl .f64 (solveF xs).1⟩, some ⟨true, .fl .f64 (solveF xs).2.1⟩], .b false, .b false, .b false, .b false, .c [(3, false)] (.slice (some ⟨1, 0, none⟩) (List.length (narF (solveF xs).2.1)) 1) [some ⟨false, .fl .f64 (solveF xs).2.1⟩, some ⟨true, .fl .f32 (narF (solveF xs).2.1)⟩], .c [] (.float .f64 (sqrtW (solveF xs).2.2.1)) [], .c [(4, false)] (.tuple ⟨[.agg ⟨[.slice (some ⟨0, 0, none⟩) (List.length (narF (solveF xs).2.1)) 1, .float .f32 (fcv .f64 .f32 (sqrtW (solveF xs).2.2.1))]⟩, .bool true]⟩) [some ⟨false, .fl .f32 (narF (solveF xs).2.1)⟩]] [] [some 0, some 4] (.tuple ⟨[.agg ⟨[.slice (some ⟨1, 0, none⟩) (List.length (predOfF xs).1) 1, .float .f32 (predOfF xs).2.1]⟩, .bool (predOfF xs).2.2]⟩) [some ⟨false, .fl .f32 xs⟩, some ⟨true, .fl .f32 (predOfF xs).1⟩] = some [(Ev Try.prog 143 [.slice (some ⟨0, 0, none⟩) xs_n 1] [some ⟨false, .fl .f32 xs⟩] (.tuple ⟨[.slice (some ⟨1, 0, none⟩) (List.length (solveF xs).1) 1, .slice (some ⟨2, 0, none⟩) (List.length (solveF xs).2.1) 1, .float .f64 (solveF xs).2.2.1, .bool (solveF xs).2.2.2]⟩) [some ⟨false, .fl .f32 xs⟩, some ⟨true, .fl .f64 (solveF xs).1⟩, some ⟨true, .fl .f64 (solveF xs).2.1⟩]), ((!(solveF xs).2.2.2) = false), ((!(solveF xs).2.2.2) = false), ((!(solveF xs).2.2.2) = false), ((fcmp .lss .f64 (solveF xs).2.2.1 0) = false), (Ev Try.prog 144 [.slice (some ⟨0, 0, none⟩) (List.length (solveF xs).2.1) 1] [some ⟨false, .fl .f64 (solveF xs).2.1⟩] (.slice (some ⟨1, 0, none⟩) (List.length (narF (solveF xs).2.1)) 1) [some ⟨false, .fl .f64 (solveF xs).2.1⟩, some ⟨true, .fl .f32 (narF (solveF xs).2.1)⟩]), (Ev Try.prog 145 [.float .f64 (solveF xs).2.2.1] [] (.float .f64 (sqrtW (solveF xs).2.2.1)) []), (fconvOk .f64 .f32 (sqrtW (solveF xs).2.2.1)), (Ev Try.prog 135 [.agg ⟨[.slice (some ⟨0, 0, none⟩) (List.length (narF (solveF xs).2.1)) 1, .float .f32 (fcv .f64 .f32 (sqrtW (solveF xs).2.2.1))]⟩] [some ⟨false, .fl .f32 (narF (solveF xs).2.1)⟩] (.tuple ⟨[.agg ⟨[.slice (some ⟨0, 0, none⟩) (List.length (narF (solveF xs).2.1)) 1, .float .f32 (fcv .f64 .f32 (sqrtW (solveF xs).2.2.1))]⟩, .bool true]⟩) [some ⟨false, .fl .f32 (narF (solveF xs).2.1)⟩]), (0 = 0), ((List.length (narF (solveF xs).2.1)) = (List.length (predOfF xs).1)), ((fcv .f64 .f32 (sqrtW (solveF xs).2.2.1)) = (predOfF xs).2.1), (true = (predOfF xs).2.2), (xs = xs), ((narF (solveF xs).2.1) = (predOfF xs).1)] := by kernel_rfl
  exact Ev.of mixed _ _ _ Try.func75 (by kernel_rfl) e ⟨(ev_solve xs xs_n xs_h xs_b), (congrArg Bool.not ho), (congrArg Bool.not ho), (congrArg Bool.not ho), hl, (ev_narrowed (solveF xs).2.1 (List.length (solveF xs).2.1) rfl (by omega) hp (by omega)), (ev_Sqrt (solveF xs).2.2.1), hs, (ev_checkedPredictor_t (narF (solveF xs).2.1) (List.length (narF (solveF xs).2.1)) rfl (by omega) (fcv .f64 .f32 (sqrtW (solveF xs).2.2.1)) (and_tt (decide_eq_true (by omega)) (and_tt (decide_eq_true (by omega)) (and_tt hf (and_tt hq hq0))))), rfl, (by first | omega | (simp [-List.getD_eq_getElem?_getD, predOfF, xs_h]; done) | (simp_all [-List.getD_eq_getElem?_getD, predOfF, xs_h]; done)), (by simp [-List.getD_eq_getElem?_getD, predOfF, xs_h]), (by simp [-List.getD_eq_getElem?_getD, predOfF, xs_h]), rfl, (by simp [-List.getD_eq_getElem?_getD, predOfF, xs_h]), trivial⟩

end Go.Sim
