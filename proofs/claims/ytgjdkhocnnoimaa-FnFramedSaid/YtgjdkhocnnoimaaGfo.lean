/- Frames, and what the laws do with them. Conditions: none. -/

import Derived.Test.YtgjdkhocnnoimaaProg
import Derived.KernelRfl
import Derived.Test.YtgjdkhocnnoimaaGmk

set_option linter.unusedSimpArgs false

set_option linter.unusedVariables false

namespace Go.Sim

open Go Go.Proofs

def framesOfF (xs : List Nat) (size : Int) (step : Int) : (List (List Nat)) × Bool := (if (isSnd xs) then (if size ≥ (1 : Int) then (if size ≤ (256 : Int) then (if step ≥ (1 : Int) then (if step ≤ (256 : Int) then ((framesF xs size step), true) else ([], false)) else ([], false)) else ([], false)) else ([], false)) else ([], false))

theorem framesF_row (xs : List Nat) (size step : Int) : ∀ i, List.length (List.getD (framesF xs size step) i []) ≤ List.length xs := by
  unfold framesF
  have key : ∀ k i, List.length (List.getD (ev_framesOf_L1_S xs (List.length xs) size step k) i []) ≤ List.length xs := by
    intro k
    induction k with
    | zero => intro i; exact Nat.zero_le _
    | succ k ih =>
      intro i
      rw [show ev_framesOf_L1_S xs (List.length xs) size step (k + 1) = ev_framesOf_L1_step xs (List.length xs) size step k (ev_framesOf_L1_S xs (List.length xs) size step k) from rfl]
      unfold ev_framesOf_L1_step
      generalize ev_framesOf_L1_S xs (List.length xs) size step k = s at ih ⊢
      rcases Nat.lt_trichotomy i s.length with h' | h' | h'
      · have := ih i
        simpa [List.getD_eq_getElem?_getD, List.getElem?_append_left h'] using this
      · subst h'
        simp
        omega
      · rw [getD_noneL [] (by simp; omega)]; exact Nat.zero_le _
  exact key _

theorem framesOfF_row (xs : List Nat) (size step : Int) : ∀ i, List.length (List.getD (framesOfF xs size step).1 i []) ≤ 256 := by
  intro i
  unfold framesOfF
  repeat' split
  all_goals first
    | exact Nat.zero_le _
    | (rename_i hs _ _ _ _; exact Nat.le_trans (framesF_row xs size step i) (isSnd_len hs))

theorem framesOfF_w (xs : List Nat) (size step : Int) : okF (framesOfF xs size step).1 := fun i => Nat.le_trans (framesOfF_row xs size step i) (by decide)

theorem framesOfF_le0 (xs : List Nat) (xs_n : Nat) (xs_h : xs.length = xs_n) (xs_b : xs_n ≤ 9223372036854775807) (size : Int) (step : Int)  : List.length (framesOfF xs size step).1 ≤ 2097152 := by
  rcases Bool.eq_false_or_eq_true (isSnd xs) with h1 | h1
  ·
    have h1f : List.length xs ≤ 256 := isSnd_len h1
    by_cases h2 : size ≥ (1 : Int)
    ·
      by_cases h3 : size ≤ (256 : Int)
      ·
        by_cases h4 : step ≥ (1 : Int)
        ·
          by_cases h5 : step ≤ (256 : Int)
          ·
            have a0 := (framesF_le0 xs xs_n xs_h xs_b (size) (step) (by omega) (by omega) (by omega) (by omega) (by omega))
            have hl : (List.length (framesF xs size step)) = (List.length (framesOfF xs size step).1) := (by first | omega | (simp [-List.getD_eq_getElem?_getD, framesOfF, h1, h2, h3, h4, h5, xs_h]; done) | (simp_all [-List.getD_eq_getElem?_getD, framesOfF, xs_h]; done))
            omega
          ·
            have hl : 0 = (List.length (framesOfF xs size step).1) := (by first | (simp [-List.getD_eq_getElem?_getD, framesOfF, h1, h2, h3, h4, h5, xs_h]; done) | (simp_all [-List.getD_eq_getElem?_getD, framesOfF, xs_h]; done))
            omega
        ·
          have hl : 0 = (List.length (framesOfF xs size step).1) := (by first | (simp [-List.getD_eq_getElem?_getD, framesOfF, h1, h2, h3, h4, xs_h]; done) | (simp_all [-List.getD_eq_getElem?_getD, framesOfF, xs_h]; done))
          omega
      ·
        have hl : 0 = (List.length (framesOfF xs size step).1) := (by first | (simp [-List.getD_eq_getElem?_getD, framesOfF, h1, h2, h3, xs_h]; done) | (simp_all [-List.getD_eq_getElem?_getD, framesOfF, xs_h]; done))
        omega
    ·
      have hl : 0 = (List.length (framesOfF xs size step).1) := (by first | (simp [-List.getD_eq_getElem?_getD, framesOfF, h1, h2, xs_h]; done) | (simp_all [-List.getD_eq_getElem?_getD, framesOfF, xs_h]; done))
      omega
  ·
    have hl : 0 = (List.length (framesOfF xs size step).1) := (by first | (simp [-List.getD_eq_getElem?_getD, framesOfF, h1, xs_h]; done) | (simp_all [-List.getD_eq_getElem?_getD, framesOfF, xs_h]; done))
    omega

theorem ev_impl_FramesOf (xs : List Nat) (xs_n : Nat) (xs_h : xs.length = xs_n) (xs_b : xs_n ≤ 9223372036854775807) (size : Int) (step : Int)  : Ev Try.prog 60 [.slice (some ⟨0, 0, none⟩) xs_n 1, .int .i64 size, .int .i64 step] [some ⟨false, .fl .f32 xs⟩] (.tuple ⟨[.slice (some ⟨1, 0, none⟩) (List.length (framesOfF xs size step).1) 1, .bool (framesOfF xs size step).2]⟩) [some ⟨false, .fl .f32 xs⟩, some ⟨true, .nst (List.length (framesOfF xs size step).1) 1 (rowF (framesOfF xs size step).1) []⟩] := by
  rcases Bool.eq_false_or_eq_true (isSnd xs) with h1 | h1
  ·
    have h1f : List.length xs ≤ 256 := isSnd_len h1
    by_cases h2 : size ≥ (1 : Int)
    ·
      by_cases h3 : size ≤ (256 : Int)
      ·
        by_cases h4 : step ≥ (1 : Int)
        ·
          by_cases h5 : step ≤ (256 : Int)
          ·
            have a0 := (framesF_le0 xs xs_n xs_h xs_b (size) (step) (by omega) (by omega) (by omega) (by omega) (by omega))
            have e : evF Try.prog Try.f60 [.slice (some ⟨0, 0, none⟩) xs_n 1, .int .i64 size, .int .i64 step] [some ⟨false, .fl .f32 xs⟩] [.c [(0, false)] (.bool (isSnd xs)) [some ⟨false, .fl .f32 xs⟩], .b false, .b false, .c [] (.bool ((decide (size ≥ (1 : Int))) && (decide (size ≤ (256 : Int))))) [], .b false, .b false, .b false, .b false, .c [] (.bool ((decide (step ≥ (1 : Int))) && (decide (step ≤ (256 : Int))))) [], .b false, .b false, .b false, .c [(0, false)] (.slice (some ⟨1, 0, none⟩) (List.length (framesF xs size step)) 1) [some ⟨false, .fl .f32 xs⟩, some ⟨true, .nst (List.length (framesF xs size step)) 1 (rowF (framesF xs size step)) []⟩]] [] [some 0, some 1] (.tuple ⟨[.slice (some ⟨1, 0, none⟩) (List.length (framesOfF xs size step).1) 1, .bool (framesOfF xs size step).2]⟩) [some ⟨false, .fl .f32 xs⟩, some ⟨true, .nst (List.length (framesOfF xs size step).1) 1 (rowF (framesOfF xs size step).1) []⟩] = some [(Ev Try.prog 84 [.slice (some ⟨0, 0, none⟩) xs_n 1] [some ⟨false, .fl .f32 xs⟩] (.bool (isSnd xs)) [some ⟨false, .fl .f32 xs⟩]), ((!(isSnd xs)) = false), ((!(isSnd xs)) = false), (Ev Try.prog 91 [.int .i64 size, .int .i64 (1 : Int), .int .i64 (256 : Int)] [] (.bool ((decide (size ≥ (1 : Int))) && (decide (size ≤ (256 : Int))))) []), ((!(isSnd xs)) = false), ((!(isSnd xs)) = false), ((!((decide (size ≥ (1 : Int))) && (decide (size ≤ (256 : Int))))) = false), ((!((decide (size ≥ (1 : Int))) && (decide (size ≤ (256 : Int))))) = false), (Ev Try.prog 91 [.int .i64 step, .int .i64 (1 : Int), .int .i64 (256 : Int)] [] (.bool ((decide (step ≥ (1 : Int))) && (decide (step ≤ (256 : Int))))) []), ((!((decide (size ≥ (1 : Int))) && (decide (size ≤ (256 : Int))))) = false), ((!((decide (size ≥ (1 : Int))) && (decide (size ≤ (256 : Int))))) = false), ((!((decide (step ≥ (1 : Int))) && (decide (step ≤ (256 : Int))))) = false), (Ev Try.prog 130 [.slice (some ⟨0, 0, none⟩) xs_n 1, .int .i64 size, .int .i64 step] [some ⟨false, .fl .f32 xs⟩] (.slice (some ⟨1, 0, none⟩) (List.length (framesF xs size step)) 1) [some ⟨false, .fl .f32 xs⟩, some ⟨true, .nst (List.length (framesF xs size step)) 1 (rowF (framesF xs size step)) []⟩]), (0 = 0), ((List.length (framesF xs size step)) = (List.length (framesOfF xs size step).1)), (true = (framesOfF xs size step).2), (xs = xs), ((List.length (framesF xs size step)) = (List.length (framesOfF xs size step).1)), (1 = 1), (∀ i, i < (List.length (framesF xs size step)) → (rowF (framesF xs size step)) i = (rowF (framesOfF xs size step).1) i)] := by kernel_rfl
            exact Ev.of mixed _ _ _ Try.func60 (by kernel_rfl) e ⟨(ev_IsSound xs xs_n xs_h xs_b), (congrArg Bool.not h1), (congrArg Bool.not h1), (ev_within (size) ((1 : Int)) ((256 : Int))), (congrArg Bool.not h1), (congrArg Bool.not h1), (congrArg Bool.not (and_tt (decide_eq_true h2) (decide_eq_true h3))), (congrArg Bool.not (and_tt (decide_eq_true h2) (decide_eq_true h3))), (ev_within (step) ((1 : Int)) ((256 : Int))), (congrArg Bool.not (and_tt (decide_eq_true h2) (decide_eq_true h3))), (congrArg Bool.not (and_tt (decide_eq_true h2) (decide_eq_true h3))), (congrArg Bool.not (and_tt (decide_eq_true h4) (decide_eq_true h5))), (ev_framesOf xs xs_n xs_h xs_b (size) (step) (by omega) (by omega) (by omega) (by omega) (by omega)), rfl, (by first | omega | (simp [-List.getD_eq_getElem?_getD, framesOfF, h1, h2, h3, h4, h5, xs_h]; done) | (simp_all [-List.getD_eq_getElem?_getD, framesOfF, xs_h]; done)), (by first | (simp [-List.getD_eq_getElem?_getD, framesOfF, h1, h2, h3, h4, h5, xs_h]; done) | (simp_all [-List.getD_eq_getElem?_getD, framesOfF, xs_h]; done)), rfl, (by first | omega | (simp [-List.getD_eq_getElem?_getD, framesOfF, h1, h2, h3, h4, h5, xs_h]; done) | (simp_all [-List.getD_eq_getElem?_getD, framesOfF, xs_h]; done)), rfl, (fun i _ => congrArg (fun q => rowF q i) (show (framesF xs size step) = (framesOfF xs size step).1 from (by first | (simp [-List.getD_eq_getElem?_getD, framesOfF, h1, h2, h3, h4, h5, xs_h]; done) | (simp_all [-List.getD_eq_getElem?_getD, framesOfF, xs_h]; done)))), trivial⟩
          ·
            have e : evF Try.prog Try.f60 [.slice (some ⟨0, 0, none⟩) xs_n 1, .int .i64 size, .int .i64 step] [some ⟨false, .fl .f32 xs⟩] [.c [(0, false)] (.bool (isSnd xs)) [some ⟨false, .fl .f32 xs⟩], .b false, .b false, .c [] (.bool ((decide (size ≥ (1 : Int))) && (decide (size ≤ (256 : Int))))) [], .b false, .b false, .b false, .b false, .c [] (.bool ((decide (step ≥ (1 : Int))) && (decide (step ≤ (256 : Int))))) [], .b false, .b false, .b true] [] [some 0, none] (.tuple ⟨[.slice (some ⟨1, 0, none⟩) (List.length (framesOfF xs size step).1) 1, .bool (framesOfF xs size step).2]⟩) [some ⟨false, .fl .f32 xs⟩, some ⟨true, .nst (List.length (framesOfF xs size step).1) 1 (rowF (framesOfF xs size step).1) []⟩] = some [(Ev Try.prog 84 [.slice (some ⟨0, 0, none⟩) xs_n 1] [some ⟨false, .fl .f32 xs⟩] (.bool (isSnd xs)) [some ⟨false, .fl .f32 xs⟩]), ((!(isSnd xs)) = false), ((!(isSnd xs)) = false), (Ev Try.prog 91 [.int .i64 size, .int .i64 (1 : Int), .int .i64 (256 : Int)] [] (.bool ((decide (size ≥ (1 : Int))) && (decide (size ≤ (256 : Int))))) []), ((!(isSnd xs)) = false), ((!(isSnd xs)) = false), ((!((decide (size ≥ (1 : Int))) && (decide (size ≤ (256 : Int))))) = false), ((!((decide (size ≥ (1 : Int))) && (decide (size ≤ (256 : Int))))) = false), (Ev Try.prog 91 [.int .i64 step, .int .i64 (1 : Int), .int .i64 (256 : Int)] [] (.bool ((decide (step ≥ (1 : Int))) && (decide (step ≤ (256 : Int))))) []), ((!((decide (size ≥ (1 : Int))) && (decide (size ≤ (256 : Int))))) = false), ((!((decide (size ≥ (1 : Int))) && (decide (size ≤ (256 : Int))))) = false), ((!((decide (step ≥ (1 : Int))) && (decide (step ≤ (256 : Int))))) = true), (0 = (List.length (framesOfF xs size step).1)), (false = (framesOfF xs size step).2), (xs = xs), ((List.length (framesOfF xs size step).1) = 0)] := by kernel_rfl
            exact Ev.of mixed _ _ _ Try.func60 (by kernel_rfl) e ⟨(ev_IsSound xs xs_n xs_h xs_b), (congrArg Bool.not h1), (congrArg Bool.not h1), (ev_within (size) ((1 : Int)) ((256 : Int))), (congrArg Bool.not h1), (congrArg Bool.not h1), (congrArg Bool.not (and_tt (decide_eq_true h2) (decide_eq_true h3))), (congrArg Bool.not (and_tt (decide_eq_true h2) (decide_eq_true h3))), (ev_within (step) ((1 : Int)) ((256 : Int))), (congrArg Bool.not (and_tt (decide_eq_true h2) (decide_eq_true h3))), (congrArg Bool.not (and_tt (decide_eq_true h2) (decide_eq_true h3))), (congrArg Bool.not (and_fr (decide_eq_false h5))), (by first | (simp [-List.getD_eq_getElem?_getD, framesOfF, h1, h2, h3, h4, h5, xs_h]; done) | (simp_all [-List.getD_eq_getElem?_getD, framesOfF, xs_h]; done)), (by first | (simp [-List.getD_eq_getElem?_getD, framesOfF, h1, h2, h3, h4, h5, xs_h]; done) | (simp_all [-List.getD_eq_getElem?_getD, framesOfF, xs_h]; done)), rfl, (by first | (simp [-List.getD_eq_getElem?_getD, framesOfF, h1, h2, h3, h4, h5, xs_h]; done) | (simp_all [-List.getD_eq_getElem?_getD, framesOfF, xs_h]; done)), trivial⟩
        ·
          have e : evF Try.prog Try.f60 [.slice (some ⟨0, 0, none⟩) xs_n 1, .int .i64 size, .int .i64 step] [some ⟨false, .fl .f32 xs⟩] [.c [(0, false)] (.bool (isSnd xs)) [some ⟨false, .fl .f32 xs⟩], .b false, .b false, .c [] (.bool ((decide (size ≥ (1 : Int))) && (decide (size ≤ (256 : Int))))) [], .b false, .b false, .b false, .b false, .c [] (.bool ((decide (step ≥ (1 : Int))) && (decide (step ≤ (256 : Int))))) [], .b false, .b false, .b true] [] [some 0, none] (.tuple ⟨[.slice (some ⟨1, 0, none⟩) (List.length (framesOfF xs size step).1) 1, .bool (framesOfF xs size step).2]⟩) [some ⟨false, .fl .f32 xs⟩, some ⟨true, .nst (List.length (framesOfF xs size step).1) 1 (rowF (framesOfF xs size step).1) []⟩] = some [(Ev Try.prog 84 [.slice (some ⟨0, 0, none⟩) xs_n 1] [some ⟨false, .fl .f32 xs⟩] (.bool (isSnd xs)) [some ⟨false, .fl .f32 xs⟩]), ((!(isSnd xs)) = false), ((!(isSnd xs)) = false), (Ev Try.prog 91 [.int .i64 size, .int .i64 (1 : Int), .int .i64 (256 : Int)] [] (.bool ((decide (size ≥ (1 : Int))) && (decide (size ≤ (256 : Int))))) []), ((!(isSnd xs)) = false), ((!(isSnd xs)) = false), ((!((decide (size ≥ (1 : Int))) && (decide (size ≤ (256 : Int))))) = false), ((!((decide (size ≥ (1 : Int))) && (decide (size ≤ (256 : Int))))) = false), (Ev Try.prog 91 [.int .i64 step, .int .i64 (1 : Int), .int .i64 (256 : Int)] [] (.bool ((decide (step ≥ (1 : Int))) && (decide (step ≤ (256 : Int))))) []), ((!((decide (size ≥ (1 : Int))) && (decide (size ≤ (256 : Int))))) = false), ((!((decide (size ≥ (1 : Int))) && (decide (size ≤ (256 : Int))))) = false), ((!((decide (step ≥ (1 : Int))) && (decide (step ≤ (256 : Int))))) = true), (0 = (List.length (framesOfF xs size step).1)), (false = (framesOfF xs size step).2), (xs = xs), ((List.length (framesOfF xs size step).1) = 0)] := by kernel_rfl
          exact Ev.of mixed _ _ _ Try.func60 (by kernel_rfl) e ⟨(ev_IsSound xs xs_n xs_h xs_b), (congrArg Bool.not h1), (congrArg Bool.not h1), (ev_within (size) ((1 : Int)) ((256 : Int))), (congrArg Bool.not h1), (congrArg Bool.not h1), (congrArg Bool.not (and_tt (decide_eq_true h2) (decide_eq_true h3))), (congrArg Bool.not (and_tt (decide_eq_true h2) (decide_eq_true h3))), (ev_within (step) ((1 : Int)) ((256 : Int))), (congrArg Bool.not (and_tt (decide_eq_true h2) (decide_eq_true h3))), (congrArg Bool.not (and_tt (decide_eq_true h2) (decide_eq_true h3))), (congrArg Bool.not (and_fl (decide_eq_false h4))), (by first | (simp [-List.getD_eq_getElem?_getD, framesOfF, h1, h2, h3, h4, xs_h]; done) | (simp_all [-List.getD_eq_getElem?_getD, framesOfF, xs_h]; done)), (by first | (simp [-List.getD_eq_getElem?_getD, framesOfF, h1, h2, h3, h4, xs_h]; done) | (simp_all [-List.getD_eq_getElem?_getD, framesOfF, xs_h]; done)), rfl, (by first | (simp [-List.getD_eq_getElem?_getD, framesOfF, h1, h2, h3, h4, xs_h]; done) | (simp_all [-List.getD_eq_getElem?_getD, framesOfF, xs_h]; done)), trivial⟩
      ·
        have e : evF Try.prog Try.f60 [.slice (some ⟨0, 0, none⟩) xs_n 1, .int .i64 size, .int .i64 step] [some ⟨false, .fl .f32 xs⟩] [.c [(0, false)] (.bool (isSnd xs)) [some ⟨false, .fl .f32 xs⟩], .b false, .b false, .c [] (.bool ((decide (size ≥ (1 : Int))) && (decide (size ≤ (256 : Int))))) [], .b false, .b false, .b true, .b true, .b true, .b true, .b true] [] [some 0, none] (.tuple ⟨[.slice (some ⟨1, 0, none⟩) (List.length (framesOfF xs size step).1) 1, .bool (framesOfF xs size step).2]⟩) [some ⟨false, .fl .f32 xs⟩, some ⟨true, .nst (List.length (framesOfF xs size step).1) 1 (rowF (framesOfF xs size step).1) []⟩] = some [(Ev Try.prog 84 [.slice (some ⟨0, 0, none⟩) xs_n 1] [some ⟨false, .fl .f32 xs⟩] (.bool (isSnd xs)) [some ⟨false, .fl .f32 xs⟩]), ((!(isSnd xs)) = false), ((!(isSnd xs)) = false), (Ev Try.prog 91 [.int .i64 size, .int .i64 (1 : Int), .int .i64 (256 : Int)] [] (.bool ((decide (size ≥ (1 : Int))) && (decide (size ≤ (256 : Int))))) []), ((!(isSnd xs)) = false), ((!(isSnd xs)) = false), ((!((decide (size ≥ (1 : Int))) && (decide (size ≤ (256 : Int))))) = true), ((!((decide (size ≥ (1 : Int))) && (decide (size ≤ (256 : Int))))) = true), ((!((decide (size ≥ (1 : Int))) && (decide (size ≤ (256 : Int))))) = true), ((!((decide (size ≥ (1 : Int))) && (decide (size ≤ (256 : Int))))) = true), (true = true), (0 = (List.length (framesOfF xs size step).1)), (false = (framesOfF xs size step).2), (xs = xs), ((List.length (framesOfF xs size step).1) = 0)] := by kernel_rfl
        exact Ev.of mixed _ _ _ Try.func60 (by kernel_rfl) e ⟨(ev_IsSound xs xs_n xs_h xs_b), (congrArg Bool.not h1), (congrArg Bool.not h1), (ev_within (size) ((1 : Int)) ((256 : Int))), (congrArg Bool.not h1), (congrArg Bool.not h1), (congrArg Bool.not (and_fr (decide_eq_false h3))), (congrArg Bool.not (and_fr (decide_eq_false h3))), (congrArg Bool.not (and_fr (decide_eq_false h3))), (congrArg Bool.not (and_fr (decide_eq_false h3))), rfl, (by first | (simp [-List.getD_eq_getElem?_getD, framesOfF, h1, h2, h3, xs_h]; done) | (simp_all [-List.getD_eq_getElem?_getD, framesOfF, xs_h]; done)), (by first | (simp [-List.getD_eq_getElem?_getD, framesOfF, h1, h2, h3, xs_h]; done) | (simp_all [-List.getD_eq_getElem?_getD, framesOfF, xs_h]; done)), rfl, (by first | (simp [-List.getD_eq_getElem?_getD, framesOfF, h1, h2, h3, xs_h]; done) | (simp_all [-List.getD_eq_getElem?_getD, framesOfF, xs_h]; done)), trivial⟩
    ·
      have e : evF Try.prog Try.f60 [.slice (some ⟨0, 0, none⟩) xs_n 1, .int .i64 size, .int .i64 step] [some ⟨false, .fl .f32 xs⟩] [.c [(0, false)] (.bool (isSnd xs)) [some ⟨false, .fl .f32 xs⟩], .b false, .b false, .c [] (.bool ((decide (size ≥ (1 : Int))) && (decide (size ≤ (256 : Int))))) [], .b false, .b false, .b true, .b true, .b true, .b true, .b true] [] [some 0, none] (.tuple ⟨[.slice (some ⟨1, 0, none⟩) (List.length (framesOfF xs size step).1) 1, .bool (framesOfF xs size step).2]⟩) [some ⟨false, .fl .f32 xs⟩, some ⟨true, .nst (List.length (framesOfF xs size step).1) 1 (rowF (framesOfF xs size step).1) []⟩] = some [(Ev Try.prog 84 [.slice (some ⟨0, 0, none⟩) xs_n 1] [some ⟨false, .fl .f32 xs⟩] (.bool (isSnd xs)) [some ⟨false, .fl .f32 xs⟩]), ((!(isSnd xs)) = false), ((!(isSnd xs)) = false), (Ev Try.prog 91 [.int .i64 size, .int .i64 (1 : Int), .int .i64 (256 : Int)] [] (.bool ((decide (size ≥ (1 : Int))) && (decide (size ≤ (256 : Int))))) []), ((!(isSnd xs)) = false), ((!(isSnd xs)) = false), ((!((decide (size ≥ (1 : Int))) && (decide (size ≤ (256 : Int))))) = true), ((!((decide (size ≥ (1 : Int))) && (decide (size ≤ (256 : Int))))) = true), ((!((decide (size ≥ (1 : Int))) && (decide (size ≤ (256 : Int))))) = true), ((!((decide (size ≥ (1 : Int))) && (decide (size ≤ (256 : Int))))) = true), (true = true), (0 = (List.length (framesOfF xs size step).1)), (false = (framesOfF xs size step).2), (xs = xs), ((List.length (framesOfF xs size step).1) = 0)] := by kernel_rfl
      exact Ev.of mixed _ _ _ Try.func60 (by kernel_rfl) e ⟨(ev_IsSound xs xs_n xs_h xs_b), (congrArg Bool.not h1), (congrArg Bool.not h1), (ev_within (size) ((1 : Int)) ((256 : Int))), (congrArg Bool.not h1), (congrArg Bool.not h1), (congrArg Bool.not (and_fl (decide_eq_false h2))), (congrArg Bool.not (and_fl (decide_eq_false h2))), (congrArg Bool.not (and_fl (decide_eq_false h2))), (congrArg Bool.not (and_fl (decide_eq_false h2))), rfl, (by first | (simp [-List.getD_eq_getElem?_getD, framesOfF, h1, h2, xs_h]; done) | (simp_all [-List.getD_eq_getElem?_getD, framesOfF, xs_h]; done)), (by first | (simp [-List.getD_eq_getElem?_getD, framesOfF, h1, h2, xs_h]; done) | (simp_all [-List.getD_eq_getElem?_getD, framesOfF, xs_h]; done)), rfl, (by first | (simp [-List.getD_eq_getElem?_getD, framesOfF, h1, h2, xs_h]; done) | (simp_all [-List.getD_eq_getElem?_getD, framesOfF, xs_h]; done)), trivial⟩
  ·
    have e : evF Try.prog Try.f60 [.slice (some ⟨0, 0, none⟩) xs_n 1, .int .i64 size, .int .i64 step] [some ⟨false, .fl .f32 xs⟩] [.c [(0, false)] (.bool (isSnd xs)) [some ⟨false, .fl .f32 xs⟩], .b true, .b true, .b true, .b true, .b true, .b true, .b true, .b true, .b true] [] [some 0, none] (.tuple ⟨[.slice (some ⟨1, 0, none⟩) (List.length (framesOfF xs size step).1) 1, .bool (framesOfF xs size step).2]⟩) [some ⟨false, .fl .f32 xs⟩, some ⟨true, .nst (List.length (framesOfF xs size step).1) 1 (rowF (framesOfF xs size step).1) []⟩] = some [(Ev Try.prog 84 [.slice (some ⟨0, 0, none⟩) xs_n 1] [some ⟨false, .fl .f32 xs⟩] (.bool (isSnd xs)) [some ⟨false, .fl .f32 xs⟩]), ((!(isSnd xs)) = true), ((!(isSnd xs)) = true), ((!(isSnd xs)) = true), ((!(isSnd xs)) = true), (true = true), (true = true), (true = true), (true = true), (true = true), (0 = (List.length (framesOfF xs size step).1)), (false = (framesOfF xs size step).2), (xs = xs), ((List.length (framesOfF xs size step).1) = 0)] := by kernel_rfl
    exact Ev.of mixed _ _ _ Try.func60 (by kernel_rfl) e ⟨(ev_IsSound xs xs_n xs_h xs_b), (congrArg Bool.not h1), (congrArg Bool.not h1), (congrArg Bool.not h1), (congrArg Bool.not h1), rfl, rfl, rfl, rfl, rfl, (by first | (simp [-List.getD_eq_getElem?_getD, framesOfF, h1, xs_h]; done) | (simp_all [-List.getD_eq_getElem?_getD, framesOfF, xs_h]; done)), (by first | (simp [-List.getD_eq_getElem?_getD, framesOfF, h1, xs_h]; done) | (simp_all [-List.getD_eq_getElem?_getD, framesOfF, xs_h]; done)), rfl, (by first | (simp [-List.getD_eq_getElem?_getD, framesOfF, h1, xs_h]; done) | (simp_all [-List.getD_eq_getElem?_getD, framesOfF, xs_h]; done)), trivial⟩

end Go.Sim
