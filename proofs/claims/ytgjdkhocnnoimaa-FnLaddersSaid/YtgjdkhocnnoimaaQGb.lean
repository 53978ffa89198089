/- What the marks of lists compute, and lists that are looked through. Conditions: none. -/
import Derived.Test.YtgjdkhocnnoimaaProg
import Derived.KernelRfl
import Derived.Test.YtgjdkhocnnoimaaS19
import Derived.Test.YtgjdkhocnnoimaaPu1
import Derived.Test.YtgjdkhocnnoimaaPu2

section
set_option linter.unusedSimpArgs false

set_option linter.unusedVariables false

namespace Go.Sim

open Go Go.Proofs

theorem mixed : Try.prog.follows .mixedOrders = true := by kernel_rfl

theorem ev_IsFinite (x : Nat)  : Ev Try.prog 86 [.float .f32 x] [] (.bool (fin32 x)) [] := by
  have e : evF Try.prog Try.f86 [.float .f32 x] [] [] [] [] (.bool (fin32 x)) [] = some [((fcmp .eql .f32 (fop .sub .f32 x x) 0) = (fin32 x))] := by kernel_rfl
  exact Ev.of mixed _ _ _ Try.func86 (by kernel_rfl) e ⟨(by first | (simp [-List.getD_eq_getElem?_getD, fin32]; done) | (simp_all [-List.getD_eq_getElem?_getD, fin32]; done)), trivial⟩

theorem ev_within (n : Int) (lo : Int) (hi : Int)  : Ev Try.prog 91 [.int .i64 n, .int .i64 lo, .int .i64 hi] [] (.bool ((decide (n ≥ lo)) && (decide (n ≤ hi)))) [] := by
  by_cases h1 : n ≥ lo
  ·
    have e : evF Try.prog Try.f91 [.int .i64 n, .int .i64 lo, .int .i64 hi] [] [.b true, .b true, .b true, .b true] [] [] (.bool ((decide (n ≥ lo)) && (decide (n ≤ hi)))) [] = some [((decide (n ≥ lo)) = true), ((decide (n ≥ lo)) = true), ((decide (n ≥ lo)) = true), ((decide (n ≥ lo)) = true), ((decide (n ≤ hi)) = ((decide (n ≥ lo)) && (decide (n ≤ hi))))] := by kernel_rfl
    exact Ev.of mixed _ _ _ Try.func91 (by kernel_rfl) e ⟨(decide_eq_true h1), (decide_eq_true h1), (decide_eq_true h1), (decide_eq_true h1), (by first | (simp [-List.getD_eq_getElem?_getD, h1]; done) | (simp_all [-List.getD_eq_getElem?_getD, ]; done)), trivial⟩
  ·
    have e : evF Try.prog Try.f91 [.int .i64 n, .int .i64 lo, .int .i64 hi] [] [.b false, .b false, .b false, .b false] [] [] (.bool ((decide (n ≥ lo)) && (decide (n ≤ hi)))) [] = some [((decide (n ≥ lo)) = false), ((decide (n ≥ lo)) = false), ((decide (n ≥ lo)) = false), ((decide (n ≥ lo)) = false), (false = ((decide (n ≥ lo)) && (decide (n ≤ hi))))] := by kernel_rfl
    exact Ev.of mixed _ _ _ Try.func91 (by kernel_rfl) e ⟨(decide_eq_false h1), (decide_eq_false h1), (decide_eq_false h1), (decide_eq_false h1), (by first | (simp [-List.getD_eq_getElem?_getD, h1]; done) | (simp_all [-List.getD_eq_getElem?_getD, ]; done)), trivial⟩

def ev_areFinite_L1_step (xs : List Nat) (xs_n : Nat) (k1 : Nat) (s1 : Unit) : Unit := ()

def ev_areFinite_L1_S (xs : List Nat) (xs_n : Nat) : Nat → Unit
  | 0 => ()
  | k + 1 => ev_areFinite_L1_step xs xs_n k (ev_areFinite_L1_S xs xs_n k)

def ev_areFinite_L1_I (xs : List Nat) (xs_n : Nat) (k1 : Nat) (s1 : Unit) : St := ⟨[(0, .slice (some ⟨0, 0, none⟩) xs_n 1), (2, .bool false), (5, .slice (some ⟨0, 0, none⟩) xs_n 1), (6, .int .i64 ((xs_n : Nat) : Int)), (7, .int .i64 ((k1 : Nat) : Int))], [some ⟨false, .fl .f32 xs⟩]⟩

def ev_areFinite_L1_good (xs : List Nat) (xs_n : Nat) (k1 : Nat) (s1 : Unit) : Bool := (if (fin32 (List.getD xs k1 0)) then true else false)

theorem ev_areFinite_L1_body (xs : List Nat) (xs_n : Nat) (xs_h : xs.length = xs_n) (xs_b : xs_n ≤ 9223372036854775807)  (k1 : Nat) (s1 : Unit)  (hk_k1 : k1 < xs_n) (hg : ev_areFinite_L1_good xs xs_n k1 s1 = true) : PW Try.prog 15 1 (sub [1, 0, 1, 0, 0] (bodyOf Try.f87)) (ev_areFinite_L1_I xs xs_n k1 s1) .normal (ev_areFinite_L1_I xs xs_n (k1 + 1) (ev_areFinite_L1_step xs xs_n k1 s1)) := by
  rcases Bool.eq_false_or_eq_true (fin32 (List.getD xs k1 0)) with h1 | h1
  ·
    have e : evL Try.prog 15 1 (sub [1, 0, 1, 0, 0] (bodyOf Try.f87)) (ev_areFinite_L1_I xs xs_n k1 s1) [.b true, .n k1, .c [] (.bool (fin32 (List.getD xs k1 0))) [], .b false] [] [some 0] .normal (ev_areFinite_L1_I xs xs_n (k1 + 1) (ev_areFinite_L1_step xs xs_n k1 s1)) = some [((decide (((k1 : Nat) : Int) < ((xs_n : Nat) : Int))) = true), (((k1 : Nat) : Int) = ((k1 : Nat) : Int)), (k1 < xs_n), (k1 < (List.length xs)), (Ev Try.prog 86 [.float .f32 (List.getD xs k1 0)] [] (.bool (fin32 (List.getD xs k1 0))) []), ((!(fin32 (List.getD xs k1 0))) = false), (inR .i64 (((k1 : Nat) : Int) + (1 : Int))), (0 = 0), (xs_n = xs_n), (false = false), (0 = 0), (xs_n = xs_n), (((xs_n : Nat) : Int) = ((xs_n : Nat) : Int)), ((((k1 : Nat) : Int) + (1 : Int)) = (((k1 + 1) : Nat) : Int)), (xs = xs)] := by kernel_rfl
    exact PW.of_evL mixed _ _ _ e ⟨(decide_eq_true (by omega)), rfl, (by omega), (by omega), (ev_IsFinite (List.getD xs k1 0)), (congrArg Bool.not h1), (inR64 (by omega) (by omega)), rfl, rfl, rfl, rfl, rfl, rfl, (by omega), rfl, trivial⟩
  ·
    exact absurd hg (by simp [-List.getD_eq_getElem?_getD, ev_areFinite_L1_good, h1, xs_h])

theorem ev_areFinite_L1_end (xs : List Nat) (xs_n : Nat) (xs_h : xs.length = xs_n) (xs_b : xs_n ≤ 9223372036854775807)  (s1 : Unit)  : PW Try.prog 15 1 (sub [1, 0, 1, 0, 0] (bodyOf Try.f87)) (ev_areFinite_L1_I xs xs_n xs_n s1) (.exit 0) ⟨[(0, .slice (some ⟨0, 0, none⟩) xs_n 1), (2, .bool false), (5, .slice (some ⟨0, 0, none⟩) xs_n 1), (6, .int .i64 ((xs_n : Nat) : Int)), (7, .int .i64 ((xs_n : Nat) : Int))], [some ⟨false, .fl .f32 xs⟩]⟩ := by
  have e : evL Try.prog 15 1 (sub [1, 0, 1, 0, 0] (bodyOf Try.f87)) (ev_areFinite_L1_I xs xs_n xs_n s1) [.b false] [] [some 0] (.exit 0) ⟨[(0, .slice (some ⟨0, 0, none⟩) xs_n 1), (2, .bool false), (5, .slice (some ⟨0, 0, none⟩) xs_n 1), (6, .int .i64 ((xs_n : Nat) : Int)), (7, .int .i64 ((xs_n : Nat) : Int))], [some ⟨false, .fl .f32 xs⟩]⟩ = some [((decide (((xs_n : Nat) : Int) < ((xs_n : Nat) : Int))) = false), (0 = 0), (xs_n = xs_n), (false = false), (0 = 0), (xs_n = xs_n), (((xs_n : Nat) : Int) = ((xs_n : Nat) : Int)), (((xs_n : Nat) : Int) = ((xs_n : Nat) : Int)), (xs = xs)] := by kernel_rfl
  exact PW.of_evL mixed _ _ _ e ⟨(decide_eq_false (by omega)), rfl, rfl, rfl, rfl, rfl, rfl, rfl, rfl, trivial⟩

theorem ev_areFinite_L1 (xs : List Nat) (xs_n : Nat) (xs_h : xs.length = xs_n) (xs_b : xs_n ≤ 9223372036854775807)  (hL : ∀ k, k < xs_n → ev_areFinite_L1_good xs xs_n k (ev_areFinite_L1_S xs xs_n k) = true) : PW Try.prog 15 1 (.loop (sub [1, 0, 1, 0, 0] (bodyOf Try.f87))) (ev_areFinite_L1_I xs xs_n 0 (ev_areFinite_L1_S xs xs_n 0)) (.exit 0) ⟨[(0, .slice (some ⟨0, 0, none⟩) xs_n 1), (2, .bool false), (5, .slice (some ⟨0, 0, none⟩) xs_n 1), (6, .int .i64 ((xs_n : Nat) : Int)), (7, .int .i64 ((xs_n : Nat) : Int))], [some ⟨false, .fl .f32 xs⟩]⟩ :=
  PW.loop (I := (fun k => ev_areFinite_L1_I xs xs_n k (ev_areFinite_L1_S xs xs_n k))) xs_n (by simp) (fun k hk => ev_areFinite_L1_body xs xs_n xs_h xs_b k _  hk (hL k hk)) (ev_areFinite_L1_end xs xs_n xs_h xs_b _ )

theorem ev_areFinite_L1_ende (xs : List Nat) (xs_n : Nat) (xs_h : xs.length = xs_n) (xs_b : xs_n ≤ 9223372036854775807)  (s1 : Unit) (k1 : Nat)  (hk_k1 : k1 < xs_n) (hb : ev_areFinite_L1_good xs xs_n k1 s1 = false) : PW Try.prog 15 1 (sub [1, 0, 1, 0, 0] (bodyOf Try.f87)) (ev_areFinite_L1_I xs xs_n k1 s1) .ret ⟨[(2, .bool false)], [some ⟨false, .fl .f32 xs⟩]⟩ := by
  rcases Bool.eq_false_or_eq_true (fin32 (List.getD xs k1 0)) with h2 | h2
  ·
    exact absurd hb (by simp [-List.getD_eq_getElem?_getD, ev_areFinite_L1_good, h2, xs_h])
  ·
    have e : evL Try.prog 15 1 (sub [1, 0, 1, 0, 0] (bodyOf Try.f87)) (ev_areFinite_L1_I xs xs_n k1 s1) [.b true, .n k1, .c [] (.bool (fin32 (List.getD xs k1 0))) [], .b true] [] [some 0] .ret ⟨[(2, .bool false)], [some ⟨false, .fl .f32 xs⟩]⟩ = some [((decide (((k1 : Nat) : Int) < ((xs_n : Nat) : Int))) = true), (((k1 : Nat) : Int) = ((k1 : Nat) : Int)), (k1 < xs_n), (k1 < (List.length xs)), (Ev Try.prog 86 [.float .f32 (List.getD xs k1 0)] [] (.bool (fin32 (List.getD xs k1 0))) []), ((!(fin32 (List.getD xs k1 0))) = true), (false = false), (xs = xs)] := by kernel_rfl
    exact PW.of_evL mixed _ _ _ e ⟨(decide_eq_true (by omega)), rfl, (by omega), (by omega), (ev_IsFinite (List.getD xs k1 0)), (congrArg Bool.not h2), rfl, rfl, trivial⟩

theorem ev_areFinite_L1e (xs : List Nat) (xs_n : Nat) (xs_h : xs.length = xs_n) (xs_b : xs_n ≤ 9223372036854775807)  (j : Nat) (hj : j < xs_n) (hb : ev_areFinite_L1_good xs xs_n j (ev_areFinite_L1_S xs xs_n j) = false) (hL : ∀ k, k < j → ev_areFinite_L1_good xs xs_n k (ev_areFinite_L1_S xs xs_n k) = true) : PW Try.prog 15 1 (.loop (sub [1, 0, 1, 0, 0] (bodyOf Try.f87))) (ev_areFinite_L1_I xs xs_n 0 (ev_areFinite_L1_S xs xs_n 0)) .ret ⟨[(2, .bool false)], [some ⟨false, .fl .f32 xs⟩]⟩ :=
  PW.loop (I := (fun k => ev_areFinite_L1_I xs xs_n k (ev_areFinite_L1_S xs xs_n k))) j (by simp) (fun k hk => ev_areFinite_L1_body xs xs_n xs_h xs_b k _  (Nat.lt_trans hk hj) (hL k hk)) (ev_areFinite_L1_ende xs xs_n xs_h xs_b _ j  hj hb)

theorem ev_areFinite (xs : List Nat) (xs_n : Nat) (xs_h : xs.length = xs_n) (xs_b : xs_n ≤ 9223372036854775807)  : Ev Try.prog 87 [.slice (some ⟨0, 0, none⟩) xs_n 1] [some ⟨false, .fl .f32 xs⟩] (.bool (allFin xs)) [some ⟨false, .fl .f32 xs⟩] := by
  rcases Bool.eq_false_or_eq_true (allBelow (fun k => ev_areFinite_L1_good xs xs_n k (ev_areFinite_L1_S xs xs_n k)) xs_n) with h3 | h3
  ·
    have e : evF Try.prog Try.f87 [.slice (some ⟨0, 0, none⟩) xs_n 1] [some ⟨false, .fl .f32 xs⟩] [] [([some 0], (ev_areFinite_L1_I xs xs_n 0 (ev_areFinite_L1_S xs xs_n 0)), (.exit 0), ⟨[(0, .slice (some ⟨0, 0, none⟩) xs_n 1), (2, .bool false), (5, .slice (some ⟨0, 0, none⟩) xs_n 1), (6, .int .i64 ((xs_n : Nat) : Int)), (7, .int .i64 ((xs_n : Nat) : Int))], [some ⟨false, .fl .f32 xs⟩]⟩)] [some 0] (.bool (allFin xs)) [some ⟨false, .fl .f32 xs⟩] = some [(0 = 0), (xs_n = xs_n), (false = false), (0 = 0), (xs_n = xs_n), (((xs_n : Nat) : Int) = ((xs_n : Nat) : Int)), ((0 : Int) = ((0 : Nat) : Int)), (xs = xs), (PW Try.prog 15 1 (.loop (sub [1, 0, 1, 0, 0] (bodyOf Try.f87))) (ev_areFinite_L1_I xs xs_n 0 (ev_areFinite_L1_S xs xs_n 0)) (.exit 0) ⟨[(0, .slice (some ⟨0, 0, none⟩) xs_n 1), (2, .bool false), (5, .slice (some ⟨0, 0, none⟩) xs_n 1), (6, .int .i64 ((xs_n : Nat) : Int)), (7, .int .i64 ((xs_n : Nat) : Int))], [some ⟨false, .fl .f32 xs⟩]⟩), (true = (allFin xs)), (xs = xs)] := by kernel_rfl
    exact Ev.of mixed _ _ _ Try.func87 (by kernel_rfl) e ⟨rfl, rfl, rfl, rfl, rfl, rfl, (by omega), rfl, (ev_areFinite_L1 xs xs_n xs_h xs_b (allBelow_true.1 (show (allBelow (fun k => ev_areFinite_L1_good xs xs_n k (ev_areFinite_L1_S xs xs_n k)) xs_n) = true from h3))), (by first | (simp [-List.getD_eq_getElem?_getD, allFin, ev_areFinite_L1_good, h3, xs_h]; done) | (simp_all [-List.getD_eq_getElem?_getD, allFin, ev_areFinite_L1_good, xs_h]; done)), rfl, trivial⟩
  ·
    have e : evF Try.prog Try.f87 [.slice (some ⟨0, 0, none⟩) xs_n 1] [some ⟨false, .fl .f32 xs⟩] [] [([some 0], (ev_areFinite_L1_I xs xs_n 0 (ev_areFinite_L1_S xs xs_n 0)), .ret, ⟨[(2, .bool false)], [some ⟨false, .fl .f32 xs⟩]⟩)] [some 0] (.bool (allFin xs)) [some ⟨false, .fl .f32 xs⟩] = some [(0 = 0), (xs_n = xs_n), (false = false), (0 = 0), (xs_n = xs_n), (((xs_n : Nat) : Int) = ((xs_n : Nat) : Int)), ((0 : Int) = ((0 : Nat) : Int)), (xs = xs), (PW Try.prog 15 1 (.loop (sub [1, 0, 1, 0, 0] (bodyOf Try.f87))) (ev_areFinite_L1_I xs xs_n 0 (ev_areFinite_L1_S xs xs_n 0)) .ret ⟨[(2, .bool false)], [some ⟨false, .fl .f32 xs⟩]⟩), (false = (allFin xs)), (xs = xs)] := by kernel_rfl
    exact Ev.of mixed _ _ _ Try.func87 (by kernel_rfl) e ⟨rfl, rfl, rfl, rfl, rfl, rfl, (by omega), rfl, (ev_areFinite_L1e xs xs_n xs_h xs_b (firstF (fun k => ev_areFinite_L1_good xs xs_n k (ev_areFinite_L1_S xs xs_n k)) xs_n) (firstF_lt (show (allBelow (fun k => ev_areFinite_L1_good xs xs_n k (ev_areFinite_L1_S xs xs_n k)) xs_n) = false from h3)) (firstF_false (show (allBelow (fun k => ev_areFinite_L1_good xs xs_n k (ev_areFinite_L1_S xs xs_n k)) xs_n) = false from h3)) (firstF_before (show (allBelow (fun k => ev_areFinite_L1_good xs xs_n k (ev_areFinite_L1_S xs xs_n k)) xs_n) = false from h3))), (by first | (simp [-List.getD_eq_getElem?_getD, allFin, ev_areFinite_L1_good, h3, xs_h]; done) | (simp_all [-List.getD_eq_getElem?_getD, allFin, ev_areFinite_L1_good, xs_h]; done)), rfl, trivial⟩

theorem ev_IsSound (xs : List Nat) (xs_n : Nat) (xs_h : xs.length = xs_n) (xs_b : xs_n ≤ 9223372036854775807)  : Ev Try.prog 84 [.slice (some ⟨0, 0, none⟩) xs_n 1] [some ⟨false, .fl .f32 xs⟩] (.bool (isSnd xs)) [some ⟨false, .fl .f32 xs⟩] := by
  by_cases h1 : xs_n ≤ 256
  ·
    have e : evF Try.prog Try.f84 [.slice (some ⟨0, 0, none⟩) xs_n 1] [some ⟨false, .fl .f32 xs⟩] [.b true, .b true, .c [(0, false)] (.bool (allFin xs)) [some ⟨false, .fl .f32 xs⟩], .b true] [] [some 0] (.bool (isSnd xs)) [some ⟨false, .fl .f32 xs⟩] = some [((decide (((xs_n : Nat) : Int) ≤ (256 : Int))) = true), ((decide (((xs_n : Nat) : Int) ≤ (256 : Int))) = true), (Ev Try.prog 87 [.slice (some ⟨0, 0, none⟩) xs_n 1] [some ⟨false, .fl .f32 xs⟩] (.bool (allFin xs)) [some ⟨false, .fl .f32 xs⟩]), ((decide (((xs_n : Nat) : Int) ≤ (256 : Int))) = true), ((allFin xs) = (isSnd xs)), (xs = xs)] := by kernel_rfl
    exact Ev.of mixed _ _ _ Try.func84 (by kernel_rfl) e ⟨(decide_eq_true (by omega)), (decide_eq_true (by omega)), (ev_areFinite xs xs_n xs_h xs_b), (decide_eq_true (by omega)), (by first | (simp [-List.getD_eq_getElem?_getD, isSnd, h1, (show ((xs_n : Nat) : Int) ≤ (256 : Int) from by omega), xs_h]; done) | (simp_all [-List.getD_eq_getElem?_getD, isSnd, (show ((xs_n : Nat) : Int) ≤ (256 : Int) from by omega), xs_h]; done)), rfl, trivial⟩
  ·
    have e : evF Try.prog Try.f84 [.slice (some ⟨0, 0, none⟩) xs_n 1] [some ⟨false, .fl .f32 xs⟩] [.b false, .b false, .b false] [] [some 0] (.bool (isSnd xs)) [some ⟨false, .fl .f32 xs⟩] = some [((decide (((xs_n : Nat) : Int) ≤ (256 : Int))) = false), ((decide (((xs_n : Nat) : Int) ≤ (256 : Int))) = false), ((decide (((xs_n : Nat) : Int) ≤ (256 : Int))) = false), (false = (isSnd xs)), (xs = xs)] := by kernel_rfl
    exact Ev.of mixed _ _ _ Try.func84 (by kernel_rfl) e ⟨(decide_eq_false (by omega)), (decide_eq_false (by omega)), (decide_eq_false (by omega)), (by first | (simp [-List.getD_eq_getElem?_getD, isSnd, h1, (show ¬ (((xs_n : Nat) : Int) ≤ (256 : Int)) from by omega), xs_h]; done) | (simp_all [-List.getD_eq_getElem?_getD, isSnd, (show ¬ (((xs_n : Nat) : Int) ≤ (256 : Int)) from by omega), xs_h]; done)), rfl, trivial⟩

end Go.Sim
end

section
set_option linter.unusedSimpArgs false

set_option linter.unusedVariables false

namespace Go.Sim

open Go Go.Proofs

theorem ev_checkedNumbers_t (xs : List Nat) (xs_n : Nat) (xs_h : xs.length = xs_n) (xs_b : xs_n ≤ 9223372036854775807)  (hcase : allFin xs = true) : Ev Try.prog 92 [.slice (some ⟨0, 0, none⟩) xs_n 1] [some ⟨false, .fl .f32 xs⟩] (.tuple ⟨[.slice (some ⟨0, 0, none⟩) xs_n 1, .bool true]⟩) [some ⟨false, .fl .f32 xs⟩] := by
  have e : evF Try.prog Try.f92 [.slice (some ⟨0, 0, none⟩) xs_n 1] [some ⟨false, .fl .f32 xs⟩] [.c [(0, false)] (.bool (allFin xs)) [some ⟨false, .fl .f32 xs⟩], .b false] [] [some 0] (.tuple ⟨[.slice (some ⟨0, 0, none⟩) xs_n 1, .bool true]⟩) [some ⟨false, .fl .f32 xs⟩] = some [(Ev Try.prog 87 [.slice (some ⟨0, 0, none⟩) xs_n 1] [some ⟨false, .fl .f32 xs⟩] (.bool (allFin xs)) [some ⟨false, .fl .f32 xs⟩]), ((!(allFin xs)) = false), (0 = 0), (xs_n = xs_n), (true = true), (xs = xs)] := by kernel_rfl
  exact Ev.of mixed _ _ _ Try.func92 (by kernel_rfl) e ⟨(ev_areFinite xs xs_n xs_h xs_b), (congrArg Bool.not hcase), rfl, rfl, rfl, rfl, trivial⟩

theorem ev_checkedNumbers_f (xs : List Nat) (xs_n : Nat) (xs_h : xs.length = xs_n) (xs_b : xs_n ≤ 9223372036854775807)  (hcase : allFin xs = false) : Ev Try.prog 92 [.slice (some ⟨0, 0, none⟩) xs_n 1] [some ⟨false, .fl .f32 xs⟩] (.tuple ⟨[.slice none 0 0, .bool false]⟩) [some ⟨false, .fl .f32 xs⟩] := by
  have e : evF Try.prog Try.f92 [.slice (some ⟨0, 0, none⟩) xs_n 1] [some ⟨false, .fl .f32 xs⟩] [.c [(0, false)] (.bool (allFin xs)) [some ⟨false, .fl .f32 xs⟩], .b true] [] [some 0] (.tuple ⟨[.slice none 0 0, .bool false]⟩) [some ⟨false, .fl .f32 xs⟩] = some [(Ev Try.prog 87 [.slice (some ⟨0, 0, none⟩) xs_n 1] [some ⟨false, .fl .f32 xs⟩] (.bool (allFin xs)) [some ⟨false, .fl .f32 xs⟩]), ((!(allFin xs)) = true), (false = false), (xs = xs)] := by kernel_rfl
  exact Ev.of mixed _ _ _ Try.func92 (by kernel_rfl) e ⟨(ev_areFinite xs xs_n xs_h xs_b), (congrArg Bool.not hcase), rfl, rfl, trivial⟩

end Go.Sim
end
