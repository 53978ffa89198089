/- What small functions of numbers compute. Conditions: none. -/

import Derived.Test.YtidjddabfmnkjaaProg
import Derived.KernelRfl
import Derived.Test.YtidjddabfmnkjaaS19
import Derived.Test.YtidjddabfmnkjaaPu1

set_option linter.unusedSimpArgs false

set_option linter.unusedVariables false

namespace Go.Sim

open Go Go.Proofs

theorem mixed : Try.prog.follows .mixedOrders = true := by kernel_rfl

theorem ev_l01Finite (x : Nat)  : Ev Try.prog 64 [.float .f32 x] [] (.bool (fin32 x)) [] := by
  have e : evF Try.prog Try.f64 [.float .f32 x] [] [] [] [] (.bool (fin32 x)) [] = some [((fcmp .eql .f32 (fop .sub .f32 x x) 0) = (fin32 x))] := by kernel_rfl
  exact Ev.of mixed _ _ _ Try.func64 (by kernel_rfl) e ⟨(by first | (simp [-List.getD_eq_getElem?_getD, fin32]; done) | (simp_all [-List.getD_eq_getElem?_getD, fin32]; done)), trivial⟩

theorem ev_IsFinite (x : Nat)  : Ev Try.prog 66 [.float .f32 x] [] (.bool (fin32 x)) [] := by
  have e : evF Try.prog Try.f66 [.float .f32 x] [] [] [] [] (.bool (fin32 x)) [] = some [((fcmp .eql .f32 (fop .sub .f32 x x) 0) = (fin32 x))] := by kernel_rfl
  exact Ev.of mixed _ _ _ Try.func66 (by kernel_rfl) e ⟨(by first | (simp [-List.getD_eq_getElem?_getD, fin32]; done) | (simp_all [-List.getD_eq_getElem?_getD, fin32]; done)), trivial⟩

theorem ev_sameFloat (a : Nat) (b : Nat)  : Ev Try.prog 58 [.float .f64 a, .float .f64 b] [] (.bool (sameD a b)) [] := by
  rcases Bool.eq_false_or_eq_true (fcmp .neq .f64 a a) with h1 | h1
  ·
    have e : evF Try.prog Try.f58 [.float .f64 a, .float .f64 b] [] [.b true, .b true, .b true, .b true, .b true, .b true, .b true, .b true, .b true] [] [] (.bool (sameD a b)) [] = some [((fcmp .neq .f64 a a) = true), ((fcmp .neq .f64 a a) = true), ((fcmp .neq .f64 a a) = true), ((fcmp .neq .f64 a a) = true), (true = true), ((fcmp .neq .f64 a a) = true), ((fcmp .neq .f64 a a) = true), ((fcmp .neq .f64 a a) = true), ((fcmp .neq .f64 a a) = true), ((fcmp .neq .f64 b b) = (sameD a b))] := by kernel_rfl
    exact Ev.of mixed _ _ _ Try.func58 (by kernel_rfl) e ⟨h1, h1, h1, h1, rfl, h1, h1, h1, h1, (by first | (simp [-List.getD_eq_getElem?_getD, sameD, h1]; done) | (simp_all [-List.getD_eq_getElem?_getD, sameD]; done)), trivial⟩
  ·
    rcases Bool.eq_false_or_eq_true (fcmp .neq .f64 b b) with h2 | h2
    ·
      have e : evF Try.prog Try.f58 [.float .f64 a, .float .f64 b] [] [.b false, .b false, .b false, .b false, .b true, .b false, .b false, .b false, .b false] [] [] (.bool (sameD a b)) [] = some [((fcmp .neq .f64 a a) = false), ((fcmp .neq .f64 a a) = false), ((fcmp .neq .f64 a a) = false), ((fcmp .neq .f64 a a) = false), ((fcmp .neq .f64 b b) = true), ((fcmp .neq .f64 a a) = false), ((fcmp .neq .f64 a a) = false), ((fcmp .neq .f64 a a) = false), ((fcmp .neq .f64 a a) = false), (false = (sameD a b))] := by kernel_rfl
      exact Ev.of mixed _ _ _ Try.func58 (by kernel_rfl) e ⟨h1, h1, h1, h1, h2, h1, h1, h1, h1, (by first | (simp [-List.getD_eq_getElem?_getD, sameD, h1, h2]; done) | (simp_all [-List.getD_eq_getElem?_getD, sameD]; done)), trivial⟩
    ·
      rcases Bool.eq_false_or_eq_true (fcmp .eql .f64 a 0) with h3 | h3
      ·
        rcases Bool.eq_false_or_eq_true (fcmp .eql .f64 b 0) with h4 | h4
        ·
          have e : evF Try.prog Try.f58 [.float .f64 a, .float .f64 b] [] [.b false, .b false, .b false, .b false, .b false, .b true, .b true, .b true, .b true] [] [] (.bool (sameD a b)) [] = some [((fcmp .neq .f64 a a) = false), ((fcmp .neq .f64 a a) = false), ((fcmp .neq .f64 a a) = false), ((fcmp .neq .f64 a a) = false), ((fcmp .neq .f64 b b) = false), ((fcmp .eql .f64 a 0) = true), ((fcmp .eql .f64 a 0) = true), ((fcmp .eql .f64 a 0) = true), ((fcmp .eql .f64 b 0) = true), (((fcmp .gtr .f64 (fop .quo .f64 4607182418800017408 a) 0) == (fcmp .gtr .f64 (fop .quo .f64 4607182418800017408 b) 0)) = (sameD a b))] := by kernel_rfl
          exact Ev.of mixed _ _ _ Try.func58 (by kernel_rfl) e ⟨h1, h1, h1, h1, h2, h3, h3, h3, h4, (by first | (simp [-List.getD_eq_getElem?_getD, sameD, h1, h2, h3, h4]; done) | (simp_all [-List.getD_eq_getElem?_getD, sameD]; done)), trivial⟩
        ·
          have e : evF Try.prog Try.f58 [.float .f64 a, .float .f64 b] [] [.b false, .b false, .b false, .b false, .b false, .b true, .b true, .b true, .b false] [] [] (.bool (sameD a b)) [] = some [((fcmp .neq .f64 a a) = false), ((fcmp .neq .f64 a a) = false), ((fcmp .neq .f64 a a) = false), ((fcmp .neq .f64 a a) = false), ((fcmp .neq .f64 b b) = false), ((fcmp .eql .f64 a 0) = true), ((fcmp .eql .f64 a 0) = true), ((fcmp .eql .f64 a 0) = true), ((fcmp .eql .f64 b 0) = false), ((fcmp .eql .f64 a b) = (sameD a b))] := by kernel_rfl
          exact Ev.of mixed _ _ _ Try.func58 (by kernel_rfl) e ⟨h1, h1, h1, h1, h2, h3, h3, h3, h4, (by first | (simp [-List.getD_eq_getElem?_getD, sameD, h1, h2, h3, h4]; done) | (simp_all [-List.getD_eq_getElem?_getD, sameD]; done)), trivial⟩
      ·
        have e : evF Try.prog Try.f58 [.float .f64 a, .float .f64 b] [] [.b false, .b false, .b false, .b false, .b false, .b false, .b false, .b false, .b false] [] [] (.bool (sameD a b)) [] = some [((fcmp .neq .f64 a a) = false), ((fcmp .neq .f64 a a) = false), ((fcmp .neq .f64 a a) = false), ((fcmp .neq .f64 a a) = false), ((fcmp .neq .f64 b b) = false), ((fcmp .eql .f64 a 0) = false), ((fcmp .eql .f64 a 0) = false), ((fcmp .eql .f64 a 0) = false), (false = false), ((fcmp .eql .f64 a b) = (sameD a b))] := by kernel_rfl
        exact Ev.of mixed _ _ _ Try.func58 (by kernel_rfl) e ⟨h1, h1, h1, h1, h2, h3, h3, h3, rfl, (by first | (simp [-List.getD_eq_getElem?_getD, sameD, h1, h2, h3]; done) | (simp_all [-List.getD_eq_getElem?_getD, sameD]; done)), trivial⟩

theorem ev_within (n : Int) (lo : Int) (hi : Int)  : Ev Try.prog 62 [.int .i64 n, .int .i64 lo, .int .i64 hi] [] (.bool ((decide (n ≥ lo)) && (decide (n ≤ hi)))) [] := by
  by_cases h1 : n ≥ lo
  ·
    have e : evF Try.prog Try.f62 [.int .i64 n, .int .i64 lo, .int .i64 hi] [] [.b true, .b true, .b true, .b true] [] [] (.bool ((decide (n ≥ lo)) && (decide (n ≤ hi)))) [] = some [((decide (n ≥ lo)) = true), ((decide (n ≥ lo)) = true), ((decide (n ≥ lo)) = true), ((decide (n ≥ lo)) = true), ((decide (n ≤ hi)) = ((decide (n ≥ lo)) && (decide (n ≤ hi))))] := by kernel_rfl
    exact Ev.of mixed _ _ _ Try.func62 (by kernel_rfl) e ⟨(decide_eq_true h1), (decide_eq_true h1), (decide_eq_true h1), (decide_eq_true h1), (by first | (simp [-List.getD_eq_getElem?_getD, h1]; done) | (simp_all [-List.getD_eq_getElem?_getD, ]; done)), trivial⟩
  ·
    have e : evF Try.prog Try.f62 [.int .i64 n, .int .i64 lo, .int .i64 hi] [] [.b false, .b false, .b false, .b false] [] [] (.bool ((decide (n ≥ lo)) && (decide (n ≤ hi)))) [] = some [((decide (n ≥ lo)) = false), ((decide (n ≥ lo)) = false), ((decide (n ≥ lo)) = false), ((decide (n ≥ lo)) = false), (false = ((decide (n ≥ lo)) && (decide (n ≤ hi))))] := by kernel_rfl
    exact Ev.of mixed _ _ _ Try.func62 (by kernel_rfl) e ⟨(decide_eq_false h1), (decide_eq_false h1), (decide_eq_false h1), (decide_eq_false h1), (by first | (simp [-List.getD_eq_getElem?_getD, h1]; done) | (simp_all [-List.getD_eq_getElem?_getD, ]; done)), trivial⟩

theorem ev_l00In (n : Int) (lo : Int) (hi : Int)  : Ev Try.prog 68 [.int .i64 n, .int .i64 lo, .int .i64 hi] [] (.bool ((decide (n ≥ lo)) && (decide (n ≤ hi)))) [] := by
  by_cases h1 : n ≥ lo
  ·
    have e : evF Try.prog Try.f68 [.int .i64 n, .int .i64 lo, .int .i64 hi] [] [.b true, .b true, .b true, .b true] [] [] (.bool ((decide (n ≥ lo)) && (decide (n ≤ hi)))) [] = some [((decide (n ≥ lo)) = true), ((decide (n ≥ lo)) = true), ((decide (n ≥ lo)) = true), ((decide (n ≥ lo)) = true), ((decide (n ≤ hi)) = ((decide (n ≥ lo)) && (decide (n ≤ hi))))] := by kernel_rfl
    exact Ev.of mixed _ _ _ Try.func68 (by kernel_rfl) e ⟨(decide_eq_true h1), (decide_eq_true h1), (decide_eq_true h1), (decide_eq_true h1), (by first | (simp [-List.getD_eq_getElem?_getD, h1]; done) | (simp_all [-List.getD_eq_getElem?_getD, ]; done)), trivial⟩
  ·
    have e : evF Try.prog Try.f68 [.int .i64 n, .int .i64 lo, .int .i64 hi] [] [.b false, .b false, .b false, .b false] [] [] (.bool ((decide (n ≥ lo)) && (decide (n ≤ hi)))) [] = some [((decide (n ≥ lo)) = false), ((decide (n ≥ lo)) = false), ((decide (n ≥ lo)) = false), ((decide (n ≥ lo)) = false), (false = ((decide (n ≥ lo)) && (decide (n ≤ hi))))] := by kernel_rfl
    exact Ev.of mixed _ _ _ Try.func68 (by kernel_rfl) e ⟨(decide_eq_false h1), (decide_eq_false h1), (decide_eq_false h1), (decide_eq_false h1), (by first | (simp [-List.getD_eq_getElem?_getD, h1]; done) | (simp_all [-List.getD_eq_getElem?_getD, ]; done)), trivial⟩

def ev_areFinite_L1_step (xs : List Nat) (xs_n : Nat) (k1 : Nat) (s1 : Unit) : Unit := ()

def ev_areFinite_L1_S (xs : List Nat) (xs_n : Nat) : Nat → Unit
  | 0 => ()
  | k + 1 => ev_areFinite_L1_step xs xs_n k (ev_areFinite_L1_S xs xs_n k)

def ev_areFinite_L1_I (xs : List Nat) (xs_n : Nat) (k1 : Nat) (s1 : Unit) : St := ⟨[(0, .slice (some ⟨0, 0, none⟩) xs_n 1), (2, .bool false), (5, .slice (some ⟨0, 0, none⟩) xs_n 1), (6, .int .i64 ((xs_n : Nat) : Int)), (7, .int .i64 ((k1 : Nat) : Int))], [some ⟨false, .fl .f32 xs⟩]⟩

def ev_areFinite_L1_good (xs : List Nat) (xs_n : Nat) (k1 : Nat) (s1 : Unit) : Bool := (if (fin32 (List.getD xs k1 0)) then true else false)

theorem ev_areFinite_L1_body (xs : List Nat) (xs_n : Nat) (xs_h : xs.length = xs_n) (xs_b : xs_n ≤ 9223372036854775807)  (k1 : Nat) (s1 : Unit)  (hk_k1 : k1 < xs_n) (hg : ev_areFinite_L1_good xs xs_n k1 s1 = true) : PW Try.prog 15 1 (sub [1, 0, 1, 0, 0] (bodyOf Try.f105)) (ev_areFinite_L1_I xs xs_n k1 s1) .normal (ev_areFinite_L1_I xs xs_n (k1 + 1) (ev_areFinite_L1_step xs xs_n k1 s1)) := by
  rcases Bool.eq_false_or_eq_true (fin32 (List.getD xs k1 0)) with h1 | h1
  ·
    have e : evL Try.prog 15 1 (sub [1, 0, 1, 0, 0] (bodyOf Try.f105)) (ev_areFinite_L1_I xs xs_n k1 s1) [.b true, .n k1, .c [] (.bool (fin32 (List.getD xs k1 0))) [], .b false] [] [some 0] .normal (ev_areFinite_L1_I xs xs_n (k1 + 1) (ev_areFinite_L1_step xs xs_n k1 s1)) = some [((decide (((k1 : Nat) : Int) < ((xs_n : Nat) : Int))) = true), (((k1 : Nat) : Int) = ((k1 : Nat) : Int)), (k1 < xs_n), (k1 < (List.length xs)), (Ev Try.prog 66 [.float .f32 (List.getD xs k1 0)] [] (.bool (fin32 (List.getD xs k1 0))) []), ((!(fin32 (List.getD xs k1 0))) = false), (inR .i64 (((k1 : Nat) : Int) + (1 : Int))), (0 = 0), (xs_n = xs_n), (false = false), (0 = 0), (xs_n = xs_n), (((xs_n : Nat) : Int) = ((xs_n : Nat) : Int)), ((((k1 : Nat) : Int) + (1 : Int)) = (((k1 + 1) : Nat) : Int)), (xs = xs)] := by kernel_rfl
    exact PW.of_evL mixed _ _ _ e ⟨(decide_eq_true (by omega)), rfl, (by omega), (by omega), (ev_IsFinite (List.getD xs k1 0)), (congrArg Bool.not h1), (inR64 (by omega) (by omega)), rfl, rfl, rfl, rfl, rfl, rfl, (by omega), rfl, trivial⟩
  ·
    exact absurd hg (by simp [-List.getD_eq_getElem?_getD, ev_areFinite_L1_good, h1, xs_h])

theorem ev_areFinite_L1_end (xs : List Nat) (xs_n : Nat) (xs_h : xs.length = xs_n) (xs_b : xs_n ≤ 9223372036854775807)  (s1 : Unit)  : PW Try.prog 15 1 (sub [1, 0, 1, 0, 0] (bodyOf Try.f105)) (ev_areFinite_L1_I xs xs_n xs_n s1) (.exit 0) ⟨[(0, .slice (some ⟨0, 0, none⟩) xs_n 1), (2, .bool false), (5, .slice (some ⟨0, 0, none⟩) xs_n 1), (6, .int .i64 ((xs_n : Nat) : Int)), (7, .int .i64 ((xs_n : Nat) : Int))], [some ⟨false, .fl .f32 xs⟩]⟩ := by
  have e : evL Try.prog 15 1 (sub [1, 0, 1, 0, 0] (bodyOf Try.f105)) (ev_areFinite_L1_I xs xs_n xs_n s1) [.b false] [] [some 0] (.exit 0) ⟨[(0, .slice (some ⟨0, 0, none⟩) xs_n 1), (2, .bool false), (5, .slice (some ⟨0, 0, none⟩) xs_n 1), (6, .int .i64 ((xs_n : Nat) : Int)), (7, .int .i64 ((xs_n : Nat) : Int))], [some ⟨false, .fl .f32 xs⟩]⟩ = some [((decide (((xs_n : Nat) : Int) < ((xs_n : Nat) : Int))) = false), (0 = 0), (xs_n = xs_n), (false = false), (0 = 0), (xs_n = xs_n), (((xs_n : Nat) : Int) = ((xs_n : Nat) : Int)), (((xs_n : Nat) : Int) = ((xs_n : Nat) : Int)), (xs = xs)] := by kernel_rfl
  exact PW.of_evL mixed _ _ _ e ⟨(decide_eq_false (by omega)), rfl, rfl, rfl, rfl, rfl, rfl, rfl, rfl, trivial⟩

theorem ev_areFinite_L1 (xs : List Nat) (xs_n : Nat) (xs_h : xs.length = xs_n) (xs_b : xs_n ≤ 9223372036854775807)  (hL : ∀ k, k < xs_n → ev_areFinite_L1_good xs xs_n k (ev_areFinite_L1_S xs xs_n k) = true) : PW Try.prog 15 1 (.loop (sub [1, 0, 1, 0, 0] (bodyOf Try.f105))) (ev_areFinite_L1_I xs xs_n 0 (ev_areFinite_L1_S xs xs_n 0)) (.exit 0) ⟨[(0, .slice (some ⟨0, 0, none⟩) xs_n 1), (2, .bool false), (5, .slice (some ⟨0, 0, none⟩) xs_n 1), (6, .int .i64 ((xs_n : Nat) : Int)), (7, .int .i64 ((xs_n : Nat) : Int))], [some ⟨false, .fl .f32 xs⟩]⟩ :=
  PW.loop (I := (fun k => ev_areFinite_L1_I xs xs_n k (ev_areFinite_L1_S xs xs_n k))) xs_n (by simp) (fun k hk => ev_areFinite_L1_body xs xs_n xs_h xs_b k _  hk (hL k hk)) (ev_areFinite_L1_end xs xs_n xs_h xs_b _ )

theorem ev_areFinite_L1_ende (xs : List Nat) (xs_n : Nat) (xs_h : xs.length = xs_n) (xs_b : xs_n ≤ 9223372036854775807)  (s1 : Unit) (k1 : Nat)  (hk_k1 : k1 < xs_n) (hb : ev_areFinite_L1_good xs xs_n k1 s1 = false) : PW Try.prog 15 1 (sub [1, 0, 1, 0, 0] (bodyOf Try.f105)) (ev_areFinite_L1_I xs xs_n k1 s1) .ret ⟨[(2, .bool false)], [some ⟨false, .fl .f32 xs⟩]⟩ := by
  rcases Bool.eq_false_or_eq_true (fin32 (List.getD xs k1 0)) with h2 | h2
  ·
    exact absurd hb (by simp [-List.getD_eq_getElem?_getD, ev_areFinite_L1_good, h2, xs_h])
  ·
    have e : evL Try.prog 15 1 (sub [1, 0, 1, 0, 0] (bodyOf Try.f105)) (ev_areFinite_L1_I xs xs_n k1 s1) [.b true, .n k1, .c [] (.bool (fin32 (List.getD xs k1 0))) [], .b true] [] [some 0] .ret ⟨[(2, .bool false)], [some ⟨false, .fl .f32 xs⟩]⟩ = some [((decide (((k1 : Nat) : Int) < ((xs_n : Nat) : Int))) = true), (((k1 : Nat) : Int) = ((k1 : Nat) : Int)), (k1 < xs_n), (k1 < (List.length xs)), (Ev Try.prog 66 [.float .f32 (List.getD xs k1 0)] [] (.bool (fin32 (List.getD xs k1 0))) []), ((!(fin32 (List.getD xs k1 0))) = true), (false = false), (xs = xs)] := by kernel_rfl
    exact PW.of_evL mixed _ _ _ e ⟨(decide_eq_true (by omega)), rfl, (by omega), (by omega), (ev_IsFinite (List.getD xs k1 0)), (congrArg Bool.not h2), rfl, rfl, trivial⟩

theorem ev_areFinite_L1e (xs : List Nat) (xs_n : Nat) (xs_h : xs.length = xs_n) (xs_b : xs_n ≤ 9223372036854775807)  (j : Nat) (hj : j < xs_n) (hb : ev_areFinite_L1_good xs xs_n j (ev_areFinite_L1_S xs xs_n j) = false) (hL : ∀ k, k < j → ev_areFinite_L1_good xs xs_n k (ev_areFinite_L1_S xs xs_n k) = true) : PW Try.prog 15 1 (.loop (sub [1, 0, 1, 0, 0] (bodyOf Try.f105))) (ev_areFinite_L1_I xs xs_n 0 (ev_areFinite_L1_S xs xs_n 0)) .ret ⟨[(2, .bool false)], [some ⟨false, .fl .f32 xs⟩]⟩ :=
  PW.loop (I := (fun k => ev_areFinite_L1_I xs xs_n k (ev_areFinite_L1_S xs xs_n k))) j (by simp) (fun k hk => ev_areFinite_L1_body xs xs_n xs_h xs_b k _  (Nat.lt_trans hk hj) (hL k hk)) (ev_areFinite_L1_ende xs xs_n xs_h xs_b _ j  hj hb)

theorem ev_areFinite (xs : List Nat) (xs_n : Nat) (xs_h : xs.length = xs_n) (xs_b : xs_n ≤ 9223372036854775807)  : Ev Try.prog 105 [.slice (some ⟨0, 0, none⟩) xs_n 1] [some ⟨false, .fl .f32 xs⟩] (.bool (allFin xs)) [some ⟨false, .fl .f32 xs⟩] := by
  rcases Bool.eq_false_or_eq_true (allBelow (fun k => ev_areFinite_L1_good xs xs_n k (ev_areFinite_L1_S xs xs_n k)) xs_n) with h3 | h3
  ·
    have e : evF Try.prog Try.f105 [.slice (some ⟨0, 0, none⟩) xs_n 1] [some ⟨false, .fl .f32 xs⟩] [] [([some 0], (ev_areFinite_L1_I xs xs_n 0 (ev_areFinite_L1_S xs xs_n 0)), (.exit 0), ⟨[(0, .slice (some ⟨0, 0, none⟩) xs_n 1), (2, .bool false), (5, .slice (some ⟨0, 0, none⟩) xs_n 1), (6, .int .i64 ((xs_n : Nat) : Int)), (7, .int .i64 ((xs_n : Nat) : Int))], [some ⟨false, .fl .f32 xs⟩]⟩)] [some 0] (.bool (allFin xs)) [some ⟨false, .fl .f32 xs⟩] = some [(0 = 0), (xs_n = xs_n), (false = false), (0 = 0), (xs_n = xs_n), (((xs_n : Nat) : Int) = ((xs_n : Nat) : Int)), ((0 : Int) = ((0 : Nat) : Int)), (xs = xs), (PW Try.prog 15 1 (.loop (sub [1, 0, 1, 0, 0] (bodyOf Try.f105))) (ev_areFinite_L1_I xs xs_n 0 (ev_areFinite_L1_S xs xs_n 0)) (.exit 0) ⟨[(0, .slice (some ⟨0, 0, none⟩) xs_n 1), (2, .bool false), (5, .slice (some ⟨0, 0, none⟩) xs_n 1), (6, .int .i64 ((xs_n : Nat) : Int)), (7, .int .i64 ((xs_n : Nat) : Int))], [some ⟨false, .fl .f32 xs⟩]⟩), (true = (allFin xs)), (xs = xs)] := by kernel_rfl
    exact Ev.of mixed _ _ _ Try.func105 (by kernel_rfl) e ⟨rfl, rfl, rfl, rfl, rfl, rfl, (by omega), rfl, (ev_areFinite_L1 xs xs_n xs_h xs_b (allBelow_true.1 (show (allBelow (fun k => ev_areFinite_L1_good xs xs_n k (ev_areFinite_L1_S xs xs_n k)) xs_n) = true from h3))), (by first | (simp [-List.getD_eq_getElem?_getD, allFin, ev_areFinite_L1_good, h3, xs_h]; done) | (simp_all [-List.getD_eq_getElem?_getD, allFin, ev_areFinite_L1_good, xs_h]; done)), rfl, trivial⟩
  ·
    have e : evF Try.prog Try.f105 [.slice (some ⟨0, 0, none⟩) xs_n 1] [some ⟨false, .fl .f32 xs⟩] [] [([some 0], (ev_areFinite_L1_I xs xs_n 0 (ev_areFinite_L1_S xs xs_n 0)), .ret, ⟨[(2, .bool false)], [some ⟨false, .fl .f32 xs⟩]⟩)] [some 0] (.bool (allFin xs)) [some ⟨false, .fl .f32 xs⟩] = some [(0 = 0), (xs_n = xs_n), (false = false), (0 = 0), (xs_n = xs_n), (((xs_n : Nat) : Int) = ((xs_n : Nat) : Int)), ((0 : Int) = ((0 : Nat) : Int)), (xs = xs), (PW Try.prog 15 1 (.loop (sub [1, 0, 1, 0, 0] (bodyOf Try.f105))) (ev_areFinite_L1_I xs xs_n 0 (ev_areFinite_L1_S xs xs_n 0)) .ret ⟨[(2, .bool false)], [some ⟨false, .fl .f32 xs⟩]⟩), (false = (allFin xs)), (xs = xs)] := by kernel_rfl
    exact Ev.of mixed _ _ _ Try.func105 (by kernel_rfl) e ⟨rfl, rfl, rfl, rfl, rfl, rfl, (by omega), rfl, (ev_areFinite_L1e xs xs_n xs_h xs_b (firstF (fun k => ev_areFinite_L1_good xs xs_n k (ev_areFinite_L1_S xs xs_n k)) xs_n) (firstF_lt (show (allBelow (fun k => ev_areFinite_L1_good xs xs_n k (ev_areFinite_L1_S xs xs_n k)) xs_n) = false from h3)) (firstF_false (show (allBelow (fun k => ev_areFinite_L1_good xs xs_n k (ev_areFinite_L1_S xs xs_n k)) xs_n) = false from h3)) (firstF_before (show (allBelow (fun k => ev_areFinite_L1_good xs xs_n k (ev_areFinite_L1_S xs xs_n k)) xs_n) = false from h3))), (by first | (simp [-List.getD_eq_getElem?_getD, allFin, ev_areFinite_L1_good, h3, xs_h]; done) | (simp_all [-List.getD_eq_getElem?_getD, allFin, ev_areFinite_L1_good, xs_h]; done)), rfl, trivial⟩

def ev_l03Finite_L1_step (xs : List Nat) (xs_n : Nat) (k1 : Nat) (s1 : Unit) : Unit := ()

def ev_l03Finite_L1_S (xs : List Nat) (xs_n : Nat) : Nat → Unit
  | 0 => ()
  | k + 1 => ev_l03Finite_L1_step xs xs_n k (ev_l03Finite_L1_S xs xs_n k)

def ev_l03Finite_L1_I (xs : List Nat) (xs_n : Nat) (k1 : Nat) (s1 : Unit) : St := ⟨[(0, .slice (some ⟨0, 0, none⟩) xs_n 1), (2, .bool false), (5, .int .i64 ((xs_n : Nat) : Int)), (6, .int .i64 ((k1 : Nat) : Int))], [some ⟨false, .fl .f32 xs⟩]⟩

def ev_l03Finite_L1_good (xs : List Nat) (xs_n : Nat) (k1 : Nat) (s1 : Unit) : Bool := (if (fin32 (List.getD xs k1 0)) then true else false)

theorem ev_l03Finite_L1_body (xs : List Nat) (xs_n : Nat) (xs_h : xs.length = xs_n) (xs_b : xs_n ≤ 9223372036854775807)  (k1 : Nat) (s1 : Unit)  (hk_k1 : k1 < xs_n) (hg : ev_l03Finite_L1_good xs xs_n k1 s1 = true) : PW Try.prog 16 1 (sub [1, 0, 1, 0, 0] (bodyOf Try.f72)) (ev_l03Finite_L1_I xs xs_n k1 s1) .normal (ev_l03Finite_L1_I xs xs_n (k1 + 1) (ev_l03Finite_L1_step xs xs_n k1 s1)) := by
  rcases Bool.eq_false_or_eq_true (fin32 (List.getD xs k1 0)) with h1 | h1
  ·
    have e : evL Try.prog 16 1 (sub [1, 0, 1, 0, 0] (bodyOf Try.f72)) (ev_l03Finite_L1_I xs xs_n k1 s1) [.b true, .n k1, .c [] (.bool (fin32 (List.getD xs k1 0))) [], .b false] [] [some 0] .normal (ev_l03Finite_L1_I xs xs_n (k1 + 1) (ev_l03Finite_L1_step xs xs_n k1 s1)) = some [((decide (((k1 : Nat) : Int) < ((xs_n : Nat) : Int))) = true), (((k1 : Nat) : Int) = ((k1 : Nat) : Int)), (k1 < xs_n), (k1 < (List.length xs)), (Ev Try.prog 64 [.float .f32 (List.getD xs k1 0)] [] (.bool (fin32 (List.getD xs k1 0))) []), ((!(fin32 (List.getD xs k1 0))) = false), (inR .i64 (((k1 : Nat) : Int) + (1 : Int))), (0 = 0), (xs_n = xs_n), (false = false), (((xs_n : Nat) : Int) = ((xs_n : Nat) : Int)), ((((k1 : Nat) : Int) + (1 : Int)) = (((k1 + 1) : Nat) : Int)), (xs = xs)] := by kernel_rfl
    exact PW.of_evL mixed _ _ _ e ⟨(decide_eq_true (by omega)), rfl, (by omega), (by omega), (ev_l01Finite (List.getD xs k1 0)), (congrArg Bool.not h1), (inR64 (by omega) (by omega)), rfl, rfl, rfl, rfl, (by omega), rfl, trivial⟩
  ·
    exact absurd hg (by simp [-List.getD_eq_getElem?_getD, ev_l03Finite_L1_good, h1, xs_h])

theorem ev_l03Finite_L1_end (xs : List Nat) (xs_n : Nat) (xs_h : xs.length = xs_n) (xs_b : xs_n ≤ 9223372036854775807)  (s1 : Unit)  : PW Try.prog 16 1 (sub [1, 0, 1, 0, 0] (bodyOf Try.f72)) (ev_l03Finite_L1_I xs xs_n xs_n s1) (.exit 0) ⟨[(0, .slice (some ⟨0, 0, none⟩) xs_n 1), (2, .bool false), (5, .int .i64 ((xs_n : Nat) : Int)), (6, .int .i64 ((xs_n : Nat) : Int))], [some ⟨false, .fl .f32 xs⟩]⟩ := by
  have e : evL Try.prog 16 1 (sub [1, 0, 1, 0, 0] (bodyOf Try.f72)) (ev_l03Finite_L1_I xs xs_n xs_n s1) [.b false] [] [some 0] (.exit 0) ⟨[(0, .slice (some ⟨0, 0, none⟩) xs_n 1), (2, .bool false), (5, .int .i64 ((xs_n : Nat) : Int)), (6, .int .i64 ((xs_n : Nat) : Int))], [some ⟨false, .fl .f32 xs⟩]⟩ = some [((decide (((xs_n : Nat) : Int) < ((xs_n : Nat) : Int))) = false), (0 = 0), (xs_n = xs_n), (false = false), (((xs_n : Nat) : Int) = ((xs_n : Nat) : Int)), (((xs_n : Nat) : Int) = ((xs_n : Nat) : Int)), (xs = xs)] := by kernel_rfl
  exact PW.of_evL mixed _ _ _ e ⟨(decide_eq_false (by omega)), rfl, rfl, rfl, rfl, rfl, rfl, trivial⟩

theorem ev_l03Finite_L1 (xs : List Nat) (xs_n : Nat) (xs_h : xs.length = xs_n) (xs_b : xs_n ≤ 9223372036854775807)  (hL : ∀ k, k < xs_n → ev_l03Finite_L1_good xs xs_n k (ev_l03Finite_L1_S xs xs_n k) = true) : PW Try.prog 16 1 (.loop (sub [1, 0, 1, 0, 0] (bodyOf Try.f72))) (ev_l03Finite_L1_I xs xs_n 0 (ev_l03Finite_L1_S xs xs_n 0)) (.exit 0) ⟨[(0, .slice (some ⟨0, 0, none⟩) xs_n 1), (2, .bool false), (5, .int .i64 ((xs_n : Nat) : Int)), (6, .int .i64 ((xs_n : Nat) : Int))], [some ⟨false, .fl .f32 xs⟩]⟩ :=
  PW.loop (I := (fun k => ev_l03Finite_L1_I xs xs_n k (ev_l03Finite_L1_S xs xs_n k))) xs_n (by simp) (fun k hk => ev_l03Finite_L1_body xs xs_n xs_h xs_b k _  hk (hL k hk)) (ev_l03Finite_L1_end xs xs_n xs_h xs_b _ )

theorem ev_l03Finite_L1_ende (xs : List Nat) (xs_n : Nat) (xs_h : xs.length = xs_n) (xs_b : xs_n ≤ 9223372036854775807)  (s1 : Unit) (k1 : Nat)  (hk_k1 : k1 < xs_n) (hb : ev_l03Finite_L1_good xs xs_n k1 s1 = false) : PW Try.prog 16 1 (sub [1, 0, 1, 0, 0] (bodyOf Try.f72)) (ev_l03Finite_L1_I xs xs_n k1 s1) .ret ⟨[(2, .bool false)], [some ⟨false, .fl .f32 xs⟩]⟩ := by
  rcases Bool.eq_false_or_eq_true (fin32 (List.getD xs k1 0)) with h2 | h2
  ·
    exact absurd hb (by simp [-List.getD_eq_getElem?_getD, ev_l03Finite_L1_good, h2, xs_h])
  ·
    have e : evL Try.prog 16 1 (sub [1, 0, 1, 0, 0] (bodyOf Try.f72)) (ev_l03Finite_L1_I xs xs_n k1 s1) [.b true, .n k1, .c [] (.bool (fin32 (List.getD xs k1 0))) [], .b true] [] [some 0] .ret ⟨[(2, .bool false)], [some ⟨false, .fl .f32 xs⟩]⟩ = some [((decide (((k1 : Nat) : Int) < ((xs_n : Nat) : Int))) = true), (((k1 : Nat) : Int) = ((k1 : Nat) : Int)), (k1 < xs_n), (k1 < (List.length xs)), (Ev Try.prog 64 [.float .f32 (List.getD xs k1 0)] [] (.bool (fin32 (List.getD xs k1 0))) []), ((!(fin32 (List.getD xs k1 0))) = true), (false = false), (xs = xs)] := by kernel_rfl
    exact PW.of_evL mixed _ _ _ e ⟨(decide_eq_true (by omega)), rfl, (by omega), (by omega), (ev_l01Finite (List.getD xs k1 0)), (congrArg Bool.not h2), rfl, rfl, trivial⟩

theorem ev_l03Finite_L1e (xs : List Nat) (xs_n : Nat) (xs_h : xs.length = xs_n) (xs_b : xs_n ≤ 9223372036854775807)  (j : Nat) (hj : j < xs_n) (hb : ev_l03Finite_L1_good xs xs_n j (ev_l03Finite_L1_S xs xs_n j) = false) (hL : ∀ k, k < j → ev_l03Finite_L1_good xs xs_n k (ev_l03Finite_L1_S xs xs_n k) = true) : PW Try.prog 16 1 (.loop (sub [1, 0, 1, 0, 0] (bodyOf Try.f72))) (ev_l03Finite_L1_I xs xs_n 0 (ev_l03Finite_L1_S xs xs_n 0)) .ret ⟨[(2, .bool false)], [some ⟨false, .fl .f32 xs⟩]⟩ :=
  PW.loop (I := (fun k => ev_l03Finite_L1_I xs xs_n k (ev_l03Finite_L1_S xs xs_n k))) j (by simp) (fun k hk => ev_l03Finite_L1_body xs xs_n xs_h xs_b k _  (Nat.lt_trans hk hj) (hL k hk)) (ev_l03Finite_L1_ende xs xs_n xs_h xs_b _ j  hj hb)

theorem ev_l03Finite (xs : List Nat) (xs_n : Nat) (xs_h : xs.length = xs_n) (xs_b : xs_n ≤ 9223372036854775807)  : Ev Try.prog 72 [.slice (some ⟨0, 0, none⟩) xs_n 1] [some ⟨false, .fl .f32 xs⟩] (.bool (allFin xs)) [some ⟨false, .fl .f32 xs⟩] := by
  rcases Bool.eq_false_or_eq_true (allBelow (fun k => ev_l03Finite_L1_good xs xs_n k (ev_l03Finite_L1_S xs xs_n k)) xs_n) with h3 | h3
  ·
    have e : evF Try.prog Try.f72 [.slice (some ⟨0, 0, none⟩) xs_n 1] [some ⟨false, .fl .f32 xs⟩] [] [([some 0], (ev_l03Finite_L1_I xs xs_n 0 (ev_l03Finite_L1_S xs xs_n 0)), (.exit 0), ⟨[(0, .slice (some ⟨0, 0, none⟩) xs_n 1), (2, .bool false), (5, .int .i64 ((xs_n : Nat) : Int)), (6, .int .i64 ((xs_n : Nat) : Int))], [some ⟨false, .fl .f32 xs⟩]⟩)] [some 0] (.bool (allFin xs)) [some ⟨false, .fl .f32 xs⟩] = some [(0 = 0), (xs_n = xs_n), (false = false), (((xs_n : Nat) : Int) = ((xs_n : Nat) : Int)), ((0 : Int) = ((0 : Nat) : Int)), (xs = xs), (PW Try.prog 16 1 (.loop (sub [1, 0, 1, 0, 0] (bodyOf Try.f72))) (ev_l03Finite_L1_I xs xs_n 0 (ev_l03Finite_L1_S xs xs_n 0)) (.exit 0) ⟨[(0, .slice (some ⟨0, 0, none⟩) xs_n 1), (2, .bool false), (5, .int .i64 ((xs_n : Nat) : Int)), (6, .int .i64 ((xs_n : Nat) : Int))], [some ⟨false, .fl .f32 xs⟩]⟩), (true = (allFin xs)), (xs = xs)] := by kernel_rfl
    exact Ev.of mixed _ _ _ Try.func72 (by kernel_rfl) e ⟨rfl, rfl, rfl, rfl, (by omega), rfl, (ev_l03Finite_L1 xs xs_n xs_h xs_b (allBelow_true.1 (show (allBelow (fun k => ev_l03Finite_L1_good xs xs_n k (ev_l03Finite_L1_S xs xs_n k)) xs_n) = true from h3))), (by first | (simp [-List.getD_eq_getElem?_getD, allFin, ev_l03Finite_L1_good, h3, xs_h]; done) | (simp_all [-List.getD_eq_getElem?_getD, allFin, ev_l03Finite_L1_good, xs_h]; done)), rfl, trivial⟩
  ·
    have e : evF Try.prog Try.f72 [.slice (some ⟨0, 0, none⟩) xs_n 1] [some ⟨false, .fl .f32 xs⟩] [] [([some 0], (ev_l03Finite_L1_I xs xs_n 0 (ev_l03Finite_L1_S xs xs_n 0)), .ret, ⟨[(2, .bool false)], [some ⟨false, .fl .f32 xs⟩]⟩)] [some 0] (.bool (allFin xs)) [some ⟨false, .fl .f32 xs⟩] = some [(0 = 0), (xs_n = xs_n), (false = false), (((xs_n : Nat) : Int) = ((xs_n : Nat) : Int)), ((0 : Int) = ((0 : Nat) : Int)), (xs = xs), (PW Try.prog 16 1 (.loop (sub [1, 0, 1, 0, 0] (bodyOf Try.f72))) (ev_l03Finite_L1_I xs xs_n 0 (ev_l03Finite_L1_S xs xs_n 0)) .ret ⟨[(2, .bool false)], [some ⟨false, .fl .f32 xs⟩]⟩), (false = (allFin xs)), (xs = xs)] := by kernel_rfl
    exact Ev.of mixed _ _ _ Try.func72 (by kernel_rfl) e ⟨rfl, rfl, rfl, rfl, (by omega), rfl, (ev_l03Finite_L1e xs xs_n xs_h xs_b (firstF (fun k => ev_l03Finite_L1_good xs xs_n k (ev_l03Finite_L1_S xs xs_n k)) xs_n) (firstF_lt (show (allBelow (fun k => ev_l03Finite_L1_good xs xs_n k (ev_l03Finite_L1_S xs xs_n k)) xs_n) = false from h3)) (firstF_false (show (allBelow (fun k => ev_l03Finite_L1_good xs xs_n k (ev_l03Finite_L1_S xs xs_n k)) xs_n) = false from h3)) (firstF_before (show (allBelow (fun k => ev_l03Finite_L1_good xs xs_n k (ev_l03Finite_L1_S xs xs_n k)) xs_n) = false from h3))), (by first | (simp [-List.getD_eq_getElem?_getD, allFin, ev_l03Finite_L1_good, h3, xs_h]; done) | (simp_all [-List.getD_eq_getElem?_getD, allFin, ev_l03Finite_L1_good, xs_h]; done)), rfl, trivial⟩

theorem ev_l03Sound (xs : List Nat) (xs_n : Nat) (xs_h : xs.length = xs_n) (xs_b : xs_n ≤ 9223372036854775807)  : Ev Try.prog 88 [.slice (some ⟨0, 0, none⟩) xs_n 1] [some ⟨false, .fl .f32 xs⟩] (.bool (isSnd xs)) [some ⟨false, .fl .f32 xs⟩] := by
  by_cases h1 : xs_n ≤ 256
  ·
    have e : evF Try.prog Try.f88 [.slice (some ⟨0, 0, none⟩) xs_n 1] [some ⟨false, .fl .f32 xs⟩] [.b true, .b true, .c [(0, false)] (.bool (allFin xs)) [some ⟨false, .fl .f32 xs⟩], .b true] [] [some 0] (.bool (isSnd xs)) [some ⟨false, .fl .f32 xs⟩] = some [((decide (((xs_n : Nat) : Int) ≤ (256 : Int))) = true), ((decide (((xs_n : Nat) : Int) ≤ (256 : Int))) = true), (Ev Try.prog 72 [.slice (some ⟨0, 0, none⟩) xs_n 1] [some ⟨false, .fl .f32 xs⟩] (.bool (allFin xs)) [some ⟨false, .fl .f32 xs⟩]), ((decide (((xs_n : Nat) : Int) ≤ (256 : Int))) = true), ((allFin xs) = (isSnd xs)), (xs = xs)] := by kernel_rfl
    exact Ev.of mixed _ _ _ Try.func88 (by kernel_rfl) e ⟨(decide_eq_true (by omega)), (decide_eq_true (by omega)), (ev_l03Finite xs xs_n xs_h xs_b), (decide_eq_true (by omega)), (by first | (simp [-List.getD_eq_getElem?_getD, isSnd, h1, (show ((xs_n : Nat) : Int) ≤ (256 : Int) from by omega), xs_h]; done) | (simp_all [-List.getD_eq_getElem?_getD, isSnd, (show ((xs_n : Nat) : Int) ≤ (256 : Int) from by omega), xs_h]; done)), rfl, trivial⟩
  ·
    have e : evF Try.prog Try.f88 [.slice (some ⟨0, 0, none⟩) xs_n 1] [some ⟨false, .fl .f32 xs⟩] [.b false, .b false, .b false] [] [some 0] (.bool (isSnd xs)) [some ⟨false, .fl .f32 xs⟩] = some [((decide (((xs_n : Nat) : Int) ≤ (256 : Int))) = false), ((decide (((xs_n : Nat) : Int) ≤ (256 : Int))) = false), ((decide (((xs_n : Nat) : Int) ≤ (256 : Int))) = false), (false = (isSnd xs)), (xs = xs)] := by kernel_rfl
    exact Ev.of mixed _ _ _ Try.func88 (by kernel_rfl) e ⟨(decide_eq_false (by omega)), (decide_eq_false (by omega)), (decide_eq_false (by omega)), (by first | (simp [-List.getD_eq_getElem?_getD, isSnd, h1, (show ¬ (((xs_n : Nat) : Int) ≤ (256 : Int)) from by omega), xs_h]; done) | (simp_all [-List.getD_eq_getElem?_getD, isSnd, (show ¬ (((xs_n : Nat) : Int) ≤ (256 : Int)) from by omega), xs_h]; done)), rfl, trivial⟩

theorem ev_IsSound (xs : List Nat) (xs_n : Nat) (xs_h : xs.length = xs_n) (xs_b : xs_n ≤ 9223372036854775807)  : Ev Try.prog 61 [.slice (some ⟨0, 0, none⟩) xs_n 1] [some ⟨false, .fl .f32 xs⟩] (.bool (isSnd xs)) [some ⟨false, .fl .f32 xs⟩] := by
  by_cases h1 : xs_n ≤ 256
  ·
    have e : evF Try.prog Try.f61 [.slice (some ⟨0, 0, none⟩) xs_n 1] [some ⟨false, .fl .f32 xs⟩] [.b true, .b true, .c [(0, false)] (.bool (allFin xs)) [some ⟨false, .fl .f32 xs⟩], .b true] [] [some 0] (.bool (isSnd xs)) [some ⟨false, .fl .f32 xs⟩] = some [((decide (((xs_n : Nat) : Int) ≤ (256 : Int))) = true), ((decide (((xs_n : Nat) : Int) ≤ (256 : Int))) = true), (Ev Try.prog 105 [.slice (some ⟨0, 0, none⟩) xs_n 1] [some ⟨false, .fl .f32 xs⟩] (.bool (allFin xs)) [some ⟨false, .fl .f32 xs⟩]), ((decide (((xs_n : Nat) : Int) ≤ (256 : Int))) = true), ((allFin xs) = (isSnd xs)), (xs = xs)] := by kernel_rfl
    exact Ev.of mixed _ _ _ Try.func61 (by kernel_rfl) e ⟨(decide_eq_true (by omega)), (decide_eq_true (by omega)), (ev_areFinite xs xs_n xs_h xs_b), (decide_eq_true (by omega)), (by first | (simp [-List.getD_eq_getElem?_getD, isSnd, h1, (show ((xs_n : Nat) : Int) ≤ (256 : Int) from by omega), xs_h]; done) | (simp_all [-List.getD_eq_getElem?_getD, isSnd, (show ((xs_n : Nat) : Int) ≤ (256 : Int) from by omega), xs_h]; done)), rfl, trivial⟩
  ·
    have e : evF Try.prog Try.f61 [.slice (some ⟨0, 0, none⟩) xs_n 1] [some ⟨false, .fl .f32 xs⟩] [.b false, .b false, .b false] [] [some 0] (.bool (isSnd xs)) [some ⟨false, .fl .f32 xs⟩] = some [((decide (((xs_n : Nat) : Int) ≤ (256 : Int))) = false), ((decide (((xs_n : Nat) : Int) ≤ (256 : Int))) = false), ((decide (((xs_n : Nat) : Int) ≤ (256 : Int))) = false), (false = (isSnd xs)), (xs = xs)] := by kernel_rfl
    exact Ev.of mixed _ _ _ Try.func61 (by kernel_rfl) e ⟨(decide_eq_false (by omega)), (decide_eq_false (by omega)), (decide_eq_false (by omega)), (by first | (simp [-List.getD_eq_getElem?_getD, isSnd, h1, (show ¬ (((xs_n : Nat) : Int) ≤ (256 : Int)) from by omega), xs_h]; done) | (simp_all [-List.getD_eq_getElem?_getD, isSnd, (show ¬ (((xs_n : Nat) : Int) ≤ (256 : Int)) from by omega), xs_h]; done)), rfl, trivial⟩

theorem ev_l02Above (x : Nat)  : Ev Try.prog 145 [.float .f32 x] [] (.bool (above0 x)) [] := by
  rcases Bool.eq_false_or_eq_true (fin32 x) with h1 | h1
  ·
    have e : evF Try.prog Try.f145 [.float .f32 x] [] [.c [] (.bool (fin32 x)) [], .b true, .b true, .b true] [] [] (.bool (above0 x)) [] = some [(Ev Try.prog 64 [.float .f32 x] [] (.bool (fin32 x)) []), ((fin32 x) = true), ((fin32 x) = true), ((fin32 x) = true), ((fcmp .gtr .f32 x 0) = (above0 x))] := by kernel_rfl
    exact Ev.of mixed _ _ _ Try.func145 (by kernel_rfl) e ⟨(ev_l01Finite x), h1, h1, h1, (by first | (simp [-List.getD_eq_getElem?_getD, above0, h1]; done) | (simp_all [-List.getD_eq_getElem?_getD, above0]; done)), trivial⟩
  ·
    have e : evF Try.prog Try.f145 [.float .f32 x] [] [.c [] (.bool (fin32 x)) [], .b false, .b false, .b false] [] [] (.bool (above0 x)) [] = some [(Ev Try.prog 64 [.float .f32 x] [] (.bool (fin32 x)) []), ((fin32 x) = false), ((fin32 x) = false), ((fin32 x) = false), (false = (above0 x))] := by kernel_rfl
    exact Ev.of mixed _ _ _ Try.func145 (by kernel_rfl) e ⟨(ev_l01Finite x), h1, h1, h1, (by first | (simp [-List.getD_eq_getElem?_getD, above0, h1]; done) | (simp_all [-List.getD_eq_getElem?_getD, above0]; done)), trivial⟩

theorem ev_l02Number (x : Nat)  : Ev Try.prog 102 [.float .f32 x] [] (.tuple ⟨[.float .f32 (if fin32 x then x else 0), .bool (fin32 x)]⟩) [] := by
  rcases Bool.eq_false_or_eq_true (fin32 x) with h1 | h1
  ·
    have e : evF Try.prog Try.f102 [.float .f32 x] [] [.c [] (.bool (fin32 x)) [], .b false] [] [] (.tuple ⟨[.float .f32 (if fin32 x then x else 0), .bool (fin32 x)]⟩) [] = some [(Ev Try.prog 64 [.float .f32 x] [] (.bool (fin32 x)) []), ((!(fin32 x)) = false), (x = (if fin32 x then x else 0)), (true = (fin32 x))] := by kernel_rfl
    exact Ev.of mixed _ _ _ Try.func102 (by kernel_rfl) e ⟨(ev_l01Finite x), (congrArg Bool.not h1), (by first | (simp [-List.getD_eq_getElem?_getD, h1]; done) | (simp_all [-List.getD_eq_getElem?_getD, ]; done)), (by first | (simp [-List.getD_eq_getElem?_getD, h1]; done) | (simp_all [-List.getD_eq_getElem?_getD, ]; done)), trivial⟩
  ·
    have e : evF Try.prog Try.f102 [.float .f32 x] [] [.c [] (.bool (fin32 x)) [], .b true] [] [] (.tuple ⟨[.float .f32 (if fin32 x then x else 0), .bool (fin32 x)]⟩) [] = some [(Ev Try.prog 64 [.float .f32 x] [] (.bool (fin32 x)) []), ((!(fin32 x)) = true), (0 = (if fin32 x then x else 0)), (false = (fin32 x))] := by kernel_rfl
    exact Ev.of mixed _ _ _ Try.func102 (by kernel_rfl) e ⟨(ev_l01Finite x), (congrArg Bool.not h1), (by first | (simp [-List.getD_eq_getElem?_getD, h1]; done) | (simp_all [-List.getD_eq_getElem?_getD, ]; done)), (by first | (simp [-List.getD_eq_getElem?_getD, h1]; done) | (simp_all [-List.getD_eq_getElem?_getD, ]; done)), trivial⟩

theorem ev_checkedNumber (x : Nat)  : Ev Try.prog 104 [.float .f32 x] [] (.tuple ⟨[.float .f32 (if fin32 x then x else 0), .bool (fin32 x)]⟩) [] := by
  rcases Bool.eq_false_or_eq_true (fin32 x) with h1 | h1
  ·
    have e : evF Try.prog Try.f104 [.float .f32 x] [] [.c [] (.bool (fin32 x)) [], .b false] [] [] (.tuple ⟨[.float .f32 (if fin32 x then x else 0), .bool (fin32 x)]⟩) [] = some [(Ev Try.prog 66 [.float .f32 x] [] (.bool (fin32 x)) []), ((!(fin32 x)) = false), (x = (if fin32 x then x else 0)), (true = (fin32 x))] := by kernel_rfl
    exact Ev.of mixed _ _ _ Try.func104 (by kernel_rfl) e ⟨(ev_IsFinite x), (congrArg Bool.not h1), (by first | (simp [-List.getD_eq_getElem?_getD, h1]; done) | (simp_all [-List.getD_eq_getElem?_getD, ]; done)), (by first | (simp [-List.getD_eq_getElem?_getD, h1]; done) | (simp_all [-List.getD_eq_getElem?_getD, ]; done)), trivial⟩
  ·
    have e : evF Try.prog Try.f104 [.float .f32 x] [] [.c [] (.bool (fin32 x)) [], .b true] [] [] (.tuple ⟨[.float .f32 (if fin32 x then x else 0), .bool (fin32 x)]⟩) [] = some [(Ev Try.prog 66 [.float .f32 x] [] (.bool (fin32 x)) []), ((!(fin32 x)) = true), (0 = (if fin32 x then x else 0)), (false = (fin32 x))] := by kernel_rfl
    exact Ev.of mixed _ _ _ Try.func104 (by kernel_rfl) e ⟨(ev_IsFinite x), (congrArg Bool.not h1), (by first | (simp [-List.getD_eq_getElem?_getD, h1]; done) | (simp_all [-List.getD_eq_getElem?_getD, ]; done)), (by first | (simp [-List.getD_eq_getElem?_getD, h1]; done) | (simp_all [-List.getD_eq_getElem?_getD, ]; done)), trivial⟩

def ev_toFloat32S_L1_step (xs : List Nat) (xs_n : Nat) (k1 : Nat) (s1 : (List Nat)) : (List Nat) := (List.set s1 k1 (List.getD xs k1 0))

def ev_toFloat32S_L1_S (xs : List Nat) (xs_n : Nat) : Nat → (List Nat)
  | 0 => (List.replicate xs_n 0)
  | k + 1 => ev_toFloat32S_L1_step xs xs_n k (ev_toFloat32S_L1_S xs xs_n k)

def ev_toFloat32S_L1_I (xs : List Nat) (xs_n : Nat) (k1 : Nat) (s1 : (List Nat)) : St := ⟨[(0, .slice (some ⟨0, 0, none⟩) xs_n 1), (2, .slice none 0 0), (3, .slice (some ⟨1, 0, none⟩) xs_n 1), (4, .int .i64 ((k1 : Nat) : Int))], [some ⟨false, .fl .f32 xs⟩, some ⟨true, .fl .f32 s1⟩]⟩

theorem ev_toFloat32S_L1_inv (xs : List Nat) (xs_n : Nat) (xs_h : xs.length = xs_n) (xs_b : xs_n ≤ 9223372036854775807)  (hsz : xs_n ≤ 2097152) : ∀ k, List.length (ev_toFloat32S_L1_S xs xs_n k) = xs_n := by
  intro k
  induction k with
  | zero => simp [ev_toFloat32S_L1_S, List.length_set, List.length_append, List.length_replicate, List.length_cons, List.length_nil, List.length_take, List.length_drop, rowAdd_eq, xs_h]
  | succ k ih =>
    simp only [ev_toFloat32S_L1_S]
    generalize ev_toFloat32S_L1_S xs xs_n k = s at ih ⊢
    unfold ev_toFloat32S_L1_step
    first
    | (simp [-List.getD_eq_getElem?_getD, List.length_set, List.length_append, List.length_replicate, List.length_cons, List.length_nil, List.length_take, List.length_drop, rowAdd_eq, xs_h, ih]; done)
    | ((repeat' split) <;> (simp_all [-List.getD_eq_getElem?_getD, List.length_set, List.length_append, List.length_replicate, List.length_cons, List.length_nil, List.length_take, List.length_drop, rowAdd_eq, xs_h]) <;> omega)
    | ((repeat' split) <;> (simp_all [-List.getD_eq_getElem?_getD, List.length_set, List.length_append, List.length_replicate, List.length_cons, List.length_nil, List.length_take, List.length_drop, rowAdd_eq, xs_h]); done)

theorem ev_toFloat32S_L1_inv0 (xs : List Nat) (xs_n : Nat) (xs_h : xs.length = xs_n) (xs_b : xs_n ≤ 9223372036854775807)  (hsz : xs_n ≤ 2097152) (k : Nat) : List.length (ev_toFloat32S_L1_S xs xs_n k) = xs_n := (ev_toFloat32S_L1_inv xs xs_n xs_h xs_b hsz k)

theorem ev_toFloat32S_L1_body (xs : List Nat) (xs_n : Nat) (xs_h : xs.length = xs_n) (xs_b : xs_n ≤ 9223372036854775807)  (hsz : xs_n ≤ 2097152) (k1 : Nat) (s1 : (List Nat)) (s1_i0 : List.length s1 = xs_n) (hk_k1 : k1 < xs_n)  : PW Try.prog 22 1 (sub [1, 1, 0, 1, 0, 0] (bodyOf Try.f16)) (ev_toFloat32S_L1_I xs xs_n k1 s1) .normal (ev_toFloat32S_L1_I xs xs_n (k1 + 1) (ev_toFloat32S_L1_step xs xs_n k1 s1)) := by
  have e : evL Try.prog 22 1 (sub [1, 1, 0, 1, 0, 0] (bodyOf Try.f16)) (ev_toFloat32S_L1_I xs xs_n k1 s1) [.b true, .n k1, .n k1] [] [some 0, some 1] .normal (ev_toFloat32S_L1_I xs xs_n (k1 + 1) (ev_toFloat32S_L1_step xs xs_n k1 s1)) = some [((decide (((k1 : Nat) : Int) < ((xs_n : Nat) : Int))) = true), (((k1 : Nat) : Int) = ((k1 : Nat) : Int)), (k1 < xs_n), (k1 < (List.length xs)), (((k1 : Nat) : Int) = ((k1 : Nat) : Int)), (k1 < xs_n), (k1 < (List.length s1)), (inR .i64 (((k1 : Nat) : Int) + (1 : Int))), (0 = 0), (xs_n = xs_n), (0 = 0), (xs_n = xs_n), ((((k1 : Nat) : Int) + (1 : Int)) = (((k1 + 1) : Nat) : Int)), (xs = xs), ((List.set s1 k1 (List.getD xs k1 0)) = (ev_toFloat32S_L1_step xs xs_n k1 s1))] := by kernel_rfl
  exact PW.of_evL mixed _ _ _ e ⟨(decide_eq_true (by omega)), rfl, (by omega), (by omega), rfl, (by omega), (by omega), (inR64 (by omega) (by omega)), rfl, rfl, rfl, rfl, (by omega), rfl, (by first | (simp [-List.getD_eq_getElem?_getD, ev_toFloat32S_L1_step, xs_h, s1_i0]; done) | (simp_all [-List.getD_eq_getElem?_getD, ev_toFloat32S_L1_step, xs_h, s1_i0]; done)), trivial⟩

theorem ev_toFloat32S_L1_end (xs : List Nat) (xs_n : Nat) (xs_h : xs.length = xs_n) (xs_b : xs_n ≤ 9223372036854775807)  (hsz : xs_n ≤ 2097152) (s1 : (List Nat)) (s1_i0 : List.length s1 = xs_n) : PW Try.prog 22 1 (sub [1, 1, 0, 1, 0, 0] (bodyOf Try.f16)) (ev_toFloat32S_L1_I xs xs_n xs_n s1) (.exit 0) ⟨[(0, .slice (some ⟨0, 0, none⟩) xs_n 1), (2, .slice none 0 0), (3, .slice (some ⟨1, 0, none⟩) xs_n 1), (4, .int .i64 ((xs_n : Nat) : Int))], [some ⟨false, .fl .f32 xs⟩, some ⟨true, .fl .f32 s1⟩]⟩ := by
  have e : evL Try.prog 22 1 (sub [1, 1, 0, 1, 0, 0] (bodyOf Try.f16)) (ev_toFloat32S_L1_I xs xs_n xs_n s1) [.b false] [] [some 0, some 1] (.exit 0) ⟨[(0, .slice (some ⟨0, 0, none⟩) xs_n 1), (2, .slice none 0 0), (3, .slice (some ⟨1, 0, none⟩) xs_n 1), (4, .int .i64 ((xs_n : Nat) : Int))], [some ⟨false, .fl .f32 xs⟩, some ⟨true, .fl .f32 s1⟩]⟩ = some [((decide (((xs_n : Nat) : Int) < ((xs_n : Nat) : Int))) = false), (0 = 0), (xs_n = xs_n), (0 = 0), (xs_n = xs_n), (((xs_n : Nat) : Int) = ((xs_n : Nat) : Int)), (xs = xs), (s1 = s1)] := by kernel_rfl
  exact PW.of_evL mixed _ _ _ e ⟨(decide_eq_false (by omega)), rfl, rfl, rfl, rfl, rfl, rfl, rfl, trivial⟩

theorem ev_toFloat32S_L1 (xs : List Nat) (xs_n : Nat) (xs_h : xs.length = xs_n) (xs_b : xs_n ≤ 9223372036854775807)  (hsz : xs_n ≤ 2097152)  : PW Try.prog 22 1 (.loop (sub [1, 1, 0, 1, 0, 0] (bodyOf Try.f16))) (ev_toFloat32S_L1_I xs xs_n 0 (ev_toFloat32S_L1_S xs xs_n 0)) (.exit 0) ⟨[(0, .slice (some ⟨0, 0, none⟩) xs_n 1), (2, .slice none 0 0), (3, .slice (some ⟨1, 0, none⟩) xs_n 1), (4, .int .i64 ((xs_n : Nat) : Int))], [some ⟨false, .fl .f32 xs⟩, some ⟨true, .fl .f32 (ev_toFloat32S_L1_S xs xs_n xs_n)⟩]⟩ :=
  PW.loop (I := (fun k => ev_toFloat32S_L1_I xs xs_n k (ev_toFloat32S_L1_S xs xs_n k))) xs_n (by simp) (fun k hk => ev_toFloat32S_L1_body xs xs_n xs_h xs_b hsz k _ (ev_toFloat32S_L1_inv0 xs xs_n xs_h xs_b hsz k) hk) (ev_toFloat32S_L1_end xs xs_n xs_h xs_b hsz _ (ev_toFloat32S_L1_inv0 xs xs_n xs_h xs_b hsz xs_n))

theorem ev_toFloat32S (xs : List Nat) (xs_n : Nat) (xs_h : xs.length = xs_n) (xs_b : xs_n ≤ 9223372036854775807)  (hsz : xs_n ≤ 2097152) : Ev Try.prog 16 [.slice (some ⟨0, 0, none⟩) xs_n 1] [some ⟨false, .fl .f32 xs⟩] (.slice (some ⟨1, 0, none⟩) xs_n 1) [some ⟨false, .fl .f32 xs⟩, some ⟨true, .fl .f32 xs⟩] := by
  have a0 := (ev_toFloat32S_L1_inv0 xs xs_n xs_h xs_b hsz xs_n)
  have e : evF Try.prog Try.f16 [.slice (some ⟨0, 0, none⟩) xs_n 1] [some ⟨false, .fl .f32 xs⟩] [.n xs_n] [([some 0, some 1], (ev_toFloat32S_L1_I xs xs_n 0 (ev_toFloat32S_L1_S xs xs_n 0)), (.exit 0), ⟨[(0, .slice (some ⟨0, 0, none⟩) xs_n 1), (2, .slice none 0 0), (3, .slice (some ⟨1, 0, none⟩) xs_n 1), (4, .int .i64 ((xs_n : Nat) : Int))], [some ⟨false, .fl .f32 xs⟩, some ⟨true, .fl .f32 (ev_toFloat32S_L1_S xs xs_n xs_n)⟩]⟩)] [some 0, some 1] (.slice (some ⟨1, 0, none⟩) xs_n 1) [some ⟨false, .fl .f32 xs⟩, some ⟨true, .fl .f32 xs⟩] = some [(((xs_n : Nat) : Int) = ((xs_n : Nat) : Int)), (((xs_n : Nat) : Int) ≤ ((xs_n : Nat) : Int)), (((xs_n : Nat) : Int) * (4 : Int) ≤ 140737488355328), (((xs_n : Nat) : Int) ≤ 140737488355328), (0 = 0), (xs_n = xs_n), (0 = 0), (xs_n = xs_n), ((0 : Int) = ((0 : Nat) : Int)), (xs = xs), ((List.replicate xs_n 0) = (ev_toFloat32S_L1_S xs xs_n 0)), (PW Try.prog 22 1 (.loop (sub [1, 1, 0, 1, 0, 0] (bodyOf Try.f16))) (ev_toFloat32S_L1_I xs xs_n 0 (ev_toFloat32S_L1_S xs xs_n 0)) (.exit 0) ⟨[(0, .slice (some ⟨0, 0, none⟩) xs_n 1), (2, .slice none 0 0), (3, .slice (some ⟨1, 0, none⟩) xs_n 1), (4, .int .i64 ((xs_n : Nat) : Int))], [some ⟨false, .fl .f32 xs⟩, some ⟨true, .fl .f32 (ev_toFloat32S_L1_S xs xs_n xs_n)⟩]⟩), (0 = 0), (xs_n = xs_n), (xs = xs), ((ev_toFloat32S_L1_S xs xs_n xs_n) = xs)] := by kernel_rfl
  exact Ev.of mixed _ _ _ Try.func16 (by kernel_rfl) e ⟨rfl, (by omega), (by omega), (by omega), rfl, rfl, rfl, rfl, (by omega), rfl, rfl, (ev_toFloat32S_L1 xs xs_n xs_h xs_b hsz), rfl, rfl, rfl, (copy_all xs xs_n xs_h (ev_toFloat32S_L1_S xs xs_n) rfl (fun _ => rfl)), trivial⟩

def ev_eqFloat32S_L1_step (xs : List Nat) (xs_n : Nat) (ys : List Nat) (ys_n : Nat) (k1 : Nat) (s1 : Unit) : Unit := ()

def ev_eqFloat32S_L1_S (xs : List Nat) (xs_n : Nat) (ys : List Nat) (ys_n : Nat) : Nat → Unit
  | 0 => ()
  | k + 1 => ev_eqFloat32S_L1_step xs xs_n ys ys_n k (ev_eqFloat32S_L1_S xs xs_n ys ys_n k)

def ev_eqFloat32S_L1_I (xs : List Nat) (xs_n : Nat) (ys : List Nat) (ys_n : Nat) (k1 : Nat) (s1 : Unit) : St := ⟨[(0, .slice (some ⟨0, 0, none⟩) xs_n 1), (1, .slice (some ⟨1, 0, none⟩) ys_n 1), (4, .bool false), (5, .int .i64 ((k1 : Nat) : Int)), (10, .bool (((xs_n : Nat) : Int) != ((ys_n : Nat) : Int)))], [some ⟨false, .fl .f32 xs⟩, some ⟨false, .fl .f32 ys⟩]⟩

def ev_eqFloat32S_L1_good (xs : List Nat) (xs_n : Nat) (ys : List Nat) (ys_n : Nat) (k1 : Nat) (s1 : Unit) : Bool := (if (sameD (fcv .f32 .f64 (List.getD xs k1 0)) (fcv .f32 .f64 (List.getD ys k1 0))) then true else false)

theorem ev_eqFloat32S_L1_body (xs : List Nat) (xs_n : Nat) (xs_h : xs.length = xs_n) (xs_b : xs_n ≤ 9223372036854775807) (ys : List Nat) (ys_n : Nat) (ys_h : ys.length = ys_n) (ys_b : ys_n ≤ 9223372036854775807)  (h1 : xs_n = ys_n) (k1 : Nat) (s1 : Unit)  (hk_k1 : k1 < xs_n) (hg : ev_eqFloat32S_L1_good xs xs_n ys ys_n k1 s1 = true) : PW Try.prog 29 2 (sub [1, 1, 0, 1, 0, 0] (bodyOf Try.f19)) (ev_eqFloat32S_L1_I xs xs_n ys ys_n k1 s1) .normal (ev_eqFloat32S_L1_I xs xs_n ys ys_n (k1 + 1) (ev_eqFloat32S_L1_step xs xs_n ys ys_n k1 s1)) := by
  rcases Bool.eq_false_or_eq_true (sameD (fcv .f32 .f64 (List.getD xs k1 0)) (fcv .f32 .f64 (List.getD ys k1 0))) with h2 | h2
  ·
    have e : evL Try.prog 29 2 (sub [1, 1, 0, 1, 0, 0] (bodyOf Try.f19)) (ev_eqFloat32S_L1_I xs xs_n ys ys_n k1 s1) [.b true, .n k1, .n k1, .c [] (.bool (sameD (fcv .f32 .f64 (List.getD xs k1 0)) (fcv .f32 .f64 (List.getD ys k1 0)))) [], .b false] [] [some 0, some 1] .normal (ev_eqFloat32S_L1_I xs xs_n ys ys_n (k1 + 1) (ev_eqFloat32S_L1_step xs xs_n ys ys_n k1 s1)) = some [((decide (((k1 : Nat) : Int) < ((xs_n : Nat) : Int))) = true), (((k1 : Nat) : Int) = ((k1 : Nat) : Int)), (k1 < xs_n), (k1 < (List.length xs)), (((k1 : Nat) : Int) = ((k1 : Nat) : Int)), (k1 < ys_n), (k1 < (List.length ys)), (Ev Try.prog 58 [.float .f64 (fcv .f32 .f64 (List.getD xs k1 0)), .float .f64 (fcv .f32 .f64 (List.getD ys k1 0))] [] (.bool (sameD (fcv .f32 .f64 (List.getD xs k1 0)) (fcv .f32 .f64 (List.getD ys k1 0)))) []), ((!(sameD (fcv .f32 .f64 (List.getD xs k1 0)) (fcv .f32 .f64 (List.getD ys k1 0)))) = false), (inR .i64 (((k1 : Nat) : Int) + (1 : Int))), (0 = 0), (xs_n = xs_n), (0 = 0), (ys_n = ys_n), (false = false), ((((k1 : Nat) : Int) + (1 : Int)) = (((k1 + 1) : Nat) : Int)), ((((xs_n : Nat) : Int) != ((ys_n : Nat) : Int)) = (((xs_n : Nat) : Int) != ((ys_n : Nat) : Int))), (xs = xs), (ys = ys)] := by kernel_rfl
    exact PW.of_evL mixed _ _ _ e ⟨(decide_eq_true (by omega)), rfl, (by omega), (by omega), rfl, (by omega), (by omega), (ev_sameFloat (fcv .f32 .f64 (List.getD xs k1 0)) (fcv .f32 .f64 (List.getD ys k1 0))), (congrArg Bool.not h2), (inR64 (by omega) (by omega)), rfl, rfl, rfl, rfl, rfl, (by omega), rfl, rfl, rfl, trivial⟩
  ·
    exact absurd hg (by simp [-List.getD_eq_getElem?_getD, ev_eqFloat32S_L1_good, (eq_true h1), (eq_true (show ((xs_n : Nat) : Int) = ((ys_n : Nat) : Int) from by omega)), h2, xs_h, ys_h])

theorem ev_eqFloat32S_L1_end (xs : List Nat) (xs_n : Nat) (xs_h : xs.length = xs_n) (xs_b : xs_n ≤ 9223372036854775807) (ys : List Nat) (ys_n : Nat) (ys_h : ys.length = ys_n) (ys_b : ys_n ≤ 9223372036854775807)  (h1 : xs_n = ys_n) (s1 : Unit)  : PW Try.prog 29 2 (sub [1, 1, 0, 1, 0, 0] (bodyOf Try.f19)) (ev_eqFloat32S_L1_I xs xs_n ys ys_n xs_n s1) (.exit 0) ⟨[(0, .slice (some ⟨0, 0, none⟩) xs_n 1), (1, .slice (some ⟨1, 0, none⟩) ys_n 1), (4, .bool false), (5, .int .i64 ((xs_n : Nat) : Int)), (10, .bool (((xs_n : Nat) : Int) != ((ys_n : Nat) : Int)))], [some ⟨false, .fl .f32 xs⟩, some ⟨false, .fl .f32 ys⟩]⟩ := by
  have e : evL Try.prog 29 2 (sub [1, 1, 0, 1, 0, 0] (bodyOf Try.f19)) (ev_eqFloat32S_L1_I xs xs_n ys ys_n xs_n s1) [.b false] [] [some 0, some 1] (.exit 0) ⟨[(0, .slice (some ⟨0, 0, none⟩) xs_n 1), (1, .slice (some ⟨1, 0, none⟩) ys_n 1), (4, .bool false), (5, .int .i64 ((xs_n : Nat) : Int)), (10, .bool (((xs_n : Nat) : Int) != ((ys_n : Nat) : Int)))], [some ⟨false, .fl .f32 xs⟩, some ⟨false, .fl .f32 ys⟩]⟩ = some [((decide (((xs_n : Nat) : Int) < ((xs_n : Nat) : Int))) = false), (0 = 0), (xs_n = xs_n), (0 = 0), (ys_n = ys_n), (false = false), (((xs_n : Nat) : Int) = ((xs_n : Nat) : Int)), ((((xs_n : Nat) : Int) != ((ys_n : Nat) : Int)) = (((xs_n : Nat) : Int) != ((ys_n : Nat) : Int))), (xs = xs), (ys = ys)] := by kernel_rfl
  exact PW.of_evL mixed _ _ _ e ⟨(decide_eq_false (by omega)), rfl, rfl, rfl, rfl, rfl, rfl, rfl, rfl, rfl, trivial⟩

theorem ev_eqFloat32S_L1 (xs : List Nat) (xs_n : Nat) (xs_h : xs.length = xs_n) (xs_b : xs_n ≤ 9223372036854775807) (ys : List Nat) (ys_n : Nat) (ys_h : ys.length = ys_n) (ys_b : ys_n ≤ 9223372036854775807)  (h1 : xs_n = ys_n) (hL : ∀ k, k < xs_n → ev_eqFloat32S_L1_good xs xs_n ys ys_n k (ev_eqFloat32S_L1_S xs xs_n ys ys_n k) = true) : PW Try.prog 29 2 (.loop (sub [1, 1, 0, 1, 0, 0] (bodyOf Try.f19))) (ev_eqFloat32S_L1_I xs xs_n ys ys_n 0 (ev_eqFloat32S_L1_S xs xs_n ys ys_n 0)) (.exit 0) ⟨[(0, .slice (some ⟨0, 0, none⟩) xs_n 1), (1, .slice (some ⟨1, 0, none⟩) ys_n 1), (4, .bool false), (5, .int .i64 ((xs_n : Nat) : Int)), (10, .bool (((xs_n : Nat) : Int) != ((ys_n : Nat) : Int)))], [some ⟨false, .fl .f32 xs⟩, some ⟨false, .fl .f32 ys⟩]⟩ :=
  PW.loop (I := (fun k => ev_eqFloat32S_L1_I xs xs_n ys ys_n k (ev_eqFloat32S_L1_S xs xs_n ys ys_n k))) xs_n (by simp) (fun k hk => ev_eqFloat32S_L1_body xs xs_n xs_h xs_b ys ys_n ys_h ys_b h1 k _  hk (hL k hk)) (ev_eqFloat32S_L1_end xs xs_n xs_h xs_b ys ys_n ys_h ys_b h1 _ )

theorem ev_eqFloat32S_L1_ende (xs : List Nat) (xs_n : Nat) (xs_h : xs.length = xs_n) (xs_b : xs_n ≤ 9223372036854775807) (ys : List Nat) (ys_n : Nat) (ys_h : ys.length = ys_n) (ys_b : ys_n ≤ 9223372036854775807)  (h1 : xs_n = ys_n) (s1 : Unit) (k1 : Nat)  (hk_k1 : k1 < xs_n) (hb : ev_eqFloat32S_L1_good xs xs_n ys ys_n k1 s1 = false) : PW Try.prog 29 2 (sub [1, 1, 0, 1, 0, 0] (bodyOf Try.f19)) (ev_eqFloat32S_L1_I xs xs_n ys ys_n k1 s1) .ret ⟨[(4, .bool false)], [some ⟨false, .fl .f32 xs⟩, some ⟨false, .fl .f32 ys⟩]⟩ := by
  rcases Bool.eq_false_or_eq_true (sameD (fcv .f32 .f64 (List.getD xs k1 0)) (fcv .f32 .f64 (List.getD ys k1 0))) with h3 | h3
  ·
    exact absurd hb (by simp [-List.getD_eq_getElem?_getD, ev_eqFloat32S_L1_good, (eq_true h1), (eq_true (show ((xs_n : Nat) : Int) = ((ys_n : Nat) : Int) from by omega)), h3, xs_h, ys_h])
  ·
    have e : evL Try.prog 29 2 (sub [1, 1, 0, 1, 0, 0] (bodyOf Try.f19)) (ev_eqFloat32S_L1_I xs xs_n ys ys_n k1 s1) [.b true, .n k1, .n k1, .c [] (.bool (sameD (fcv .f32 .f64 (List.getD xs k1 0)) (fcv .f32 .f64 (List.getD ys k1 0)))) [], .b true] [] [some 0, some 1] .ret ⟨[(4, .bool false)], [some ⟨false, .fl .f32 xs⟩, some ⟨false, .fl .f32 ys⟩]⟩ = some [((decide (((k1 : Nat) : Int) < ((xs_n : Nat) : Int))) = true), (((k1 : Nat) : Int) = ((k1 : Nat) : Int)), (k1 < xs_n), (k1 < (List.length xs)), (((k1 : Nat) : Int) = ((k1 : Nat) : Int)), (k1 < ys_n), (k1 < (List.length ys)), (Ev Try.prog 58 [.float .f64 (fcv .f32 .f64 (List.getD xs k1 0)), .float .f64 (fcv .f32 .f64 (List.getD ys k1 0))] [] (.bool (sameD (fcv .f32 .f64 (List.getD xs k1 0)) (fcv .f32 .f64 (List.getD ys k1 0)))) []), ((!(sameD (fcv .f32 .f64 (List.getD xs k1 0)) (fcv .f32 .f64 (List.getD ys k1 0)))) = true), (false = false), (xs = xs), (ys = ys)] := by kernel_rfl
    exact PW.of_evL mixed _ _ _ e ⟨(decide_eq_true (by omega)), rfl, (by omega), (by omega), rfl, (by omega), (by omega), (ev_sameFloat (fcv .f32 .f64 (List.getD xs k1 0)) (fcv .f32 .f64 (List.getD ys k1 0))), (congrArg Bool.not h3), rfl, rfl, rfl, trivial⟩

theorem ev_eqFloat32S_L1e (xs : List Nat) (xs_n : Nat) (xs_h : xs.length = xs_n) (xs_b : xs_n ≤ 9223372036854775807) (ys : List Nat) (ys_n : Nat) (ys_h : ys.length = ys_n) (ys_b : ys_n ≤ 9223372036854775807)  (h1 : xs_n = ys_n) (j : Nat) (hj : j < xs_n) (hb : ev_eqFloat32S_L1_good xs xs_n ys ys_n j (ev_eqFloat32S_L1_S xs xs_n ys ys_n j) = false) (hL : ∀ k, k < j → ev_eqFloat32S_L1_good xs xs_n ys ys_n k (ev_eqFloat32S_L1_S xs xs_n ys ys_n k) = true) : PW Try.prog 29 2 (.loop (sub [1, 1, 0, 1, 0, 0] (bodyOf Try.f19))) (ev_eqFloat32S_L1_I xs xs_n ys ys_n 0 (ev_eqFloat32S_L1_S xs xs_n ys ys_n 0)) .ret ⟨[(4, .bool false)], [some ⟨false, .fl .f32 xs⟩, some ⟨false, .fl .f32 ys⟩]⟩ :=
  PW.loop (I := (fun k => ev_eqFloat32S_L1_I xs xs_n ys ys_n k (ev_eqFloat32S_L1_S xs xs_n ys ys_n k))) j (by simp) (fun k hk => ev_eqFloat32S_L1_body xs xs_n xs_h xs_b ys ys_n ys_h ys_b h1 k _  (Nat.lt_trans hk hj) (hL k hk)) (ev_eqFloat32S_L1_ende xs xs_n xs_h xs_b ys ys_n ys_h ys_b h1 _ j  hj hb)

theorem ev_eqFloat32S (xs : List Nat) (xs_n : Nat) (xs_h : xs.length = xs_n) (xs_b : xs_n ≤ 9223372036854775807) (ys : List Nat) (ys_n : Nat) (ys_h : ys.length = ys_n) (ys_b : ys_n ≤ 9223372036854775807)  : Ev Try.prog 19 [.slice (some ⟨0, 0, none⟩) xs_n 1, .slice (some ⟨1, 0, none⟩) ys_n 1] [some ⟨false, .fl .f32 xs⟩, some ⟨false, .fl .f32 ys⟩] (.bool (sameL xs ys)) [some ⟨false, .fl .f32 xs⟩, some ⟨false, .fl .f32 ys⟩] := by
  by_cases h1 : xs_n = ys_n
  ·
    rcases Bool.eq_false_or_eq_true (allBelow (fun k => ev_eqFloat32S_L1_good xs xs_n ys ys_n k (ev_eqFloat32S_L1_S xs xs_n ys ys_n k)) xs_n) with h4 | h4
    ·
      have e : evF Try.prog Try.f19 [.slice (some ⟨0, 0, none⟩) xs_n 1, .slice (some ⟨1, 0, none⟩) ys_n 1] [some ⟨false, .fl .f32 xs⟩, some ⟨false, .fl .f32 ys⟩] [.b false] [([some 0, some 1], (ev_eqFloat32S_L1_I xs xs_n ys ys_n 0 (ev_eqFloat32S_L1_S xs xs_n ys ys_n 0)), (.exit 0), ⟨[(0, .slice (some ⟨0, 0, none⟩) xs_n 1), (1, .slice (some ⟨1, 0, none⟩) ys_n 1), (4, .bool false), (5, .int .i64 ((xs_n : Nat) : Int)), (10, .bool (((xs_n : Nat) : Int) != ((ys_n : Nat) : Int)))], [some ⟨false, .fl .f32 xs⟩, some ⟨false, .fl .f32 ys⟩]⟩)] [some 0, some 1] (.bool (sameL xs ys)) [some ⟨false, .fl .f32 xs⟩, some ⟨false, .fl .f32 ys⟩] = some [((((xs_n : Nat) : Int) != ((ys_n : Nat) : Int)) = false), (0 = 0), (xs_n = xs_n), (0 = 0), (ys_n = ys_n), (false = false), ((0 : Int) = ((0 : Nat) : Int)), ((((xs_n : Nat) : Int) != ((ys_n : Nat) : Int)) = (((xs_n : Nat) : Int) != ((ys_n : Nat) : Int))), (xs = xs), (ys = ys), (PW Try.prog 29 2 (.loop (sub [1, 1, 0, 1, 0, 0] (bodyOf Try.f19))) (ev_eqFloat32S_L1_I xs xs_n ys ys_n 0 (ev_eqFloat32S_L1_S xs xs_n ys ys_n 0)) (.exit 0) ⟨[(0, .slice (some ⟨0, 0, none⟩) xs_n 1), (1, .slice (some ⟨1, 0, none⟩) ys_n 1), (4, .bool false), (5, .int .i64 ((xs_n : Nat) : Int)), (10, .bool (((xs_n : Nat) : Int) != ((ys_n : Nat) : Int)))], [some ⟨false, .fl .f32 xs⟩, some ⟨false, .fl .f32 ys⟩]⟩), (true = (sameL xs ys)), (xs = xs), (ys = ys)] := by kernel_rfl
      exact Ev.of mixed _ _ _ Try.func19 (by kernel_rfl) e ⟨(bne_eq_false_iff_eq.2 (by omega)), rfl, rfl, rfl, rfl, rfl, (by omega), rfl, rfl, rfl, (ev_eqFloat32S_L1 xs xs_n xs_h xs_b ys ys_n ys_h ys_b h1 (allBelow_true.1 (show (allBelow (fun k => ev_eqFloat32S_L1_good xs xs_n ys ys_n k (ev_eqFloat32S_L1_S xs xs_n ys ys_n k)) xs_n) = true from h4))), (by first | (simp [-List.getD_eq_getElem?_getD, sameL, ev_eqFloat32S_L1_good, (eq_true h1), (eq_true (show ((xs_n : Nat) : Int) = ((ys_n : Nat) : Int) from by omega)), h4, xs_h, ys_h]; done) | (simp_all [-List.getD_eq_getElem?_getD, sameL, ev_eqFloat32S_L1_good, (eq_true (show ((xs_n : Nat) : Int) = ((ys_n : Nat) : Int) from by omega)), xs_h, ys_h]; done)), rfl, rfl, trivial⟩
    ·
      have e : evF Try.prog Try.f19 [.slice (some ⟨0, 0, none⟩) xs_n 1, .slice (some ⟨1, 0, none⟩) ys_n 1] [some ⟨false, .fl .f32 xs⟩, some ⟨false, .fl .f32 ys⟩] [.b false] [([some 0, some 1], (ev_eqFloat32S_L1_I xs xs_n ys ys_n 0 (ev_eqFloat32S_L1_S xs xs_n ys ys_n 0)), .ret, ⟨[(4, .bool false)], [some ⟨false, .fl .f32 xs⟩, some ⟨false, .fl .f32 ys⟩]⟩)] [some 0, some 1] (.bool (sameL xs ys)) [some ⟨false, .fl .f32 xs⟩, some ⟨false, .fl .f32 ys⟩] = some [((((xs_n : Nat) : Int) != ((ys_n : Nat) : Int)) = false), (0 = 0), (xs_n = xs_n), (0 = 0), (ys_n = ys_n), (false = false), ((0 : Int) = ((0 : Nat) : Int)), ((((xs_n : Nat) : Int) != ((ys_n : Nat) : Int)) = (((xs_n : Nat) : Int) != ((ys_n : Nat) : Int))), (xs = xs), (ys = ys), (PW Try.prog 29 2 (.loop (sub [1, 1, 0, 1, 0, 0] (bodyOf Try.f19))) (ev_eqFloat32S_L1_I xs xs_n ys ys_n 0 (ev_eqFloat32S_L1_S xs xs_n ys ys_n 0)) .ret ⟨[(4, .bool false)], [some ⟨false, .fl .f32 xs⟩, some ⟨false, .fl .f32 ys⟩]⟩), (false = (sameL xs ys)), (xs = xs), (ys = ys)] := by kernel_rfl
      exact Ev.of mixed _ _ _ Try.func19 (by kernel_rfl) e ⟨(bne_eq_false_iff_eq.2 (by omega)), rfl, rfl, rfl, rfl, rfl, (by omega), rfl, rfl, rfl, (ev_eqFloat32S_L1e xs xs_n xs_h xs_b ys ys_n ys_h ys_b h1 (firstF (fun k => ev_eqFloat32S_L1_good xs xs_n ys ys_n k (ev_eqFloat32S_L1_S xs xs_n ys ys_n k)) xs_n) (firstF_lt (show (allBelow (fun k => ev_eqFloat32S_L1_good xs xs_n ys ys_n k (ev_eqFloat32S_L1_S xs xs_n ys ys_n k)) xs_n) = false from h4)) (firstF_false (show (allBelow (fun k => ev_eqFloat32S_L1_good xs xs_n ys ys_n k (ev_eqFloat32S_L1_S xs xs_n ys ys_n k)) xs_n) = false from h4)) (firstF_before (show (allBelow (fun k => ev_eqFloat32S_L1_good xs xs_n ys ys_n k (ev_eqFloat32S_L1_S xs xs_n ys ys_n k)) xs_n) = false from h4))), (by first | (simp [-List.getD_eq_getElem?_getD, sameL, ev_eqFloat32S_L1_good, (eq_true h1), (eq_true (show ((xs_n : Nat) : Int) = ((ys_n : Nat) : Int) from by omega)), h4, xs_h, ys_h]; done) | (simp_all [-List.getD_eq_getElem?_getD, sameL, ev_eqFloat32S_L1_good, (eq_true (show ((xs_n : Nat) : Int) = ((ys_n : Nat) : Int) from by omega)), xs_h, ys_h]; done)), rfl, rfl, trivial⟩
  ·
    have e : evF Try.prog Try.f19 [.slice (some ⟨0, 0, none⟩) xs_n 1, .slice (some ⟨1, 0, none⟩) ys_n 1] [some ⟨false, .fl .f32 xs⟩, some ⟨false, .fl .f32 ys⟩] [.b true] [] [some 0, some 1] (.bool (sameL xs ys)) [some ⟨false, .fl .f32 xs⟩, some ⟨false, .fl .f32 ys⟩] = some [((((xs_n : Nat) : Int) != ((ys_n : Nat) : Int)) = true), (false = (sameL xs ys)), (xs = xs), (ys = ys)] := by kernel_rfl
    exact Ev.of mixed _ _ _ Try.func19 (by kernel_rfl) e ⟨(bne_iff_ne.2 (by omega)), (by first | (simp [-List.getD_eq_getElem?_getD, sameL, ev_eqFloat32S_L1_good, h1, (show ¬ (((xs_n : Nat) : Int) = ((ys_n : Nat) : Int)) from by omega), xs_h, ys_h]; done) | (simp_all [-List.getD_eq_getElem?_getD, sameL, ev_eqFloat32S_L1_good, (show ¬ (((xs_n : Nat) : Int) = ((ys_n : Nat) : Int)) from by omega), xs_h, ys_h]; done)), rfl, rfl, trivial⟩

end Go.Sim
