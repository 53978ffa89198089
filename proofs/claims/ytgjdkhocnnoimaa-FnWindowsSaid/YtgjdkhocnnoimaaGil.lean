/- Lists of whole numbers, and what the laws do with them. Conditions: none. -/

import Derived.Test.YtgjdkhocnnoimaaProg
import Derived.KernelRfl
import Derived.Test.YtgjdkhocnnoimaaGb
import Derived.Test.YtgjdkhocnnoimaaPvL

set_option linter.unusedSimpArgs false

set_option linter.unusedVariables false

namespace Go.Sim

open Go Go.Proofs

def ev_allWithin_L1_step (xs : List Int) (xs_n : Nat) (lo : Int) (hi : Int) (k1 : Nat) (s1 : Unit) : Unit := ()

def ev_allWithin_L1_S (xs : List Int) (xs_n : Nat) (lo : Int) (hi : Int) : Nat → Unit
  | 0 => ()
  | k + 1 => ev_allWithin_L1_step xs xs_n lo hi k (ev_allWithin_L1_S xs xs_n lo hi k)

def ev_allWithin_L1_I (xs : List Int) (xs_n : Nat) (lo : Int) (hi : Int) (k1 : Nat) (s1 : Unit) : St := ⟨[(0, .slice (some ⟨0, 0, none⟩) xs_n 1), (1, .int .i64 lo), (2, .int .i64 hi), (6, .bool false), (9, .slice (some ⟨0, 0, none⟩) xs_n 1), (10, .int .i64 ((xs_n : Nat) : Int)), (11, .int .i64 ((k1 : Nat) : Int))], [some ⟨false, .it .i64 xs⟩]⟩

def ev_allWithin_L1_good (xs : List Int) (xs_n : Nat) (lo : Int) (hi : Int) (k1 : Nat) (s1 : Unit) : Bool := (if (List.getD xs k1 0) ≥ lo then (if (List.getD xs k1 0) ≤ hi then true else false) else false)

theorem ev_allWithin_L1_body (xs : List Int) (xs_n : Nat) (xs_h : xs.length = xs_n) (xs_b : xs_n ≤ 9223372036854775807) (lo : Int) (hi : Int)  (k1 : Nat) (s1 : Unit)  (hk_k1 : k1 < xs_n) (hg : ev_allWithin_L1_good xs xs_n lo hi k1 s1 = true) : PW Try.prog 21 1 (sub [1, 0, 1, 0, 0] (bodyOf Try.f129)) (ev_allWithin_L1_I xs xs_n lo hi k1 s1) .normal (ev_allWithin_L1_I xs xs_n lo hi (k1 + 1) (ev_allWithin_L1_step xs xs_n lo hi k1 s1)) := by
  by_cases h1 : (List.getD xs k1 0) ≥ lo
  ·
    by_cases h2 : (List.getD xs k1 0) ≤ hi
    ·
      have e : evL Try.prog 21 1 (sub [1, 0, 1, 0, 0] (bodyOf Try.f129)) (ev_allWithin_L1_I xs xs_n lo hi k1 s1) [.b true, .n k1, .c [] (.bool ((decide ((List.getD xs k1 0) ≥ lo)) && (decide ((List.getD xs k1 0) ≤ hi)))) [], .b false] [] [some 0] .normal (ev_allWithin_L1_I xs xs_n lo hi (k1 + 1) (ev_allWithin_L1_step xs xs_n lo hi k1 s1)) = some [((decide (((k1 : Nat) : Int) < ((xs_n : Nat) : Int))) = true), (((k1 : Nat) : Int) = ((k1 : Nat) : Int)), (k1 < xs_n), (k1 < (List.length xs)), (Ev Try.prog 91 [.int .i64 (List.getD xs k1 0), .int .i64 lo, .int .i64 hi] [] (.bool ((decide ((List.getD xs k1 0) ≥ lo)) && (decide ((List.getD xs k1 0) ≤ hi)))) []), ((!((decide ((List.getD xs k1 0) ≥ lo)) && (decide ((List.getD xs k1 0) ≤ hi)))) = false), (inR .i64 (((k1 : Nat) : Int) + (1 : Int))), (0 = 0), (xs_n = xs_n), (lo = lo), (hi = hi), (false = false), (0 = 0), (xs_n = xs_n), (((xs_n : Nat) : Int) = ((xs_n : Nat) : Int)), ((((k1 : Nat) : Int) + (1 : Int)) = (((k1 + 1) : Nat) : Int)), (xs = xs)] := by kernel_rfl
      exact PW.of_evL mixed _ _ _ e ⟨(decide_eq_true (by omega)), rfl, (by omega), (by omega), (ev_within ((List.getD xs k1 0)) (lo) (hi)), (congrArg Bool.not (and_tt (decide_eq_true h1) (decide_eq_true h2))), (inR64 (by omega) (by omega)), rfl, rfl, rfl, rfl, rfl, rfl, rfl, rfl, (by omega), rfl, trivial⟩
    ·
      exact absurd hg (by simp [-List.getD_eq_getElem?_getD, ev_allWithin_L1_good, h1, h2, xs_h])
  ·
    exact absurd hg (by simp [-List.getD_eq_getElem?_getD, ev_allWithin_L1_good, h1, xs_h])

theorem ev_allWithin_L1_end (xs : List Int) (xs_n : Nat) (xs_h : xs.length = xs_n) (xs_b : xs_n ≤ 9223372036854775807) (lo : Int) (hi : Int)  (s1 : Unit)  : PW Try.prog 21 1 (sub [1, 0, 1, 0, 0] (bodyOf Try.f129)) (ev_allWithin_L1_I xs xs_n lo hi xs_n s1) (.exit 0) ⟨[(0, .slice (some ⟨0, 0, none⟩) xs_n 1), (1, .int .i64 lo), (2, .int .i64 hi), (6, .bool false), (9, .slice (some ⟨0, 0, none⟩) xs_n 1), (10, .int .i64 ((xs_n : Nat) : Int)), (11, .int .i64 ((xs_n : Nat) : Int))], [some ⟨false, .it .i64 xs⟩]⟩ := by
  have e : evL Try.prog 21 1 (sub [1, 0, 1, 0, 0] (bodyOf Try.f129)) (ev_allWithin_L1_I xs xs_n lo hi xs_n s1) [.b false] [] [some 0] (.exit 0) ⟨[(0, .slice (some ⟨0, 0, none⟩) xs_n 1), (1, .int .i64 lo), (2, .int .i64 hi), (6, .bool false), (9, .slice (some ⟨0, 0, none⟩) xs_n 1), (10, .int .i64 ((xs_n : Nat) : Int)), (11, .int .i64 ((xs_n : Nat) : Int))], [some ⟨false, .it .i64 xs⟩]⟩ = some [((decide (((xs_n : Nat) : Int) < ((xs_n : Nat) : Int))) = false), (0 = 0), (xs_n = xs_n), (lo = lo), (hi = hi), (false = false), (0 = 0), (xs_n = xs_n), (((xs_n : Nat) : Int) = ((xs_n : Nat) : Int)), (((xs_n : Nat) : Int) = ((xs_n : Nat) : Int)), (xs = xs)] := by kernel_rfl
  exact PW.of_evL mixed _ _ _ e ⟨(decide_eq_false (by omega)), rfl, rfl, rfl, rfl, rfl, rfl, rfl, rfl, rfl, rfl, trivial⟩

theorem ev_allWithin_L1 (xs : List Int) (xs_n : Nat) (xs_h : xs.length = xs_n) (xs_b : xs_n ≤ 9223372036854775807) (lo : Int) (hi : Int)  (hL : ∀ k, k < xs_n → ev_allWithin_L1_good xs xs_n lo hi k (ev_allWithin_L1_S xs xs_n lo hi k) = true) : PW Try.prog 21 1 (.loop (sub [1, 0, 1, 0, 0] (bodyOf Try.f129))) (ev_allWithin_L1_I xs xs_n lo hi 0 (ev_allWithin_L1_S xs xs_n lo hi 0)) (.exit 0) ⟨[(0, .slice (some ⟨0, 0, none⟩) xs_n 1), (1, .int .i64 lo), (2, .int .i64 hi), (6, .bool false), (9, .slice (some ⟨0, 0, none⟩) xs_n 1), (10, .int .i64 ((xs_n : Nat) : Int)), (11, .int .i64 ((xs_n : Nat) : Int))], [some ⟨false, .it .i64 xs⟩]⟩ :=
  PW.loop (I := (fun k => ev_allWithin_L1_I xs xs_n lo hi k (ev_allWithin_L1_S xs xs_n lo hi k))) xs_n (by simp) (fun k hk => ev_allWithin_L1_body xs xs_n xs_h xs_b lo hi k _  hk (hL k hk)) (ev_allWithin_L1_end xs xs_n xs_h xs_b lo hi _ )

theorem ev_allWithin_L1_ende (xs : List Int) (xs_n : Nat) (xs_h : xs.length = xs_n) (xs_b : xs_n ≤ 9223372036854775807) (lo : Int) (hi : Int)  (s1 : Unit) (k1 : Nat)  (hk_k1 : k1 < xs_n) (hb : ev_allWithin_L1_good xs xs_n lo hi k1 s1 = false) : PW Try.prog 21 1 (sub [1, 0, 1, 0, 0] (bodyOf Try.f129)) (ev_allWithin_L1_I xs xs_n lo hi k1 s1) .ret ⟨[(6, .bool false)], [some ⟨false, .it .i64 xs⟩]⟩ := by
  by_cases h3 : (List.getD xs k1 0) ≥ lo
  ·
    by_cases h4 : (List.getD xs k1 0) ≤ hi
    ·
      exact absurd hb (by simp [-List.getD_eq_getElem?_getD, ev_allWithin_L1_good, h3, h4, xs_h])
    ·
      have e : evL Try.prog 21 1 (sub [1, 0, 1, 0, 0] (bodyOf Try.f129)) (ev_allWithin_L1_I xs xs_n lo hi k1 s1) [.b true, .n k1, .c [] (.bool ((decide ((List.getD xs k1 0) ≥ lo)) && (decide ((List.getD xs k1 0) ≤ hi)))) [], .b true] [] [some 0] .ret ⟨[(6, .bool false)], [some ⟨false, .it .i64 xs⟩]⟩ = some [((decide (((k1 : Nat) : Int) < ((xs_n : Nat) : Int))) = true), (((k1 : Nat) : Int) = ((k1 : Nat) : Int)), (k1 < xs_n), (k1 < (List.length xs)), (Ev Try.prog 91 [.int .i64 (List.getD xs k1 0), .int .i64 lo, .int .i64 hi] [] (.bool ((decide ((List.getD xs k1 0) ≥ lo)) && (decide ((List.getD xs k1 0) ≤ hi)))) []), ((!((decide ((List.getD xs k1 0) ≥ lo)) && (decide ((List.getD xs k1 0) ≤ hi)))) = true), (false = false), (xs = xs)] := by kernel_rfl
      exact PW.of_evL mixed _ _ _ e ⟨(decide_eq_true (by omega)), rfl, (by omega), (by omega), (ev_within ((List.getD xs k1 0)) (lo) (hi)), (congrArg Bool.not (and_fr (decide_eq_false h4))), rfl, rfl, trivial⟩
  ·
    have e : evL Try.prog 21 1 (sub [1, 0, 1, 0, 0] (bodyOf Try.f129)) (ev_allWithin_L1_I xs xs_n lo hi k1 s1) [.b true, .n k1, .c [] (.bool ((decide ((List.getD xs k1 0) ≥ lo)) && (decide ((List.getD xs k1 0) ≤ hi)))) [], .b true] [] [some 0] .ret ⟨[(6, .bool false)], [some ⟨false, .it .i64 xs⟩]⟩ = some [((decide (((k1 : Nat) : Int) < ((xs_n : Nat) : Int))) = true), (((k1 : Nat) : Int) = ((k1 : Nat) : Int)), (k1 < xs_n), (k1 < (List.length xs)), (Ev Try.prog 91 [.int .i64 (List.getD xs k1 0), .int .i64 lo, .int .i64 hi] [] (.bool ((decide ((List.getD xs k1 0) ≥ lo)) && (decide ((List.getD xs k1 0) ≤ hi)))) []), ((!((decide ((List.getD xs k1 0) ≥ lo)) && (decide ((List.getD xs k1 0) ≤ hi)))) = true), (false = false), (xs = xs)] := by kernel_rfl
    exact PW.of_evL mixed _ _ _ e ⟨(decide_eq_true (by omega)), rfl, (by omega), (by omega), (ev_within ((List.getD xs k1 0)) (lo) (hi)), (congrArg Bool.not (and_fl (decide_eq_false h3))), rfl, rfl, trivial⟩

theorem ev_allWithin_L1e (xs : List Int) (xs_n : Nat) (xs_h : xs.length = xs_n) (xs_b : xs_n ≤ 9223372036854775807) (lo : Int) (hi : Int)  (j : Nat) (hj : j < xs_n) (hb : ev_allWithin_L1_good xs xs_n lo hi j (ev_allWithin_L1_S xs xs_n lo hi j) = false) (hL : ∀ k, k < j → ev_allWithin_L1_good xs xs_n lo hi k (ev_allWithin_L1_S xs xs_n lo hi k) = true) : PW Try.prog 21 1 (.loop (sub [1, 0, 1, 0, 0] (bodyOf Try.f129))) (ev_allWithin_L1_I xs xs_n lo hi 0 (ev_allWithin_L1_S xs xs_n lo hi 0)) .ret ⟨[(6, .bool false)], [some ⟨false, .it .i64 xs⟩]⟩ :=
  PW.loop (I := (fun k => ev_allWithin_L1_I xs xs_n lo hi k (ev_allWithin_L1_S xs xs_n lo hi k))) j (by simp) (fun k hk => ev_allWithin_L1_body xs xs_n xs_h xs_b lo hi k _  (Nat.lt_trans hk hj) (hL k hk)) (ev_allWithin_L1_ende xs xs_n xs_h xs_b lo hi _ j  hj hb)

theorem allW_g (xs : List Int) (n : Nat) (lo hi : Int) (h : xs.length = n) : allBelow (fun k => ev_allWithin_L1_good xs n lo hi k ()) n = inW xs lo hi := by
  subst h
  unfold inW
  refine allBelow_congr fun k _ => ?_
  unfold ev_allWithin_L1_good
  (repeat' split) <;> (try simp_all [-List.getD_eq_getElem?_getD]) <;> (try omega)

theorem ev_allWithin (xs : List Int) (xs_n : Nat) (xs_h : xs.length = xs_n) (xs_b : xs_n ≤ 9223372036854775807) (lo : Int) (hi : Int)  : Ev Try.prog 129 [.slice (some ⟨0, 0, none⟩) xs_n 1, .int .i64 lo, .int .i64 hi] [some ⟨false, .it .i64 xs⟩] (.bool (inW xs lo hi)) [some ⟨false, .it .i64 xs⟩] := by
  rcases Bool.eq_false_or_eq_true (allBelow (fun k => ev_allWithin_L1_good xs xs_n lo hi k (ev_allWithin_L1_S xs xs_n lo hi k)) xs_n) with h5 | h5
  ·
    have e : evF Try.prog Try.f129 [.slice (some ⟨0, 0, none⟩) xs_n 1, .int .i64 lo, .int .i64 hi] [some ⟨false, .it .i64 xs⟩] [] [([some 0], (ev_allWithin_L1_I xs xs_n lo hi 0 (ev_allWithin_L1_S xs xs_n lo hi 0)), (.exit 0), ⟨[(0, .slice (some ⟨0, 0, none⟩) xs_n 1), (1, .int .i64 lo), (2, .int .i64 hi), (6, .bool false), (9, .slice (some ⟨0, 0, none⟩) xs_n 1), (10, .int .i64 ((xs_n : Nat) : Int)), (11, .int .i64 ((xs_n : Nat) : Int))], [some ⟨false, .it .i64 xs⟩]⟩)] [some 0] (.bool (inW xs lo hi)) [some ⟨false, .it .i64 xs⟩] = some [(0 = 0), (xs_n = xs_n), (lo = lo), (hi = hi), (false = false), (0 = 0), (xs_n = xs_n), (((xs_n : Nat) : Int) = ((xs_n : Nat) : Int)), ((0 : Int) = ((0 : Nat) : Int)), (xs = xs), (PW Try.prog 21 1 (.loop (sub [1, 0, 1, 0, 0] (bodyOf Try.f129))) (ev_allWithin_L1_I xs xs_n lo hi 0 (ev_allWithin_L1_S xs xs_n lo hi 0)) (.exit 0) ⟨[(0, .slice (some ⟨0, 0, none⟩) xs_n 1), (1, .int .i64 lo), (2, .int .i64 hi), (6, .bool false), (9, .slice (some ⟨0, 0, none⟩) xs_n 1), (10, .int .i64 ((xs_n : Nat) : Int)), (11, .int .i64 ((xs_n : Nat) : Int))], [some ⟨false, .it .i64 xs⟩]⟩), (true = (inW xs lo hi)), (xs = xs)] := by kernel_rfl
    exact Ev.of mixed _ _ _ Try.func129 (by kernel_rfl) e ⟨rfl, rfl, rfl, rfl, rfl, rfl, rfl, rfl, (by omega), rfl, (ev_allWithin_L1 xs xs_n xs_h xs_b lo hi (allBelow_true.1 (show (allBelow (fun k => ev_allWithin_L1_good xs xs_n lo hi k (ev_allWithin_L1_S xs xs_n lo hi k)) xs_n) = true from h5))), (by clear e; rw [← allW_g xs xs_n lo hi xs_h]; symm; assumption), rfl, trivial⟩
  ·
    have e : evF Try.prog Try.f129 [.slice (some ⟨0, 0, none⟩) xs_n 1, .int .i64 lo, .int .i64 hi] [some ⟨false, .it .i64 xs⟩] [] [([some 0], (ev_allWithin_L1_I xs xs_n lo hi 0 (ev_allWithin_L1_S xs xs_n lo hi 0)), .ret, ⟨[(6, .bool false)], [some ⟨false, .it .i64 xs⟩]⟩)] [some 0] (.bool (inW xs lo hi)) [some ⟨false, .it .i64 xs⟩] = some [(0 = 0), (xs_n = xs_n), (lo = lo), (hi = hi), (false = false), (0 = 0), (xs_n = xs_n), (((xs_n : Nat) : Int) = ((xs_n : Nat) : Int)), ((0 : Int) = ((0 : Nat) : Int)), (xs = xs), (PW Try.prog 21 1 (.loop (sub [1, 0, 1, 0, 0] (bodyOf Try.f129))) (ev_allWithin_L1_I xs xs_n lo hi 0 (ev_allWithin_L1_S xs xs_n lo hi 0)) .ret ⟨[(6, .bool false)], [some ⟨false, .it .i64 xs⟩]⟩), (false = (inW xs lo hi)), (xs = xs)] := by kernel_rfl
    exact Ev.of mixed _ _ _ Try.func129 (by kernel_rfl) e ⟨rfl, rfl, rfl, rfl, rfl, rfl, rfl, rfl, (by omega), rfl, (ev_allWithin_L1e xs xs_n xs_h xs_b lo hi (firstF (fun k => ev_allWithin_L1_good xs xs_n lo hi k (ev_allWithin_L1_S xs xs_n lo hi k)) xs_n) (firstF_lt (show (allBelow (fun k => ev_allWithin_L1_good xs xs_n lo hi k (ev_allWithin_L1_S xs xs_n lo hi k)) xs_n) = false from h5)) (firstF_false (show (allBelow (fun k => ev_allWithin_L1_good xs xs_n lo hi k (ev_allWithin_L1_S xs xs_n lo hi k)) xs_n) = false from h5)) (firstF_before (show (allBelow (fun k => ev_allWithin_L1_good xs xs_n lo hi k (ev_allWithin_L1_S xs xs_n lo hi k)) xs_n) = false from h5))), (by clear e; rw [← allW_g xs xs_n lo hi xs_h]; symm; assumption), rfl, trivial⟩

theorem ev_isNaNI (a : Int)  : Ev Try.prog 198 [.int .i64 a] [] (.bool false) [] := by
  have e : evF Try.prog Try.f198 [.int .i64 a] [] [] [] [] (.bool false) [] = some [((a != a) = false)] := by kernel_rfl
  exact Ev.of mixed _ _ _ Try.func198 (by kernel_rfl) e ⟨(bne_eq_false_iff_eq.2 (by omega)), trivial⟩

theorem ev_LessI (a : Int) (b : Int)  : Ev Try.prog 171 [.int .i64 a, .int .i64 b] [] (.bool (decide (a < b))) [] := by
  have e : evF Try.prog Try.f171 [.int .i64 a, .int .i64 b] [] [.c [] (.bool false) [], .b false, .b false, .b false, .b false, .b false, .b false, .b false, .b false] [] [] (.bool (decide (a < b))) [] = some [(Ev Try.prog 198 [.int .i64 a] [] (.bool false) []), (false = false), (false = false), (false = false), (false = false), (false = false), (false = false), (false = false), (false = false), ((decide (a < b)) = (decide (a < b)))] := by kernel_rfl
  exact Ev.of mixed _ _ _ Try.func171 (by kernel_rfl) e ⟨(ev_isNaNI (a)), rfl, rfl, rfl, rfl, rfl, rfl, rfl, rfl, rfl, trivial⟩

def ev_IsSorted_L1_step (xs : List Int) (xs_n : Nat) (k1 : Nat) (s1 : Unit) : Unit := ()

def ev_IsSorted_L1_S (xs : List Int) (xs_n : Nat) : Nat → Unit
  | 0 => ()
  | k + 1 => ev_IsSorted_L1_step xs xs_n k (ev_IsSorted_L1_S xs xs_n k)

def ev_IsSorted_L1_I (xs : List Int) (xs_n : Nat) (k1 : Nat) (s1 : Unit) : St := ⟨[(0, .slice (some ⟨0, 0, none⟩) xs_n 1), (2, .bool false), (3, .int .i64 ((((xs_n : Nat) : Int) - (1 : Int)) + (-1 : Int) * ((k1 : Nat) : Int)))], [some ⟨false, .it .i64 xs⟩]⟩

def ev_IsSorted_L1_good (xs : List Int) (xs_n : Nat) (k1 : Nat) (s1 : Unit) : Bool := (if (List.getD xs (xs_n - (k1 + 1)) 0) < (List.getD xs (xs_n - (k1 + 2)) 0) then false else true)

theorem ev_IsSorted_L1_body (xs : List Int) (xs_n : Nat) (xs_h : xs.length = xs_n) (xs_b : xs_n ≤ 9223372036854775807)  (k1 : Nat) (s1 : Unit)  (hk_k1 : k1 < (xs_n - 1)) (hg : ev_IsSorted_L1_good xs xs_n k1 s1 = true) : PW Try.prog 21 1 (sub [1, 0, 1, 0, 0] (bodyOf Try.f128)) (ev_IsSorted_L1_I xs xs_n k1 s1) .normal (ev_IsSorted_L1_I xs xs_n (k1 + 1) (ev_IsSorted_L1_step xs xs_n k1 s1)) := by
  by_cases h1 : (List.getD xs (xs_n - (k1 + 1)) 0) < (List.getD xs (xs_n - (k1 + 2)) 0)
  ·
    exact absurd hg (by simp [-List.getD_eq_getElem?_getD, ev_IsSorted_L1_good, h1, xs_h])
  ·
    have e : evL Try.prog 21 1 (sub [1, 0, 1, 0, 0] (bodyOf Try.f128)) (ev_IsSorted_L1_I xs xs_n k1 s1) [.b true, .n (xs_n - (k1 + 1)), .n (xs_n - (k1 + 2)), .c [] (.bool (decide ((List.getD xs (xs_n - (k1 + 1)) 0) < (List.getD xs (xs_n - (k1 + 2)) 0)))) [], .b false] [] [some 0] .normal (ev_IsSorted_L1_I xs xs_n (k1 + 1) (ev_IsSorted_L1_step xs xs_n k1 s1)) = some [((decide (((((xs_n : Nat) : Int) - (1 : Int)) + (-1 : Int) * ((k1 : Nat) : Int)) > (0 : Int))) = true), (((((xs_n : Nat) : Int) - (1 : Int)) + (-1 : Int) * ((k1 : Nat) : Int)) = (((xs_n - (k1 + 1)) : Nat) : Int)), ((xs_n - (k1 + 1)) < xs_n), ((xs_n - (k1 + 1)) < (List.length xs)), (inR .i64 (((((xs_n : Nat) : Int) - (1 : Int)) + (-1 : Int) * ((k1 : Nat) : Int)) - (1 : Int))), ((((((xs_n : Nat) : Int) - (1 : Int)) + (-1 : Int) * ((k1 : Nat) : Int)) - (1 : Int)) = (((xs_n - (k1 + 2)) : Nat) : Int)), ((xs_n - (k1 + 2)) < xs_n), ((xs_n - (k1 + 2)) < (List.length xs)), (Ev Try.prog 171 [.int .i64 (List.getD xs (xs_n - (k1 + 1)) 0), .int .i64 (List.getD xs (xs_n - (k1 + 2)) 0)] [] (.bool (decide ((List.getD xs (xs_n - (k1 + 1)) 0) < (List.getD xs (xs_n - (k1 + 2)) 0)))) []), ((decide ((List.getD xs (xs_n - (k1 + 1)) 0) < (List.getD xs (xs_n - (k1 + 2)) 0))) = false), (inR .i64 (((((xs_n : Nat) : Int) - (1 : Int)) + (-1 : Int) * ((k1 : Nat) : Int)) - (1 : Int))), (0 = 0), (xs_n = xs_n), (false = false), ((((((xs_n : Nat) : Int) - (1 : Int)) + (-1 : Int) * ((k1 : Nat) : Int)) - (1 : Int)) = ((((xs_n : Nat) : Int) - (1 : Int)) + (-1 : Int) * (((k1 + 1) : Nat) : Int))), (xs = xs)] := by kernel_rfl
    exact PW.of_evL mixed _ _ _ e ⟨(decide_eq_true (by omega)), (by omega), (by omega), (by omega), (inR64 (by omega) (by omega)), (by omega), (by omega), (by omega), (ev_LessI ((List.getD xs (xs_n - (k1 + 1)) 0)) ((List.getD xs (xs_n - (k1 + 2)) 0))), (decide_eq_false h1), (inR64 (by omega) (by omega)), rfl, rfl, rfl, (by omega), rfl, trivial⟩

theorem ev_IsSorted_L1_end (xs : List Int) (xs_n : Nat) (xs_h : xs.length = xs_n) (xs_b : xs_n ≤ 9223372036854775807)  (s1 : Unit)  : PW Try.prog 21 1 (sub [1, 0, 1, 0, 0] (bodyOf Try.f128)) (ev_IsSorted_L1_I xs xs_n (xs_n - 1) s1) (.exit 0) ⟨[(0, .slice (some ⟨0, 0, none⟩) xs_n 1), (2, .bool false), (3, .int .i64 ((((xs_n : Nat) : Int) - (1 : Int)) + (-1 : Int) * (((xs_n - 1) : Nat) : Int)))], [some ⟨false, .it .i64 xs⟩]⟩ := by
  have e : evL Try.prog 21 1 (sub [1, 0, 1, 0, 0] (bodyOf Try.f128)) (ev_IsSorted_L1_I xs xs_n (xs_n - 1) s1) [.b false] [] [some 0] (.exit 0) ⟨[(0, .slice (some ⟨0, 0, none⟩) xs_n 1), (2, .bool false), (3, .int .i64 ((((xs_n : Nat) : Int) - (1 : Int)) + (-1 : Int) * (((xs_n - 1) : Nat) : Int)))], [some ⟨false, .it .i64 xs⟩]⟩ = some [((decide (((((xs_n : Nat) : Int) - (1 : Int)) + (-1 : Int) * (((xs_n - 1) : Nat) : Int)) > (0 : Int))) = false), (0 = 0), (xs_n = xs_n), (false = false), (((((xs_n : Nat) : Int) - (1 : Int)) + (-1 : Int) * (((xs_n - 1) : Nat) : Int)) = ((((xs_n : Nat) : Int) - (1 : Int)) + (-1 : Int) * (((xs_n - 1) : Nat) : Int))), (xs = xs)] := by kernel_rfl
  exact PW.of_evL mixed _ _ _ e ⟨(decide_eq_false (by omega)), rfl, rfl, rfl, rfl, rfl, trivial⟩

theorem ev_IsSorted_L1 (xs : List Int) (xs_n : Nat) (xs_h : xs.length = xs_n) (xs_b : xs_n ≤ 9223372036854775807)  (hL : ∀ k, k < (xs_n - 1) → ev_IsSorted_L1_good xs xs_n k (ev_IsSorted_L1_S xs xs_n k) = true) : PW Try.prog 21 1 (.loop (sub [1, 0, 1, 0, 0] (bodyOf Try.f128))) (ev_IsSorted_L1_I xs xs_n 0 (ev_IsSorted_L1_S xs xs_n 0)) (.exit 0) ⟨[(0, .slice (some ⟨0, 0, none⟩) xs_n 1), (2, .bool false), (3, .int .i64 ((((xs_n : Nat) : Int) - (1 : Int)) + (-1 : Int) * (((xs_n - 1) : Nat) : Int)))], [some ⟨false, .it .i64 xs⟩]⟩ :=
  PW.loop (I := (fun k => ev_IsSorted_L1_I xs xs_n k (ev_IsSorted_L1_S xs xs_n k))) (xs_n - 1) (by simp) (fun k hk => ev_IsSorted_L1_body xs xs_n xs_h xs_b k _  hk (hL k hk)) (ev_IsSorted_L1_end xs xs_n xs_h xs_b _ )

theorem ev_IsSorted_L1_ende (xs : List Int) (xs_n : Nat) (xs_h : xs.length = xs_n) (xs_b : xs_n ≤ 9223372036854775807)  (s1 : Unit) (k1 : Nat)  (hk_k1 : k1 < (xs_n - 1)) (hb : ev_IsSorted_L1_good xs xs_n k1 s1 = false) : PW Try.prog 21 1 (sub [1, 0, 1, 0, 0] (bodyOf Try.f128)) (ev_IsSorted_L1_I xs xs_n k1 s1) .ret ⟨[(2, .bool false)], [some ⟨false, .it .i64 xs⟩]⟩ := by
  by_cases h2 : (List.getD xs (xs_n - (k1 + 1)) 0) < (List.getD xs (xs_n - (k1 + 2)) 0)
  ·
    have e : evL Try.prog 21 1 (sub [1, 0, 1, 0, 0] (bodyOf Try.f128)) (ev_IsSorted_L1_I xs xs_n k1 s1) [.b true, .n (xs_n - (k1 + 1)), .n (xs_n - (k1 + 2)), .c [] (.bool (decide ((List.getD xs (xs_n - (k1 + 1)) 0) < (List.getD xs (xs_n - (k1 + 2)) 0)))) [], .b true] [] [some 0] .ret ⟨[(2, .bool false)], [some ⟨false, .it .i64 xs⟩]⟩ = some [((decide (((((xs_n : Nat) : Int) - (1 : Int)) + (-1 : Int) * ((k1 : Nat) : Int)) > (0 : Int))) = true), (((((xs_n : Nat) : Int) - (1 : Int)) + (-1 : Int) * ((k1 : Nat) : Int)) = (((xs_n - (k1 + 1)) : Nat) : Int)), ((xs_n - (k1 + 1)) < xs_n), ((xs_n - (k1 + 1)) < (List.length xs)), (inR .i64 (((((xs_n : Nat) : Int) - (1 : Int)) + (-1 : Int) * ((k1 : Nat) : Int)) - (1 : Int))), ((((((xs_n : Nat) : Int) - (1 : Int)) + (-1 : Int) * ((k1 : Nat) : Int)) - (1 : Int)) = (((xs_n - (k1 + 2)) : Nat) : Int)), ((xs_n - (k1 + 2)) < xs_n), ((xs_n - (k1 + 2)) < (List.length xs)), (Ev Try.prog 171 [.int .i64 (List.getD xs (xs_n - (k1 + 1)) 0), .int .i64 (List.getD xs (xs_n - (k1 + 2)) 0)] [] (.bool (decide ((List.getD xs (xs_n - (k1 + 1)) 0) < (List.getD xs (xs_n - (k1 + 2)) 0)))) []), ((decide ((List.getD xs (xs_n - (k1 + 1)) 0) < (List.getD xs (xs_n - (k1 + 2)) 0))) = true), (false = false), (xs = xs)] := by kernel_rfl
    exact PW.of_evL mixed _ _ _ e ⟨(decide_eq_true (by omega)), (by omega), (by omega), (by omega), (inR64 (by omega) (by omega)), (by omega), (by omega), (by omega), (ev_LessI ((List.getD xs (xs_n - (k1 + 1)) 0)) ((List.getD xs (xs_n - (k1 + 2)) 0))), (decide_eq_true h2), rfl, rfl, trivial⟩
  ·
    exact absurd hb (by simp [-List.getD_eq_getElem?_getD, ev_IsSorted_L1_good, h2, xs_h])

theorem ev_IsSorted_L1e (xs : List Int) (xs_n : Nat) (xs_h : xs.length = xs_n) (xs_b : xs_n ≤ 9223372036854775807)  (j : Nat) (hj : j < (xs_n - 1)) (hb : ev_IsSorted_L1_good xs xs_n j (ev_IsSorted_L1_S xs xs_n j) = false) (hL : ∀ k, k < j → ev_IsSorted_L1_good xs xs_n k (ev_IsSorted_L1_S xs xs_n k) = true) : PW Try.prog 21 1 (.loop (sub [1, 0, 1, 0, 0] (bodyOf Try.f128))) (ev_IsSorted_L1_I xs xs_n 0 (ev_IsSorted_L1_S xs xs_n 0)) .ret ⟨[(2, .bool false)], [some ⟨false, .it .i64 xs⟩]⟩ :=
  PW.loop (I := (fun k => ev_IsSorted_L1_I xs xs_n k (ev_IsSorted_L1_S xs xs_n k))) j (by simp) (fun k hk => ev_IsSorted_L1_body xs xs_n xs_h xs_b k _  (Nat.lt_trans hk hj) (hL k hk)) (ev_IsSorted_L1_ende xs xs_n xs_h xs_b _ j  hj hb)

theorem sorted_g (xs : List Int) (n : Nat) (h : xs.length = n) : allBelow (fun k => ev_IsSorted_L1_good xs n k (ev_IsSorted_L1_S xs n k)) (n - 1) = srtI xs := by
  subst h
  unfold srtI
  rw [← allBelow_rev (fun k => !decide (xs.getD (k + 1) 0 < xs.getD k 0))]
  refine allBelow_congr fun k hk => ?_
  have e1 : xs.length - (k + 1) = xs.length - 1 - 1 - k + 1 := by omega
  have e2 : xs.length - (k + 2) = xs.length - 1 - 1 - k := by omega
  unfold ev_IsSorted_L1_good
  rw [e1, e2, ite_dec']

theorem ev_IsSorted (xs : List Int) (xs_n : Nat) (xs_h : xs.length = xs_n) (xs_b : xs_n ≤ 9223372036854775807)  : Ev Try.prog 128 [.slice (some ⟨0, 0, none⟩) xs_n 1] [some ⟨false, .it .i64 xs⟩] (.bool (srtI xs)) [some ⟨false, .it .i64 xs⟩] := by
  rcases Bool.eq_false_or_eq_true (allBelow (fun k => ev_IsSorted_L1_good xs xs_n k (ev_IsSorted_L1_S xs xs_n k)) (xs_n - 1)) with h3 | h3
  ·
    have e : evF Try.prog Try.f128 [.slice (some ⟨0, 0, none⟩) xs_n 1] [some ⟨false, .it .i64 xs⟩] [] [([some 0], (ev_IsSorted_L1_I xs xs_n 0 (ev_IsSorted_L1_S xs xs_n 0)), (.exit 0), ⟨[(0, .slice (some ⟨0, 0, none⟩) xs_n 1), (2, .bool false), (3, .int .i64 ((((xs_n : Nat) : Int) - (1 : Int)) + (-1 : Int) * (((xs_n - 1) : Nat) : Int)))], [some ⟨false, .it .i64 xs⟩]⟩)] [some 0] (.bool (srtI xs)) [some ⟨false, .it .i64 xs⟩] = some [(inR .i64 (((xs_n : Nat) : Int) - (1 : Int))), (0 = 0), (xs_n = xs_n), (false = false), ((((xs_n : Nat) : Int) - (1 : Int)) = ((((xs_n : Nat) : Int) - (1 : Int)) + (-1 : Int) * ((0 : Nat) : Int))), (xs = xs), (PW Try.prog 21 1 (.loop (sub [1, 0, 1, 0, 0] (bodyOf Try.f128))) (ev_IsSorted_L1_I xs xs_n 0 (ev_IsSorted_L1_S xs xs_n 0)) (.exit 0) ⟨[(0, .slice (some ⟨0, 0, none⟩) xs_n 1), (2, .bool false), (3, .int .i64 ((((xs_n : Nat) : Int) - (1 : Int)) + (-1 : Int) * (((xs_n - 1) : Nat) : Int)))], [some ⟨false, .it .i64 xs⟩]⟩), (true = (srtI xs)), (xs = xs)] := by kernel_rfl
    exact Ev.of mixed _ _ _ Try.func128 (by kernel_rfl) e ⟨(inR64 (by omega) (by omega)), rfl, rfl, rfl, (by omega), rfl, (ev_IsSorted_L1 xs xs_n xs_h xs_b (allBelow_true.1 (show (allBelow (fun k => ev_IsSorted_L1_good xs xs_n k (ev_IsSorted_L1_S xs xs_n k)) (xs_n - 1)) = true from h3))), (by clear e; rw [← sorted_g xs xs_n xs_h]; symm; assumption), rfl, trivial⟩
  ·
    have e : evF Try.prog Try.f128 [.slice (some ⟨0, 0, none⟩) xs_n 1] [some ⟨false, .it .i64 xs⟩] [] [([some 0], (ev_IsSorted_L1_I xs xs_n 0 (ev_IsSorted_L1_S xs xs_n 0)), .ret, ⟨[(2, .bool false)], [some ⟨false, .it .i64 xs⟩]⟩)] [some 0] (.bool (srtI xs)) [some ⟨false, .it .i64 xs⟩] = some [(inR .i64 (((xs_n : Nat) : Int) - (1 : Int))), (0 = 0), (xs_n = xs_n), (false = false), ((((xs_n : Nat) : Int) - (1 : Int)) = ((((xs_n : Nat) : Int) - (1 : Int)) + (-1 : Int) * ((0 : Nat) : Int))), (xs = xs), (PW Try.prog 21 1 (.loop (sub [1, 0, 1, 0, 0] (bodyOf Try.f128))) (ev_IsSorted_L1_I xs xs_n 0 (ev_IsSorted_L1_S xs xs_n 0)) .ret ⟨[(2, .bool false)], [some ⟨false, .it .i64 xs⟩]⟩), (false = (srtI xs)), (xs = xs)] := by kernel_rfl
    exact Ev.of mixed _ _ _ Try.func128 (by kernel_rfl) e ⟨(inR64 (by omega) (by omega)), rfl, rfl, rfl, (by omega), rfl, (ev_IsSorted_L1e xs xs_n xs_h xs_b (firstF (fun k => ev_IsSorted_L1_good xs xs_n k (ev_IsSorted_L1_S xs xs_n k)) (xs_n - 1)) (firstF_lt (show (allBelow (fun k => ev_IsSorted_L1_good xs xs_n k (ev_IsSorted_L1_S xs xs_n k)) (xs_n - 1)) = false from h3)) (firstF_false (show (allBelow (fun k => ev_IsSorted_L1_good xs xs_n k (ev_IsSorted_L1_S xs xs_n k)) (xs_n - 1)) = false from h3)) (firstF_before (show (allBelow (fun k => ev_IsSorted_L1_good xs xs_n k (ev_IsSorted_L1_S xs xs_n k)) (xs_n - 1)) = false from h3))), (by clear e; rw [← sorted_g xs xs_n xs_h]; symm; assumption), rfl, trivial⟩

end Go.Sim
