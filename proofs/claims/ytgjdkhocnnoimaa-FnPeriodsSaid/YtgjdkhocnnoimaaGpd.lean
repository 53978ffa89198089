/- What the law FnPeriods reaches computes. Conditions: none. -/

import Derived.Test.YtgjdkhocnnoimaaProg
import Derived.KernelRfl
import Derived.Test.YtgjdkhocnnoimaaGpe
import Derived.Test.YtgjdkhocnnoimaaGbs
import Derived.Test.YtgjdkhocnnoimaaGga
import Derived.Test.YtgjdkhocnnoimaaPvN

set_option linter.unusedSimpArgs false

set_option linter.unusedVariables false

namespace Go.Sim

open Go Go.Proofs

def ev_Crossings_L1_step (xs : List Nat) (xs_n : Nat) (k1 : Nat) (s1 : Int) : Int := (if (fcmp .geq .f32 (List.getD xs (1 + k1) 0) 0) then (if (fcmp .geq .f32 (List.getD xs k1 0) 0) then s1 else (s1 + (1 : Int))) else (if (fcmp .geq .f32 (List.getD xs k1 0) 0) then (s1 + (1 : Int)) else s1))

def ev_Crossings_L1_S (xs : List Nat) (xs_n : Nat) : Nat → Int
  | 0 => (0 : Int)
  | k + 1 => ev_Crossings_L1_step xs xs_n k (ev_Crossings_L1_S xs xs_n k)

def ev_Crossings_L1_I (xs : List Nat) (xs_n : Nat) (k1 : Nat) (s1 : Int) : St := ⟨[(0, .slice (some ⟨0, 0, none⟩) xs_n 1), (2, .int .i64 (0 : Int)), (3, .bool false), (4, .int .i64 s1), (5, .int .i64 (((1 + k1) : Nat) : Int)), (8, .bool (!(isSnd xs)))], [some ⟨false, .fl .f32 xs⟩]⟩

theorem ev_Crossings_L1_inv (xs : List Nat) (xs_n : Nat) (xs_h : xs.length = xs_n) (xs_b : xs_n ≤ 9223372036854775807)  (h1 : (isSnd xs) = true) (h1f : List.length xs ≤ 256) : ∀ k, (0 : Int) + (0 : Int) * ((k : Nat) : Int) ≤ (ev_Crossings_L1_S xs xs_n k) ∧ (ev_Crossings_L1_S xs xs_n k) ≤ (0 : Int) + (1 : Int) * ((k : Nat) : Int) := by
  intro k
  induction k with
  | zero => simp [ev_Crossings_L1_S, List.length_set, List.length_append, List.length_replicate, List.length_cons, List.length_nil, List.length_take, List.length_drop, rowAdd_eq, xs_h]
  | succ k ih =>
    simp only [ev_Crossings_L1_S]
    generalize ev_Crossings_L1_S xs xs_n k = s at ih ⊢
    unfold ev_Crossings_L1_step
    first
    | (simp [-List.getD_eq_getElem?_getD, List.length_set, List.length_append, List.length_replicate, List.length_cons, List.length_nil, List.length_take, List.length_drop, rowAdd_eq, xs_h, ih]; done)
    | ((repeat' split) <;> (simp_all [-List.getD_eq_getElem?_getD, List.length_set, List.length_append, List.length_replicate, List.length_cons, List.length_nil, List.length_take, List.length_drop, rowAdd_eq, xs_h]) <;> omega)
    | ((repeat' split) <;> (simp_all [-List.getD_eq_getElem?_getD, List.length_set, List.length_append, List.length_replicate, List.length_cons, List.length_nil, List.length_take, List.length_drop, rowAdd_eq, xs_h]); done)

theorem ev_Crossings_L1_inv0 (xs : List Nat) (xs_n : Nat) (xs_h : xs.length = xs_n) (xs_b : xs_n ≤ 9223372036854775807)  (h1 : (isSnd xs) = true) (h1f : List.length xs ≤ 256) (k : Nat) : (0 : Int) + (0 : Int) * ((k : Nat) : Int) ≤ (ev_Crossings_L1_S xs xs_n k) ∧ (ev_Crossings_L1_S xs xs_n k) ≤ (0 : Int) + (1 : Int) * ((k : Nat) : Int) := (ev_Crossings_L1_inv xs xs_n xs_h xs_b h1 h1f k)

theorem ev_Crossings_L1_body (xs : List Nat) (xs_n : Nat) (xs_h : xs.length = xs_n) (xs_b : xs_n ≤ 9223372036854775807)  (h1 : (isSnd xs) = true) (h1f : List.length xs ≤ 256) (k1 : Nat) (s1 : Int) (s1_i0 : (0 : Int) + (0 : Int) * ((k1 : Nat) : Int) ≤ s1 ∧ s1 ≤ (0 : Int) + (1 : Int) * ((k1 : Nat) : Int)) (hk_k1 : k1 < (xs_n - 1))  : PW Try.prog 30 1 (sub [1, 1, 1, 0, 1, 0, 0] (bodyOf Try.f20)) (ev_Crossings_L1_I xs xs_n k1 s1) .normal (ev_Crossings_L1_I xs xs_n (k1 + 1) (ev_Crossings_L1_step xs xs_n k1 s1)) := by
  rcases Bool.eq_false_or_eq_true (fcmp .geq .f32 (List.getD xs (1 + k1) 0) 0) with h2 | h2
  ·
    rcases Bool.eq_false_or_eq_true (fcmp .geq .f32 (List.getD xs k1 0) 0) with h3 | h3
    ·
      have e : evL Try.prog 30 1 (sub [1, 1, 1, 0, 1, 0, 0] (bodyOf Try.f20)) (ev_Crossings_L1_I xs xs_n k1 s1) [.b true, .n (1 + k1), .n k1, .b false] [] [some 0] .normal (ev_Crossings_L1_I xs xs_n (k1 + 1) (ev_Crossings_L1_step xs xs_n k1 s1)) = some [((decide ((((1 + k1) : Nat) : Int) < ((xs_n : Nat) : Int))) = true), ((((1 + k1) : Nat) : Int) = (((1 + k1) : Nat) : Int)), ((1 + k1) < xs_n), ((1 + k1) < (List.length xs)), (inR .i64 ((((1 + k1) : Nat) : Int) - (1 : Int))), (((((1 + k1) : Nat) : Int) - (1 : Int)) = ((k1 : Nat) : Int)), (k1 < xs_n), (k1 < (List.length xs)), ((!((fcmp .geq .f32 (List.getD xs (1 + k1) 0) 0) == (fcmp .geq .f32 (List.getD xs k1 0) 0))) = false), (inR .i64 ((((1 + k1) : Nat) : Int) + (1 : Int))), (0 = 0), (xs_n = xs_n), ((0 : Int) = (0 : Int)), (false = false), (s1 = (ev_Crossings_L1_step xs xs_n k1 s1)), (((((1 + k1) : Nat) : Int) + (1 : Int)) = (((1 + (k1 + 1)) : Nat) : Int)), ((!(isSnd xs)) = (!(isSnd xs))), (xs = xs)] := by kernel_rfl
      exact PW.of_evL mixed _ _ _ e ⟨(decide_eq_true (by omega)), rfl, (by omega), (by omega), (inR64 (by omega) (by omega)), (by omega), (by omega), (by omega), (congrArg Bool.not ((beq_of h2 h3).trans rfl)), (inR64 (by omega) (by omega)), rfl, rfl, rfl, rfl, (by first | (simp [-List.getD_eq_getElem?_getD, ev_Crossings_L1_step, h1, h2, h3, xs_h]; done) | (simp_all [-List.getD_eq_getElem?_getD, ev_Crossings_L1_step, xs_h]; done)), (by omega), rfl, rfl, trivial⟩
    ·
      have e : evL Try.prog 30 1 (sub [1, 1, 1, 0, 1, 0, 0] (bodyOf Try.f20)) (ev_Crossings_L1_I xs xs_n k1 s1) [.b true, .n (1 + k1), .n k1, .b true] [] [some 0] .normal (ev_Crossings_L1_I xs xs_n (k1 + 1) (ev_Crossings_L1_step xs xs_n k1 s1)) = some [((decide ((((1 + k1) : Nat) : Int) < ((xs_n : Nat) : Int))) = true), ((((1 + k1) : Nat) : Int) = (((1 + k1) : Nat) : Int)), ((1 + k1) < xs_n), ((1 + k1) < (List.length xs)), (inR .i64 ((((1 + k1) : Nat) : Int) - (1 : Int))), (((((1 + k1) : Nat) : Int) - (1 : Int)) = ((k1 : Nat) : Int)), (k1 < xs_n), (k1 < (List.length xs)), ((!((fcmp .geq .f32 (List.getD xs (1 + k1) 0) 0) == (fcmp .geq .f32 (List.getD xs k1 0) 0))) = true), (inR .i64 (s1 + (1 : Int))), (inR .i64 ((((1 + k1) : Nat) : Int) + (1 : Int))), (0 = 0), (xs_n = xs_n), ((0 : Int) = (0 : Int)), (false = false), ((s1 + (1 : Int)) = (ev_Crossings_L1_step xs xs_n k1 s1)), (((((1 + k1) : Nat) : Int) + (1 : Int)) = (((1 + (k1 + 1)) : Nat) : Int)), ((!(isSnd xs)) = (!(isSnd xs))), (xs = xs)] := by kernel_rfl
      exact PW.of_evL mixed _ _ _ e ⟨(decide_eq_true (by omega)), rfl, (by omega), (by omega), (inR64 (by omega) (by omega)), (by omega), (by omega), (by omega), (congrArg Bool.not ((beq_of h2 h3).trans rfl)), (inR64 (by omega) (by omega)), (inR64 (by omega) (by omega)), rfl, rfl, rfl, rfl, (by first | (simp [-List.getD_eq_getElem?_getD, ev_Crossings_L1_step, h1, h2, h3, xs_h]; done) | (simp_all [-List.getD_eq_getElem?_getD, ev_Crossings_L1_step, xs_h]; done)), (by omega), rfl, rfl, trivial⟩
  ·
    rcases Bool.eq_false_or_eq_true (fcmp .geq .f32 (List.getD xs k1 0) 0) with h4 | h4
    ·
      have e : evL Try.prog 30 1 (sub [1, 1, 1, 0, 1, 0, 0] (bodyOf Try.f20)) (ev_Crossings_L1_I xs xs_n k1 s1) [.b true, .n (1 + k1), .n k1, .b true] [] [some 0] .normal (ev_Crossings_L1_I xs xs_n (k1 + 1) (ev_Crossings_L1_step xs xs_n k1 s1)) = some [((decide ((((1 + k1) : Nat) : Int) < ((xs_n : Nat) : Int))) = true), ((((1 + k1) : Nat) : Int) = (((1 + k1) : Nat) : Int)), ((1 + k1) < xs_n), ((1 + k1) < (List.length xs)), (inR .i64 ((((1 + k1) : Nat) : Int) - (1 : Int))), (((((1 + k1) : Nat) : Int) - (1 : Int)) = ((k1 : Nat) : Int)), (k1 < xs_n), (k1 < (List.length xs)), ((!((fcmp .geq .f32 (List.getD xs (1 + k1) 0) 0) == (fcmp .geq .f32 (List.getD xs k1 0) 0))) = true), (inR .i64 (s1 + (1 : Int))), (inR .i64 ((((1 + k1) : Nat) : Int) + (1 : Int))), (0 = 0), (xs_n = xs_n), ((0 : Int) = (0 : Int)), (false = false), ((s1 + (1 : Int)) = (ev_Crossings_L1_step xs xs_n k1 s1)), (((((1 + k1) : Nat) : Int) + (1 : Int)) = (((1 + (k1 + 1)) : Nat) : Int)), ((!(isSnd xs)) = (!(isSnd xs))), (xs = xs)] := by kernel_rfl
      exact PW.of_evL mixed _ _ _ e ⟨(decide_eq_true (by omega)), rfl, (by omega), (by omega), (inR64 (by omega) (by omega)), (by omega), (by omega), (by omega), (congrArg Bool.not ((beq_of h2 h4).trans rfl)), (inR64 (by omega) (by omega)), (inR64 (by omega) (by omega)), rfl, rfl, rfl, rfl, (by first | (simp [-List.getD_eq_getElem?_getD, ev_Crossings_L1_step, h1, h2, h4, xs_h]; done) | (simp_all [-List.getD_eq_getElem?_getD, ev_Crossings_L1_step, xs_h]; done)), (by omega), rfl, rfl, trivial⟩
    ·
      have e : evL Try.prog 30 1 (sub [1, 1, 1, 0, 1, 0, 0] (bodyOf Try.f20)) (ev_Crossings_L1_I xs xs_n k1 s1) [.b true, .n (1 + k1), .n k1, .b false] [] [some 0] .normal (ev_Crossings_L1_I xs xs_n (k1 + 1) (ev_Crossings_L1_step xs xs_n k1 s1)) = some [((decide ((((1 + k1) : Nat) : Int) < ((xs_n : Nat) : Int))) = true), ((((1 + k1) : Nat) : Int) = (((1 + k1) : Nat) : Int)), ((1 + k1) < xs_n), ((1 + k1) < (List.length xs)), (inR .i64 ((((1 + k1) : Nat) : Int) - (1 : Int))), (((((1 + k1) : Nat) : Int) - (1 : Int)) = ((k1 : Nat) : Int)), (k1 < xs_n), (k1 < (List.length xs)), ((!((fcmp .geq .f32 (List.getD xs (1 + k1) 0) 0) == (fcmp .geq .f32 (List.getD xs k1 0) 0))) = false), (inR .i64 ((((1 + k1) : Nat) : Int) + (1 : Int))), (0 = 0), (xs_n = xs_n), ((0 : Int) = (0 : Int)), (false = false), (s1 = (ev_Crossings_L1_step xs xs_n k1 s1)), (((((1 + k1) : Nat) : Int) + (1 : Int)) = (((1 + (k1 + 1)) : Nat) : Int)), ((!(isSnd xs)) = (!(isSnd xs))), (xs = xs)] := by kernel_rfl
      exact PW.of_evL mixed _ _ _ e ⟨(decide_eq_true (by omega)), rfl, (by omega), (by omega), (inR64 (by omega) (by omega)), (by omega), (by omega), (by omega), (congrArg Bool.not ((beq_of h2 h4).trans rfl)), (inR64 (by omega) (by omega)), rfl, rfl, rfl, rfl, (by first | (simp [-List.getD_eq_getElem?_getD, ev_Crossings_L1_step, h1, h2, h4, xs_h]; done) | (simp_all [-List.getD_eq_getElem?_getD, ev_Crossings_L1_step, xs_h]; done)), (by omega), rfl, rfl, trivial⟩

theorem ev_Crossings_L1_end (xs : List Nat) (xs_n : Nat) (xs_h : xs.length = xs_n) (xs_b : xs_n ≤ 9223372036854775807)  (h1 : (isSnd xs) = true) (h1f : List.length xs ≤ 256) (s1 : Int) (s1_i0 : (0 : Int) + (0 : Int) * (((xs_n - 1) : Nat) : Int) ≤ s1 ∧ s1 ≤ (0 : Int) + (1 : Int) * (((xs_n - 1) : Nat) : Int)) : PW Try.prog 30 1 (sub [1, 1, 1, 0, 1, 0, 0] (bodyOf Try.f20)) (ev_Crossings_L1_I xs xs_n (xs_n - 1) s1) (.exit 0) ⟨[(0, .slice (some ⟨0, 0, none⟩) xs_n 1), (2, .int .i64 (0 : Int)), (3, .bool false), (4, .int .i64 s1), (5, .int .i64 (((1 + (xs_n - 1)) : Nat) : Int)), (8, .bool (!(isSnd xs)))], [some ⟨false, .fl .f32 xs⟩]⟩ := by
  have e : evL Try.prog 30 1 (sub [1, 1, 1, 0, 1, 0, 0] (bodyOf Try.f20)) (ev_Crossings_L1_I xs xs_n (xs_n - 1) s1) [.b false] [] [some 0] (.exit 0) ⟨[(0, .slice (some ⟨0, 0, none⟩) xs_n 1), (2, .int .i64 (0 : Int)), (3, .bool false), (4, .int .i64 s1), (5, .int .i64 (((1 + (xs_n - 1)) : Nat) : Int)), (8, .bool (!(isSnd xs)))], [some ⟨false, .fl .f32 xs⟩]⟩ = some [((decide ((((1 + (xs_n - 1)) : Nat) : Int) < ((xs_n : Nat) : Int))) = false), (0 = 0), (xs_n = xs_n), ((0 : Int) = (0 : Int)), (false = false), (s1 = s1), ((((1 + (xs_n - 1)) : Nat) : Int) = (((1 + (xs_n - 1)) : Nat) : Int)), ((!(isSnd xs)) = (!(isSnd xs))), (xs = xs)] := by kernel_rfl
  exact PW.of_evL mixed _ _ _ e ⟨(decide_eq_false (by omega)), rfl, rfl, rfl, rfl, rfl, rfl, rfl, rfl, trivial⟩

theorem ev_Crossings_L1 (xs : List Nat) (xs_n : Nat) (xs_h : xs.length = xs_n) (xs_b : xs_n ≤ 9223372036854775807)  (h1 : (isSnd xs) = true) (h1f : List.length xs ≤ 256)  : PW Try.prog 30 1 (.loop (sub [1, 1, 1, 0, 1, 0, 0] (bodyOf Try.f20))) (ev_Crossings_L1_I xs xs_n 0 (ev_Crossings_L1_S xs xs_n 0)) (.exit 0) ⟨[(0, .slice (some ⟨0, 0, none⟩) xs_n 1), (2, .int .i64 (0 : Int)), (3, .bool false), (4, .int .i64 (ev_Crossings_L1_S xs xs_n (xs_n - 1))), (5, .int .i64 (((1 + (xs_n - 1)) : Nat) : Int)), (8, .bool (!(isSnd xs)))], [some ⟨false, .fl .f32 xs⟩]⟩ :=
  PW.loop (I := (fun k => ev_Crossings_L1_I xs xs_n k (ev_Crossings_L1_S xs xs_n k))) (xs_n - 1) (by simp) (fun k hk => ev_Crossings_L1_body xs xs_n xs_h xs_b h1 h1f k _ (ev_Crossings_L1_inv0 xs xs_n xs_h xs_b h1 h1f k) hk) (ev_Crossings_L1_end xs xs_n xs_h xs_b h1 h1f _ (ev_Crossings_L1_inv0 xs xs_n xs_h xs_b h1 h1f (xs_n - 1)))

def crossF (xs : List Nat) : Int × Bool := (if (isSnd xs) then ((ev_Crossings_L1_S xs (List.length xs) ((List.length xs) - 1)), true) else ((0 : Int), false))

theorem ev_Crossings (xs : List Nat) (xs_n : Nat) (xs_h : xs.length = xs_n) (xs_b : xs_n ≤ 9223372036854775807)  : Ev Try.prog 20 [.slice (some ⟨0, 0, none⟩) xs_n 1] [some ⟨false, .fl .f32 xs⟩] (.tuple ⟨[.int .i64 (crossF xs).1, .bool (crossF xs).2]⟩) [some ⟨false, .fl .f32 xs⟩] := by
  rcases Bool.eq_false_or_eq_true (isSnd xs) with h1 | h1
  ·
    have h1f : List.length xs ≤ 256 := isSnd_len h1
    have a0 := (ev_Crossings_L1_inv0 xs xs_n xs_h xs_b h1 h1f (xs_n - 1))
    have e : evF Try.prog Try.f20 [.slice (some ⟨0, 0, none⟩) xs_n 1] [some ⟨false, .fl .f32 xs⟩] [.c [(0, false)] (.bool (isSnd xs)) [some ⟨false, .fl .f32 xs⟩], .b false] [([some 0], (ev_Crossings_L1_I xs xs_n 0 (ev_Crossings_L1_S xs xs_n 0)), (.exit 0), ⟨[(0, .slice (some ⟨0, 0, none⟩) xs_n 1), (2, .int .i64 (0 : Int)), (3, .bool false), (4, .int .i64 (ev_Crossings_L1_S xs xs_n (xs_n - 1))), (5, .int .i64 (((1 + (xs_n - 1)) : Nat) : Int)), (8, .bool (!(isSnd xs)))], [some ⟨false, .fl .f32 xs⟩]⟩)] [some 0] (.tuple ⟨[.int .i64 (crossF xs).1, .bool (crossF xs).2]⟩) [some ⟨false, .fl .f32 xs⟩] = some [(Ev Try.prog 84 [.slice (some ⟨0, 0, none⟩) xs_n 1] [some ⟨false, .fl .f32 xs⟩] (.bool (isSnd xs)) [some ⟨false, .fl .f32 xs⟩]), ((!(isSnd xs)) = false), (0 = 0), (xs_n = xs_n), ((0 : Int) = (0 : Int)), (false = false), ((0 : Int) = (ev_Crossings_L1_S xs xs_n 0)), ((1 : Int) = (((1 + 0) : Nat) : Int)), ((!(isSnd xs)) = (!(isSnd xs))), (xs = xs), (PW Try.prog 30 1 (.loop (sub [1, 1, 1, 0, 1, 0, 0] (bodyOf Try.f20))) (ev_Crossings_L1_I xs xs_n 0 (ev_Crossings_L1_S xs xs_n 0)) (.exit 0) ⟨[(0, .slice (some ⟨0, 0, none⟩) xs_n 1), (2, .int .i64 (0 : Int)), (3, .bool false), (4, .int .i64 (ev_Crossings_L1_S xs xs_n (xs_n - 1))), (5, .int .i64 (((1 + (xs_n - 1)) : Nat) : Int)), (8, .bool (!(isSnd xs)))], [some ⟨false, .fl .f32 xs⟩]⟩), ((ev_Crossings_L1_S xs xs_n (xs_n - 1)) = (crossF xs).1), (true = (crossF xs).2), (xs = xs)] := by kernel_rfl
    exact Ev.of mixed _ _ _ Try.func20 (by kernel_rfl) e ⟨(ev_IsSound xs xs_n xs_h xs_b), (congrArg Bool.not h1), rfl, rfl, rfl, rfl, rfl, (by omega), rfl, rfl, (ev_Crossings_L1 xs xs_n xs_h xs_b h1 h1f), (by first | (simp [-List.getD_eq_getElem?_getD, crossF, h1, xs_h]; done) | (simp_all [-List.getD_eq_getElem?_getD, crossF, xs_h]; done)), (by first | (simp [-List.getD_eq_getElem?_getD, crossF, h1, xs_h]; done) | (simp_all [-List.getD_eq_getElem?_getD, crossF, xs_h]; done)), rfl, trivial⟩
  ·
    have e : evF Try.prog Try.f20 [.slice (some ⟨0, 0, none⟩) xs_n 1] [some ⟨false, .fl .f32 xs⟩] [.c [(0, false)] (.bool (isSnd xs)) [some ⟨false, .fl .f32 xs⟩], .b true] [] [some 0] (.tuple ⟨[.int .i64 (crossF xs).1, .bool (crossF xs).2]⟩) [some ⟨false, .fl .f32 xs⟩] = some [(Ev Try.prog 84 [.slice (some ⟨0, 0, none⟩) xs_n 1] [some ⟨false, .fl .f32 xs⟩] (.bool (isSnd xs)) [some ⟨false, .fl .f32 xs⟩]), ((!(isSnd xs)) = true), ((0 : Int) = (crossF xs).1), (false = (crossF xs).2), (xs = xs)] := by kernel_rfl
    exact Ev.of mixed _ _ _ Try.func20 (by kernel_rfl) e ⟨(ev_IsSound xs xs_n xs_h xs_b), (congrArg Bool.not h1), (by first | (simp [-List.getD_eq_getElem?_getD, crossF, h1, xs_h]; done) | (simp_all [-List.getD_eq_getElem?_getD, crossF, xs_h]; done)), (by first | (simp [-List.getD_eq_getElem?_getD, crossF, h1, xs_h]; done) | (simp_all [-List.getD_eq_getElem?_getD, crossF, xs_h]; done)), rfl, trivial⟩

def beatsN (P Q : Nat) : List Nat := ((((List.replicate (4 * P + 12) 0).set 0 (cvI (1 + Q))).set (P + 3) (cvI (1 + Q))).set (2 * (P + 3)) (cvI (1 + Q))).set (3 * (P + 3)) (cvI (1 + Q))
def perOk (P Q : Nat) : Bool :=
  (periodF (beatsN P Q) (2 : Int) (((2 : Int) * ((3 : Int) + (P : Int))) - (1 : Int))).2.2 && decide ((periodF (beatsN P Q) (2 : Int) (((2 : Int) * ((3 : Int) + (P : Int))) - (1 : Int))).1 = ((3 : Int) + (P : Int))) &&
  !(fcmp .gtr .f64 (gapB (fcv .f32 .f64 (periodF (beatsN P Q) (2 : Int) (((2 : Int) * ((3 : Int) + (P : Int))) - (1 : Int))).2.1) 4607182418800017408) 4562254508917369340) &&
  voicedF (beatsN P Q) (2 : Int) (((2 : Int) * ((3 : Int) + (P : Int))) - (1 : Int)) 1063675494 && !voicedF (beatsN P Q) (2 : Int) (((3 : Int) + (P : Int)) - (1 : Int)) 1056964608

theorem per_tab : ∀ P, P < 8 → ∀ Q, Q < 8 → perOk P Q = true := by decide +kernel

end Go.Sim
