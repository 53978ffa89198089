/- When numbers are the same to the last bit. Conditions: none. -/

import Derived.Test.YtgjdkhocnnoimaaProg
import Derived.KernelRfl
import Derived.Test.YtgjdkhocnnoimaaPGb
import Derived.Test.YtgjdkhocnnoimaaS22
import Derived.Test.YtgjdkhocnnoimaaPu3

set_option linter.unusedSimpArgs false

set_option linter.unusedVariables false

namespace Go.Sim

open Go Go.Proofs

def signbitF (x : Nat) : Bool := (decide ((IntKind.wrap .i64 ((x : Nat) : Int)) < (0 : Int)))

theorem ev_Signbit (x : Nat)  (hx : isN .f64 x = false) : Ev Try.prog 183 [.float .f64 x] [] (.bool (signbitF x)) [] := by
  have e : evF Try.prog Try.f183 [.float .f64 x] [] [.x (.int .u64 ((x : Nat) : Int))] [] [] (.bool (signbitF x)) [] = some [(EvX Try.prog 194 [.float .f64 x] (.int .u64 ((x : Nat) : Int))), ((decide ((IntKind.wrap .i64 ((x : Nat) : Int)) < (0 : Int))) = (signbitF x))] := by kernel_rfl
  exact Ev.of mixed _ _ _ Try.func183 (by kernel_rfl) e ⟨(evx_f64bits Try.func194 (by kernel_rfl) (by kernel_rfl) (by kernel_rfl) (by kernel_rfl) x hx), (by first | (simp [-List.getD_eq_getElem?_getD, signbitF]; done) | (simp_all [-List.getD_eq_getElem?_getD, signbitF]; done)), trivial⟩

def sameNumI (x : Nat) (y : Nat) : Bool := (if (fcmp .neq .f32 x x) then (fcmp .neq .f32 y y) else (if (fcmp .neq .f32 y y) then false else (if (fcmp .eql .f32 x y) then ((signbitF (fcv .f32 .f64 x)) == (signbitF (fcv .f32 .f64 y))) else false)))

theorem ev_SameNumber0 (x : Nat) (y : Nat)  : Ev Try.prog 151 [.float .f32 x, .float .f32 y] [] (.bool (sameNumI x y)) [] := by
  rcases Bool.eq_false_or_eq_true (fcmp .neq .f32 x x) with h1 | h1
  ·
    have e : evF Try.prog Try.f151 [.float .f32 x, .float .f32 y] [] [.b true, .b true, .b true, .b true, .b true, .b true, .b true, .b true, .b true] [] [] (.bool (sameNumI x y)) [] = some [((fcmp .neq .f32 x x) = true), ((fcmp .neq .f32 x x) = true), ((fcmp .neq .f32 x x) = true), ((fcmp .neq .f32 x x) = true), (true = true), ((fcmp .neq .f32 x x) = true), ((fcmp .neq .f32 x x) = true), ((fcmp .neq .f32 x x) = true), ((fcmp .neq .f32 x x) = true), ((fcmp .neq .f32 y y) = (sameNumI x y))] := by kernel_rfl
    exact Ev.of mixed _ _ _ Try.func151 (by kernel_rfl) e ⟨h1, h1, h1, h1, rfl, h1, h1, h1, h1, (by first | (simp [-List.getD_eq_getElem?_getD, sameNumI, h1]; done) | (simp_all [-List.getD_eq_getElem?_getD, sameNumI]; done)), trivial⟩
  ·
    rcases Bool.eq_false_or_eq_true (fcmp .neq .f32 y y) with h2 | h2
    ·
      have e : evF Try.prog Try.f151 [.float .f32 x, .float .f32 y] [] [.b false, .b false, .b false, .b false, .b true, .b false, .b false, .b false, .b false] [] [] (.bool (sameNumI x y)) [] = some [((fcmp .neq .f32 x x) = false), ((fcmp .neq .f32 x x) = false), ((fcmp .neq .f32 x x) = false), ((fcmp .neq .f32 x x) = false), ((fcmp .neq .f32 y y) = true), ((fcmp .neq .f32 x x) = false), ((fcmp .neq .f32 x x) = false), ((fcmp .neq .f32 x x) = false), ((fcmp .neq .f32 x x) = false), (false = (sameNumI x y))] := by kernel_rfl
      exact Ev.of mixed _ _ _ Try.func151 (by kernel_rfl) e ⟨h1, h1, h1, h1, h2, h1, h1, h1, h1, (by first | (simp [-List.getD_eq_getElem?_getD, sameNumI, h1, h2]; done) | (simp_all [-List.getD_eq_getElem?_getD, sameNumI]; done)), trivial⟩
    ·
      rcases Bool.eq_false_or_eq_true (fcmp .eql .f32 x y) with h3 | h3
      ·
        have e : evF Try.prog Try.f151 [.float .f32 x, .float .f32 y] [] [.b false, .b false, .b false, .b false, .b false, .b true, .b true, .b true, .c [] (.bool (signbitF (fcv .f32 .f64 x))) [], .b true, .b true, .b true, .c [] (.bool (signbitF (fcv .f32 .f64 y))) [], .b true, .b true] [] [] (.bool (sameNumI x y)) [] = some [((fcmp .neq .f32 x x) = false), ((fcmp .neq .f32 x x) = false), ((fcmp .neq .f32 x x) = false), ((fcmp .neq .f32 x x) = false), ((fcmp .neq .f32 y y) = false), ((fcmp .eql .f32 x y) = true), ((fcmp .eql .f32 x y) = true), ((fcmp .eql .f32 x y) = true), (Ev Try.prog 183 [.float .f64 (fcv .f32 .f64 x)] [] (.bool (signbitF (fcv .f32 .f64 x))) []), ((fcmp .eql .f32 x y) = true), ((fcmp .eql .f32 x y) = true), ((fcmp .eql .f32 x y) = true), (Ev Try.prog 183 [.float .f64 (fcv .f32 .f64 y)] [] (.bool (signbitF (fcv .f32 .f64 y))) []), ((fcmp .eql .f32 x y) = true), ((fcmp .eql .f32 x y) = true), (((signbitF (fcv .f32 .f64 x)) == (signbitF (fcv .f32 .f64 y))) = (sameNumI x y))] := by kernel_rfl
        exact Ev.of mixed _ _ _ Try.func151 (by kernel_rfl) e ⟨h1, h1, h1, h1, h2, h3, h3, h3, (ev_Signbit (fcv .f32 .f64 x) (fcv_notN (isN_of_self h1))), h3, h3, h3, (ev_Signbit (fcv .f32 .f64 y) (fcv_notN (isN_of_self h2))), h3, h3, (by first | (simp [-List.getD_eq_getElem?_getD, sameNumI, h1, h2, h3]; done) | (simp_all [-List.getD_eq_getElem?_getD, sameNumI]; done)), trivial⟩
      ·
        have e : evF Try.prog Try.f151 [.float .f32 x, .float .f32 y] [] [.b false, .b false, .b false, .b false, .b false, .b false, .b false, .b false, .b false, .b false, .b false, .b false, .b false] [] [] (.bool (sameNumI x y)) [] = some [((fcmp .neq .f32 x x) = false), ((fcmp .neq .f32 x x) = false), ((fcmp .neq .f32 x x) = false), ((fcmp .neq .f32 x x) = false), ((fcmp .neq .f32 y y) = false), ((fcmp .eql .f32 x y) = false), ((fcmp .eql .f32 x y) = false), ((fcmp .eql .f32 x y) = false), ((fcmp .eql .f32 x y) = false), ((fcmp .eql .f32 x y) = false), ((fcmp .eql .f32 x y) = false), ((fcmp .eql .f32 x y) = false), ((fcmp .eql .f32 x y) = false), (false = (sameNumI x y))] := by kernel_rfl
        exact Ev.of mixed _ _ _ Try.func151 (by kernel_rfl) e ⟨h1, h1, h1, h1, h2, h3, h3, h3, h3, h3, h3, h3, h3, (by first | (simp [-List.getD_eq_getElem?_getD, sameNumI, h1, h2, h3]; done) | (simp_all [-List.getD_eq_getElem?_getD, sameNumI]; done)), trivial⟩

theorem samew_S {x : Nat} (h : w32 x) (n : isN .f32 x = false) : signbitF (fcv .f32 .f64 x) = (x / 2147483648 % 2 == 1) := by
  rw [show signbitF (fcv .f32 .f64 x) = decide (IntKind.wrap .i64 ((fcv .f32 .f64 x : Nat) : Int) < 0) from by unfold signbitF; rfl]
  exact sign_fcv h.1 n

theorem sameNumI_eq {x y : Nat} (hx : w32 x) (hy : w32 y) : sameNumI x y = sameN x y := by
  unfold sameNumI
  cases nx : isN .f32 x with
  | true =>
    cases ny : isN .f32 y with
    | true => rw [w32_nan hx nx, w32_nan hy ny]; decide
    | false =>
      have : (x == y) = false := by
        rw [beq_eq_false_iff_ne]; intro e; rw [e, ny] at nx; cases nx
      simp [neq_nan nx, neq_self ny, sameN, this]
  | false =>
    cases ny : isN .f32 y with
    | true =>
      have : (x == y) = false := by
        rw [beq_eq_false_iff_ne]; intro e; rw [e, ny] at nx; cases nx
      simp [neq_nan ny, neq_self nx, sameN, this]
    | false =>
      simp only [neq_self nx, neq_self ny, samew_S hx nx, samew_S hy ny]
      cases he : fcmp .eql .f32 x y with
      | true =>
        cases hs : ((x / 2147483648 % 2 == 1) == (y / 2147483648 % 2 == 1)) with
        | true =>
          have := word_of_eql hx.1 hy.1 nx ny he (by simpa using hs)
          subst this
          simp [sameN]
        | false =>
          have : (x == y) = false := by
            rw [beq_eq_false_iff_ne]; intro e; subst e; simp at hs
          simp [sameN, this]
      | false =>
        have : (x == y) = false := by
          rw [beq_eq_false_iff_ne]; intro e; subst e; rw [eql_self nx] at he; cases he
        simp [sameN, this]

theorem ev_SameNumber (x : Nat) (y : Nat)  (hx : w32 x) (hy : w32 y) : Ev Try.prog 151 [.float .f32 x, .float .f32 y] [] (.bool (sameN x y)) [] :=
  (sameNumI_eq hx hy) ▸ ev_SameNumber0 x y

def ev_sameNumbers_L1_step (xs : List Nat) (xs_n : Nat) (ys : List Nat) (ys_n : Nat) (k1 : Nat) (s1 : Unit) : Unit := ()

def ev_sameNumbers_L1_S (xs : List Nat) (xs_n : Nat) (ys : List Nat) (ys_n : Nat) : Nat → Unit
  | 0 => ()
  | k + 1 => ev_sameNumbers_L1_step xs xs_n ys ys_n k (ev_sameNumbers_L1_S xs xs_n ys ys_n k)

def ev_sameNumbers_L1_I (xs : List Nat) (xs_n : Nat) (ys : List Nat) (ys_n : Nat) (k1 : Nat) (s1 : Unit) : St := ⟨[(0, .slice (some ⟨0, 0, none⟩) xs_n 1), (1, .slice (some ⟨1, 0, none⟩) ys_n 1), (4, .bool false), (11, .bool (((xs_n : Nat) : Int) != ((ys_n : Nat) : Int))), (12, .slice (some ⟨0, 0, none⟩) xs_n 1), (13, .int .i64 ((xs_n : Nat) : Int)), (14, .int .i64 ((k1 : Nat) : Int))], [some ⟨false, .fl .f32 xs⟩, some ⟨false, .fl .f32 ys⟩]⟩

def ev_sameNumbers_L1_good (xs : List Nat) (xs_n : Nat) (ys : List Nat) (ys_n : Nat) (k1 : Nat) (s1 : Unit) : Bool := (if (sameN (List.getD xs k1 0) (List.getD ys k1 0)) then true else false)

theorem ev_sameNumbers_L1_body (xs : List Nat) (xs_n : Nat) (xs_h : xs.length = xs_n) (xs_b : xs_n ≤ 9223372036854775807) (ys : List Nat) (ys_n : Nat) (ys_h : ys.length = ys_n) (ys_b : ys_n ≤ 9223372036854775807)  (hx : ∀ y ∈ xs, w32 y) (hy : ∀ y ∈ ys, w32 y) (h1 : xs_n = ys_n) (k1 : Nat) (s1 : Unit)  (hk_k1 : k1 < xs_n) (hg : ev_sameNumbers_L1_good xs xs_n ys ys_n k1 s1 = true) : PW Try.prog 27 2 (sub [1, 1, 0, 1, 0, 0] (bodyOf Try.f150)) (ev_sameNumbers_L1_I xs xs_n ys ys_n k1 s1) .normal (ev_sameNumbers_L1_I xs xs_n ys ys_n (k1 + 1) (ev_sameNumbers_L1_step xs xs_n ys ys_n k1 s1)) := by
  rcases Bool.eq_false_or_eq_true (sameN (List.getD xs k1 0) (List.getD ys k1 0)) with h2 | h2
  ·
    have e : evL Try.prog 27 2 (sub [1, 1, 0, 1, 0, 0] (bodyOf Try.f150)) (ev_sameNumbers_L1_I xs xs_n ys ys_n k1 s1) [.b true, .n k1, .n k1, .c [] (.bool (sameN (List.getD xs k1 0) (List.getD ys k1 0))) [], .b false] [] [some 0, some 1] .normal (ev_sameNumbers_L1_I xs xs_n ys ys_n (k1 + 1) (ev_sameNumbers_L1_step xs xs_n ys ys_n k1 s1)) = some [((decide (((k1 : Nat) : Int) < ((xs_n : Nat) : Int))) = true), (((k1 : Nat) : Int) = ((k1 : Nat) : Int)), (k1 < xs_n), (k1 < (List.length xs)), (((k1 : Nat) : Int) = ((k1 : Nat) : Int)), (k1 < ys_n), (k1 < (List.length ys)), (Ev Try.prog 151 [.float .f32 (List.getD xs k1 0), .float .f32 (List.getD ys k1 0)] [] (.bool (sameN (List.getD xs k1 0) (List.getD ys k1 0))) []), ((!(sameN (List.getD xs k1 0) (List.getD ys k1 0))) = false), (inR .i64 (((k1 : Nat) : Int) + (1 : Int))), (0 = 0), (xs_n = xs_n), (0 = 0), (ys_n = ys_n), (false = false), ((((xs_n : Nat) : Int) != ((ys_n : Nat) : Int)) = (((xs_n : Nat) : Int) != ((ys_n : Nat) : Int))), (0 = 0), (xs_n = xs_n), (((xs_n : Nat) : Int) = ((xs_n : Nat) : Int)), ((((k1 : Nat) : Int) + (1 : Int)) = (((k1 + 1) : Nat) : Int)), (xs = xs), (ys = ys)] := by kernel_rfl
    exact PW.of_evL mixed _ _ _ e ⟨(decide_eq_true (by omega)), rfl, (by omega), (by omega), rfl, (by omega), (by omega), (ev_SameNumber (List.getD xs k1 0) (List.getD ys k1 0) (w32_get hx _) (w32_get hy _)), (congrArg Bool.not h2), (inR64 (by omega) (by omega)), rfl, rfl, rfl, rfl, rfl, rfl, rfl, rfl, rfl, (by omega), rfl, rfl, trivial⟩
  ·
    exact absurd hg (by simp [-List.getD_eq_getElem?_getD, ev_sameNumbers_L1_good, (eq_true h1), (eq_true (show ((xs_n : Nat) : Int) = ((ys_n : Nat) : Int) from by omega)), h2, xs_h, ys_h])

theorem ev_sameNumbers_L1_end (xs : List Nat) (xs_n : Nat) (xs_h : xs.length = xs_n) (xs_b : xs_n ≤ 9223372036854775807) (ys : List Nat) (ys_n : Nat) (ys_h : ys.length = ys_n) (ys_b : ys_n ≤ 9223372036854775807)  (hx : ∀ y ∈ xs, w32 y) (hy : ∀ y ∈ ys, w32 y) (h1 : xs_n = ys_n) (s1 : Unit)  : PW Try.prog 27 2 (sub [1, 1, 0, 1, 0, 0] (bodyOf Try.f150)) (ev_sameNumbers_L1_I xs xs_n ys ys_n xs_n s1) (.exit 0) ⟨[(0, .slice (some ⟨0, 0, none⟩) xs_n 1), (1, .slice (some ⟨1, 0, none⟩) ys_n 1), (4, .bool false), (11, .bool (((xs_n : Nat) : Int) != ((ys_n : Nat) : Int))), (12, .slice (some ⟨0, 0, none⟩) xs_n 1), (13, .int .i64 ((xs_n : Nat) : Int)), (14, .int .i64 ((xs_n : Nat) : Int))], [some ⟨false, .fl .f32 xs⟩, some ⟨false, .fl .f32 ys⟩]⟩ := by
  have e : evL Try.prog 27 2 (sub [1, 1, 0, 1, 0, 0] (bodyOf Try.f150)) (ev_sameNumbers_L1_I xs xs_n ys ys_n xs_n s1) [.b false] [] [some 0, some 1] (.exit 0) ⟨[(0, .slice (some ⟨0, 0, none⟩) xs_n 1), (1, .slice (some ⟨1, 0, none⟩) ys_n 1), (4, .bool false), (11, .bool (((xs_n : Nat) : Int) != ((ys_n : Nat) : Int))), (12, .slice (some ⟨0, 0, none⟩) xs_n 1), (13, .int .i64 ((xs_n : Nat) : Int)), (14, .int .i64 ((xs_n : Nat) : Int))], [some ⟨false, .fl .f32 xs⟩, some ⟨false, .fl .f32 ys⟩]⟩ = some [((decide (((xs_n : Nat) : Int) < ((xs_n : Nat) : Int))) = false), (0 = 0), (xs_n = xs_n), (0 = 0), (ys_n = ys_n), (false = false), ((((xs_n : Nat) : Int) != ((ys_n : Nat) : Int)) = (((xs_n : Nat) : Int) != ((ys_n : Nat) : Int))), (0 = 0), (xs_n = xs_n), (((xs_n : Nat) : Int) = ((xs_n : Nat) : Int)), (((xs_n : Nat) : Int) = ((xs_n : Nat) : Int)), (xs = xs), (ys = ys)] := by kernel_rfl
  exact PW.of_evL mixed _ _ _ e ⟨(decide_eq_false (by omega)), rfl, rfl, rfl, rfl, rfl, rfl, rfl, rfl, rfl, rfl, rfl, rfl, trivial⟩

theorem ev_sameNumbers_L1 (xs : List Nat) (xs_n : Nat) (xs_h : xs.length = xs_n) (xs_b : xs_n ≤ 9223372036854775807) (ys : List Nat) (ys_n : Nat) (ys_h : ys.length = ys_n) (ys_b : ys_n ≤ 9223372036854775807)  (hx : ∀ y ∈ xs, w32 y) (hy : ∀ y ∈ ys, w32 y) (h1 : xs_n = ys_n) (hL : ∀ k, k < xs_n → ev_sameNumbers_L1_good xs xs_n ys ys_n k (ev_sameNumbers_L1_S xs xs_n ys ys_n k) = true) : PW Try.prog 27 2 (.loop (sub [1, 1, 0, 1, 0, 0] (bodyOf Try.f150))) (ev_sameNumbers_L1_I xs xs_n ys ys_n 0 (ev_sameNumbers_L1_S xs xs_n ys ys_n 0)) (.exit 0) ⟨[(0, .slice (some ⟨0, 0, none⟩) xs_n 1), (1, .slice (some ⟨1, 0, none⟩) ys_n 1), (4, .bool false), (11, .bool (((xs_n : Nat) : Int) != ((ys_n : Nat) : Int))), (12, .slice (some ⟨0, 0, none⟩) xs_n 1), (13, .int .i64 ((xs_n : Nat) : Int)), (14, .int .i64 ((xs_n : Nat) : Int))], [some ⟨false, .fl .f32 xs⟩, some ⟨false, .fl .f32 ys⟩]⟩ :=
  PW.loop (I := (fun k => ev_sameNumbers_L1_I xs xs_n ys ys_n k (ev_sameNumbers_L1_S xs xs_n ys ys_n k))) xs_n (by simp) (fun k hk => ev_sameNumbers_L1_body xs xs_n xs_h xs_b ys ys_n ys_h ys_b hx hy h1 k _  hk (hL k hk)) (ev_sameNumbers_L1_end xs xs_n xs_h xs_b ys ys_n ys_h ys_b hx hy h1 _ )

theorem ev_sameNumbers_L1_ende (xs : List Nat) (xs_n : Nat) (xs_h : xs.length = xs_n) (xs_b : xs_n ≤ 9223372036854775807) (ys : List Nat) (ys_n : Nat) (ys_h : ys.length = ys_n) (ys_b : ys_n ≤ 9223372036854775807)  (hx : ∀ y ∈ xs, w32 y) (hy : ∀ y ∈ ys, w32 y) (h1 : xs_n = ys_n) (s1 : Unit) (k1 : Nat)  (hk_k1 : k1 < xs_n) (hb : ev_sameNumbers_L1_good xs xs_n ys ys_n k1 s1 = false) : PW Try.prog 27 2 (sub [1, 1, 0, 1, 0, 0] (bodyOf Try.f150)) (ev_sameNumbers_L1_I xs xs_n ys ys_n k1 s1) .ret ⟨[(4, .bool false)], [some ⟨false, .fl .f32 xs⟩, some ⟨false, .fl .f32 ys⟩]⟩ := by
  rcases Bool.eq_false_or_eq_true (sameN (List.getD xs k1 0) (List.getD ys k1 0)) with h3 | h3
  ·
    exact absurd hb (by simp [-List.getD_eq_getElem?_getD, ev_sameNumbers_L1_good, (eq_true h1), (eq_true (show ((xs_n : Nat) : Int) = ((ys_n : Nat) : Int) from by omega)), h3, xs_h, ys_h])
  ·
    have e : evL Try.prog 27 2 (sub [1, 1, 0, 1, 0, 0] (bodyOf Try.f150)) (ev_sameNumbers_L1_I xs xs_n ys ys_n k1 s1) [.b true, .n k1, .n k1, .c [] (.bool (sameN (List.getD xs k1 0) (List.getD ys k1 0))) [], .b true] [] [some 0, some 1] .ret ⟨[(4, .bool false)], [some ⟨false, .fl .f32 xs⟩, some ⟨false, .fl .f32 ys⟩]⟩ = some [((decide (((k1 : Nat) : Int) < ((xs_n : Nat) : Int))) = true), (((k1 : Nat) : Int) = ((k1 : Nat) : Int)), (k1 < xs_n), (k1 < (List.length xs)), (((k1 : Nat) : Int) = ((k1 : Nat) : Int)), (k1 < ys_n), (k1 < (List.length ys)), (Ev Try.prog 151 [.float .f32 (List.getD xs k1 0), .float .f32 (List.getD ys k1 0)] [] (.bool (sameN (List.getD xs k1 0) (List.getD ys k1 0))) []), ((!(sameN (List.getD xs k1 0) (List.getD ys k1 0))) = true), (false = false), (xs = xs), (ys = ys)] := by kernel_rfl
    exact PW.of_evL mixed _ _ _ e ⟨(decide_eq_true (by omega)), rfl, (by omega), (by omega), rfl, (by omega), (by omega), (ev_SameNumber (List.getD xs k1 0) (List.getD ys k1 0) (w32_get hx _) (w32_get hy _)), (congrArg Bool.not h3), rfl, rfl, rfl, trivial⟩

theorem ev_sameNumbers_L1e (xs : List Nat) (xs_n : Nat) (xs_h : xs.length = xs_n) (xs_b : xs_n ≤ 9223372036854775807) (ys : List Nat) (ys_n : Nat) (ys_h : ys.length = ys_n) (ys_b : ys_n ≤ 9223372036854775807)  (hx : ∀ y ∈ xs, w32 y) (hy : ∀ y ∈ ys, w32 y) (h1 : xs_n = ys_n) (j : Nat) (hj : j < xs_n) (hb : ev_sameNumbers_L1_good xs xs_n ys ys_n j (ev_sameNumbers_L1_S xs xs_n ys ys_n j) = false) (hL : ∀ k, k < j → ev_sameNumbers_L1_good xs xs_n ys ys_n k (ev_sameNumbers_L1_S xs xs_n ys ys_n k) = true) : PW Try.prog 27 2 (.loop (sub [1, 1, 0, 1, 0, 0] (bodyOf Try.f150))) (ev_sameNumbers_L1_I xs xs_n ys ys_n 0 (ev_sameNumbers_L1_S xs xs_n ys ys_n 0)) .ret ⟨[(4, .bool false)], [some ⟨false, .fl .f32 xs⟩, some ⟨false, .fl .f32 ys⟩]⟩ :=
  PW.loop (I := (fun k => ev_sameNumbers_L1_I xs xs_n ys ys_n k (ev_sameNumbers_L1_S xs xs_n ys ys_n k))) j (by simp) (fun k hk => ev_sameNumbers_L1_body xs xs_n xs_h xs_b ys ys_n ys_h ys_b hx hy h1 k _  (Nat.lt_trans hk hj) (hL k hk)) (ev_sameNumbers_L1_ende xs xs_n xs_h xs_b ys ys_n ys_h ys_b hx hy h1 _ j  hj hb)

theorem ev_sameNumbers (xs : List Nat) (xs_n : Nat) (xs_h : xs.length = xs_n) (xs_b : xs_n ≤ 9223372036854775807) (ys : List Nat) (ys_n : Nat) (ys_h : ys.length = ys_n) (ys_b : ys_n ≤ 9223372036854775807)  (hx : ∀ y ∈ xs, w32 y) (hy : ∀ y ∈ ys, w32 y) : Ev Try.prog 150 [.slice (some ⟨0, 0, none⟩) xs_n 1, .slice (some ⟨1, 0, none⟩) ys_n 1] [some ⟨false, .fl .f32 xs⟩, some ⟨false, .fl .f32 ys⟩] (.bool (sameW xs ys)) [some ⟨false, .fl .f32 xs⟩, some ⟨false, .fl .f32 ys⟩] := by
  by_cases h1 : xs_n = ys_n
  ·
    rcases Bool.eq_false_or_eq_true (allBelow (fun k => ev_sameNumbers_L1_good xs xs_n ys ys_n k (ev_sameNumbers_L1_S xs xs_n ys ys_n k)) xs_n) with h4 | h4
    ·
      have e : evF Try.prog Try.f150 [.slice (some ⟨0, 0, none⟩) xs_n 1, .slice (some ⟨1, 0, none⟩) ys_n 1] [some ⟨false, .fl .f32 xs⟩, some ⟨false, .fl .f32 ys⟩] [.b false] [([some 0, some 1], (ev_sameNumbers_L1_I xs xs_n ys ys_n 0 (ev_sameNumbers_L1_S xs xs_n ys ys_n 0)), (.exit 0), ⟨[(0, .slice (some ⟨0, 0, none⟩) xs_n 1), (1, .slice (some ⟨1, 0, none⟩) ys_n 1), (4, .bool false), (11, .bool (((xs_n : Nat) : Int) != ((ys_n : Nat) : Int))), (12, .slice (some ⟨0, 0, none⟩) xs_n 1), (13, .int .i64 ((xs_n : Nat) : Int)), (14, .int .i64 ((xs_n : Nat) : Int))], [some ⟨false, .fl .f32 xs⟩, some ⟨false, .fl .f32 ys⟩]⟩)] [some 0, some 1] (.bool (sameW xs ys)) [some ⟨false, .fl .f32 xs⟩, some ⟨false, .fl .f32 ys⟩] = some [((((xs_n : Nat) : Int) != ((ys_n : Nat) : Int)) = false), (0 = 0), (xs_n = xs_n), (0 = 0), (ys_n = ys_n), (false = false), ((((xs_n : Nat) : Int) != ((ys_n : Nat) : Int)) = (((xs_n : Nat) : Int) != ((ys_n : Nat) : Int))), (0 = 0), (xs_n = xs_n), (((xs_n : Nat) : Int) = ((xs_n : Nat) : Int)), ((0 : Int) = ((0 : Nat) : Int)), (xs = xs), (ys = ys), (PW Try.prog 27 2 (.loop (sub [1, 1, 0, 1, 0, 0] (bodyOf Try.f150))) (ev_sameNumbers_L1_I xs xs_n ys ys_n 0 (ev_sameNumbers_L1_S xs xs_n ys ys_n 0)) (.exit 0) ⟨[(0, .slice (some ⟨0, 0, none⟩) xs_n 1), (1, .slice (some ⟨1, 0, none⟩) ys_n 1), (4, .bool false), (11, .bool (((xs_n : Nat) : Int) != ((ys_n : Nat) : Int))), (12, .slice (some ⟨0, 0, none⟩) xs_n 1), (13, .int .i64 ((xs_n : Nat) : Int)), (14, .int .i64 ((xs_n : Nat) : Int))], [some ⟨false, .fl .f32 xs⟩, some ⟨false, .fl .f32 ys⟩]⟩), (true = (sameW xs ys)), (xs = xs), (ys = ys)] := by kernel_rfl
      exact Ev.of mixed _ _ _ Try.func150 (by kernel_rfl) e ⟨(bne_eq_false_iff_eq.2 (by omega)), rfl, rfl, rfl, rfl, rfl, rfl, rfl, rfl, rfl, (by omega), rfl, rfl, (ev_sameNumbers_L1 xs xs_n xs_h xs_b ys ys_n ys_h ys_b hx hy h1 (allBelow_true.1 (show (allBelow (fun k => ev_sameNumbers_L1_good xs xs_n ys ys_n k (ev_sameNumbers_L1_S xs xs_n ys ys_n k)) xs_n) = true from h4))), (by first | (simp [-List.getD_eq_getElem?_getD, sameW, ev_sameNumbers_L1_good, (eq_true h1), (eq_true (show ((xs_n : Nat) : Int) = ((ys_n : Nat) : Int) from by omega)), h4, xs_h, ys_h]; done) | (simp_all [-List.getD_eq_getElem?_getD, sameW, ev_sameNumbers_L1_good, (eq_true (show ((xs_n : Nat) : Int) = ((ys_n : Nat) : Int) from by omega)), xs_h, ys_h]; done)), rfl, rfl, trivial⟩
    ·
      have e : evF Try.prog Try.f150 [.slice (some ⟨0, 0, none⟩) xs_n 1, .slice (some ⟨1, 0, none⟩) ys_n 1] [some ⟨false, .fl .f32 xs⟩, some ⟨false, .fl .f32 ys⟩] [.b false] [([some 0, some 1], (ev_sameNumbers_L1_I xs xs_n ys ys_n 0 (ev_sameNumbers_L1_S xs xs_n ys ys_n 0)), .ret, ⟨[(4, .bool false)], [some ⟨false, .fl .f32 xs⟩, some ⟨false, .fl .f32 ys⟩]⟩)] [some 0, some 1] (.bool (sameW xs ys)) [some ⟨false, .fl .f32 xs⟩, some ⟨false, .fl .f32 ys⟩] = some [((((xs_n : Nat) : Int) != ((ys_n : Nat) : Int)) = false), (0 = 0), (xs_n = xs_n), (0 = 0), (ys_n = ys_n), (false = false), ((((xs_n : Nat) : Int) != ((ys_n : Nat) : Int)) = (((xs_n : Nat) : Int) != ((ys_n : Nat) : Int))), (0 = 0), (xs_n = xs_n), (((xs_n : Nat) : Int) = ((xs_n : Nat) : Int)), ((0 : Int) = ((0 : Nat) : Int)), (xs = xs), (ys = ys), (PW Try.prog 27 2 (.loop (sub [1, 1, 0, 1, 0, 0] (bodyOf Try.f150))) (ev_sameNumbers_L1_I xs xs_n ys ys_n 0 (ev_sameNumbers_L1_S xs xs_n ys ys_n 0)) .ret ⟨[(4, .bool false)], [some ⟨false, .fl .f32 xs⟩, some ⟨false, .fl .f32 ys⟩]⟩), (false = (sameW xs ys)), (xs = xs), (ys = ys)] := by kernel_rfl
      exact Ev.of mixed _ _ _ Try.func150 (by kernel_rfl) e ⟨(bne_eq_false_iff_eq.2 (by omega)), rfl, rfl, rfl, rfl, rfl, rfl, rfl, rfl, rfl, (by omega), rfl, rfl, (ev_sameNumbers_L1e xs xs_n xs_h xs_b ys ys_n ys_h ys_b hx hy h1 (firstF (fun k => ev_sameNumbers_L1_good xs xs_n ys ys_n k (ev_sameNumbers_L1_S xs xs_n ys ys_n k)) xs_n) (firstF_lt (show (allBelow (fun k => ev_sameNumbers_L1_good xs xs_n ys ys_n k (ev_sameNumbers_L1_S xs xs_n ys ys_n k)) xs_n) = false from h4)) (firstF_false (show (allBelow (fun k => ev_sameNumbers_L1_good xs xs_n ys ys_n k (ev_sameNumbers_L1_S xs xs_n ys ys_n k)) xs_n) = false from h4)) (firstF_before (show (allBelow (fun k => ev_sameNumbers_L1_good xs xs_n ys ys_n k (ev_sameNumbers_L1_S xs xs_n ys ys_n k)) xs_n) = false from h4))), (by first | (simp [-List.getD_eq_getElem?_getD, sameW, ev_sameNumbers_L1_good, (eq_true h1), (eq_true (show ((xs_n : Nat) : Int) = ((ys_n : Nat) : Int) from by omega)), h4, xs_h, ys_h]; done) | (simp_all [-List.getD_eq_getElem?_getD, sameW, ev_sameNumbers_L1_good, (eq_true (show ((xs_n : Nat) : Int) = ((ys_n : Nat) : Int) from by omega)), xs_h, ys_h]; done)), rfl, rfl, trivial⟩
  ·
    have e : evF Try.prog Try.f150 [.slice (some ⟨0, 0, none⟩) xs_n 1, .slice (some ⟨1, 0, none⟩) ys_n 1] [some ⟨false, .fl .f32 xs⟩, some ⟨false, .fl .f32 ys⟩] [.b true] [] [some 0, some 1] (.bool (sameW xs ys)) [some ⟨false, .fl .f32 xs⟩, some ⟨false, .fl .f32 ys⟩] = some [((((xs_n : Nat) : Int) != ((ys_n : Nat) : Int)) = true), (false = (sameW xs ys)), (xs = xs), (ys = ys)] := by kernel_rfl
    exact Ev.of mixed _ _ _ Try.func150 (by kernel_rfl) e ⟨(bne_iff_ne.2 (by omega)), (by first | (simp [-List.getD_eq_getElem?_getD, sameW, ev_sameNumbers_L1_good, h1, (show ¬ (((xs_n : Nat) : Int) = ((ys_n : Nat) : Int)) from by omega), xs_h, ys_h]; done) | (simp_all [-List.getD_eq_getElem?_getD, sameW, ev_sameNumbers_L1_good, (show ¬ (((xs_n : Nat) : Int) = ((ys_n : Nat) : Int)) from by omega), xs_h, ys_h]; done)), rfl, rfl, trivial⟩

end Go.Sim
