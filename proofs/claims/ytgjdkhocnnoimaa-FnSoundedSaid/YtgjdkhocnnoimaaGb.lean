/- What the marks of lists compute, and lists that are looked through. Conditions: none. -/

import Derived.Test.YtgjdkhocnnoimaaProg
import Derived.KernelRfl
import Derived.Test.YtgjdkhocnnoimaaGa
import Derived.Test.YtgjdkhocnnoimaaPu2

set_option linter.unusedSimpArgs false

set_option linter.unusedVariables false

namespace Go.Sim

open Go Go.Proofs

def ev_mark_L1_step (xs : List Nat) (xs_n : Nat) (t : Int) (k1 : Nat) (s1 : (List Nat)) : (List Nat) := (List.set s1 k1 (canon .f32 (FloatKind.nearest .f32 (t + ((k1 : Nat) : Int)))))

def ev_mark_L1_S (xs : List Nat) (xs_n : Nat) (t : Int) : Nat → (List Nat)
  | 0 => xs
  | k + 1 => ev_mark_L1_step xs xs_n t k (ev_mark_L1_S xs xs_n t k)

def ev_mark_L1_I (xs : List Nat) (xs_n : Nat) (t : Int) (k1 : Nat) (s1 : (List Nat)) : St := ⟨[(0, .slice (some ⟨0, 0, none⟩) xs_n 1), (1, .int .i64 (t + ((k1 : Nat) : Int))), (4, .int .i64 (0 : Int)), (5, .int .i64 ((k1 : Nat) : Int))], [some ⟨true, .fl .f32 s1⟩]⟩

theorem ev_mark_L1_inv (xs : List Nat) (xs_n : Nat) (xs_h : xs.length = xs_n) (xs_b : xs_n ≤ 9223372036854775807) (t : Int)  (ht1 : 0 ≤ t) (ht2 : t ≤ 1099511627776) (hsz : xs_n ≤ 1099511627776) : ∀ k, List.length (ev_mark_L1_S xs xs_n t k) = xs_n := by
  intro k
  induction k with
  | zero => simp [ev_mark_L1_S, List.length_set, List.length_append, List.length_replicate, List.length_cons, List.length_nil, List.length_take, List.length_drop, rowAdd_eq, xs_h]
  | succ k ih =>
    simp only [ev_mark_L1_S]
    generalize ev_mark_L1_S xs xs_n t k = s at ih ⊢
    unfold ev_mark_L1_step
    first
    | (simp [-List.getD_eq_getElem?_getD, List.length_set, List.length_append, List.length_replicate, List.length_cons, List.length_nil, List.length_take, List.length_drop, rowAdd_eq, xs_h, ih]; done)
    | ((repeat' split) <;> (simp_all [-List.getD_eq_getElem?_getD, List.length_set, List.length_append, List.length_replicate, List.length_cons, List.length_nil, List.length_take, List.length_drop, rowAdd_eq, xs_h]) <;> omega)
    | ((repeat' split) <;> (simp_all [-List.getD_eq_getElem?_getD, List.length_set, List.length_append, List.length_replicate, List.length_cons, List.length_nil, List.length_take, List.length_drop, rowAdd_eq, xs_h]); done)

theorem ev_mark_L1_inv0 (xs : List Nat) (xs_n : Nat) (xs_h : xs.length = xs_n) (xs_b : xs_n ≤ 9223372036854775807) (t : Int)  (ht1 : 0 ≤ t) (ht2 : t ≤ 1099511627776) (hsz : xs_n ≤ 1099511627776) (k : Nat) : List.length (ev_mark_L1_S xs xs_n t k) = xs_n := (ev_mark_L1_inv xs xs_n xs_h xs_b t ht1 ht2 hsz k)

theorem ev_mark_L1_body (xs : List Nat) (xs_n : Nat) (xs_h : xs.length = xs_n) (xs_b : xs_n ≤ 9223372036854775807) (t : Int)  (ht1 : 0 ≤ t) (ht2 : t ≤ 1099511627776) (hsz : xs_n ≤ 1099511627776) (k1 : Nat) (s1 : (List Nat)) (s1_i0 : List.length s1 = xs_n) (hk_k1 : k1 < xs_n)  : PW Try.prog 20 1 (sub [1, 0, 1, 0, 0] (bodyOf Try.f35)) (ev_mark_L1_I xs xs_n t k1 s1) .normal (ev_mark_L1_I xs xs_n t (k1 + 1) (ev_mark_L1_step xs xs_n t k1 s1)) := by
  have e : evL Try.prog 20 1 (sub [1, 0, 1, 0, 0] (bodyOf Try.f35)) (ev_mark_L1_I xs xs_n t k1 s1) [.b true, .n k1] [] [some 0] .normal (ev_mark_L1_I xs xs_n t (k1 + 1) (ev_mark_L1_step xs xs_n t k1 s1)) = some [((decide (((k1 : Nat) : Int) < ((xs_n : Nat) : Int))) = true), (((k1 : Nat) : Int) = ((k1 : Nat) : Int)), (k1 < xs_n), (k1 < (List.length s1)), (inR .i64 ((t + ((k1 : Nat) : Int)) + (1 : Int))), (inR .i64 (((k1 : Nat) : Int) + (1 : Int))), (0 = 0), (xs_n = xs_n), (((t + ((k1 : Nat) : Int)) + (1 : Int)) = (t + (((k1 + 1) : Nat) : Int))), ((0 : Int) = (0 : Int)), ((((k1 : Nat) : Int) + (1 : Int)) = (((k1 + 1) : Nat) : Int)), ((List.set s1 k1 (canon .f32 (FloatKind.nearest .f32 (t + ((k1 : Nat) : Int))))) = (ev_mark_L1_step xs xs_n t k1 s1))] := by kernel_rfl
  exact PW.of_evL mixed _ _ _ e ⟨(decide_eq_true (by omega)), rfl, (by omega), (by omega), (inR64 (by omega) (by omega)), (inR64 (by omega) (by omega)), rfl, rfl, (by omega), rfl, (by omega), (by first | (simp [-List.getD_eq_getElem?_getD, ev_mark_L1_step, xs_h, s1_i0]; done) | (simp_all [-List.getD_eq_getElem?_getD, ev_mark_L1_step, xs_h, s1_i0]; done)), trivial⟩

theorem ev_mark_L1_end (xs : List Nat) (xs_n : Nat) (xs_h : xs.length = xs_n) (xs_b : xs_n ≤ 9223372036854775807) (t : Int)  (ht1 : 0 ≤ t) (ht2 : t ≤ 1099511627776) (hsz : xs_n ≤ 1099511627776) (s1 : (List Nat)) (s1_i0 : List.length s1 = xs_n) : PW Try.prog 20 1 (sub [1, 0, 1, 0, 0] (bodyOf Try.f35)) (ev_mark_L1_I xs xs_n t xs_n s1) (.exit 0) ⟨[(0, .slice (some ⟨0, 0, none⟩) xs_n 1), (1, .int .i64 (t + ((xs_n : Nat) : Int))), (4, .int .i64 (0 : Int)), (5, .int .i64 ((xs_n : Nat) : Int))], [some ⟨true, .fl .f32 s1⟩]⟩ := by
  have e : evL Try.prog 20 1 (sub [1, 0, 1, 0, 0] (bodyOf Try.f35)) (ev_mark_L1_I xs xs_n t xs_n s1) [.b false] [] [some 0] (.exit 0) ⟨[(0, .slice (some ⟨0, 0, none⟩) xs_n 1), (1, .int .i64 (t + ((xs_n : Nat) : Int))), (4, .int .i64 (0 : Int)), (5, .int .i64 ((xs_n : Nat) : Int))], [some ⟨true, .fl .f32 s1⟩]⟩ = some [((decide (((xs_n : Nat) : Int) < ((xs_n : Nat) : Int))) = false), (0 = 0), (xs_n = xs_n), ((t + ((xs_n : Nat) : Int)) = (t + ((xs_n : Nat) : Int))), ((0 : Int) = (0 : Int)), (((xs_n : Nat) : Int) = ((xs_n : Nat) : Int)), (s1 = s1)] := by kernel_rfl
  exact PW.of_evL mixed _ _ _ e ⟨(decide_eq_false (by omega)), rfl, rfl, rfl, rfl, rfl, rfl, trivial⟩

theorem ev_mark_L1 (xs : List Nat) (xs_n : Nat) (xs_h : xs.length = xs_n) (xs_b : xs_n ≤ 9223372036854775807) (t : Int)  (ht1 : 0 ≤ t) (ht2 : t ≤ 1099511627776) (hsz : xs_n ≤ 1099511627776)  : PW Try.prog 20 1 (.loop (sub [1, 0, 1, 0, 0] (bodyOf Try.f35))) (ev_mark_L1_I xs xs_n t 0 (ev_mark_L1_S xs xs_n t 0)) (.exit 0) ⟨[(0, .slice (some ⟨0, 0, none⟩) xs_n 1), (1, .int .i64 (t + ((xs_n : Nat) : Int))), (4, .int .i64 (0 : Int)), (5, .int .i64 ((xs_n : Nat) : Int))], [some ⟨true, .fl .f32 (ev_mark_L1_S xs xs_n t xs_n)⟩]⟩ :=
  PW.loop (I := (fun k => ev_mark_L1_I xs xs_n t k (ev_mark_L1_S xs xs_n t k))) xs_n (by simp) (fun k hk => ev_mark_L1_body xs xs_n xs_h xs_b t ht1 ht2 hsz k _ (ev_mark_L1_inv0 xs xs_n xs_h xs_b t ht1 ht2 hsz k) hk) (ev_mark_L1_end xs xs_n xs_h xs_b t ht1 ht2 hsz _ (ev_mark_L1_inv0 xs xs_n xs_h xs_b t ht1 ht2 hsz xs_n))

theorem ev_mark (xs : List Nat) (xs_n : Nat) (xs_h : xs.length = xs_n) (xs_b : xs_n ≤ 9223372036854775807) (t : Int)  (ht1 : 0 ≤ t) (ht2 : t ≤ 1099511627776) (hsz : xs_n ≤ 1099511627776) : Ev Try.prog 35 [.slice (some ⟨0, 0, none⟩) xs_n 1, .int .i64 t] [some ⟨true, .fl .f32 xs⟩] (.int .i64 (t + ((xs_n : Nat) : Int))) [some ⟨true, .fl .f32 (markL xs_n t)⟩] := by
  have a0 := (ev_mark_L1_inv0 xs xs_n xs_h xs_b t ht1 ht2 hsz xs_n)
  have e : evF Try.prog Try.f35 [.slice (some ⟨0, 0, none⟩) xs_n 1, .int .i64 t] [some ⟨true, .fl .f32 xs⟩] [] [([some 0], (ev_mark_L1_I xs xs_n t 0 (ev_mark_L1_S xs xs_n t 0)), (.exit 0), ⟨[(0, .slice (some ⟨0, 0, none⟩) xs_n 1), (1, .int .i64 (t + ((xs_n : Nat) : Int))), (4, .int .i64 (0 : Int)), (5, .int .i64 ((xs_n : Nat) : Int))], [some ⟨true, .fl .f32 (ev_mark_L1_S xs xs_n t xs_n)⟩]⟩)] [some 0] (.int .i64 (t + ((xs_n : Nat) : Int))) [some ⟨true, .fl .f32 (markL xs_n t)⟩] = some [(0 = 0), (xs_n = xs_n), (t = (t + ((0 : Nat) : Int))), ((0 : Int) = (0 : Int)), ((0 : Int) = ((0 : Nat) : Int)), (xs = (ev_mark_L1_S xs xs_n t 0)), (PW Try.prog 20 1 (.loop (sub [1, 0, 1, 0, 0] (bodyOf Try.f35))) (ev_mark_L1_I xs xs_n t 0 (ev_mark_L1_S xs xs_n t 0)) (.exit 0) ⟨[(0, .slice (some ⟨0, 0, none⟩) xs_n 1), (1, .int .i64 (t + ((xs_n : Nat) : Int))), (4, .int .i64 (0 : Int)), (5, .int .i64 ((xs_n : Nat) : Int))], [some ⟨true, .fl .f32 (ev_mark_L1_S xs xs_n t xs_n)⟩]⟩), ((t + ((xs_n : Nat) : Int)) = (t + ((xs_n : Nat) : Int))), ((ev_mark_L1_S xs xs_n t xs_n) = (markL xs_n t))] := by kernel_rfl
  exact Ev.of mixed _ _ _ Try.func35 (by kernel_rfl) e ⟨rfl, rfl, (by omega), rfl, (by omega), rfl, (ev_mark_L1 xs xs_n xs_h xs_b t ht1 ht2 hsz), rfl, (mark_all xs xs_n t xs_h (ev_mark_L1_S xs xs_n t) rfl (fun _ => rfl)), trivial⟩

def ev_held_L1_step (xs : List Nat) (xs_n : Nat) (t : Int) (k1 : Nat) (s1 : Unit) : Unit := ()

def ev_held_L1_S (xs : List Nat) (xs_n : Nat) (t : Int) : Nat → Unit
  | 0 => ()
  | k + 1 => ev_held_L1_step xs xs_n t k (ev_held_L1_S xs xs_n t k)

def ev_held_L1_I (xs : List Nat) (xs_n : Nat) (t : Int) (k1 : Nat) (s1 : Unit) : St := ⟨[(0, .slice (some ⟨0, 0, none⟩) xs_n 1), (1, .int .i64 (t + ((k1 : Nat) : Int))), (4, .int .i64 (0 : Int)), (5, .int .i64 ((k1 : Nat) : Int))], [some ⟨false, .fl .f32 xs⟩]⟩

theorem ev_held_L1_body (xs : List Nat) (xs_n : Nat) (xs_h : xs.length = xs_n) (xs_b : xs_n ≤ 9223372036854775807) (t : Int)  (ht1 : 0 ≤ t) (ht2 : t ≤ 1099511627776) (hsz : xs_n ≤ 1099511627776) (hm : xs = markL xs_n t) (k1 : Nat) (s1 : Unit)  (hk_k1 : k1 < xs_n)  : PW Try.prog 22 1 (sub [1, 0, 1, 0, 0] (bodyOf Try.f36)) (ev_held_L1_I xs xs_n t k1 s1) .normal (ev_held_L1_I xs xs_n t (k1 + 1) (ev_held_L1_step xs xs_n t k1 s1)) := by
  have e : evL Try.prog 22 1 (sub [1, 0, 1, 0, 0] (bodyOf Try.f36)) (ev_held_L1_I xs xs_n t k1 s1) [.b true, .n k1, .b false] [] [some 0] .normal (ev_held_L1_I xs xs_n t (k1 + 1) (ev_held_L1_step xs xs_n t k1 s1)) = some [((decide (((k1 : Nat) : Int) < ((xs_n : Nat) : Int))) = true), (((k1 : Nat) : Int) = ((k1 : Nat) : Int)), (k1 < xs_n), (k1 < (List.length xs)), ((fcmp .neq .f32 (List.getD xs k1 0) (canon .f32 (FloatKind.nearest .f32 (t + ((k1 : Nat) : Int))))) = false), (inR .i64 ((t + ((k1 : Nat) : Int)) + (1 : Int))), (inR .i64 (((k1 : Nat) : Int) + (1 : Int))), (0 = 0), (xs_n = xs_n), (((t + ((k1 : Nat) : Int)) + (1 : Int)) = (t + (((k1 + 1) : Nat) : Int))), ((0 : Int) = (0 : Int)), ((((k1 : Nat) : Int) + (1 : Int)) = (((k1 + 1) : Nat) : Int)), (xs = xs)] := by kernel_rfl
  exact PW.of_evL mixed _ _ _ e ⟨(decide_eq_true (by omega)), rfl, (by omega), (by omega), (held_ne hm hk_k1), (inR64 (by omega) (by omega)), (inR64 (by omega) (by omega)), rfl, rfl, (by omega), rfl, (by omega), rfl, trivial⟩

theorem ev_held_L1_end (xs : List Nat) (xs_n : Nat) (xs_h : xs.length = xs_n) (xs_b : xs_n ≤ 9223372036854775807) (t : Int)  (ht1 : 0 ≤ t) (ht2 : t ≤ 1099511627776) (hsz : xs_n ≤ 1099511627776) (hm : xs = markL xs_n t) (s1 : Unit)  : PW Try.prog 22 1 (sub [1, 0, 1, 0, 0] (bodyOf Try.f36)) (ev_held_L1_I xs xs_n t xs_n s1) (.exit 0) ⟨[(0, .slice (some ⟨0, 0, none⟩) xs_n 1), (1, .int .i64 (t + ((xs_n : Nat) : Int))), (4, .int .i64 (0 : Int)), (5, .int .i64 ((xs_n : Nat) : Int))], [some ⟨false, .fl .f32 xs⟩]⟩ := by
  have e : evL Try.prog 22 1 (sub [1, 0, 1, 0, 0] (bodyOf Try.f36)) (ev_held_L1_I xs xs_n t xs_n s1) [.b false] [] [some 0] (.exit 0) ⟨[(0, .slice (some ⟨0, 0, none⟩) xs_n 1), (1, .int .i64 (t + ((xs_n : Nat) : Int))), (4, .int .i64 (0 : Int)), (5, .int .i64 ((xs_n : Nat) : Int))], [some ⟨false, .fl .f32 xs⟩]⟩ = some [((decide (((xs_n : Nat) : Int) < ((xs_n : Nat) : Int))) = false), (0 = 0), (xs_n = xs_n), ((t + ((xs_n : Nat) : Int)) = (t + ((xs_n : Nat) : Int))), ((0 : Int) = (0 : Int)), (((xs_n : Nat) : Int) = ((xs_n : Nat) : Int)), (xs = xs)] := by kernel_rfl
  exact PW.of_evL mixed _ _ _ e ⟨(decide_eq_false (by omega)), rfl, rfl, rfl, rfl, rfl, rfl, trivial⟩

theorem ev_held_L1 (xs : List Nat) (xs_n : Nat) (xs_h : xs.length = xs_n) (xs_b : xs_n ≤ 9223372036854775807) (t : Int)  (ht1 : 0 ≤ t) (ht2 : t ≤ 1099511627776) (hsz : xs_n ≤ 1099511627776) (hm : xs = markL xs_n t)  : PW Try.prog 22 1 (.loop (sub [1, 0, 1, 0, 0] (bodyOf Try.f36))) (ev_held_L1_I xs xs_n t 0 (ev_held_L1_S xs xs_n t 0)) (.exit 0) ⟨[(0, .slice (some ⟨0, 0, none⟩) xs_n 1), (1, .int .i64 (t + ((xs_n : Nat) : Int))), (4, .int .i64 (0 : Int)), (5, .int .i64 ((xs_n : Nat) : Int))], [some ⟨false, .fl .f32 xs⟩]⟩ :=
  PW.loop (I := (fun k => ev_held_L1_I xs xs_n t k (ev_held_L1_S xs xs_n t k))) xs_n (by simp) (fun k hk => ev_held_L1_body xs xs_n xs_h xs_b t ht1 ht2 hsz hm k _  hk) (ev_held_L1_end xs xs_n xs_h xs_b t ht1 ht2 hsz hm _ )

theorem ev_held (xs : List Nat) (xs_n : Nat) (xs_h : xs.length = xs_n) (xs_b : xs_n ≤ 9223372036854775807) (t : Int)  (ht1 : 0 ≤ t) (ht2 : t ≤ 1099511627776) (hsz : xs_n ≤ 1099511627776) (hm : xs = markL xs_n t) : Ev Try.prog 36 [.slice (some ⟨0, 0, none⟩) xs_n 1, .int .i64 t] [some ⟨false, .fl .f32 xs⟩] (.int .i64 (t + ((xs_n : Nat) : Int))) [some ⟨false, .fl .f32 xs⟩] := by
  have e : evF Try.prog Try.f36 [.slice (some ⟨0, 0, none⟩) xs_n 1, .int .i64 t] [some ⟨false, .fl .f32 xs⟩] [] [([some 0], (ev_held_L1_I xs xs_n t 0 (ev_held_L1_S xs xs_n t 0)), (.exit 0), ⟨[(0, .slice (some ⟨0, 0, none⟩) xs_n 1), (1, .int .i64 (t + ((xs_n : Nat) : Int))), (4, .int .i64 (0 : Int)), (5, .int .i64 ((xs_n : Nat) : Int))], [some ⟨false, .fl .f32 xs⟩]⟩)] [some 0] (.int .i64 (t + ((xs_n : Nat) : Int))) [some ⟨false, .fl .f32 xs⟩] = some [(0 = 0), (xs_n = xs_n), (t = (t + ((0 : Nat) : Int))), ((0 : Int) = (0 : Int)), ((0 : Int) = ((0 : Nat) : Int)), (xs = xs), (PW Try.prog 22 1 (.loop (sub [1, 0, 1, 0, 0] (bodyOf Try.f36))) (ev_held_L1_I xs xs_n t 0 (ev_held_L1_S xs xs_n t 0)) (.exit 0) ⟨[(0, .slice (some ⟨0, 0, none⟩) xs_n 1), (1, .int .i64 (t + ((xs_n : Nat) : Int))), (4, .int .i64 (0 : Int)), (5, .int .i64 ((xs_n : Nat) : Int))], [some ⟨false, .fl .f32 xs⟩]⟩), ((t + ((xs_n : Nat) : Int)) = (t + ((xs_n : Nat) : Int))), (xs = xs)] := by kernel_rfl
  exact Ev.of mixed _ _ _ Try.func36 (by kernel_rfl) e ⟨rfl, rfl, (by omega), rfl, (by omega), rfl, (ev_held_L1 xs xs_n xs_h xs_b t ht1 ht2 hsz hm), rfl, rfl, trivial⟩

theorem ev_checkedNumbers_t (xs : List Nat) (xs_n : Nat) (xs_h : xs.length = xs_n) (xs_b : xs_n ≤ 9223372036854775807)  (hcase : allFin xs = true) : Ev Try.prog 92 [.slice (some ⟨0, 0, none⟩) xs_n 1] [some ⟨false, .fl .f32 xs⟩] (.tuple ⟨[.slice (some ⟨0, 0, none⟩) xs_n 1, .bool true]⟩) [some ⟨false, .fl .f32 xs⟩] := by
  have e : evF Try.prog Try.f92 [.slice (some ⟨0, 0, none⟩) xs_n 1] [some ⟨false, .fl .f32 xs⟩] [.c [(0, false)] (.bool (allFin xs)) [some ⟨false, .fl .f32 xs⟩], .b false] [] [some 0] (.tuple ⟨[.slice (some ⟨0, 0, none⟩) xs_n 1, .bool true]⟩) [some ⟨false, .fl .f32 xs⟩] = some [(Ev Try.prog 87 [.slice (some ⟨0, 0, none⟩) xs_n 1] [some ⟨false, .fl .f32 xs⟩] (.bool (allFin xs)) [some ⟨false, .fl .f32 xs⟩]), ((!(allFin xs)) = false), (0 = 0), (xs_n = xs_n), (true = true), (xs = xs)] := by kernel_rfl
  exact Ev.of mixed _ _ _ Try.func92 (by kernel_rfl) e ⟨(ev_areFinite xs xs_n xs_h xs_b), (congrArg Bool.not hcase), rfl, rfl, rfl, rfl, trivial⟩

theorem ev_checkedNumbers_f (xs : List Nat) (xs_n : Nat) (xs_h : xs.length = xs_n) (xs_b : xs_n ≤ 9223372036854775807)  (hcase : allFin xs = false) : Ev Try.prog 92 [.slice (some ⟨0, 0, none⟩) xs_n 1] [some ⟨false, .fl .f32 xs⟩] (.tuple ⟨[.slice none 0 0, .bool false]⟩) [some ⟨false, .fl .f32 xs⟩] := by
  have e : evF Try.prog Try.f92 [.slice (some ⟨0, 0, none⟩) xs_n 1] [some ⟨false, .fl .f32 xs⟩] [.c [(0, false)] (.bool (allFin xs)) [some ⟨false, .fl .f32 xs⟩], .b true] [] [some 0] (.tuple ⟨[.slice none 0 0, .bool false]⟩) [some ⟨false, .fl .f32 xs⟩] = some [(Ev Try.prog 87 [.slice (some ⟨0, 0, none⟩) xs_n 1] [some ⟨false, .fl .f32 xs⟩] (.bool (allFin xs)) [some ⟨false, .fl .f32 xs⟩]), ((!(allFin xs)) = true), (false = false), (xs = xs)] := by kernel_rfl
  exact Ev.of mixed _ _ _ Try.func92 (by kernel_rfl) e ⟨(ev_areFinite xs xs_n xs_h xs_b), (congrArg Bool.not hcase), rfl, rfl, trivial⟩

theorem ev_l03List_t (xs : List Nat) (xs_n : Nat) (xs_h : xs.length = xs_n) (xs_b : xs_n ≤ 9223372036854775807)  (hcase : allFin xs = true) : Ev Try.prog 104 [.slice (some ⟨0, 0, none⟩) xs_n 1] [some ⟨false, .fl .f32 xs⟩] (.tuple ⟨[.slice (some ⟨0, 0, none⟩) xs_n 1, .bool true]⟩) [some ⟨false, .fl .f32 xs⟩] := by
  have e : evF Try.prog Try.f104 [.slice (some ⟨0, 0, none⟩) xs_n 1] [some ⟨false, .fl .f32 xs⟩] [.c [(0, false)] (.bool (allFin xs)) [some ⟨false, .fl .f32 xs⟩], .b false] [] [some 0] (.tuple ⟨[.slice (some ⟨0, 0, none⟩) xs_n 1, .bool true]⟩) [some ⟨false, .fl .f32 xs⟩] = some [(Ev Try.prog 156 [.slice (some ⟨0, 0, none⟩) xs_n 1] [some ⟨false, .fl .f32 xs⟩] (.bool (allFin xs)) [some ⟨false, .fl .f32 xs⟩]), ((!(allFin xs)) = false), (0 = 0), (xs_n = xs_n), (true = true), (xs = xs)] := by kernel_rfl
  exact Ev.of mixed _ _ _ Try.func104 (by kernel_rfl) e ⟨(ev_l03Finite xs xs_n xs_h xs_b), (congrArg Bool.not hcase), rfl, rfl, rfl, rfl, trivial⟩

theorem ev_l03List_f (xs : List Nat) (xs_n : Nat) (xs_h : xs.length = xs_n) (xs_b : xs_n ≤ 9223372036854775807)  (hcase : allFin xs = false) : Ev Try.prog 104 [.slice (some ⟨0, 0, none⟩) xs_n 1] [some ⟨false, .fl .f32 xs⟩] (.tuple ⟨[.slice none 0 0, .bool false]⟩) [some ⟨false, .fl .f32 xs⟩] := by
  have e : evF Try.prog Try.f104 [.slice (some ⟨0, 0, none⟩) xs_n 1] [some ⟨false, .fl .f32 xs⟩] [.c [(0, false)] (.bool (allFin xs)) [some ⟨false, .fl .f32 xs⟩], .b true] [] [some 0] (.tuple ⟨[.slice none 0 0, .bool false]⟩) [some ⟨false, .fl .f32 xs⟩] = some [(Ev Try.prog 156 [.slice (some ⟨0, 0, none⟩) xs_n 1] [some ⟨false, .fl .f32 xs⟩] (.bool (allFin xs)) [some ⟨false, .fl .f32 xs⟩]), ((!(allFin xs)) = true), (false = false), (xs = xs)] := by kernel_rfl
  exact Ev.of mixed _ _ _ Try.func104 (by kernel_rfl) e ⟨(ev_l03Finite xs xs_n xs_h xs_b), (congrArg Bool.not hcase), rfl, rfl, trivial⟩

end Go.Sim
