/- What the marks of lists compute, and lists that are looked through. Conditions: none. -/

import Derived.Test.YtidjddabfmnkjaaProg
import Derived.KernelRfl
import Derived.Test.YtidjddabfmnkjaaGa
import Derived.Test.YtidjddabfmnkjaaPu2

set_option linter.unusedSimpArgs false

set_option linter.unusedVariables false

namespace Go.Sim

open Go Go.Proofs

theorem ev_szFloat32S_t (a : List Nat) (a_n : Nat) (a_h : a.length = a_n) (a_b : a_n ≤ 9223372036854775807) (left : Int)  (hb0 : left ≤ 1099511627776) (hb1 : 0 ≤ left) (hcase : ((a_n : Nat) : Int) ≤ left) : Ev Try.prog 71 [.slice (some ⟨0, 0, none⟩) a_n 1, .int .i64 left] [some ⟨false, .fl .f32 a⟩] (.int .i64 (left - ((a_n : Nat) : Int))) [some ⟨false, .fl .f32 a⟩] := by
  have e : evF Try.prog Try.f71 [.slice (some ⟨0, 0, none⟩) a_n 1, .int .i64 left] [some ⟨false, .fl .f32 a⟩] [.b false] [] [some 0] (.int .i64 (left - ((a_n : Nat) : Int))) [some ⟨false, .fl .f32 a⟩] = some [(inR .i64 (left - ((a_n : Nat) : Int))), ((decide ((left - ((a_n : Nat) : Int)) < (0 : Int))) = false), ((left - ((a_n : Nat) : Int)) = (left - ((a_n : Nat) : Int))), (a = a)] := by kernel_rfl
  exact Ev.of mixed _ _ _ Try.func71 (by kernel_rfl) e ⟨(inR64 (by omega) (by omega)), (decide_eq_false (by omega)), rfl, rfl, trivial⟩

theorem ev_szFloat32S_f (a : List Nat) (a_n : Nat) (a_h : a.length = a_n) (a_b : a_n ≤ 9223372036854775807) (left : Int)  (hb0 : left ≤ 1099511627776) (hb1 : 0 ≤ left) (hcase : ¬ ((a_n : Nat) : Int) ≤ left) : Ev Try.prog 71 [.slice (some ⟨0, 0, none⟩) a_n 1, .int .i64 left] [some ⟨false, .fl .f32 a⟩] (.int .i64 (-1 : Int)) [some ⟨false, .fl .f32 a⟩] := by
  have e : evF Try.prog Try.f71 [.slice (some ⟨0, 0, none⟩) a_n 1, .int .i64 left] [some ⟨false, .fl .f32 a⟩] [.b true] [] [some 0] (.int .i64 (-1 : Int)) [some ⟨false, .fl .f32 a⟩] = some [(inR .i64 (left - ((a_n : Nat) : Int))), ((decide ((left - ((a_n : Nat) : Int)) < (0 : Int))) = true), ((-1 : Int) = (-1 : Int)), (a = a)] := by kernel_rfl
  exact Ev.of mixed _ _ _ Try.func71 (by kernel_rfl) e ⟨(inR64 (by omega) (by omega)), (decide_eq_true (by omega)), rfl, rfl, trivial⟩

def ev_mark_L1_step (xs : List Nat) (xs_n : Nat) (t : Int) (k1 : Nat) (s1 : (List Nat)) : (List Nat) := (List.set s1 k1 (canon .f32 (FloatKind.nearest .f32 (t + ((k1 : Nat) : Int)))))

def ev_mark_L1_S (xs : List Nat) (xs_n : Nat) (t : Int) : Nat → (List Nat)
  | 0 => xs
  | k + 1 => ev_mark_L1_step xs xs_n t k (ev_mark_L1_S xs xs_n t k)

def ev_mark_L1_I (xs : List Nat) (xs_n : Nat) (t : Int) (k1 : Nat) (s1 : (List Nat)) : St := ⟨[(0, .slice (some ⟨0, 0, none⟩) xs_n 1), (1, .int .i64 (t + ((k1 : Nat) : Int))), (4, .int .i64 (0 : Int)), (5, .int .i64 ((k1 : Nat) : Int))], [some ⟨true, .fl .f32 s1⟩]⟩

theorem ev_mark_L1_inv (xs : List Nat) (xs_n : Nat) (xs_h : xs.length = xs_n) (xs_b : xs_n ≤ 9223372036854775807) (t : Int)  (ht1 : 0 ≤ t) (ht2 : t ≤ 1099511627776) (hsz : xs_n ≤ 1099511627776) : ∀ k, List.length (ev_mark_L1_S xs xs_n t k) = xs_n := by
  intro k
  induction k with
  | zero => simp [ev_mark_L1_S, List.length_set, List.length_append, List.length_replicate, List.length_cons, List.length_nil, List.length_take, List.length_drop, rowAdd_eq, xs_h]
  | succ k ih =>
    simp only [ev_mark_L1_S]
    generalize ev_mark_L1_S xs xs_n t k = s at ih ⊢
    unfold ev_mark_L1_step
    first
    | (simp [-List.getD_eq_getElem?_getD, List.length_set, List.length_append, List.length_replicate, List.length_cons, List.length_nil, List.length_take, List.length_drop, rowAdd_eq, xs_h, ih]; done)
    | ((repeat' split) <;> (simp_all [-List.getD_eq_getElem?_getD, List.length_set, List.length_append, List.length_replicate, List.length_cons, List.length_nil, List.length_take, List.length_drop, rowAdd_eq, xs_h]) <;> omega)
    | ((repeat' split) <;> (simp_all [-List.getD_eq_getElem?_getD, List.length_set, List.length_append, List.length_replicate, List.length_cons, List.length_nil, List.length_take, List.length_drop, rowAdd_eq, xs_h]); done)

theorem ev_mark_L1_inv0 (xs : List Nat) (xs_n : Nat) (xs_h : xs.length = xs_n) (xs_b : xs_n ≤ 9223372036854775807) (t : Int)  (ht1 : 0 ≤ t) (ht2 : t ≤ 1099511627776) (hsz : xs_n ≤ 1099511627776) (k : Nat) : List.length (ev_mark_L1_S xs xs_n t k) = xs_n := (ev_mark_L1_inv xs xs_n xs_h xs_b t ht1 ht2 hsz k)

theorem ev_mark_L1_body (xs : List Nat) (xs_n : Nat) (xs_h : xs.length = xs_n) (xs_b : xs_n ≤ 9223372036854775807) (t : Int)  (ht1 : 0 ≤ t) (ht2 : t ≤ 1099511627776) (hsz : xs_n ≤ 1099511627776) (k1 : Nat) (s1 : (List Nat)) (s1_i0 : List.length s1 = xs_n) (hk_k1 : k1 < xs_n)  : PW Try.prog 20 1 (sub [1, 0, 1, 0, 0] (bodyOf Try.f20)) (ev_mark_L1_I xs xs_n t k1 s1) .normal (ev_mark_L1_I xs xs_n t (k1 + 1) (ev_mark_L1_step xs xs_n t k1 s1)) := by
  have e : evL Try.prog 20 1 (sub [1, 0, 1, 0, 0] (bodyOf Try.f20)) (ev_mark_L1_I xs xs_n t k1 s1) [.b true, .n k1] [] [some 0] .normal (ev_mark_L1_I xs xs_n t (k1 + 1) (ev_mark_L1_step xs xs_n t k1 s1)) = some [((decide (((k1 : Nat) : Int) < ((xs_n : Nat) : Int))) = true), (((k1 : Nat) : Int) = ((k1 : Nat) : Int)), (k1 < xs_n), (k1 < (List.length s1)), (inR .i64 ((t + ((k1 : Nat) : Int)) + (1 : Int))), (inR .i64 (((k1 : Nat) : Int) + (1 : Int))), (0 = 0), (xs_n = xs_n), (((t + ((k1 : Nat) : Int)) + (1 : Int)) = (t + (((k1 + 1) : Nat) : Int))), ((0 : Int) = (0 : Int)), ((((k1 : Nat) : Int) + (1 : Int)) = (((k1 + 1) : Nat) : Int)), ((List.set s1 k1 (canon .f32 (FloatKind.nearest .f32 (t + ((k1 : Nat) : Int))))) = (ev_mark_L1_step xs xs_n t k1 s1))] := by kernel_rfl
  exact PW.of_evL mixed _ _ _ e ⟨(decide_eq_true (by omega)), rfl, (by omega), (by omega), (inR64 (by omega) (by omega)), (inR64 (by omega) (by omega)), rfl, rfl, (by omega), rfl, (by omega), (by first | (simp [-List.getD_eq_getElem?_getD, ev_mark_L1_step, xs_h, s1_i0]; done) | (simp_all [-List.getD_eq_getElem?_getD, ev_mark_L1_step, xs_h, s1_i0]; done)), trivial⟩

theorem ev_mark_L1_end (xs : List Nat) (xs_n : Nat) (xs_h : xs.length = xs_n) (xs_b : xs_n ≤ 9223372036854775807) (t : Int)  (ht1 : 0 ≤ t) (ht2 : t ≤ 1099511627776) (hsz : xs_n ≤ 1099511627776) (s1 : (List Nat)) (s1_i0 : List.length s1 = xs_n) : PW Try.prog 20 1 (sub [1, 0, 1, 0, 0] (bodyOf Try.f20)) (ev_mark_L1_I xs xs_n t xs_n s1) (.exit 0) ⟨[(0, .slice (some ⟨0, 0, none⟩) xs_n 1), (1, .int .i64 (t + ((xs_n : Nat) : Int))), (4, .int .i64 (0 : Int)), (5, .int .i64 ((xs_n : Nat) : Int))], [some ⟨true, .fl .f32 s1⟩]⟩ := by
  have e : evL Try.prog 20 1 (sub [1, 0, 1, 0, 0] (bodyOf Try.f20)) (ev_mark_L1_I xs xs_n t xs_n s1) [.b false] [] [some 0] (.exit 0) ⟨[(0, .slice (some ⟨0, 0, none⟩) xs_n 1), (1, .int .i64 (t + ((xs_n : Nat) : Int))), (4, .int .i64 (0 : Int)), (5, .int .i64 ((xs_n : Nat) : Int))], [some ⟨true, .fl .f32 s1⟩]⟩ = some [((decide (((xs_n : Nat) : Int) < ((xs_n : Nat) : Int))) = false), (0 = 0), (xs_n = xs_n), ((t + ((xs_n : Nat) : Int)) = (t + ((xs_n : Nat) : Int))), ((0 : Int) = (0 : Int)), (((xs_n : Nat) : Int) = ((xs_n : Nat) : Int)), (s1 = s1)] := by kernel_rfl
  exact PW.of_evL mixed _ _ _ e ⟨(decide_eq_false (by omega)), rfl, rfl, rfl, rfl, rfl, rfl, trivial⟩

theorem ev_mark_L1 (xs : List Nat) (xs_n : Nat) (xs_h : xs.length = xs_n) (xs_b : xs_n ≤ 9223372036854775807) (t : Int)  (ht1 : 0 ≤ t) (ht2 : t ≤ 1099511627776) (hsz : xs_n ≤ 1099511627776)  : PW Try.prog 20 1 (.loop (sub [1, 0, 1, 0, 0] (bodyOf Try.f20))) (ev_mark_L1_I xs xs_n t 0 (ev_mark_L1_S xs xs_n t 0)) (.exit 0) ⟨[(0, .slice (some ⟨0, 0, none⟩) xs_n 1), (1, .int .i64 (t + ((xs_n : Nat) : Int))), (4, .int .i64 (0 : Int)), (5, .int .i64 ((xs_n : Nat) : Int))], [some ⟨true, .fl .f32 (ev_mark_L1_S xs xs_n t xs_n)⟩]⟩ :=
  PW.loop (I := (fun k => ev_mark_L1_I xs xs_n t k (ev_mark_L1_S xs xs_n t k))) xs_n (by simp) (fun k hk => ev_mark_L1_body xs xs_n xs_h xs_b t ht1 ht2 hsz k _ (ev_mark_L1_inv0 xs xs_n xs_h xs_b t ht1 ht2 hsz k) hk) (ev_mark_L1_end xs xs_n xs_h xs_b t ht1 ht2 hsz _ (ev_mark_L1_inv0 xs xs_n xs_h xs_b t ht1 ht2 hsz xs_n))

theorem ev_mark (xs : List Nat) (xs_n : Nat) (xs_h : xs.length = xs_n) (xs_b : xs_n ≤ 9223372036854775807) (t : Int)  (ht1 : 0 ≤ t) (ht2 : t ≤ 1099511627776) (hsz : xs_n ≤ 1099511627776) : Ev Try.prog 20 [.slice (some ⟨0, 0, none⟩) xs_n 1, .int .i64 t] [some ⟨true, .fl .f32 xs⟩] (.int .i64 (t + ((xs_n : Nat) : Int))) [some ⟨true, .fl .f32 (markL xs_n t)⟩] := by
  have a0 := (ev_mark_L1_inv0 xs xs_n xs_h xs_b t ht1 ht2 hsz xs_n)
  have e : evF Try.prog Try.f20 [.slice (some ⟨0, 0, none⟩) xs_n 1, .int .i64 t] [some ⟨true, .fl .f32 xs⟩] [] [([some 0], (ev_mark_L1_I xs xs_n t 0 (ev_mark_L1_S xs xs_n t 0)), (.exit 0), ⟨[(0, .slice (some ⟨0, 0, none⟩) xs_n 1), (1, .int .i64 (t + ((xs_n : Nat) : Int))), (4, .int .i64 (0 : Int)), (5, .int .i64 ((xs_n : Nat) : Int))], [some ⟨true, .fl .f32 (ev_mark_L1_S xs xs_n t xs_n)⟩]⟩)] [some 0] (.int .i64 (t + ((xs_n : Nat) : Int))) [some ⟨true, .fl .f32 (markL xs_n t)⟩] = some [(0 = 0), (xs_n = xs_n), (t = (t + ((0 : Nat) : Int))), ((0 : Int) = (0 : Int)), ((0 : Int) = ((0 : Nat) : Int)), (xs = (ev_mark_L1_S xs xs_n t 0)), (PW Try.prog 20 1 (.loop (sub [1, 0, 1, 0, 0] (bodyOf Try.f20))) (ev_mark_L1_I xs xs_n t 0 (ev_mark_L1_S xs xs_n t 0)) (.exit 0) ⟨[(0, .slice (some ⟨0, 0, none⟩) xs_n 1), (1, .int .i64 (t + ((xs_n : Nat) : Int))), (4, .int .i64 (0 : Int)), (5, .int .i64 ((xs_n : Nat) : Int))], [some ⟨true, .fl .f32 (ev_mark_L1_S xs xs_n t xs_n)⟩]⟩), ((t + ((xs_n : Nat) : Int)) = (t + ((xs_n : Nat) : Int))), ((ev_mark_L1_S xs xs_n t xs_n) = (markL xs_n t))] := by kernel_rfl
  exact Ev.of mixed _ _ _ Try.func20 (by kernel_rfl) e ⟨rfl, rfl, (by omega), rfl, (by omega), rfl, (ev_mark_L1 xs xs_n xs_h xs_b t ht1 ht2 hsz), rfl, (mark_all xs xs_n t xs_h (ev_mark_L1_S xs xs_n t) rfl (fun _ => rfl)), trivial⟩

def ev_held_L1_step (xs : List Nat) (xs_n : Nat) (t : Int) (k1 : Nat) (s1 : Unit) : Unit := ()

def ev_held_L1_S (xs : List Nat) (xs_n : Nat) (t : Int) : Nat → Unit
  | 0 => ()
  | k + 1 => ev_held_L1_step xs xs_n t k (ev_held_L1_S xs xs_n t k)

def ev_held_L1_I (xs : List Nat) (xs_n : Nat) (t : Int) (k1 : Nat) (s1 : Unit) : St := ⟨[(0, .slice (some ⟨0, 0, none⟩) xs_n 1), (1, .int .i64 (t + ((k1 : Nat) : Int))), (4, .int .i64 (0 : Int)), (5, .int .i64 ((k1 : Nat) : Int))], [some ⟨false, .fl .f32 xs⟩]⟩

theorem ev_held_L1_body (xs : List Nat) (xs_n : Nat) (xs_h : xs.length = xs_n) (xs_b : xs_n ≤ 9223372036854775807) (t : Int)  (ht1 : 0 ≤ t) (ht2 : t ≤ 1099511627776) (hsz : xs_n ≤ 1099511627776) (hm : xs = markL xs_n t) (k1 : Nat) (s1 : Unit)  (hk_k1 : k1 < xs_n)  : PW Try.prog 22 1 (sub [1, 0, 1, 0, 0] (bodyOf Try.f27)) (ev_held_L1_I xs xs_n t k1 s1) .normal (ev_held_L1_I xs xs_n t (k1 + 1) (ev_held_L1_step xs xs_n t k1 s1)) := by
  have e : evL Try.prog 22 1 (sub [1, 0, 1, 0, 0] (bodyOf Try.f27)) (ev_held_L1_I xs xs_n t k1 s1) [.b true, .n k1, .b false] [] [some 0] .normal (ev_held_L1_I xs xs_n t (k1 + 1) (ev_held_L1_step xs xs_n t k1 s1)) = some [((decide (((k1 : Nat) : Int) < ((xs_n : Nat) : Int))) = true), (((k1 : Nat) : Int) = ((k1 : Nat) : Int)), (k1 < xs_n), (k1 < (List.length xs)), ((fcmp .neq .f32 (List.getD xs k1 0) (canon .f32 (FloatKind.nearest .f32 (t + ((k1 : Nat) : Int))))) = false), (inR .i64 ((t + ((k1 : Nat) : Int)) + (1 : Int))), (inR .i64 (((k1 : Nat) : Int) + (1 : Int))), (0 = 0), (xs_n = xs_n), (((t + ((k1 : Nat) : Int)) + (1 : Int)) = (t + (((k1 + 1) : Nat) : Int))), ((0 : Int) = (0 : Int)), ((((k1 : Nat) : Int) + (1 : Int)) = (((k1 + 1) : Nat) : Int)), (xs = xs)] := by kernel_rfl
  exact PW.of_evL mixed _ _ _ e ⟨(decide_eq_true (by omega)), rfl, (by omega), (by omega), (held_ne hm hk_k1), (inR64 (by omega) (by omega)), (inR64 (by omega) (by omega)), rfl, rfl, (by omega), rfl, (by omega), rfl, trivial⟩

theorem ev_held_L1_end (xs : List Nat) (xs_n : Nat) (xs_h : xs.length = xs_n) (xs_b : xs_n ≤ 9223372036854775807) (t : Int)  (ht1 : 0 ≤ t) (ht2 : t ≤ 1099511627776) (hsz : xs_n ≤ 1099511627776) (hm : xs = markL xs_n t) (s1 : Unit)  : PW Try.prog 22 1 (sub [1, 0, 1, 0, 0] (bodyOf Try.f27)) (ev_held_L1_I xs xs_n t xs_n s1) (.exit 0) ⟨[(0, .slice (some ⟨0, 0, none⟩) xs_n 1), (1, .int .i64 (t + ((xs_n : Nat) : Int))), (4, .int .i64 (0 : Int)), (5, .int .i64 ((xs_n : Nat) : Int))], [some ⟨false, .fl .f32 xs⟩]⟩ := by
  have e : evL Try.prog 22 1 (sub [1, 0, 1, 0, 0] (bodyOf Try.f27)) (ev_held_L1_I xs xs_n t xs_n s1) [.b false] [] [some 0] (.exit 0) ⟨[(0, .slice (some ⟨0, 0, none⟩) xs_n 1), (1, .int .i64 (t + ((xs_n : Nat) : Int))), (4, .int .i64 (0 : Int)), (5, .int .i64 ((xs_n : Nat) : Int))], [some ⟨false, .fl .f32 xs⟩]⟩ = some [((decide (((xs_n : Nat) : Int) < ((xs_n : Nat) : Int))) = false), (0 = 0), (xs_n = xs_n), ((t + ((xs_n : Nat) : Int)) = (t + ((xs_n : Nat) : Int))), ((0 : Int) = (0 : Int)), (((xs_n : Nat) : Int) = ((xs_n : Nat) : Int)), (xs = xs)] := by kernel_rfl
  exact PW.of_evL mixed _ _ _ e ⟨(decide_eq_false (by omega)), rfl, rfl, rfl, rfl, rfl, rfl, trivial⟩

theorem ev_held_L1 (xs : List Nat) (xs_n : Nat) (xs_h : xs.length = xs_n) (xs_b : xs_n ≤ 9223372036854775807) (t : Int)  (ht1 : 0 ≤ t) (ht2 : t ≤ 1099511627776) (hsz : xs_n ≤ 1099511627776) (hm : xs = markL xs_n t)  : PW Try.prog 22 1 (.loop (sub [1, 0, 1, 0, 0] (bodyOf Try.f27))) (ev_held_L1_I xs xs_n t 0 (ev_held_L1_S xs xs_n t 0)) (.exit 0) ⟨[(0, .slice (some ⟨0, 0, none⟩) xs_n 1), (1, .int .i64 (t + ((xs_n : Nat) : Int))), (4, .int .i64 (0 : Int)), (5, .int .i64 ((xs_n : Nat) : Int))], [some ⟨false, .fl .f32 xs⟩]⟩ :=
  PW.loop (I := (fun k => ev_held_L1_I xs xs_n t k (ev_held_L1_S xs xs_n t k))) xs_n (by simp) (fun k hk => ev_held_L1_body xs xs_n xs_h xs_b t ht1 ht2 hsz hm k _  hk) (ev_held_L1_end xs xs_n xs_h xs_b t ht1 ht2 hsz hm _ )

theorem ev_held (xs : List Nat) (xs_n : Nat) (xs_h : xs.length = xs_n) (xs_b : xs_n ≤ 9223372036854775807) (t : Int)  (ht1 : 0 ≤ t) (ht2 : t ≤ 1099511627776) (hsz : xs_n ≤ 1099511627776) (hm : xs = markL xs_n t) : Ev Try.prog 27 [.slice (some ⟨0, 0, none⟩) xs_n 1, .int .i64 t] [some ⟨false, .fl .f32 xs⟩] (.int .i64 (t + ((xs_n : Nat) : Int))) [some ⟨false, .fl .f32 xs⟩] := by
  have e : evF Try.prog Try.f27 [.slice (some ⟨0, 0, none⟩) xs_n 1, .int .i64 t] [some ⟨false, .fl .f32 xs⟩] [] [([some 0], (ev_held_L1_I xs xs_n t 0 (ev_held_L1_S xs xs_n t 0)), (.exit 0), ⟨[(0, .slice (some ⟨0, 0, none⟩) xs_n 1), (1, .int .i64 (t + ((xs_n : Nat) : Int))), (4, .int .i64 (0 : Int)), (5, .int .i64 ((xs_n : Nat) : Int))], [some ⟨false, .fl .f32 xs⟩]⟩)] [some 0] (.int .i64 (t + ((xs_n : Nat) : Int))) [some ⟨false, .fl .f32 xs⟩] = some [(0 = 0), (xs_n = xs_n), (t = (t + ((0 : Nat) : Int))), ((0 : Int) = (0 : Int)), ((0 : Int) = ((0 : Nat) : Int)), (xs = xs), (PW Try.prog 22 1 (.loop (sub [1, 0, 1, 0, 0] (bodyOf Try.f27))) (ev_held_L1_I xs xs_n t 0 (ev_held_L1_S xs xs_n t 0)) (.exit 0) ⟨[(0, .slice (some ⟨0, 0, none⟩) xs_n 1), (1, .int .i64 (t + ((xs_n : Nat) : Int))), (4, .int .i64 (0 : Int)), (5, .int .i64 ((xs_n : Nat) : Int))], [some ⟨false, .fl .f32 xs⟩]⟩), ((t + ((xs_n : Nat) : Int)) = (t + ((xs_n : Nat) : Int))), (xs = xs)] := by kernel_rfl
  exact Ev.of mixed _ _ _ Try.func27 (by kernel_rfl) e ⟨rfl, rfl, (by omega), rfl, (by omega), rfl, (ev_held_L1 xs xs_n xs_h xs_b t ht1 ht2 hsz hm), rfl, rfl, trivial⟩

theorem ev_checkedNumbers_t (xs : List Nat) (xs_n : Nat) (xs_h : xs.length = xs_n) (xs_b : xs_n ≤ 9223372036854775807)  (hcase : allFin xs = true) : Ev Try.prog 74 [.slice (some ⟨0, 0, none⟩) xs_n 1] [some ⟨false, .fl .f32 xs⟩] (.tuple ⟨[.slice (some ⟨0, 0, none⟩) xs_n 1, .bool true]⟩) [some ⟨false, .fl .f32 xs⟩] := by
  have e : evF Try.prog Try.f74 [.slice (some ⟨0, 0, none⟩) xs_n 1] [some ⟨false, .fl .f32 xs⟩] [.c [(0, false)] (.bool (allFin xs)) [some ⟨false, .fl .f32 xs⟩], .b false] [] [some 0] (.tuple ⟨[.slice (some ⟨0, 0, none⟩) xs_n 1, .bool true]⟩) [some ⟨false, .fl .f32 xs⟩] = some [(Ev Try.prog 105 [.slice (some ⟨0, 0, none⟩) xs_n 1] [some ⟨false, .fl .f32 xs⟩] (.bool (allFin xs)) [some ⟨false, .fl .f32 xs⟩]), ((!(allFin xs)) = false), (0 = 0), (xs_n = xs_n), (true = true), (xs = xs)] := by kernel_rfl
  exact Ev.of mixed _ _ _ Try.func74 (by kernel_rfl) e ⟨(ev_areFinite xs xs_n xs_h xs_b), (congrArg Bool.not hcase), rfl, rfl, rfl, rfl, trivial⟩

theorem ev_checkedNumbers_f (xs : List Nat) (xs_n : Nat) (xs_h : xs.length = xs_n) (xs_b : xs_n ≤ 9223372036854775807)  (hcase : allFin xs = false) : Ev Try.prog 74 [.slice (some ⟨0, 0, none⟩) xs_n 1] [some ⟨false, .fl .f32 xs⟩] (.tuple ⟨[.slice none 0 0, .bool false]⟩) [some ⟨false, .fl .f32 xs⟩] := by
  have e : evF Try.prog Try.f74 [.slice (some ⟨0, 0, none⟩) xs_n 1] [some ⟨false, .fl .f32 xs⟩] [.c [(0, false)] (.bool (allFin xs)) [some ⟨false, .fl .f32 xs⟩], .b true] [] [some 0] (.tuple ⟨[.slice none 0 0, .bool false]⟩) [some ⟨false, .fl .f32 xs⟩] = some [(Ev Try.prog 105 [.slice (some ⟨0, 0, none⟩) xs_n 1] [some ⟨false, .fl .f32 xs⟩] (.bool (allFin xs)) [some ⟨false, .fl .f32 xs⟩]), ((!(allFin xs)) = true), (false = false), (xs = xs)] := by kernel_rfl
  exact Ev.of mixed _ _ _ Try.func74 (by kernel_rfl) e ⟨(ev_areFinite xs xs_n xs_h xs_b), (congrArg Bool.not hcase), rfl, rfl, trivial⟩

theorem ev_l03List_t (xs : List Nat) (xs_n : Nat) (xs_h : xs.length = xs_n) (xs_b : xs_n ≤ 9223372036854775807)  (hcase : allFin xs = true) : Ev Try.prog 73 [.slice (some ⟨0, 0, none⟩) xs_n 1] [some ⟨false, .fl .f32 xs⟩] (.tuple ⟨[.slice (some ⟨0, 0, none⟩) xs_n 1, .bool true]⟩) [some ⟨false, .fl .f32 xs⟩] := by
  have e : evF Try.prog Try.f73 [.slice (some ⟨0, 0, none⟩) xs_n 1] [some ⟨false, .fl .f32 xs⟩] [.c [(0, false)] (.bool (allFin xs)) [some ⟨false, .fl .f32 xs⟩], .b false] [] [some 0] (.tuple ⟨[.slice (some ⟨0, 0, none⟩) xs_n 1, .bool true]⟩) [some ⟨false, .fl .f32 xs⟩] = some [(Ev Try.prog 72 [.slice (some ⟨0, 0, none⟩) xs_n 1] [some ⟨false, .fl .f32 xs⟩] (.bool (allFin xs)) [some ⟨false, .fl .f32 xs⟩]), ((!(allFin xs)) = false), (0 = 0), (xs_n = xs_n), (true = true), (xs = xs)] := by kernel_rfl
  exact Ev.of mixed _ _ _ Try.func73 (by kernel_rfl) e ⟨(ev_l03Finite xs xs_n xs_h xs_b), (congrArg Bool.not hcase), rfl, rfl, rfl, rfl, trivial⟩

theorem ev_l03List_f (xs : List Nat) (xs_n : Nat) (xs_h : xs.length = xs_n) (xs_b : xs_n ≤ 9223372036854775807)  (hcase : allFin xs = false) : Ev Try.prog 73 [.slice (some ⟨0, 0, none⟩) xs_n 1] [some ⟨false, .fl .f32 xs⟩] (.tuple ⟨[.slice none 0 0, .bool false]⟩) [some ⟨false, .fl .f32 xs⟩] := by
  have e : evF Try.prog Try.f73 [.slice (some ⟨0, 0, none⟩) xs_n 1] [some ⟨false, .fl .f32 xs⟩] [.c [(0, false)] (.bool (allFin xs)) [some ⟨false, .fl .f32 xs⟩], .b true] [] [some 0] (.tuple ⟨[.slice none 0 0, .bool false]⟩) [some ⟨false, .fl .f32 xs⟩] = some [(Ev Try.prog 72 [.slice (some ⟨0, 0, none⟩) xs_n 1] [some ⟨false, .fl .f32 xs⟩] (.bool (allFin xs)) [some ⟨false, .fl .f32 xs⟩]), ((!(allFin xs)) = true), (false = false), (xs = xs)] := by kernel_rfl
  exact Ev.of mixed _ _ _ Try.func73 (by kernel_rfl) e ⟨(ev_l03Finite xs xs_n xs_h xs_b), (congrArg Bool.not hcase), rfl, rfl, trivial⟩

def ev_l02List_t_L1_step (xs : List Nat) (xs_n : Nat) (k1 : Nat) (s1 : Unit) : Unit := ()

def ev_l02List_t_L1_S (xs : List Nat) (xs_n : Nat) : Nat → Unit
  | 0 => ()
  | k + 1 => ev_l02List_t_L1_step xs xs_n k (ev_l02List_t_L1_S xs xs_n k)

def ev_l02List_t_L1_I (xs : List Nat) (xs_n : Nat) (k1 : Nat) (s1 : Unit) : St := ⟨[(0, .slice (some ⟨0, 0, none⟩) xs_n 1), (2, .slice none 0 0), (3, .bool false), (4, .int .i64 ((k1 : Nat) : Int))], [some ⟨false, .fl .f32 xs⟩]⟩

def ev_l02List_t_L1_good (xs : List Nat) (xs_n : Nat) (k1 : Nat) (s1 : Unit) : Bool := (if (fin32 (List.getD xs k1 0)) then true else false)

theorem ev_l02List_t_L1_body (xs : List Nat) (xs_n : Nat) (xs_h : xs.length = xs_n) (xs_b : xs_n ≤ 9223372036854775807)  (hcase : allFin xs = true) (k1 : Nat) (s1 : Unit)  (hk_k1 : k1 < xs_n) (hg : ev_l02List_t_L1_good xs xs_n k1 s1 = true) : PW Try.prog 18 1 (sub [1, 0, 1, 0, 0] (bodyOf Try.f93)) (ev_l02List_t_L1_I xs xs_n k1 s1) .normal (ev_l02List_t_L1_I xs xs_n (k1 + 1) (ev_l02List_t_L1_step xs xs_n k1 s1)) := by
  rcases Bool.eq_false_or_eq_true (fin32 (List.getD xs k1 0)) with h1 | h1
  ·
    have e : evL Try.prog 18 1 (sub [1, 0, 1, 0, 0] (bodyOf Try.f93)) (ev_l02List_t_L1_I xs xs_n k1 s1) [.b true, .n k1, .c [] (.bool (fin32 (List.getD xs k1 0))) [], .b false] [] [some 0] .normal (ev_l02List_t_L1_I xs xs_n (k1 + 1) (ev_l02List_t_L1_step xs xs_n k1 s1)) = some [((decide (((k1 : Nat) : Int) < ((xs_n : Nat) : Int))) = true), (((k1 : Nat) : Int) = ((k1 : Nat) : Int)), (k1 < xs_n), (k1 < (List.length xs)), (Ev Try.prog 64 [.float .f32 (List.getD xs k1 0)] [] (.bool (fin32 (List.getD xs k1 0))) []), ((!(fin32 (List.getD xs k1 0))) = false), (inR .i64 (((k1 : Nat) : Int) + (1 : Int))), (0 = 0), (xs_n = xs_n), (false = false), ((((k1 : Nat) : Int) + (1 : Int)) = (((k1 + 1) : Nat) : Int)), (xs = xs)] := by kernel_rfl
    exact PW.of_evL mixed _ _ _ e ⟨(decide_eq_true (by omega)), rfl, (by omega), (by omega), (ev_l01Finite (List.getD xs k1 0)), (congrArg Bool.not h1), (inR64 (by omega) (by omega)), rfl, rfl, rfl, (by omega), rfl, trivial⟩
  ·
    exact absurd hg (by simp [-List.getD_eq_getElem?_getD, ev_l02List_t_L1_good, h1, xs_h])

theorem ev_l02List_t_L1_end (xs : List Nat) (xs_n : Nat) (xs_h : xs.length = xs_n) (xs_b : xs_n ≤ 9223372036854775807)  (hcase : allFin xs = true) (s1 : Unit)  : PW Try.prog 18 1 (sub [1, 0, 1, 0, 0] (bodyOf Try.f93)) (ev_l02List_t_L1_I xs xs_n xs_n s1) (.exit 0) ⟨[(0, .slice (some ⟨0, 0, none⟩) xs_n 1), (2, .slice none 0 0), (3, .bool false), (4, .int .i64 ((xs_n : Nat) : Int))], [some ⟨false, .fl .f32 xs⟩]⟩ := by
  have e : evL Try.prog 18 1 (sub [1, 0, 1, 0, 0] (bodyOf Try.f93)) (ev_l02List_t_L1_I xs xs_n xs_n s1) [.b false] [] [some 0] (.exit 0) ⟨[(0, .slice (some ⟨0, 0, none⟩) xs_n 1), (2, .slice none 0 0), (3, .bool false), (4, .int .i64 ((xs_n : Nat) : Int))], [some ⟨false, .fl .f32 xs⟩]⟩ = some [((decide (((xs_n : Nat) : Int) < ((xs_n : Nat) : Int))) = false), (0 = 0), (xs_n = xs_n), (false = false), (((xs_n : Nat) : Int) = ((xs_n : Nat) : Int)), (xs = xs)] := by kernel_rfl
  exact PW.of_evL mixed _ _ _ e ⟨(decide_eq_false (by omega)), rfl, rfl, rfl, rfl, rfl, trivial⟩

theorem ev_l02List_t_L1 (xs : List Nat) (xs_n : Nat) (xs_h : xs.length = xs_n) (xs_b : xs_n ≤ 9223372036854775807)  (hcase : allFin xs = true) (hL : ∀ k, k < xs_n → ev_l02List_t_L1_good xs xs_n k (ev_l02List_t_L1_S xs xs_n k) = true) : PW Try.prog 18 1 (.loop (sub [1, 0, 1, 0, 0] (bodyOf Try.f93))) (ev_l02List_t_L1_I xs xs_n 0 (ev_l02List_t_L1_S xs xs_n 0)) (.exit 0) ⟨[(0, .slice (some ⟨0, 0, none⟩) xs_n 1), (2, .slice none 0 0), (3, .bool false), (4, .int .i64 ((xs_n : Nat) : Int))], [some ⟨false, .fl .f32 xs⟩]⟩ :=
  PW.loop (I := (fun k => ev_l02List_t_L1_I xs xs_n k (ev_l02List_t_L1_S xs xs_n k))) xs_n (by simp) (fun k hk => ev_l02List_t_L1_body xs xs_n xs_h xs_b hcase k _  hk (hL k hk)) (ev_l02List_t_L1_end xs xs_n xs_h xs_b hcase _ )

theorem ev_l02List_t_L1_ende (xs : List Nat) (xs_n : Nat) (xs_h : xs.length = xs_n) (xs_b : xs_n ≤ 9223372036854775807)  (hcase : allFin xs = true) (s1 : Unit) (k1 : Nat)  (hk_k1 : k1 < xs_n) (hb : ev_l02List_t_L1_good xs xs_n k1 s1 = false) : PW Try.prog 18 1 (sub [1, 0, 1, 0, 0] (bodyOf Try.f93)) (ev_l02List_t_L1_I xs xs_n k1 s1) .ret ⟨[(2, .slice none 0 0), (3, .bool false)], [some ⟨false, .fl .f32 xs⟩]⟩ := by
  rcases Bool.eq_false_or_eq_true (fin32 (List.getD xs k1 0)) with h2 | h2
  ·
    exact absurd hb (by simp [-List.getD_eq_getElem?_getD, ev_l02List_t_L1_good, h2, xs_h])
  ·
    have e : evL Try.prog 18 1 (sub [1, 0, 1, 0, 0] (bodyOf Try.f93)) (ev_l02List_t_L1_I xs xs_n k1 s1) [.b true, .n k1, .c [] (.bool (fin32 (List.getD xs k1 0))) [], .b true] [] [some 0] .ret ⟨[(2, .slice none 0 0), (3, .bool false)], [some ⟨false, .fl .f32 xs⟩]⟩ = some [((decide (((k1 : Nat) : Int) < ((xs_n : Nat) : Int))) = true), (((k1 : Nat) : Int) = ((k1 : Nat) : Int)), (k1 < xs_n), (k1 < (List.length xs)), (Ev Try.prog 64 [.float .f32 (List.getD xs k1 0)] [] (.bool (fin32 (List.getD xs k1 0))) []), ((!(fin32 (List.getD xs k1 0))) = true), (false = false), (xs = xs)] := by kernel_rfl
    exact PW.of_evL mixed _ _ _ e ⟨(decide_eq_true (by omega)), rfl, (by omega), (by omega), (ev_l01Finite (List.getD xs k1 0)), (congrArg Bool.not h2), rfl, rfl, trivial⟩

theorem ev_l02List_t_L1e (xs : List Nat) (xs_n : Nat) (xs_h : xs.length = xs_n) (xs_b : xs_n ≤ 9223372036854775807)  (hcase : allFin xs = true) (j : Nat) (hj : j < xs_n) (hb : ev_l02List_t_L1_good xs xs_n j (ev_l02List_t_L1_S xs xs_n j) = false) (hL : ∀ k, k < j → ev_l02List_t_L1_good xs xs_n k (ev_l02List_t_L1_S xs xs_n k) = true) : PW Try.prog 18 1 (.loop (sub [1, 0, 1, 0, 0] (bodyOf Try.f93))) (ev_l02List_t_L1_I xs xs_n 0 (ev_l02List_t_L1_S xs xs_n 0)) .ret ⟨[(2, .slice none 0 0), (3, .bool false)], [some ⟨false, .fl .f32 xs⟩]⟩ :=
  PW.loop (I := (fun k => ev_l02List_t_L1_I xs xs_n k (ev_l02List_t_L1_S xs xs_n k))) j (by simp) (fun k hk => ev_l02List_t_L1_body xs xs_n xs_h xs_b hcase k _  (Nat.lt_trans hk hj) (hL k hk)) (ev_l02List_t_L1_ende xs xs_n xs_h xs_b hcase _ j  hj hb)

theorem ev_l02List_t (xs : List Nat) (xs_n : Nat) (xs_h : xs.length = xs_n) (xs_b : xs_n ≤ 9223372036854775807)  (hcase : allFin xs = true) : Ev Try.prog 93 [.slice (some ⟨0, 0, none⟩) xs_n 1] [some ⟨false, .fl .f32 xs⟩] (.tuple ⟨[.slice (some ⟨0, 0, none⟩) xs_n 1, .bool true]⟩) [some ⟨false, .fl .f32 xs⟩] := by
  have e : evF Try.prog Try.f93 [.slice (some ⟨0, 0, none⟩) xs_n 1] [some ⟨false, .fl .f32 xs⟩] [] [([some 0], (ev_l02List_t_L1_I xs xs_n 0 (ev_l02List_t_L1_S xs xs_n 0)), (.exit 0), ⟨[(0, .slice (some ⟨0, 0, none⟩) xs_n 1), (2, .slice none 0 0), (3, .bool false), (4, .int .i64 ((xs_n : Nat) : Int))], [some ⟨false, .fl .f32 xs⟩]⟩)] [some 0] (.tuple ⟨[.slice (some ⟨0, 0, none⟩) xs_n 1, .bool true]⟩) [some ⟨false, .fl .f32 xs⟩] = some [(0 = 0), (xs_n = xs_n), (false = false), ((0 : Int) = ((0 : Nat) : Int)), (xs = xs), (PW Try.prog 18 1 (.loop (sub [1, 0, 1, 0, 0] (bodyOf Try.f93))) (ev_l02List_t_L1_I xs xs_n 0 (ev_l02List_t_L1_S xs xs_n 0)) (.exit 0) ⟨[(0, .slice (some ⟨0, 0, none⟩) xs_n 1), (2, .slice none 0 0), (3, .bool false), (4, .int .i64 ((xs_n : Nat) : Int))], [some ⟨false, .fl .f32 xs⟩]⟩), (0 = 0), (xs_n = xs_n), (true = true), (xs = xs)] := by kernel_rfl
  exact Ev.of mixed _ _ _ Try.func93 (by kernel_rfl) e ⟨rfl, rfl, rfl, (by omega), rfl, (ev_l02List_t_L1 xs xs_n xs_h xs_b hcase (allBelow_true.1 (show (allBelow (fun k => ev_l02List_t_L1_good xs xs_n k (ev_l02List_t_L1_S xs xs_n k)) xs_n) = true from ((allFin_good xs_h (fun _ => by simp [ev_l02List_t_L1_good])).trans hcase)))), rfl, rfl, rfl, rfl, trivial⟩

def ev_l02List_f_L1_step (xs : List Nat) (xs_n : Nat) (k1 : Nat) (s1 : Unit) : Unit := ()

def ev_l02List_f_L1_S (xs : List Nat) (xs_n : Nat) : Nat → Unit
  | 0 => ()
  | k + 1 => ev_l02List_f_L1_step xs xs_n k (ev_l02List_f_L1_S xs xs_n k)

def ev_l02List_f_L1_I (xs : List Nat) (xs_n : Nat) (k1 : Nat) (s1 : Unit) : St := ⟨[(0, .slice (some ⟨0, 0, none⟩) xs_n 1), (2, .slice none 0 0), (3, .bool false), (4, .int .i64 ((k1 : Nat) : Int))], [some ⟨false, .fl .f32 xs⟩]⟩

def ev_l02List_f_L1_good (xs : List Nat) (xs_n : Nat) (k1 : Nat) (s1 : Unit) : Bool := (if (fin32 (List.getD xs k1 0)) then true else false)

theorem ev_l02List_f_L1_body (xs : List Nat) (xs_n : Nat) (xs_h : xs.length = xs_n) (xs_b : xs_n ≤ 9223372036854775807)  (hcase : allFin xs = false) (k1 : Nat) (s1 : Unit)  (hk_k1 : k1 < xs_n) (hg : ev_l02List_f_L1_good xs xs_n k1 s1 = true) : PW Try.prog 18 1 (sub [1, 0, 1, 0, 0] (bodyOf Try.f93)) (ev_l02List_f_L1_I xs xs_n k1 s1) .normal (ev_l02List_f_L1_I xs xs_n (k1 + 1) (ev_l02List_f_L1_step xs xs_n k1 s1)) := by
  rcases Bool.eq_false_or_eq_true (fin32 (List.getD xs k1 0)) with h1 | h1
  ·
    have e : evL Try.prog 18 1 (sub [1, 0, 1, 0, 0] (bodyOf Try.f93)) (ev_l02List_f_L1_I xs xs_n k1 s1) [.b true, .n k1, .c [] (.bool (fin32 (List.getD xs k1 0))) [], .b false] [] [some 0] .normal (ev_l02List_f_L1_I xs xs_n (k1 + 1) (ev_l02List_f_L1_step xs xs_n k1 s1)) = some [((decide (((k1 : Nat) : Int) < ((xs_n : Nat) : Int))) = true), (((k1 : Nat) : Int) = ((k1 : Nat) : Int)), (k1 < xs_n), (k1 < (List.length xs)), (Ev Try.prog 64 [.float .f32 (List.getD xs k1 0)] [] (.bool (fin32 (List.getD xs k1 0))) []), ((!(fin32 (List.getD xs k1 0))) = false), (inR .i64 (((k1 : Nat) : Int) + (1 : Int))), (0 = 0), (xs_n = xs_n), (false = false), ((((k1 : Nat) : Int) + (1 : Int)) = (((k1 + 1) : Nat) : Int)), (xs = xs)] := by kernel_rfl
    exact PW.of_evL mixed _ _ _ e ⟨(decide_eq_true (by omega)), rfl, (by omega), (by omega), (ev_l01Finite (List.getD xs k1 0)), (congrArg Bool.not h1), (inR64 (by omega) (by omega)), rfl, rfl, rfl, (by omega), rfl, trivial⟩
  ·
    exact absurd hg (by simp [-List.getD_eq_getElem?_getD, ev_l02List_f_L1_good, h1, xs_h])

theorem ev_l02List_f_L1_end (xs : List Nat) (xs_n : Nat) (xs_h : xs.length = xs_n) (xs_b : xs_n ≤ 9223372036854775807)  (hcase : allFin xs = false) (s1 : Unit)  : PW Try.prog 18 1 (sub [1, 0, 1, 0, 0] (bodyOf Try.f93)) (ev_l02List_f_L1_I xs xs_n xs_n s1) (.exit 0) ⟨[(0, .slice (some ⟨0, 0, none⟩) xs_n 1), (2, .slice none 0 0), (3, .bool false), (4, .int .i64 ((xs_n : Nat) : Int))], [some ⟨false, .fl .f32 xs⟩]⟩ := by
  have e : evL Try.prog 18 1 (sub [1, 0, 1, 0, 0] (bodyOf Try.f93)) (ev_l02List_f_L1_I xs xs_n xs_n s1) [.b false] [] [some 0] (.exit 0) ⟨[(0, .slice (some ⟨0, 0, none⟩) xs_n 1), (2, .slice none 0 0), (3, .bool false), (4, .int .i64 ((xs_n : Nat) : Int))], [some ⟨false, .fl .f32 xs⟩]⟩ = some [((decide (((xs_n : Nat) : Int) < ((xs_n : Nat) : Int))) = false), (0 = 0), (xs_n = xs_n), (false = false), (((xs_n : Nat) : Int) = ((xs_n : Nat) : Int)), (xs = xs)] := by kernel_rfl
  exact PW.of_evL mixed _ _ _ e ⟨(decide_eq_false (by omega)), rfl, rfl, rfl, rfl, rfl, trivial⟩

theorem ev_l02List_f_L1 (xs : List Nat) (xs_n : Nat) (xs_h : xs.length = xs_n) (xs_b : xs_n ≤ 9223372036854775807)  (hcase : allFin xs = false) (hL : ∀ k, k < xs_n → ev_l02List_f_L1_good xs xs_n k (ev_l02List_f_L1_S xs xs_n k) = true) : PW Try.prog 18 1 (.loop (sub [1, 0, 1, 0, 0] (bodyOf Try.f93))) (ev_l02List_f_L1_I xs xs_n 0 (ev_l02List_f_L1_S xs xs_n 0)) (.exit 0) ⟨[(0, .slice (some ⟨0, 0, none⟩) xs_n 1), (2, .slice none 0 0), (3, .bool false), (4, .int .i64 ((xs_n : Nat) : Int))], [some ⟨false, .fl .f32 xs⟩]⟩ :=
  PW.loop (I := (fun k => ev_l02List_f_L1_I xs xs_n k (ev_l02List_f_L1_S xs xs_n k))) xs_n (by simp) (fun k hk => ev_l02List_f_L1_body xs xs_n xs_h xs_b hcase k _  hk (hL k hk)) (ev_l02List_f_L1_end xs xs_n xs_h xs_b hcase _ )

theorem ev_l02List_f_L1_ende (xs : List Nat) (xs_n : Nat) (xs_h : xs.length = xs_n) (xs_b : xs_n ≤ 9223372036854775807)  (hcase : allFin xs = false) (s1 : Unit) (k1 : Nat)  (hk_k1 : k1 < xs_n) (hb : ev_l02List_f_L1_good xs xs_n k1 s1 = false) : PW Try.prog 18 1 (sub [1, 0, 1, 0, 0] (bodyOf Try.f93)) (ev_l02List_f_L1_I xs xs_n k1 s1) .ret ⟨[(2, .slice none 0 0), (3, .bool false)], [some ⟨false, .fl .f32 xs⟩]⟩ := by
  rcases Bool.eq_false_or_eq_true (fin32 (List.getD xs k1 0)) with h2 | h2
  ·
    exact absurd hb (by simp [-List.getD_eq_getElem?_getD, ev_l02List_f_L1_good, h2, xs_h])
  ·
    have e : evL Try.prog 18 1 (sub [1, 0, 1, 0, 0] (bodyOf Try.f93)) (ev_l02List_f_L1_I xs xs_n k1 s1) [.b true, .n k1, .c [] (.bool (fin32 (List.getD xs k1 0))) [], .b true] [] [some 0] .ret ⟨[(2, .slice none 0 0), (3, .bool false)], [some ⟨false, .fl .f32 xs⟩]⟩ = some [((decide (((k1 : Nat) : Int) < ((xs_n : Nat) : Int))) = true), (((k1 : Nat) : Int) = ((k1 : Nat) : Int)), (k1 < xs_n), (k1 < (List.length xs)), (Ev Try.prog 64 [.float .f32 (List.getD xs k1 0)] [] (.bool (fin32 (List.getD xs k1 0))) []), ((!(fin32 (List.getD xs k1 0))) = true), (false = false), (xs = xs)] := by kernel_rfl
    exact PW.of_evL mixed _ _ _ e ⟨(decide_eq_true (by omega)), rfl, (by omega), (by omega), (ev_l01Finite (List.getD xs k1 0)), (congrArg Bool.not h2), rfl, rfl, trivial⟩

theorem ev_l02List_f_L1e (xs : List Nat) (xs_n : Nat) (xs_h : xs.length = xs_n) (xs_b : xs_n ≤ 9223372036854775807)  (hcase : allFin xs = false) (j : Nat) (hj : j < xs_n) (hb : ev_l02List_f_L1_good xs xs_n j (ev_l02List_f_L1_S xs xs_n j) = false) (hL : ∀ k, k < j → ev_l02List_f_L1_good xs xs_n k (ev_l02List_f_L1_S xs xs_n k) = true) : PW Try.prog 18 1 (.loop (sub [1, 0, 1, 0, 0] (bodyOf Try.f93))) (ev_l02List_f_L1_I xs xs_n 0 (ev_l02List_f_L1_S xs xs_n 0)) .ret ⟨[(2, .slice none 0 0), (3, .bool false)], [some ⟨false, .fl .f32 xs⟩]⟩ :=
  PW.loop (I := (fun k => ev_l02List_f_L1_I xs xs_n k (ev_l02List_f_L1_S xs xs_n k))) j (by simp) (fun k hk => ev_l02List_f_L1_body xs xs_n xs_h xs_b hcase k _  (Nat.lt_trans hk hj) (hL k hk)) (ev_l02List_f_L1_ende xs xs_n xs_h xs_b hcase _ j  hj hb)

theorem ev_l02List_f (xs : List Nat) (xs_n : Nat) (xs_h : xs.length = xs_n) (xs_b : xs_n ≤ 9223372036854775807)  (hcase : allFin xs = false) : Ev Try.prog 93 [.slice (some ⟨0, 0, none⟩) xs_n 1] [some ⟨false, .fl .f32 xs⟩] (.tuple ⟨[.slice none 0 0, .bool false]⟩) [some ⟨false, .fl .f32 xs⟩] := by
  have e : evF Try.prog Try.f93 [.slice (some ⟨0, 0, none⟩) xs_n 1] [some ⟨false, .fl .f32 xs⟩] [] [([some 0], (ev_l02List_f_L1_I xs xs_n 0 (ev_l02List_f_L1_S xs xs_n 0)), .ret, ⟨[(2, .slice none 0 0), (3, .bool false)], [some ⟨false, .fl .f32 xs⟩]⟩)] [some 0] (.tuple ⟨[.slice none 0 0, .bool false]⟩) [some ⟨false, .fl .f32 xs⟩] = some [(0 = 0), (xs_n = xs_n), (false = false), ((0 : Int) = ((0 : Nat) : Int)), (xs = xs), (PW Try.prog 18 1 (.loop (sub [1, 0, 1, 0, 0] (bodyOf Try.f93))) (ev_l02List_f_L1_I xs xs_n 0 (ev_l02List_f_L1_S xs xs_n 0)) .ret ⟨[(2, .slice none 0 0), (3, .bool false)], [some ⟨false, .fl .f32 xs⟩]⟩), (false = false), (xs = xs)] := by kernel_rfl
  exact Ev.of mixed _ _ _ Try.func93 (by kernel_rfl) e ⟨rfl, rfl, rfl, (by omega), rfl, (ev_l02List_f_L1e xs xs_n xs_h xs_b hcase (firstF (fun k => ev_l02List_f_L1_good xs xs_n k (ev_l02List_f_L1_S xs xs_n k)) xs_n) (firstF_lt (show (allBelow (fun k => ev_l02List_f_L1_good xs xs_n k (ev_l02List_f_L1_S xs xs_n k)) xs_n) = false from ((allFin_good xs_h (fun _ => by simp [ev_l02List_f_L1_good])).trans hcase))) (firstF_false (show (allBelow (fun k => ev_l02List_f_L1_good xs xs_n k (ev_l02List_f_L1_S xs xs_n k)) xs_n) = false from ((allFin_good xs_h (fun _ => by simp [ev_l02List_f_L1_good])).trans hcase))) (firstF_before (show (allBelow (fun k => ev_l02List_f_L1_good xs xs_n k (ev_l02List_f_L1_S xs xs_n k)) xs_n) = false from ((allFin_good xs_h (fun _ => by simp [ev_l02List_f_L1_good])).trans hcase)))), rfl, rfl, trivial⟩

end Go.Sim
