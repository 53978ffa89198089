/- Lists of whole numbers, and what the laws do with them. Conditions: none. -/

import Derived.Test.YtidjddabfmnkjaaProg
import Derived.KernelRfl
import Derived.Test.YtidjddabfmnkjaaGb
import Derived.Test.YtidjddabfmnkjaaPvL

set_option linter.unusedSimpArgs false

set_option linter.unusedVariables false

namespace Go.Sim

open Go Go.Proofs

def ev_toI_L1_step (xs : List Int) (xs_n : Nat) (k1 : Nat) (s1 : (List Int)) : (List Int) := (List.set s1 k1 (List.getD xs k1 0))

def ev_toI_L1_S (xs : List Int) (xs_n : Nat) : Nat → (List Int)
  | 0 => (List.replicate xs_n (0 : Int))
  | k + 1 => ev_toI_L1_step xs xs_n k (ev_toI_L1_S xs xs_n k)

def ev_toI_L1_I (xs : List Int) (xs_n : Nat) (k1 : Nat) (s1 : (List Int)) : St := ⟨[(0, .slice (some ⟨0, 0, none⟩) xs_n 1), (2, .slice none 0 0), (3, .slice (some ⟨1, 0, none⟩) xs_n 1), (4, .int .i64 ((k1 : Nat) : Int))], [some ⟨false, .it .i64 xs⟩, some ⟨true, .it .i64 s1⟩]⟩

theorem ev_toI_L1_inv (xs : List Int) (xs_n : Nat) (xs_h : xs.length = xs_n) (xs_b : xs_n ≤ 9223372036854775807)  (hsz : xs_n ≤ 2097152) : ∀ k, List.length (ev_toI_L1_S xs xs_n k) = xs_n := by
  intro k
  induction k with
  | zero => simp [ev_toI_L1_S, List.length_set, List.length_append, List.length_replicate, List.length_cons, List.length_nil, List.length_take, List.length_drop, rowAdd_eq, xs_h]
  | succ k ih =>
    simp only [ev_toI_L1_S]
    generalize ev_toI_L1_S xs xs_n k = s at ih ⊢
    unfold ev_toI_L1_step
    first
    | (simp [-List.getD_eq_getElem?_getD, List.length_set, List.length_append, List.length_replicate, List.length_cons, List.length_nil, List.length_take, List.length_drop, rowAdd_eq, xs_h, ih]; done)
    | ((repeat' split) <;> (simp_all [-List.getD_eq_getElem?_getD, List.length_set, List.length_append, List.length_replicate, List.length_cons, List.length_nil, List.length_take, List.length_drop, rowAdd_eq, xs_h]) <;> omega)
    | ((repeat' split) <;> (simp_all [-List.getD_eq_getElem?_getD, List.length_set, List.length_append, List.length_replicate, List.length_cons, List.length_nil, List.length_take, List.length_drop, rowAdd_eq, xs_h]); done)

theorem ev_toI_L1_inv0 (xs : List Int) (xs_n : Nat) (xs_h : xs.length = xs_n) (xs_b : xs_n ≤ 9223372036854775807)  (hsz : xs_n ≤ 2097152) (k : Nat) : List.length (ev_toI_L1_S xs xs_n k) = xs_n := (ev_toI_L1_inv xs xs_n xs_h xs_b hsz k)

theorem ev_toI_L1_body (xs : List Int) (xs_n : Nat) (xs_h : xs.length = xs_n) (xs_b : xs_n ≤ 9223372036854775807)  (hsz : xs_n ≤ 2097152) (k1 : Nat) (s1 : (List Int)) (s1_i0 : List.length s1 = xs_n) (hk_k1 : k1 < xs_n)  : PW Try.prog 22 1 (sub [1, 1, 0, 1, 0, 0] (bodyOf Try.f33)) (ev_toI_L1_I xs xs_n k1 s1) .normal (ev_toI_L1_I xs xs_n (k1 + 1) (ev_toI_L1_step xs xs_n k1 s1)) := by
  have e : evL Try.prog 22 1 (sub [1, 1, 0, 1, 0, 0] (bodyOf Try.f33)) (ev_toI_L1_I xs xs_n k1 s1) [.b true, .n k1, .n k1] [] [some 0, some 1] .normal (ev_toI_L1_I xs xs_n (k1 + 1) (ev_toI_L1_step xs xs_n k1 s1)) = some [((decide (((k1 : Nat) : Int) < ((xs_n : Nat) : Int))) = true), (((k1 : Nat) : Int) = ((k1 : Nat) : Int)), (k1 < xs_n), (k1 < (List.length xs)), (((k1 : Nat) : Int) = ((k1 : Nat) : Int)), (k1 < xs_n), (k1 < (List.length s1)), (inR .i64 (((k1 : Nat) : Int) + (1 : Int))), (0 = 0), (xs_n = xs_n), (0 = 0), (xs_n = xs_n), ((((k1 : Nat) : Int) + (1 : Int)) = (((k1 + 1) : Nat) : Int)), (xs = xs), ((List.set s1 k1 (List.getD xs k1 0)) = (ev_toI_L1_step xs xs_n k1 s1))] := by kernel_rfl
  exact PW.of_evL mixed _ _ _ e ⟨(decide_eq_true (by omega)), rfl, (by omega), (by omega), rfl, (by omega), (by omega), (inR64 (by omega) (by omega)), rfl, rfl, rfl, rfl, (by omega), rfl, (by first | (simp [-List.getD_eq_getElem?_getD, ev_toI_L1_step, xs_h, s1_i0]; done) | (simp_all [-List.getD_eq_getElem?_getD, ev_toI_L1_step, xs_h, s1_i0]; done)), trivial⟩

theorem ev_toI_L1_end (xs : List Int) (xs_n : Nat) (xs_h : xs.length = xs_n) (xs_b : xs_n ≤ 9223372036854775807)  (hsz : xs_n ≤ 2097152) (s1 : (List Int)) (s1_i0 : List.length s1 = xs_n) : PW Try.prog 22 1 (sub [1, 1, 0, 1, 0, 0] (bodyOf Try.f33)) (ev_toI_L1_I xs xs_n xs_n s1) (.exit 0) ⟨[(0, .slice (some ⟨0, 0, none⟩) xs_n 1), (2, .slice none 0 0), (3, .slice (some ⟨1, 0, none⟩) xs_n 1), (4, .int .i64 ((xs_n : Nat) : Int))], [some ⟨false, .it .i64 xs⟩, some ⟨true, .it .i64 s1⟩]⟩ := by
  have e : evL Try.prog 22 1 (sub [1, 1, 0, 1, 0, 0] (bodyOf Try.f33)) (ev_toI_L1_I xs xs_n xs_n s1) [.b false] [] [some 0, some 1] (.exit 0) ⟨[(0, .slice (some ⟨0, 0, none⟩) xs_n 1), (2, .slice none 0 0), (3, .slice (some ⟨1, 0, none⟩) xs_n 1), (4, .int .i64 ((xs_n : Nat) : Int))], [some ⟨false, .it .i64 xs⟩, some ⟨true, .it .i64 s1⟩]⟩ = some [((decide (((xs_n : Nat) : Int) < ((xs_n : Nat) : Int))) = false), (0 = 0), (xs_n = xs_n), (0 = 0), (xs_n = xs_n), (((xs_n : Nat) : Int) = ((xs_n : Nat) : Int)), (xs = xs), (s1 = s1)] := by kernel_rfl
  exact PW.of_evL mixed _ _ _ e ⟨(decide_eq_false (by omega)), rfl, rfl, rfl, rfl, rfl, rfl, rfl, trivial⟩

theorem ev_toI_L1 (xs : List Int) (xs_n : Nat) (xs_h : xs.length = xs_n) (xs_b : xs_n ≤ 9223372036854775807)  (hsz : xs_n ≤ 2097152)  : PW Try.prog 22 1 (.loop (sub [1, 1, 0, 1, 0, 0] (bodyOf Try.f33))) (ev_toI_L1_I xs xs_n 0 (ev_toI_L1_S xs xs_n 0)) (.exit 0) ⟨[(0, .slice (some ⟨0, 0, none⟩) xs_n 1), (2, .slice none 0 0), (3, .slice (some ⟨1, 0, none⟩) xs_n 1), (4, .int .i64 ((xs_n : Nat) : Int))], [some ⟨false, .it .i64 xs⟩, some ⟨true, .it .i64 (ev_toI_L1_S xs xs_n xs_n)⟩]⟩ :=
  PW.loop (I := (fun k => ev_toI_L1_I xs xs_n k (ev_toI_L1_S xs xs_n k))) xs_n (by simp) (fun k hk => ev_toI_L1_body xs xs_n xs_h xs_b hsz k _ (ev_toI_L1_inv0 xs xs_n xs_h xs_b hsz k) hk) (ev_toI_L1_end xs xs_n xs_h xs_b hsz _ (ev_toI_L1_inv0 xs xs_n xs_h xs_b hsz xs_n))

theorem ev_toI (xs : List Int) (xs_n : Nat) (xs_h : xs.length = xs_n) (xs_b : xs_n ≤ 9223372036854775807)  (hsz : xs_n ≤ 2097152) : Ev Try.prog 33 [.slice (some ⟨0, 0, none⟩) xs_n 1] [some ⟨false, .it .i64 xs⟩] (.slice (some ⟨1, 0, none⟩) xs_n 1) [some ⟨false, .it .i64 xs⟩, some ⟨true, .it .i64 xs⟩] := by
  have a0 := (ev_toI_L1_inv0 xs xs_n xs_h xs_b hsz xs_n)
  have e : evF Try.prog Try.f33 [.slice (some ⟨0, 0, none⟩) xs_n 1] [some ⟨false, .it .i64 xs⟩] [.n xs_n] [([some 0, some 1], (ev_toI_L1_I xs xs_n 0 (ev_toI_L1_S xs xs_n 0)), (.exit 0), ⟨[(0, .slice (some ⟨0, 0, none⟩) xs_n 1), (2, .slice none 0 0), (3, .slice (some ⟨1, 0, none⟩) xs_n 1), (4, .int .i64 ((xs_n : Nat) : Int))], [some ⟨false, .it .i64 xs⟩, some ⟨true, .it .i64 (ev_toI_L1_S xs xs_n xs_n)⟩]⟩)] [some 0, some 1] (.slice (some ⟨1, 0, none⟩) xs_n 1) [some ⟨false, .it .i64 xs⟩, some ⟨true, .it .i64 xs⟩] = some [(((xs_n : Nat) : Int) = ((xs_n : Nat) : Int)), (((xs_n : Nat) : Int) ≤ ((xs_n : Nat) : Int)), (((xs_n : Nat) : Int) * (8 : Int) ≤ 140737488355328), (((xs_n : Nat) : Int) ≤ 140737488355328), (0 = 0), (xs_n = xs_n), (0 = 0), (xs_n = xs_n), ((0 : Int) = ((0 : Nat) : Int)), (xs = xs), ((List.replicate xs_n (0 : Int)) = (ev_toI_L1_S xs xs_n 0)), (PW Try.prog 22 1 (.loop (sub [1, 1, 0, 1, 0, 0] (bodyOf Try.f33))) (ev_toI_L1_I xs xs_n 0 (ev_toI_L1_S xs xs_n 0)) (.exit 0) ⟨[(0, .slice (some ⟨0, 0, none⟩) xs_n 1), (2, .slice none 0 0), (3, .slice (some ⟨1, 0, none⟩) xs_n 1), (4, .int .i64 ((xs_n : Nat) : Int))], [some ⟨false, .it .i64 xs⟩, some ⟨true, .it .i64 (ev_toI_L1_S xs xs_n xs_n)⟩]⟩), (0 = 0), (xs_n = xs_n), (xs = xs), ((ev_toI_L1_S xs xs_n xs_n) = xs)] := by kernel_rfl
  exact Ev.of mixed _ _ _ Try.func33 (by kernel_rfl) e ⟨rfl, (by omega), (by omega), (by omega), rfl, rfl, rfl, rfl, (by omega), rfl, rfl, (ev_toI_L1 xs xs_n xs_h xs_b hsz), rfl, rfl, rfl, (copy_allI xs xs_n xs_h (ev_toI_L1_S xs xs_n) rfl (fun _ => rfl)), trivial⟩

def ev_eqI_L1_step (xs : List Int) (xs_n : Nat) (ys : List Int) (ys_n : Nat) (k1 : Nat) (s1 : Unit) : Unit := ()

def ev_eqI_L1_S (xs : List Int) (xs_n : Nat) (ys : List Int) (ys_n : Nat) : Nat → Unit
  | 0 => ()
  | k + 1 => ev_eqI_L1_step xs xs_n ys ys_n k (ev_eqI_L1_S xs xs_n ys ys_n k)

def ev_eqI_L1_I (xs : List Int) (xs_n : Nat) (ys : List Int) (ys_n : Nat) (k1 : Nat) (s1 : Unit) : St := ⟨[(0, .slice (some ⟨0, 0, none⟩) xs_n 1), (1, .slice (some ⟨1, 0, none⟩) ys_n 1), (4, .bool false), (5, .int .i64 ((k1 : Nat) : Int)), (10, .bool (((xs_n : Nat) : Int) != ((ys_n : Nat) : Int)))], [some ⟨false, .it .i64 xs⟩, some ⟨false, .it .i64 ys⟩]⟩

def ev_eqI_L1_good (xs : List Int) (xs_n : Nat) (ys : List Int) (ys_n : Nat) (k1 : Nat) (s1 : Unit) : Bool := (if (List.getD xs k1 0) = (List.getD ys k1 0) then true else false)

theorem ev_eqI_L1_body (xs : List Int) (xs_n : Nat) (xs_h : xs.length = xs_n) (xs_b : xs_n ≤ 9223372036854775807) (ys : List Int) (ys_n : Nat) (ys_h : ys.length = ys_n) (ys_b : ys_n ≤ 9223372036854775807)  (h1 : xs_n = ys_n) (k1 : Nat) (s1 : Unit)  (hk_k1 : k1 < xs_n) (hg : ev_eqI_L1_good xs xs_n ys ys_n k1 s1 = true) : PW Try.prog 26 2 (sub [1, 1, 0, 1, 0, 0] (bodyOf Try.f35)) (ev_eqI_L1_I xs xs_n ys ys_n k1 s1) .normal (ev_eqI_L1_I xs xs_n ys ys_n (k1 + 1) (ev_eqI_L1_step xs xs_n ys ys_n k1 s1)) := by
  by_cases h2 : (List.getD xs k1 0) = (List.getD ys k1 0)
  ·
    have e : evL Try.prog 26 2 (sub [1, 1, 0, 1, 0, 0] (bodyOf Try.f35)) (ev_eqI_L1_I xs xs_n ys ys_n k1 s1) [.b true, .n k1, .n k1, .b false] [] [some 0, some 1] .normal (ev_eqI_L1_I xs xs_n ys ys_n (k1 + 1) (ev_eqI_L1_step xs xs_n ys ys_n k1 s1)) = some [((decide (((k1 : Nat) : Int) < ((xs_n : Nat) : Int))) = true), (((k1 : Nat) : Int) = ((k1 : Nat) : Int)), (k1 < xs_n), (k1 < (List.length xs)), (((k1 : Nat) : Int) = ((k1 : Nat) : Int)), (k1 < ys_n), (k1 < (List.length ys)), (((List.getD xs k1 0) != (List.getD ys k1 0)) = false), (inR .i64 (((k1 : Nat) : Int) + (1 : Int))), (0 = 0), (xs_n = xs_n), (0 = 0), (ys_n = ys_n), (false = false), ((((k1 : Nat) : Int) + (1 : Int)) = (((k1 + 1) : Nat) : Int)), ((((xs_n : Nat) : Int) != ((ys_n : Nat) : Int)) = (((xs_n : Nat) : Int) != ((ys_n : Nat) : Int))), (xs = xs), (ys = ys)] := by kernel_rfl
    exact PW.of_evL mixed _ _ _ e ⟨(decide_eq_true (by omega)), rfl, (by omega), (by omega), rfl, (by omega), (by omega), (bne_eq_false_iff_eq.2 h2), (inR64 (by omega) (by omega)), rfl, rfl, rfl, rfl, rfl, (by omega), rfl, rfl, rfl, trivial⟩
  ·
    exact absurd hg (by simp [-List.getD_eq_getElem?_getD, ev_eqI_L1_good, (eq_true h1), (eq_true (show ((xs_n : Nat) : Int) = ((ys_n : Nat) : Int) from by omega)), h2, xs_h, ys_h])

theorem ev_eqI_L1_end (xs : List Int) (xs_n : Nat) (xs_h : xs.length = xs_n) (xs_b : xs_n ≤ 9223372036854775807) (ys : List Int) (ys_n : Nat) (ys_h : ys.length = ys_n) (ys_b : ys_n ≤ 9223372036854775807)  (h1 : xs_n = ys_n) (s1 : Unit)  : PW Try.prog 26 2 (sub [1, 1, 0, 1, 0, 0] (bodyOf Try.f35)) (ev_eqI_L1_I xs xs_n ys ys_n xs_n s1) (.exit 0) ⟨[(0, .slice (some ⟨0, 0, none⟩) xs_n 1), (1, .slice (some ⟨1, 0, none⟩) ys_n 1), (4, .bool false), (5, .int .i64 ((xs_n : Nat) : Int)), (10, .bool (((xs_n : Nat) : Int) != ((ys_n : Nat) : Int)))], [some ⟨false, .it .i64 xs⟩, some ⟨false, .it .i64 ys⟩]⟩ := by
  have e : evL Try.prog 26 2 (sub [1, 1, 0, 1, 0, 0] (bodyOf Try.f35)) (ev_eqI_L1_I xs xs_n ys ys_n xs_n s1) [.b false] [] [some 0, some 1] (.exit 0) ⟨[(0, .slice (some ⟨0, 0, none⟩) xs_n 1), (1, .slice (some ⟨1, 0, none⟩) ys_n 1), (4, .bool false), (5, .int .i64 ((xs_n : Nat) : Int)), (10, .bool (((xs_n : Nat) : Int) != ((ys_n : Nat) : Int)))], [some ⟨false, .it .i64 xs⟩, some ⟨false, .it .i64 ys⟩]⟩ = some [((decide (((xs_n : Nat) : Int) < ((xs_n : Nat) : Int))) = false), (0 = 0), (xs_n = xs_n), (0 = 0), (ys_n = ys_n), (false = false), (((xs_n : Nat) : Int) = ((xs_n : Nat) : Int)), ((((xs_n : Nat) : Int) != ((ys_n : Nat) : Int)) = (((xs_n : Nat) : Int) != ((ys_n : Nat) : Int))), (xs = xs), (ys = ys)] := by kernel_rfl
  exact PW.of_evL mixed _ _ _ e ⟨(decide_eq_false (by omega)), rfl, rfl, rfl, rfl, rfl, rfl, rfl, rfl, rfl, trivial⟩

theorem ev_eqI_L1 (xs : List Int) (xs_n : Nat) (xs_h : xs.length = xs_n) (xs_b : xs_n ≤ 9223372036854775807) (ys : List Int) (ys_n : Nat) (ys_h : ys.length = ys_n) (ys_b : ys_n ≤ 9223372036854775807)  (h1 : xs_n = ys_n) (hL : ∀ k, k < xs_n → ev_eqI_L1_good xs xs_n ys ys_n k (ev_eqI_L1_S xs xs_n ys ys_n k) = true) : PW Try.prog 26 2 (.loop (sub [1, 1, 0, 1, 0, 0] (bodyOf Try.f35))) (ev_eqI_L1_I xs xs_n ys ys_n 0 (ev_eqI_L1_S xs xs_n ys ys_n 0)) (.exit 0) ⟨[(0, .slice (some ⟨0, 0, none⟩) xs_n 1), (1, .slice (some ⟨1, 0, none⟩) ys_n 1), (4, .bool false), (5, .int .i64 ((xs_n : Nat) : Int)), (10, .bool (((xs_n : Nat) : Int) != ((ys_n : Nat) : Int)))], [some ⟨false, .it .i64 xs⟩, some ⟨false, .it .i64 ys⟩]⟩ :=
  PW.loop (I := (fun k => ev_eqI_L1_I xs xs_n ys ys_n k (ev_eqI_L1_S xs xs_n ys ys_n k))) xs_n (by simp) (fun k hk => ev_eqI_L1_body xs xs_n xs_h xs_b ys ys_n ys_h ys_b h1 k _  hk (hL k hk)) (ev_eqI_L1_end xs xs_n xs_h xs_b ys ys_n ys_h ys_b h1 _ )

theorem ev_eqI_L1_ende (xs : List Int) (xs_n : Nat) (xs_h : xs.length = xs_n) (xs_b : xs_n ≤ 9223372036854775807) (ys : List Int) (ys_n : Nat) (ys_h : ys.length = ys_n) (ys_b : ys_n ≤ 9223372036854775807)  (h1 : xs_n = ys_n) (s1 : Unit) (k1 : Nat)  (hk_k1 : k1 < xs_n) (hb : ev_eqI_L1_good xs xs_n ys ys_n k1 s1 = false) : PW Try.prog 26 2 (sub [1, 1, 0, 1, 0, 0] (bodyOf Try.f35)) (ev_eqI_L1_I xs xs_n ys ys_n k1 s1) .ret ⟨[(4, .bool false)], [some ⟨false, .it .i64 xs⟩, some ⟨false, .it .i64 ys⟩]⟩ := by
  by_cases h3 : (List.getD xs k1 0) = (List.getD ys k1 0)
  ·
    exact absurd hb (by simp [-List.getD_eq_getElem?_getD, ev_eqI_L1_good, (eq_true h1), (eq_true (show ((xs_n : Nat) : Int) = ((ys_n : Nat) : Int) from by omega)), (eq_true h3), xs_h, ys_h])
  ·
    have e : evL Try.prog 26 2 (sub [1, 1, 0, 1, 0, 0] (bodyOf Try.f35)) (ev_eqI_L1_I xs xs_n ys ys_n k1 s1) [.b true, .n k1, .n k1, .b true] [] [some 0, some 1] .ret ⟨[(4, .bool false)], [some ⟨false, .it .i64 xs⟩, some ⟨false, .it .i64 ys⟩]⟩ = some [((decide (((k1 : Nat) : Int) < ((xs_n : Nat) : Int))) = true), (((k1 : Nat) : Int) = ((k1 : Nat) : Int)), (k1 < xs_n), (k1 < (List.length xs)), (((k1 : Nat) : Int) = ((k1 : Nat) : Int)), (k1 < ys_n), (k1 < (List.length ys)), (((List.getD xs k1 0) != (List.getD ys k1 0)) = true), (false = false), (xs = xs), (ys = ys)] := by kernel_rfl
    exact PW.of_evL mixed _ _ _ e ⟨(decide_eq_true (by omega)), rfl, (by omega), (by omega), rfl, (by omega), (by omega), (bne_iff_ne.2 h3), rfl, rfl, rfl, trivial⟩

theorem ev_eqI_L1e (xs : List Int) (xs_n : Nat) (xs_h : xs.length = xs_n) (xs_b : xs_n ≤ 9223372036854775807) (ys : List Int) (ys_n : Nat) (ys_h : ys.length = ys_n) (ys_b : ys_n ≤ 9223372036854775807)  (h1 : xs_n = ys_n) (j : Nat) (hj : j < xs_n) (hb : ev_eqI_L1_good xs xs_n ys ys_n j (ev_eqI_L1_S xs xs_n ys ys_n j) = false) (hL : ∀ k, k < j → ev_eqI_L1_good xs xs_n ys ys_n k (ev_eqI_L1_S xs xs_n ys ys_n k) = true) : PW Try.prog 26 2 (.loop (sub [1, 1, 0, 1, 0, 0] (bodyOf Try.f35))) (ev_eqI_L1_I xs xs_n ys ys_n 0 (ev_eqI_L1_S xs xs_n ys ys_n 0)) .ret ⟨[(4, .bool false)], [some ⟨false, .it .i64 xs⟩, some ⟨false, .it .i64 ys⟩]⟩ :=
  PW.loop (I := (fun k => ev_eqI_L1_I xs xs_n ys ys_n k (ev_eqI_L1_S xs xs_n ys ys_n k))) j (by simp) (fun k hk => ev_eqI_L1_body xs xs_n xs_h xs_b ys ys_n ys_h ys_b h1 k _  (Nat.lt_trans hk hj) (hL k hk)) (ev_eqI_L1_ende xs xs_n xs_h xs_b ys ys_n ys_h ys_b h1 _ j  hj hb)

theorem ev_eqI (xs : List Int) (xs_n : Nat) (xs_h : xs.length = xs_n) (xs_b : xs_n ≤ 9223372036854775807) (ys : List Int) (ys_n : Nat) (ys_h : ys.length = ys_n) (ys_b : ys_n ≤ 9223372036854775807)  : Ev Try.prog 35 [.slice (some ⟨0, 0, none⟩) xs_n 1, .slice (some ⟨1, 0, none⟩) ys_n 1] [some ⟨false, .it .i64 xs⟩, some ⟨false, .it .i64 ys⟩] (.bool (sameIL xs ys)) [some ⟨false, .it .i64 xs⟩, some ⟨false, .it .i64 ys⟩] := by
  by_cases h1 : xs_n = ys_n
  ·
    rcases Bool.eq_false_or_eq_true (allBelow (fun k => ev_eqI_L1_good xs xs_n ys ys_n k (ev_eqI_L1_S xs xs_n ys ys_n k)) xs_n) with h4 | h4
    ·
      have e : evF Try.prog Try.f35 [.slice (some ⟨0, 0, none⟩) xs_n 1, .slice (some ⟨1, 0, none⟩) ys_n 1] [some ⟨false, .it .i64 xs⟩, some ⟨false, .it .i64 ys⟩] [.b false] [([some 0, some 1], (ev_eqI_L1_I xs xs_n ys ys_n 0 (ev_eqI_L1_S xs xs_n ys ys_n 0)), (.exit 0), ⟨[(0, .slice (some ⟨0, 0, none⟩) xs_n 1), (1, .slice (some ⟨1, 0, none⟩) ys_n 1), (4, .bool false), (5, .int .i64 ((xs_n : Nat) : Int)), (10, .bool (((xs_n : Nat) : Int) != ((ys_n : Nat) : Int)))], [some ⟨false, .it .i64 xs⟩, some ⟨false, .it .i64 ys⟩]⟩)] [some 0, some 1] (.bool (sameIL xs ys)) [some ⟨false, .it .i64 xs⟩, some ⟨false, .it .i64 ys⟩] = some [((((xs_n : Nat) : Int) != ((ys_n : Nat) : Int)) = false), (0 = 0), (xs_n = xs_n), (0 = 0), (ys_n = ys_n), (false = false), ((0 : Int) = ((0 : Nat) : Int)), ((((xs_n : Nat) : Int) != ((ys_n : Nat) : Int)) = (((xs_n : Nat) : Int) != ((ys_n : Nat) : Int))), (xs = xs), (ys = ys), (PW Try.prog 26 2 (.loop (sub [1, 1, 0, 1, 0, 0] (bodyOf Try.f35))) (ev_eqI_L1_I xs xs_n ys ys_n 0 (ev_eqI_L1_S xs xs_n ys ys_n 0)) (.exit 0) ⟨[(0, .slice (some ⟨0, 0, none⟩) xs_n 1), (1, .slice (some ⟨1, 0, none⟩) ys_n 1), (4, .bool false), (5, .int .i64 ((xs_n : Nat) : Int)), (10, .bool (((xs_n : Nat) : Int) != ((ys_n : Nat) : Int)))], [some ⟨false, .it .i64 xs⟩, some ⟨false, .it .i64 ys⟩]⟩), (true = (sameIL xs ys)), (xs = xs), (ys = ys)] := by kernel_rfl
      exact Ev.of mixed _ _ _ Try.func35 (by kernel_rfl) e ⟨(bne_eq_false_iff_eq.2 (by omega)), rfl, rfl, rfl, rfl, rfl, (by omega), rfl, rfl, rfl, (ev_eqI_L1 xs xs_n xs_h xs_b ys ys_n ys_h ys_b h1 (allBelow_true.1 (show (allBelow (fun k => ev_eqI_L1_good xs xs_n ys ys_n k (ev_eqI_L1_S xs xs_n ys ys_n k)) xs_n) = true from h4))), (by first | (simp [-List.getD_eq_getElem?_getD, sameIL, ev_eqI_L1_good, ite_dec, ite_dec', (eq_true h1), (eq_true (show ((xs_n : Nat) : Int) = ((ys_n : Nat) : Int) from by omega)), h4, xs_h, ys_h]; done) | (simp_all [-List.getD_eq_getElem?_getD, sameIL, ev_eqI_L1_good, ite_dec, ite_dec', (eq_true (show ((xs_n : Nat) : Int) = ((ys_n : Nat) : Int) from by omega)), xs_h, ys_h]; done)), rfl, rfl, trivial⟩
    ·
      have e : evF Try.prog Try.f35 [.slice (some ⟨0, 0, none⟩) xs_n 1, .slice (some ⟨1, 0, none⟩) ys_n 1] [some ⟨false, .it .i64 xs⟩, some ⟨false, .it .i64 ys⟩] [.b false] [([some 0, some 1], (ev_eqI_L1_I xs xs_n ys ys_n 0 (ev_eqI_L1_S xs xs_n ys ys_n 0)), .ret, ⟨[(4, .bool false)], [some ⟨false, .it .i64 xs⟩, some ⟨false, .it .i64 ys⟩]⟩)] [some 0, some 1] (.bool (sameIL xs ys)) [some ⟨false, .it .i64 xs⟩, some ⟨false, .it .i64 ys⟩] = some [((((xs_n : Nat) : Int) != ((ys_n : Nat) : Int)) = false), (0 = 0), (xs_n = xs_n), (0 = 0), (ys_n = ys_n), (false = false), ((0 : Int) = ((0 : Nat) : Int)), ((((xs_n : Nat) : Int) != ((ys_n : Nat) : Int)) = (((xs_n : Nat) : Int) != ((ys_n : Nat) : Int))), (xs = xs), (ys = ys), (PW Try.prog 26 2 (.loop (sub [1, 1, 0, 1, 0, 0] (bodyOf Try.f35))) (ev_eqI_L1_I xs xs_n ys ys_n 0 (ev_eqI_L1_S xs xs_n ys ys_n 0)) .ret ⟨[(4, .bool false)], [some ⟨false, .it .i64 xs⟩, some ⟨false, .it .i64 ys⟩]⟩), (false = (sameIL xs ys)), (xs = xs), (ys = ys)] := by kernel_rfl
      exact Ev.of mixed _ _ _ Try.func35 (by kernel_rfl) e ⟨(bne_eq_false_iff_eq.2 (by omega)), rfl, rfl, rfl, rfl, rfl, (by omega), rfl, rfl, rfl, (ev_eqI_L1e xs xs_n xs_h xs_b ys ys_n ys_h ys_b h1 (firstF (fun k => ev_eqI_L1_good xs xs_n ys ys_n k (ev_eqI_L1_S xs xs_n ys ys_n k)) xs_n) (firstF_lt (show (allBelow (fun k => ev_eqI_L1_good xs xs_n ys ys_n k (ev_eqI_L1_S xs xs_n ys ys_n k)) xs_n) = false from h4)) (firstF_false (show (allBelow (fun k => ev_eqI_L1_good xs xs_n ys ys_n k (ev_eqI_L1_S xs xs_n ys ys_n k)) xs_n) = false from h4)) (firstF_before (show (allBelow (fun k => ev_eqI_L1_good xs xs_n ys ys_n k (ev_eqI_L1_S xs xs_n ys ys_n k)) xs_n) = false from h4))), (by first | (simp [-List.getD_eq_getElem?_getD, sameIL, ev_eqI_L1_good, ite_dec, ite_dec', (eq_true h1), (eq_true (show ((xs_n : Nat) : Int) = ((ys_n : Nat) : Int) from by omega)), h4, xs_h, ys_h]; done) | (simp_all [-List.getD_eq_getElem?_getD, sameIL, ev_eqI_L1_good, ite_dec, ite_dec', (eq_true (show ((xs_n : Nat) : Int) = ((ys_n : Nat) : Int) from by omega)), xs_h, ys_h]; done)), rfl, rfl, trivial⟩
  ·
    have e : evF Try.prog Try.f35 [.slice (some ⟨0, 0, none⟩) xs_n 1, .slice (some ⟨1, 0, none⟩) ys_n 1] [some ⟨false, .it .i64 xs⟩, some ⟨false, .it .i64 ys⟩] [.b true] [] [some 0, some 1] (.bool (sameIL xs ys)) [some ⟨false, .it .i64 xs⟩, some ⟨false, .it .i64 ys⟩] = some [((((xs_n : Nat) : Int) != ((ys_n : Nat) : Int)) = true), (false = (sameIL xs ys)), (xs = xs), (ys = ys)] := by kernel_rfl
    exact Ev.of mixed _ _ _ Try.func35 (by kernel_rfl) e ⟨(bne_iff_ne.2 (by omega)), (by first | (simp [-List.getD_eq_getElem?_getD, sameIL, ev_eqI_L1_good, ite_dec, ite_dec', h1, (show ¬ (((xs_n : Nat) : Int) = ((ys_n : Nat) : Int)) from by omega), xs_h, ys_h]; done) | (simp_all [-List.getD_eq_getElem?_getD, sameIL, ev_eqI_L1_good, ite_dec, ite_dec', (show ¬ (((xs_n : Nat) : Int) = ((ys_n : Nat) : Int)) from by omega), xs_h, ys_h]; done)), rfl, rfl, trivial⟩

def ev_markI_L1_step (xs : List Int) (xs_n : Nat) (t : Int) (k1 : Nat) (s1 : (List Int)) : (List Int) := (List.set s1 k1 (t + ((k1 : Nat) : Int)))

def ev_markI_L1_S (xs : List Int) (xs_n : Nat) (t : Int) : Nat → (List Int)
  | 0 => xs
  | k + 1 => ev_markI_L1_step xs xs_n t k (ev_markI_L1_S xs xs_n t k)

def ev_markI_L1_I (xs : List Int) (xs_n : Nat) (t : Int) (k1 : Nat) (s1 : (List Int)) : St := ⟨[(0, .slice (some ⟨0, 0, none⟩) xs_n 1), (1, .int .i64 (t + ((k1 : Nat) : Int))), (4, .int .i64 (0 : Int)), (5, .int .i64 ((k1 : Nat) : Int))], [some ⟨true, .it .i64 s1⟩]⟩

theorem ev_markI_L1_inv (xs : List Int) (xs_n : Nat) (xs_h : xs.length = xs_n) (xs_b : xs_n ≤ 9223372036854775807) (t : Int)  (ht1 : 0 ≤ t) (ht2 : t ≤ 1099511627776) (hsz : xs_n ≤ 1099511627776) : ∀ k, List.length (ev_markI_L1_S xs xs_n t k) = xs_n := by
  intro k
  induction k with
  | zero => simp [ev_markI_L1_S, List.length_set, List.length_append, List.length_replicate, List.length_cons, List.length_nil, List.length_take, List.length_drop, rowAdd_eq, xs_h]
  | succ k ih =>
    simp only [ev_markI_L1_S]
    generalize ev_markI_L1_S xs xs_n t k = s at ih ⊢
    unfold ev_markI_L1_step
    first
    | (simp [-List.getD_eq_getElem?_getD, List.length_set, List.length_append, List.length_replicate, List.length_cons, List.length_nil, List.length_take, List.length_drop, rowAdd_eq, xs_h, ih]; done)
    | ((repeat' split) <;> (simp_all [-List.getD_eq_getElem?_getD, List.length_set, List.length_append, List.length_replicate, List.length_cons, List.length_nil, List.length_take, List.length_drop, rowAdd_eq, xs_h]) <;> omega)
    | ((repeat' split) <;> (simp_all [-List.getD_eq_getElem?_getD, List.length_set, List.length_append, List.length_replicate, List.length_cons, List.length_nil, List.length_take, List.length_drop, rowAdd_eq, xs_h]); done)

theorem ev_markI_L1_inv0 (xs : List Int) (xs_n : Nat) (xs_h : xs.length = xs_n) (xs_b : xs_n ≤ 9223372036854775807) (t : Int)  (ht1 : 0 ≤ t) (ht2 : t ≤ 1099511627776) (hsz : xs_n ≤ 1099511627776) (k : Nat) : List.length (ev_markI_L1_S xs xs_n t k) = xs_n := (ev_markI_L1_inv xs xs_n xs_h xs_b t ht1 ht2 hsz k)

theorem ev_markI_L1_body (xs : List Int) (xs_n : Nat) (xs_h : xs.length = xs_n) (xs_b : xs_n ≤ 9223372036854775807) (t : Int)  (ht1 : 0 ≤ t) (ht2 : t ≤ 1099511627776) (hsz : xs_n ≤ 1099511627776) (k1 : Nat) (s1 : (List Int)) (s1_i0 : List.length s1 = xs_n) (hk_k1 : k1 < xs_n)  : PW Try.prog 19 1 (sub [1, 0, 1, 0, 0] (bodyOf Try.f36)) (ev_markI_L1_I xs xs_n t k1 s1) .normal (ev_markI_L1_I xs xs_n t (k1 + 1) (ev_markI_L1_step xs xs_n t k1 s1)) := by
  have e : evL Try.prog 19 1 (sub [1, 0, 1, 0, 0] (bodyOf Try.f36)) (ev_markI_L1_I xs xs_n t k1 s1) [.b true, .n k1] [] [some 0] .normal (ev_markI_L1_I xs xs_n t (k1 + 1) (ev_markI_L1_step xs xs_n t k1 s1)) = some [((decide (((k1 : Nat) : Int) < ((xs_n : Nat) : Int))) = true), (((k1 : Nat) : Int) = ((k1 : Nat) : Int)), (k1 < xs_n), (k1 < (List.length s1)), (inR .i64 ((t + ((k1 : Nat) : Int)) + (1 : Int))), (inR .i64 (((k1 : Nat) : Int) + (1 : Int))), (0 = 0), (xs_n = xs_n), (((t + ((k1 : Nat) : Int)) + (1 : Int)) = (t + (((k1 + 1) : Nat) : Int))), ((0 : Int) = (0 : Int)), ((((k1 : Nat) : Int) + (1 : Int)) = (((k1 + 1) : Nat) : Int)), ((List.set s1 k1 (t + ((k1 : Nat) : Int))) = (ev_markI_L1_step xs xs_n t k1 s1))] := by kernel_rfl
  exact PW.of_evL mixed _ _ _ e ⟨(decide_eq_true (by omega)), rfl, (by omega), (by omega), (inR64 (by omega) (by omega)), (inR64 (by omega) (by omega)), rfl, rfl, (by omega), rfl, (by omega), (by first | (simp [-List.getD_eq_getElem?_getD, ev_markI_L1_step, xs_h, s1_i0]; done) | (simp_all [-List.getD_eq_getElem?_getD, ev_markI_L1_step, xs_h, s1_i0]; done)), trivial⟩

theorem ev_markI_L1_end (xs : List Int) (xs_n : Nat) (xs_h : xs.length = xs_n) (xs_b : xs_n ≤ 9223372036854775807) (t : Int)  (ht1 : 0 ≤ t) (ht2 : t ≤ 1099511627776) (hsz : xs_n ≤ 1099511627776) (s1 : (List Int)) (s1_i0 : List.length s1 = xs_n) : PW Try.prog 19 1 (sub [1, 0, 1, 0, 0] (bodyOf Try.f36)) (ev_markI_L1_I xs xs_n t xs_n s1) (.exit 0) ⟨[(0, .slice (some ⟨0, 0, none⟩) xs_n 1), (1, .int .i64 (t + ((xs_n : Nat) : Int))), (4, .int .i64 (0 : Int)), (5, .int .i64 ((xs_n : Nat) : Int))], [some ⟨true, .it .i64 s1⟩]⟩ := by
  have e : evL Try.prog 19 1 (sub [1, 0, 1, 0, 0] (bodyOf Try.f36)) (ev_markI_L1_I xs xs_n t xs_n s1) [.b false] [] [some 0] (.exit 0) ⟨[(0, .slice (some ⟨0, 0, none⟩) xs_n 1), (1, .int .i64 (t + ((xs_n : Nat) : Int))), (4, .int .i64 (0 : Int)), (5, .int .i64 ((xs_n : Nat) : Int))], [some ⟨true, .it .i64 s1⟩]⟩ = some [((decide (((xs_n : Nat) : Int) < ((xs_n : Nat) : Int))) = false), (0 = 0), (xs_n = xs_n), ((t + ((xs_n : Nat) : Int)) = (t + ((xs_n : Nat) : Int))), ((0 : Int) = (0 : Int)), (((xs_n : Nat) : Int) = ((xs_n : Nat) : Int)), (s1 = s1)] := by kernel_rfl
  exact PW.of_evL mixed _ _ _ e ⟨(decide_eq_false (by omega)), rfl, rfl, rfl, rfl, rfl, rfl, trivial⟩

theorem ev_markI_L1 (xs : List Int) (xs_n : Nat) (xs_h : xs.length = xs_n) (xs_b : xs_n ≤ 9223372036854775807) (t : Int)  (ht1 : 0 ≤ t) (ht2 : t ≤ 1099511627776) (hsz : xs_n ≤ 1099511627776)  : PW Try.prog 19 1 (.loop (sub [1, 0, 1, 0, 0] (bodyOf Try.f36))) (ev_markI_L1_I xs xs_n t 0 (ev_markI_L1_S xs xs_n t 0)) (.exit 0) ⟨[(0, .slice (some ⟨0, 0, none⟩) xs_n 1), (1, .int .i64 (t + ((xs_n : Nat) : Int))), (4, .int .i64 (0 : Int)), (5, .int .i64 ((xs_n : Nat) : Int))], [some ⟨true, .it .i64 (ev_markI_L1_S xs xs_n t xs_n)⟩]⟩ :=
  PW.loop (I := (fun k => ev_markI_L1_I xs xs_n t k (ev_markI_L1_S xs xs_n t k))) xs_n (by simp) (fun k hk => ev_markI_L1_body xs xs_n xs_h xs_b t ht1 ht2 hsz k _ (ev_markI_L1_inv0 xs xs_n xs_h xs_b t ht1 ht2 hsz k) hk) (ev_markI_L1_end xs xs_n xs_h xs_b t ht1 ht2 hsz _ (ev_markI_L1_inv0 xs xs_n xs_h xs_b t ht1 ht2 hsz xs_n))

theorem ev_markI (xs : List Int) (xs_n : Nat) (xs_h : xs.length = xs_n) (xs_b : xs_n ≤ 9223372036854775807) (t : Int)  (ht1 : 0 ≤ t) (ht2 : t ≤ 1099511627776) (hsz : xs_n ≤ 1099511627776) : Ev Try.prog 36 [.slice (some ⟨0, 0, none⟩) xs_n 1, .int .i64 t] [some ⟨true, .it .i64 xs⟩] (.int .i64 (t + ((xs_n : Nat) : Int))) [some ⟨true, .it .i64 (markI xs_n t)⟩] := by
  have a0 := (ev_markI_L1_inv0 xs xs_n xs_h xs_b t ht1 ht2 hsz xs_n)
  have e : evF Try.prog Try.f36 [.slice (some ⟨0, 0, none⟩) xs_n 1, .int .i64 t] [some ⟨true, .it .i64 xs⟩] [] [([some 0], (ev_markI_L1_I xs xs_n t 0 (ev_markI_L1_S xs xs_n t 0)), (.exit 0), ⟨[(0, .slice (some ⟨0, 0, none⟩) xs_n 1), (1, .int .i64 (t + ((xs_n : Nat) : Int))), (4, .int .i64 (0 : Int)), (5, .int .i64 ((xs_n : Nat) : Int))], [some ⟨true, .it .i64 (ev_markI_L1_S xs xs_n t xs_n)⟩]⟩)] [some 0] (.int .i64 (t + ((xs_n : Nat) : Int))) [some ⟨true, .it .i64 (markI xs_n t)⟩] = some [(0 = 0), (xs_n = xs_n), (t = (t + ((0 : Nat) : Int))), ((0 : Int) = (0 : Int)), ((0 : Int) = ((0 : Nat) : Int)), (xs = (ev_markI_L1_S xs xs_n t 0)), (PW Try.prog 19 1 (.loop (sub [1, 0, 1, 0, 0] (bodyOf Try.f36))) (ev_markI_L1_I xs xs_n t 0 (ev_markI_L1_S xs xs_n t 0)) (.exit 0) ⟨[(0, .slice (some ⟨0, 0, none⟩) xs_n 1), (1, .int .i64 (t + ((xs_n : Nat) : Int))), (4, .int .i64 (0 : Int)), (5, .int .i64 ((xs_n : Nat) : Int))], [some ⟨true, .it .i64 (ev_markI_L1_S xs xs_n t xs_n)⟩]⟩), ((t + ((xs_n : Nat) : Int)) = (t + ((xs_n : Nat) : Int))), ((ev_markI_L1_S xs xs_n t xs_n) = (markI xs_n t))] := by kernel_rfl
  exact Ev.of mixed _ _ _ Try.func36 (by kernel_rfl) e ⟨rfl, rfl, (by omega), rfl, (by omega), rfl, (ev_markI_L1 xs xs_n xs_h xs_b t ht1 ht2 hsz), rfl, (mark_allI xs xs_n t xs_h (ev_markI_L1_S xs xs_n t) rfl (fun _ => rfl)), trivial⟩

def ev_allWithin_L1_step (xs : List Int) (xs_n : Nat) (lo : Int) (hi : Int) (k1 : Nat) (s1 : Unit) : Unit := ()

def ev_allWithin_L1_S (xs : List Int) (xs_n : Nat) (lo : Int) (hi : Int) : Nat → Unit
  | 0 => ()
  | k + 1 => ev_allWithin_L1_step xs xs_n lo hi k (ev_allWithin_L1_S xs xs_n lo hi k)

def ev_allWithin_L1_I (xs : List Int) (xs_n : Nat) (lo : Int) (hi : Int) (k1 : Nat) (s1 : Unit) : St := ⟨[(0, .slice (some ⟨0, 0, none⟩) xs_n 1), (1, .int .i64 lo), (2, .int .i64 hi), (6, .bool false), (9, .slice (some ⟨0, 0, none⟩) xs_n 1), (10, .int .i64 ((xs_n : Nat) : Int)), (11, .int .i64 ((k1 : Nat) : Int))], [some ⟨false, .it .i64 xs⟩]⟩

def ev_allWithin_L1_good (xs : List Int) (xs_n : Nat) (lo : Int) (hi : Int) (k1 : Nat) (s1 : Unit) : Bool := (if (List.getD xs k1 0) ≥ lo then (if (List.getD xs k1 0) ≤ hi then true else false) else false)

theorem ev_allWithin_L1_body (xs : List Int) (xs_n : Nat) (xs_h : xs.length = xs_n) (xs_b : xs_n ≤ 9223372036854775807) (lo : Int) (hi : Int)  (k1 : Nat) (s1 : Unit)  (hk_k1 : k1 < xs_n) (hg : ev_allWithin_L1_good xs xs_n lo hi k1 s1 = true) : PW Try.prog 21 1 (sub [1, 0, 1, 0, 0] (bodyOf Try.f78)) (ev_allWithin_L1_I xs xs_n lo hi k1 s1) .normal (ev_allWithin_L1_I xs xs_n lo hi (k1 + 1) (ev_allWithin_L1_step xs xs_n lo hi k1 s1)) := by
  by_cases h1 : (List.getD xs k1 0) ≥ lo
  ·
    by_cases h2 : (List.getD xs k1 0) ≤ hi
    ·
      have e : evL Try.prog 21 1 (sub [1, 0, 1, 0, 0] (bodyOf Try.f78)) (ev_allWithin_L1_I xs xs_n lo hi k1 s1) [.b true, .n k1, .c [] (.bool ((decide ((List.getD xs k1 0) ≥ lo)) && (decide ((List.getD xs k1 0) ≤ hi)))) [], .b false] [] [some 0] .normal (ev_allWithin_L1_I xs xs_n lo hi (k1 + 1) (ev_allWithin_L1_step xs xs_n lo hi k1 s1)) = some [((decide (((k1 : Nat) : Int) < ((xs_n : Nat) : Int))) = true), (((k1 : Nat) : Int) = ((k1 : Nat) : Int)), (k1 < xs_n), (k1 < (List.length xs)), (Ev Try.prog 62 [.int .i64 (List.getD xs k1 0), .int .i64 lo, .int .i64 hi] [] (.bool ((decide ((List.getD xs k1 0) ≥ lo)) && (decide ((List.getD xs k1 0) ≤ hi)))) []), ((!((decide ((List.getD xs k1 0) ≥ lo)) && (decide ((List.getD xs k1 0) ≤ hi)))) = false), (inR .i64 (((k1 : Nat) : Int) + (1 : Int))), (0 = 0), (xs_n = xs_n), (lo = lo), (hi = hi), (false = false), (0 = 0), (xs_n = xs_n), (((xs_n : Nat) : Int) = ((xs_n : Nat) : Int)), ((((k1 : Nat) : Int) + (1 : Int)) = (((k1 + 1) : Nat) : Int)), (xs = xs)] := by kernel_rfl
      exact PW.of_evL mixed _ _ _ e ⟨(decide_eq_true (by omega)), rfl, (by omega), (by omega), (ev_within ((List.getD xs k1 0)) (lo) (hi)), (congrArg Bool.not (and_tt (decide_eq_true h1) (decide_eq_true h2))), (inR64 (by omega) (by omega)), rfl, rfl, rfl, rfl, rfl, rfl, rfl, rfl, (by omega), rfl, trivial⟩
    ·
      exact absurd hg (by simp [-List.getD_eq_getElem?_getD, ev_allWithin_L1_good, h1, h2, xs_h])
  ·
    exact absurd hg (by simp [-List.getD_eq_getElem?_getD, ev_allWithin_L1_good, h1, xs_h])

theorem ev_allWithin_L1_end (xs : List Int) (xs_n : Nat) (xs_h : xs.length = xs_n) (xs_b : xs_n ≤ 9223372036854775807) (lo : Int) (hi : Int)  (s1 : Unit)  : PW Try.prog 21 1 (sub [1, 0, 1, 0, 0] (bodyOf Try.f78)) (ev_allWithin_L1_I xs xs_n lo hi xs_n s1) (.exit 0) ⟨[(0, .slice (some ⟨0, 0, none⟩) xs_n 1), (1, .int .i64 lo), (2, .int .i64 hi), (6, .bool false), (9, .slice (some ⟨0, 0, none⟩) xs_n 1), (10, .int .i64 ((xs_n : Nat) : Int)), (11, .int .i64 ((xs_n : Nat) : Int))], [some ⟨false, .it .i64 xs⟩]⟩ := by
  have e : evL Try.prog 21 1 (sub [1, 0, 1, 0, 0] (bodyOf Try.f78)) (ev_allWithin_L1_I xs xs_n lo hi xs_n s1) [.b false] [] [some 0] (.exit 0) ⟨[(0, .slice (some ⟨0, 0, none⟩) xs_n 1), (1, .int .i64 lo), (2, .int .i64 hi), (6, .bool false), (9, .slice (some ⟨0, 0, none⟩) xs_n 1), (10, .int .i64 ((xs_n : Nat) : Int)), (11, .int .i64 ((xs_n : Nat) : Int))], [some ⟨false, .it .i64 xs⟩]⟩ = some [((decide (((xs_n : Nat) : Int) < ((xs_n : Nat) : Int))) = false), (0 = 0), (xs_n = xs_n), (lo = lo), (hi = hi), (false = false), (0 = 0), (xs_n = xs_n), (((xs_n : Nat) : Int) = ((xs_n : Nat) : Int)), (((xs_n : Nat) : Int) = ((xs_n : Nat) : Int)), (xs = xs)] := by kernel_rfl
  exact PW.of_evL mixed _ _ _ e ⟨(decide_eq_false (by omega)), rfl, rfl, rfl, rfl, rfl, rfl, rfl, rfl, rfl, rfl, trivial⟩

theorem ev_allWithin_L1 (xs : List Int) (xs_n : Nat) (xs_h : xs.length = xs_n) (xs_b : xs_n ≤ 9223372036854775807) (lo : Int) (hi : Int)  (hL : ∀ k, k < xs_n → ev_allWithin_L1_good xs xs_n lo hi k (ev_allWithin_L1_S xs xs_n lo hi k) = true) : PW Try.prog 21 1 (.loop (sub [1, 0, 1, 0, 0] (bodyOf Try.f78))) (ev_allWithin_L1_I xs xs_n lo hi 0 (ev_allWithin_L1_S xs xs_n lo hi 0)) (.exit 0) ⟨[(0, .slice (some ⟨0, 0, none⟩) xs_n 1), (1, .int .i64 lo), (2, .int .i64 hi), (6, .bool false), (9, .slice (some ⟨0, 0, none⟩) xs_n 1), (10, .int .i64 ((xs_n : Nat) : Int)), (11, .int .i64 ((xs_n : Nat) : Int))], [some ⟨false, .it .i64 xs⟩]⟩ :=
  PW.loop (I := (fun k => ev_allWithin_L1_I xs xs_n lo hi k (ev_allWithin_L1_S xs xs_n lo hi k))) xs_n (by simp) (fun k hk => ev_allWithin_L1_body xs xs_n xs_h xs_b lo hi k _  hk (hL k hk)) (ev_allWithin_L1_end xs xs_n xs_h xs_b lo hi _ )

theorem ev_allWithin_L1_ende (xs : List Int) (xs_n : Nat) (xs_h : xs.length = xs_n) (xs_b : xs_n ≤ 9223372036854775807) (lo : Int) (hi : Int)  (s1 : Unit) (k1 : Nat)  (hk_k1 : k1 < xs_n) (hb : ev_allWithin_L1_good xs xs_n lo hi k1 s1 = false) : PW Try.prog 21 1 (sub [1, 0, 1, 0, 0] (bodyOf Try.f78)) (ev_allWithin_L1_I xs xs_n lo hi k1 s1) .ret ⟨[(6, .bool false)], [some ⟨false, .it .i64 xs⟩]⟩ := by
  by_cases h3 : (List.getD xs k1 0) ≥ lo
  ·
    by_cases h4 : (List.getD xs k1 0) ≤ hi
    ·
      exact absurd hb (by simp [-List.getD_eq_getElem?_getD, ev_allWithin_L1_good, h3, h4, xs_h])
    ·
      have e : evL Try.prog 21 1 (sub [1, 0, 1, 0, 0] (bodyOf Try.f78)) (ev_allWithin_L1_I xs xs_n lo hi k1 s1) [.b true, .n k1, .c [] (.bool ((decide ((List.getD xs k1 0) ≥ lo)) && (decide ((List.getD xs k1 0) ≤ hi)))) [], .b true] [] [some 0] .ret ⟨[(6, .bool false)], [some ⟨false, .it .i64 xs⟩]⟩ = some [((decide (((k1 : Nat) : Int) < ((xs_n : Nat) : Int))) = true), (((k1 : Nat) : Int) = ((k1 : Nat) : Int)), (k1 < xs_n), (k1 < (List.length xs)), (Ev Try.prog 62 [.int .i64 (List.getD xs k1 0), .int .i64 lo, .int .i64 hi] [] (.bool ((decide ((List.getD xs k1 0) ≥ lo)) && (decide ((List.getD xs k1 0) ≤ hi)))) []), ((!((decide ((List.getD xs k1 0) ≥ lo)) && (decide ((List.getD xs k1 0) ≤ hi)))) = true), (false = false), (xs = xs)] := by kernel_rfl
      exact PW.of_evL mixed _ _ _ e ⟨(decide_eq_true (by omega)), rfl, (by omega), (by omega), (ev_within ((List.getD xs k1 0)) (lo) (hi)), (congrArg Bool.not (and_fr (decide_eq_false h4))), rfl, rfl, trivial⟩
  ·
    have e : evL Try.prog 21 1 (sub [1, 0, 1, 0, 0] (bodyOf Try.f78)) (ev_allWithin_L1_I xs xs_n lo hi k1 s1) [.b true, .n k1, .c [] (.bool ((decide ((List.getD xs k1 0) ≥ lo)) && (decide ((List.getD xs k1 0) ≤ hi)))) [], .b true] [] [some 0] .ret ⟨[(6, .bool false)], [some ⟨false, .it .i64 xs⟩]⟩ = some [((decide (((k1 : Nat) : Int) < ((xs_n : Nat) : Int))) = true), (((k1 : Nat) : Int) = ((k1 : Nat) : Int)), (k1 < xs_n), (k1 < (List.length xs)), (Ev Try.prog 62 [.int .i64 (List.getD xs k1 0), .int .i64 lo, .int .i64 hi] [] (.bool ((decide ((List.getD xs k1 0) ≥ lo)) && (decide ((List.getD xs k1 0) ≤ hi)))) []), ((!((decide ((List.getD xs k1 0) ≥ lo)) && (decide ((List.getD xs k1 0) ≤ hi)))) = true), (false = false), (xs = xs)] := by kernel_rfl
    exact PW.of_evL mixed _ _ _ e ⟨(decide_eq_true (by omega)), rfl, (by omega), (by omega), (ev_within ((List.getD xs k1 0)) (lo) (hi)), (congrArg Bool.not (and_fl (decide_eq_false h3))), rfl, rfl, trivial⟩

theorem ev_allWithin_L1e (xs : List Int) (xs_n : Nat) (xs_h : xs.length = xs_n) (xs_b : xs_n ≤ 9223372036854775807) (lo : Int) (hi : Int)  (j : Nat) (hj : j < xs_n) (hb : ev_allWithin_L1_good xs xs_n lo hi j (ev_allWithin_L1_S xs xs_n lo hi j) = false) (hL : ∀ k, k < j → ev_allWithin_L1_good xs xs_n lo hi k (ev_allWithin_L1_S xs xs_n lo hi k) = true) : PW Try.prog 21 1 (.loop (sub [1, 0, 1, 0, 0] (bodyOf Try.f78))) (ev_allWithin_L1_I xs xs_n lo hi 0 (ev_allWithin_L1_S xs xs_n lo hi 0)) .ret ⟨[(6, .bool false)], [some ⟨false, .it .i64 xs⟩]⟩ :=
  PW.loop (I := (fun k => ev_allWithin_L1_I xs xs_n lo hi k (ev_allWithin_L1_S xs xs_n lo hi k))) j (by simp) (fun k hk => ev_allWithin_L1_body xs xs_n xs_h xs_b lo hi k _  (Nat.lt_trans hk hj) (hL k hk)) (ev_allWithin_L1_ende xs xs_n xs_h xs_b lo hi _ j  hj hb)

theorem allW_g (xs : List Int) (n : Nat) (lo hi : Int) (h : xs.length = n) : allBelow (fun k => ev_allWithin_L1_good xs n lo hi k ()) n = inW xs lo hi := by
  subst h
  unfold inW
  refine allBelow_congr fun k _ => ?_
  unfold ev_allWithin_L1_good
  (repeat' split) <;> (try simp_all [-List.getD_eq_getElem?_getD]) <;> (try omega)

theorem ev_allWithin (xs : List Int) (xs_n : Nat) (xs_h : xs.length = xs_n) (xs_b : xs_n ≤ 9223372036854775807) (lo : Int) (hi : Int)  : Ev Try.prog 78 [.slice (some ⟨0, 0, none⟩) xs_n 1, .int .i64 lo, .int .i64 hi] [some ⟨false, .it .i64 xs⟩] (.bool (inW xs lo hi)) [some ⟨false, .it .i64 xs⟩] := by
  rcases Bool.eq_false_or_eq_true (allBelow (fun k => ev_allWithin_L1_good xs xs_n lo hi k (ev_allWithin_L1_S xs xs_n lo hi k)) xs_n) with h5 | h5
  ·
    have e : evF Try.prog Try.f78 [.slice (some ⟨0, 0, none⟩) xs_n 1, .int .i64 lo, .int .i64 hi] [some ⟨false, .it .i64 xs⟩] [] [([some 0], (ev_allWithin_L1_I xs xs_n lo hi 0 (ev_allWithin_L1_S xs xs_n lo hi 0)), (.exit 0), ⟨[(0, .slice (some ⟨0, 0, none⟩) xs_n 1), (1, .int .i64 lo), (2, .int .i64 hi), (6, .bool false), (9, .slice (some ⟨0, 0, none⟩) xs_n 1), (10, .int .i64 ((xs_n : Nat) : Int)), (11, .int .i64 ((xs_n : Nat) : Int))], [some ⟨false, .it .i64 xs⟩]⟩)] [some 0] (.bool (inW xs lo hi)) [some ⟨false, .it .i64 xs⟩] = some [(0 = 0), (xs_n = xs_n), (lo = lo), (hi = hi), (false = false), (0 = 0), (xs_n = xs_n), (((xs_n : Nat) : Int) = ((xs_n : Nat) : Int)), ((0 : Int) = ((0 : Nat) : Int)), (xs = xs), (PW Try.prog 21 1 (.loop (sub [1, 0, 1, 0, 0] (bodyOf Try.f78))) (ev_allWithin_L1_I xs xs_n lo hi 0 (ev_allWithin_L1_S xs xs_n lo hi 0)) (.exit 0) ⟨[(0, .slice (some ⟨0, 0, none⟩) xs_n 1), (1, .int .i64 lo), (2, .int .i64 hi), (6, .bool false), (9, .slice (some ⟨0, 0, none⟩) xs_n 1), (10, .int .i64 ((xs_n : Nat) : Int)), (11, .int .i64 ((xs_n : Nat) : Int))], [some ⟨false, .it .i64 xs⟩]⟩), (true = (inW xs lo hi)), (xs = xs)] := by kernel_rfl
    exact Ev.of mixed _ _ _ Try.func78 (by kernel_rfl) e ⟨rfl, rfl, rfl, rfl, rfl, rfl, rfl, rfl, (by omega), rfl, (ev_allWithin_L1 xs xs_n xs_h xs_b lo hi (allBelow_true.1 (show (allBelow (fun k => ev_allWithin_L1_good xs xs_n lo hi k (ev_allWithin_L1_S xs xs_n lo hi k)) xs_n) = true from h5))), (by clear e; rw [← allW_g xs xs_n lo hi xs_h]; symm; assumption), rfl, trivial⟩
  ·
    have e : evF Try.prog Try.f78 [.slice (some ⟨0, 0, none⟩) xs_n 1, .int .i64 lo, .int .i64 hi] [some ⟨false, .it .i64 xs⟩] [] [([some 0], (ev_allWithin_L1_I xs xs_n lo hi 0 (ev_allWithin_L1_S xs xs_n lo hi 0)), .ret, ⟨[(6, .bool false)], [some ⟨false, .it .i64 xs⟩]⟩)] [some 0] (.bool (inW xs lo hi)) [some ⟨false, .it .i64 xs⟩] = some [(0 = 0), (xs_n = xs_n), (lo = lo), (hi = hi), (false = false), (0 = 0), (xs_n = xs_n), (((xs_n : Nat) : Int) = ((xs_n : Nat) : Int)), ((0 : Int) = ((0 : Nat) : Int)), (xs = xs), (PW Try.prog 21 1 (.loop (sub [1, 0, 1, 0, 0] (bodyOf Try.f78))) (ev_allWithin_L1_I xs xs_n lo hi 0 (ev_allWithin_L1_S xs xs_n lo hi 0)) .ret ⟨[(6, .bool false)], [some ⟨false, .it .i64 xs⟩]⟩), (false = (inW xs lo hi)), (xs = xs)] := by kernel_rfl
    exact Ev.of mixed _ _ _ Try.func78 (by kernel_rfl) e ⟨rfl, rfl, rfl, rfl, rfl, rfl, rfl, rfl, (by omega), rfl, (ev_allWithin_L1e xs xs_n xs_h xs_b lo hi (firstF (fun k => ev_allWithin_L1_good xs xs_n lo hi k (ev_allWithin_L1_S xs xs_n lo hi k)) xs_n) (firstF_lt (show (allBelow (fun k => ev_allWithin_L1_good xs xs_n lo hi k (ev_allWithin_L1_S xs xs_n lo hi k)) xs_n) = false from h5)) (firstF_false (show (allBelow (fun k => ev_allWithin_L1_good xs xs_n lo hi k (ev_allWithin_L1_S xs xs_n lo hi k)) xs_n) = false from h5)) (firstF_before (show (allBelow (fun k => ev_allWithin_L1_good xs xs_n lo hi k (ev_allWithin_L1_S xs xs_n lo hi k)) xs_n) = false from h5))), (by clear e; rw [← allW_g xs xs_n lo hi xs_h]; symm; assumption), rfl, trivial⟩

theorem ev_isNaNI (a : Int)  : Ev Try.prog 140 [.int .i64 a] [] (.bool false) [] := by
  have e : evF Try.prog Try.f140 [.int .i64 a] [] [] [] [] (.bool false) [] = some [((a != a) = false)] := by kernel_rfl
  exact Ev.of mixed _ _ _ Try.func140 (by kernel_rfl) e ⟨(bne_eq_false_iff_eq.2 (by omega)), trivial⟩

theorem ev_LessI (a : Int) (b : Int)  : Ev Try.prog 115 [.int .i64 a, .int .i64 b] [] (.bool (decide (a < b))) [] := by
  have e : evF Try.prog Try.f115 [.int .i64 a, .int .i64 b] [] [.c [] (.bool false) [], .b false, .b false, .b false, .b false, .b false, .b false, .b false, .b false] [] [] (.bool (decide (a < b))) [] = some [(Ev Try.prog 140 [.int .i64 a] [] (.bool false) []), (false = false), (false = false), (false = false), (false = false), (false = false), (false = false), (false = false), (false = false), ((decide (a < b)) = (decide (a < b)))] := by kernel_rfl
  exact Ev.of mixed _ _ _ Try.func115 (by kernel_rfl) e ⟨(ev_isNaNI (a)), rfl, rfl, rfl, rfl, rfl, rfl, rfl, rfl, rfl, trivial⟩

def ev_IsSorted_L1_step (xs : List Int) (xs_n : Nat) (k1 : Nat) (s1 : Unit) : Unit := ()

def ev_IsSorted_L1_S (xs : List Int) (xs_n : Nat) : Nat → Unit
  | 0 => ()
  | k + 1 => ev_IsSorted_L1_step xs xs_n k (ev_IsSorted_L1_S xs xs_n k)

def ev_IsSorted_L1_I (xs : List Int) (xs_n : Nat) (k1 : Nat) (s1 : Unit) : St := ⟨[(0, .slice (some ⟨0, 0, none⟩) xs_n 1), (2, .bool false), (3, .int .i64 ((((xs_n : Nat) : Int) - (1 : Int)) + (-1 : Int) * ((k1 : Nat) : Int)))], [some ⟨false, .it .i64 xs⟩]⟩

def ev_IsSorted_L1_good (xs : List Int) (xs_n : Nat) (k1 : Nat) (s1 : Unit) : Bool := (if (List.getD xs (xs_n - (k1 + 1)) 0) < (List.getD xs (xs_n - (k1 + 2)) 0) then false else true)

theorem ev_IsSorted_L1_body (xs : List Int) (xs_n : Nat) (xs_h : xs.length = xs_n) (xs_b : xs_n ≤ 9223372036854775807)  (k1 : Nat) (s1 : Unit)  (hk_k1 : k1 < (xs_n - 1)) (hg : ev_IsSorted_L1_good xs xs_n k1 s1 = true) : PW Try.prog 21 1 (sub [1, 0, 1, 0, 0] (bodyOf Try.f77)) (ev_IsSorted_L1_I xs xs_n k1 s1) .normal (ev_IsSorted_L1_I xs xs_n (k1 + 1) (ev_IsSorted_L1_step xs xs_n k1 s1)) := by
  by_cases h1 : (List.getD xs (xs_n - (k1 + 1)) 0) < (List.getD xs (xs_n - (k1 + 2)) 0)
  ·
    exact absurd hg (by simp [-List.getD_eq_getElem?_getD, ev_IsSorted_L1_good, h1, xs_h])
  ·
    have e : evL Try.prog 21 1 (sub [1, 0, 1, 0, 0] (bodyOf Try.f77)) (ev_IsSorted_L1_I xs xs_n k1 s1) [.b true, .n (xs_n - (k1 + 1)), .n (xs_n - (k1 + 2)), .c [] (.bool (decide ((List.getD xs (xs_n - (k1 + 1)) 0) < (List.getD xs (xs_n - (k1 + 2)) 0)))) [], .b false] [] [some 0] .normal (ev_IsSorted_L1_I xs xs_n (k1 + 1) (ev_IsSorted_L1_step xs xs_n k1 s1)) = some [((decide (((((xs_n : Nat) : Int) - (1 : Int)) + (-1 : Int) * ((k1 : Nat) : Int)) > (0 : Int))) = true), (((((xs_n : Nat) : Int) - (1 : Int)) + (-1 : Int) * ((k1 : Nat) : Int)) = (((xs_n - (k1 + 1)) : Nat) : Int)), ((xs_n - (k1 + 1)) < xs_n), ((xs_n - (k1 + 1)) < (List.length xs)), (inR .i64 (((((xs_n : Nat) : Int) - (1 : Int)) + (-1 : Int) * ((k1 : Nat) : Int)) - (1 : Int))), ((((((xs_n : Nat) : Int) - (1 : Int)) + (-1 : Int) * ((k1 : Nat) : Int)) - (1 : Int)) = (((xs_n - (k1 + 2)) : Nat) : Int)), ((xs_n - (k1 + 2)) < xs_n), ((xs_n - (k1 + 2)) < (List.length xs)), (Ev Try.prog 115 [.int .i64 (List.getD xs (xs_n - (k1 + 1)) 0), .int .i64 (List.getD xs (xs_n - (k1 + 2)) 0)] [] (.bool (decide ((List.getD xs (xs_n - (k1 + 1)) 0) < (List.getD xs (xs_n - (k1 + 2)) 0)))) []), ((decide ((List.getD xs (xs_n - (k1 + 1)) 0) < (List.getD xs (xs_n - (k1 + 2)) 0))) = false), (inR .i64 (((((xs_n : Nat) : Int) - (1 : Int)) + (-1 : Int) * ((k1 : Nat) : Int)) - (1 : Int))), (0 = 0), (xs_n = xs_n), (false = false), ((((((xs_n : Nat) : Int) - (1 : Int)) + (-1 : Int) * ((k1 : Nat) : Int)) - (1 : Int)) = ((((xs_n : Nat) : Int) - (1 : Int)) + (-1 : Int) * (((k1 + 1) : Nat) : Int))), (xs = xs)] := by kernel_rfl
    exact PW.of_evL mixed _ _ _ e ⟨(decide_eq_true (by omega)), (by omega), (by omega), (by omega), (inR64 (by omega) (by omega)), (by omega), (by omega), (by omega), (ev_LessI ((List.getD xs (xs_n - (k1 + 1)) 0)) ((List.getD xs (xs_n - (k1 + 2)) 0))), (decide_eq_false h1), (inR64 (by omega) (by omega)), rfl, rfl, rfl, (by omega), rfl, trivial⟩

theorem ev_IsSorted_L1_end (xs : List Int) (xs_n : Nat) (xs_h : xs.length = xs_n) (xs_b : xs_n ≤ 9223372036854775807)  (s1 : Unit)  : PW Try.prog 21 1 (sub [1, 0, 1, 0, 0] (bodyOf Try.f77)) (ev_IsSorted_L1_I xs xs_n (xs_n - 1) s1) (.exit 0) ⟨[(0, .slice (some ⟨0, 0, none⟩) xs_n 1), (2, .bool false), (3, .int .i64 ((((xs_n : Nat) : Int) - (1 : Int)) + (-1 : Int) * (((xs_n - 1) : Nat) : Int)))], [some ⟨false, .it .i64 xs⟩]⟩ := by
  have e : evL Try.prog 21 1 (sub [1, 0, 1, 0, 0] (bodyOf Try.f77)) (ev_IsSorted_L1_I xs xs_n (xs_n - 1) s1) [.b false] [] [some 0] (.exit 0) ⟨[(0, .slice (some ⟨0, 0, none⟩) xs_n 1), (2, .bool false), (3, .int .i64 ((((xs_n : Nat) : Int) - (1 : Int)) + (-1 : Int) * (((xs_n - 1) : Nat) : Int)))], [some ⟨false, .it .i64 xs⟩]⟩ = some [((decide (((((xs_n : Nat) : Int) - (1 : Int)) + (-1 : Int) * (((xs_n - 1) : Nat) : Int)) > (0 : Int))) = false), (0 = 0), (xs_n = xs_n), (false = false), (((((xs_n : Nat) : Int) - (1 : Int)) + (-1 : Int) * (((xs_n - 1) : Nat) : Int)) = ((((xs_n : Nat) : Int) - (1 : Int)) + (-1 : Int) * (((xs_n - 1) : Nat) : Int))), (xs = xs)] := by kernel_rfl
  exact PW.of_evL mixed _ _ _ e ⟨(decide_eq_false (by omega)), rfl, rfl, rfl, rfl, rfl, trivial⟩

theorem ev_IsSorted_L1 (xs : List Int) (xs_n : Nat) (xs_h : xs.length = xs_n) (xs_b : xs_n ≤ 9223372036854775807)  (hL : ∀ k, k < (xs_n - 1) → ev_IsSorted_L1_good xs xs_n k (ev_IsSorted_L1_S xs xs_n k) = true) : PW Try.prog 21 1 (.loop (sub [1, 0, 1, 0, 0] (bodyOf Try.f77))) (ev_IsSorted_L1_I xs xs_n 0 (ev_IsSorted_L1_S xs xs_n 0)) (.exit 0) ⟨[(0, .slice (some ⟨0, 0, none⟩) xs_n 1), (2, .bool false), (3, .int .i64 ((((xs_n : Nat) : Int) - (1 : Int)) + (-1 : Int) * (((xs_n - 1) : Nat) : Int)))], [some ⟨false, .it .i64 xs⟩]⟩ :=
  PW.loop (I := (fun k => ev_IsSorted_L1_I xs xs_n k (ev_IsSorted_L1_S xs xs_n k))) (xs_n - 1) (by simp) (fun k hk => ev_IsSorted_L1_body xs xs_n xs_h xs_b k _  hk (hL k hk)) (ev_IsSorted_L1_end xs xs_n xs_h xs_b _ )

theorem ev_IsSorted_L1_ende (xs : List Int) (xs_n : Nat) (xs_h : xs.length = xs_n) (xs_b : xs_n ≤ 9223372036854775807)  (s1 : Unit) (k1 : Nat)  (hk_k1 : k1 < (xs_n - 1)) (hb : ev_IsSorted_L1_good xs xs_n k1 s1 = false) : PW Try.prog 21 1 (sub [1, 0, 1, 0, 0] (bodyOf Try.f77)) (ev_IsSorted_L1_I xs xs_n k1 s1) .ret ⟨[(2, .bool false)], [some ⟨false, .it .i64 xs⟩]⟩ := by
  by_cases h2 : (List.getD xs (xs_n - (k1 + 1)) 0) < (List.getD xs (xs_n - (k1 + 2)) 0)
  ·
    have e : evL Try.prog 21 1 (sub [1, 0, 1, 0, 0] (bodyOf Try.f77)) (ev_IsSorted_L1_I xs xs_n k1 s1) [.b true, .n (xs_n - (k1 + 1)), .n (xs_n - (k1 + 2)), .c [] (.bool (decide ((List.getD xs (xs_n - (k1 + 1)) 0) < (List.getD xs (xs_n - (k1 + 2)) 0)))) [], .b true] [] [some 0] .ret ⟨[(2, .bool false)], [some ⟨false, .it .i64 xs⟩]⟩ = some [((decide (((((xs_n : Nat) : Int) - (1 : Int)) + (-1 : Int) * ((k1 : Nat) : Int)) > (0 : Int))) = true), (((((xs_n : Nat) : Int) - (1 : Int)) + (-1 : Int) * ((k1 : Nat) : Int)) = (((xs_n - (k1 + 1)) : Nat) : Int)), ((xs_n - (k1 + 1)) < xs_n), ((xs_n - (k1 + 1)) < (List.length xs)), (inR .i64 (((((xs_n : Nat) : Int) - (1 : Int)) + (-1 : Int) * ((k1 : Nat) : Int)) - (1 : Int))), ((((((xs_n : Nat) : Int) - (1 : Int)) + (-1 : Int) * ((k1 : Nat) : Int)) - (1 : Int)) = (((xs_n - (k1 + 2)) : Nat) : Int)), ((xs_n - (k1 + 2)) < xs_n), ((xs_n - (k1 + 2)) < (List.length xs)), (Ev Try.prog 115 [.int .i64 (List.getD xs (xs_n - (k1 + 1)) 0), .int .i64 (List.getD xs (xs_n - (k1 + 2)) 0)] [] (.bool (decide ((List.getD xs (xs_n - (k1 + 1)) 0) < (List.getD xs (xs_n - (k1 + 2)) 0)))) []), ((decide ((List.getD xs (xs_n - (k1 + 1)) 0) < (List.getD xs (xs_n - (k1 + 2)) 0))) = true), (false = false), (xs = xs)] := by kernel_rfl
    exact PW.of_evL mixed _ _ _ e ⟨(decide_eq_true (by omega)), (by omega), (by omega), (by omega), (inR64 (by omega) (by omega)), (by omega), (by omega), (by omega), (ev_LessI ((List.getD xs (xs_n - (k1 + 1)) 0)) ((List.getD xs (xs_n - (k1 + 2)) 0))), (decide_eq_true h2), rfl, rfl, trivial⟩
  ·
    exact absurd hb (by simp [-List.getD_eq_getElem?_getD, ev_IsSorted_L1_good, h2, xs_h])

theorem ev_IsSorted_L1e (xs : List Int) (xs_n : Nat) (xs_h : xs.length = xs_n) (xs_b : xs_n ≤ 9223372036854775807)  (j : Nat) (hj : j < (xs_n - 1)) (hb : ev_IsSorted_L1_good xs xs_n j (ev_IsSorted_L1_S xs xs_n j) = false) (hL : ∀ k, k < j → ev_IsSorted_L1_good xs xs_n k (ev_IsSorted_L1_S xs xs_n k) = true) : PW Try.prog 21 1 (.loop (sub [1, 0, 1, 0, 0] (bodyOf Try.f77))) (ev_IsSorted_L1_I xs xs_n 0 (ev_IsSorted_L1_S xs xs_n 0)) .ret ⟨[(2, .bool false)], [some ⟨false, .it .i64 xs⟩]⟩ :=
  PW.loop (I := (fun k => ev_IsSorted_L1_I xs xs_n k (ev_IsSorted_L1_S xs xs_n k))) j (by simp) (fun k hk => ev_IsSorted_L1_body xs xs_n xs_h xs_b k _  (Nat.lt_trans hk hj) (hL k hk)) (ev_IsSorted_L1_ende xs xs_n xs_h xs_b _ j  hj hb)

theorem sorted_g (xs : List Int) (n : Nat) (h : xs.length = n) : allBelow (fun k => ev_IsSorted_L1_good xs n k (ev_IsSorted_L1_S xs n k)) (n - 1) = srtI xs := by
  subst h
  unfold srtI
  rw [← allBelow_rev (fun k => !decide (xs.getD (k + 1) 0 < xs.getD k 0))]
  refine allBelow_congr fun k hk => ?_
  have e1 : xs.length - (k + 1) = xs.length - 1 - 1 - k + 1 := by omega
  have e2 : xs.length - (k + 2) = xs.length - 1 - 1 - k := by omega
  unfold ev_IsSorted_L1_good
  rw [e1, e2, ite_dec']

theorem ev_IsSorted (xs : List Int) (xs_n : Nat) (xs_h : xs.length = xs_n) (xs_b : xs_n ≤ 9223372036854775807)  : Ev Try.prog 77 [.slice (some ⟨0, 0, none⟩) xs_n 1] [some ⟨false, .it .i64 xs⟩] (.bool (srtI xs)) [some ⟨false, .it .i64 xs⟩] := by
  rcases Bool.eq_false_or_eq_true (allBelow (fun k => ev_IsSorted_L1_good xs xs_n k (ev_IsSorted_L1_S xs xs_n k)) (xs_n - 1)) with h3 | h3
  ·
    have e : evF Try.prog Try.f77 [.slice (some ⟨0, 0, none⟩) xs_n 1] [some ⟨false, .it .i64 xs⟩] [] [([some 0], (ev_IsSorted_L1_I xs xs_n 0 (ev_IsSorted_L1_S xs xs_n 0)), (.exit 0), ⟨[(0, .slice (some ⟨0, 0, none⟩) xs_n 1), (2, .bool false), (3, .int .i64 ((((xs_n : Nat) : Int) - (1 : Int)) + (-1 : Int) * (((xs_n - 1) : Nat) : Int)))], [some ⟨false, .it .i64 xs⟩]⟩)] [some 0] (.bool (srtI xs)) [some ⟨false, .it .i64 xs⟩] = some [(inR .i64 (((xs_n : Nat) : Int) - (1 : Int))), (0 = 0), (xs_n = xs_n), (false = false), ((((xs_n : Nat) : Int) - (1 : Int)) = ((((xs_n : Nat) : Int) - (1 : Int)) + (-1 : Int) * ((0 : Nat) : Int))), (xs = xs), (PW Try.prog 21 1 (.loop (sub [1, 0, 1, 0, 0] (bodyOf Try.f77))) (ev_IsSorted_L1_I xs xs_n 0 (ev_IsSorted_L1_S xs xs_n 0)) (.exit 0) ⟨[(0, .slice (some ⟨0, 0, none⟩) xs_n 1), (2, .bool false), (3, .int .i64 ((((xs_n : Nat) : Int) - (1 : Int)) + (-1 : Int) * (((xs_n - 1) : Nat) : Int)))], [some ⟨false, .it .i64 xs⟩]⟩), (true = (srtI xs)), (xs = xs)] := by kernel_rfl
    exact Ev.of mixed _ _ _ Try.func77 (by kernel_rfl) e ⟨(inR64 (by omega) (by omega)), rfl, rfl, rfl, (by omega), rfl, (ev_IsSorted_L1 xs xs_n xs_h xs_b (allBelow_true.1 (show (allBelow (fun k => ev_IsSorted_L1_good xs xs_n k (ev_IsSorted_L1_S xs xs_n k)) (xs_n - 1)) = true from h3))), (by clear e; rw [← sorted_g xs xs_n xs_h]; symm; assumption), rfl, trivial⟩
  ·
    have e : evF Try.prog Try.f77 [.slice (some ⟨0, 0, none⟩) xs_n 1] [some ⟨false, .it .i64 xs⟩] [] [([some 0], (ev_IsSorted_L1_I xs xs_n 0 (ev_IsSorted_L1_S xs xs_n 0)), .ret, ⟨[(2, .bool false)], [some ⟨false, .it .i64 xs⟩]⟩)] [some 0] (.bool (srtI xs)) [some ⟨false, .it .i64 xs⟩] = some [(inR .i64 (((xs_n : Nat) : Int) - (1 : Int))), (0 = 0), (xs_n = xs_n), (false = false), ((((xs_n : Nat) : Int) - (1 : Int)) = ((((xs_n : Nat) : Int) - (1 : Int)) + (-1 : Int) * ((0 : Nat) : Int))), (xs = xs), (PW Try.prog 21 1 (.loop (sub [1, 0, 1, 0, 0] (bodyOf Try.f77))) (ev_IsSorted_L1_I xs xs_n 0 (ev_IsSorted_L1_S xs xs_n 0)) .ret ⟨[(2, .bool false)], [some ⟨false, .it .i64 xs⟩]⟩), (false = (srtI xs)), (xs = xs)] := by kernel_rfl
    exact Ev.of mixed _ _ _ Try.func77 (by kernel_rfl) e ⟨(inR64 (by omega) (by omega)), rfl, rfl, rfl, (by omega), rfl, (ev_IsSorted_L1e xs xs_n xs_h xs_b (firstF (fun k => ev_IsSorted_L1_good xs xs_n k (ev_IsSorted_L1_S xs xs_n k)) (xs_n - 1)) (firstF_lt (show (allBelow (fun k => ev_IsSorted_L1_good xs xs_n k (ev_IsSorted_L1_S xs xs_n k)) (xs_n - 1)) = false from h3)) (firstF_false (show (allBelow (fun k => ev_IsSorted_L1_good xs xs_n k (ev_IsSorted_L1_S xs xs_n k)) (xs_n - 1)) = false from h3)) (firstF_before (show (allBelow (fun k => ev_IsSorted_L1_good xs xs_n k (ev_IsSorted_L1_S xs xs_n k)) (xs_n - 1)) = false from h3))), (by clear e; rw [← sorted_g xs xs_n xs_h]; symm; assumption), rfl, trivial⟩

end Go.Sim
