/- Lists of lists: marked. Conditions: none. -/
import Derived.Test.YtgjdkhocnnoimaaProg
import Derived.KernelRfl
import Derived.Test.YtgjdkhocnnoimaaGb
import Derived.Test.YtgjdkhocnnoimaaS26
import Derived.Test.YtgjdkhocnnoimaaPuQ

section
set_option linter.unusedSimpArgs false

set_option linter.unusedVariables false

namespace Go.Sim

open Go Go.Proofs

theorem ev_CloneF (xs : List Nat) (xs_n : Nat) (xs_h : xs.length = xs_n) (xs_b : xs_n ≤ 9223372036854775807)  (hsz : xs_n ≤ 2097152) (hpos : 0 < xs_n) : Ev Try.prog 115 [.slice (some ⟨0, 0, none⟩) xs_n 1] [some ⟨false, .fl .f32 xs⟩] (.slice (some ⟨1, 0, none⟩) xs_n 1) [some ⟨false, .fl .f32 xs⟩, some ⟨true, .fl .f32 xs⟩] := by
  have e : evF Try.prog Try.f115 [.slice (some ⟨0, 0, none⟩) xs_n 1] [some ⟨false, .fl .f32 xs⟩] [.b false, .b true] [] [some 0, some 2] (.slice (some ⟨1, 0, none⟩) xs_n 1) [some ⟨false, .fl .f32 xs⟩, some ⟨true, .fl .f32 xs⟩] = some [(0 < xs_n), (false = false), (xs_n = (List.length xs)), (xs_n ≤ 1073741824), (0 = 0), (xs_n = xs_n), (xs = xs), (xs = xs)] := by kernel_rfl
  exact Ev.of mixed _ _ _ Try.func115 (by kernel_rfl) e ⟨(by omega), rfl, (by omega), (by omega), rfl, rfl, rfl, rfl, trivial⟩

end Go.Sim
end

section
set_option linter.unusedSimpArgs false

set_option linter.unusedVariables false

namespace Go.Sim

open Go Go.Proofs

theorem ev_CloneP (xs : List Nat) (xs_n : Nat) (xs_h : xs.length = xs_n) (xs_b : xs_n ≤ 9223372036854775807) (xs_r : Nat) (xs_m : Nat) (xs_p : xs_r + xs_m ≤ xs_n)  (hsz : xs_m ≤ 2097152) (hpos : 0 < xs_m) : Ev Try.prog 115 [.slice (some ⟨0, xs_r, none⟩) xs_m 1] [some ⟨false, .fl .f32 xs⟩] (.slice (some ⟨1, 0, none⟩) xs_m 1) [some ⟨false, .fl .f32 xs⟩, some ⟨true, .fl .f32 (List.take xs_m (List.drop xs_r xs))⟩] := by
  have e : evF Try.prog Try.f115 [.slice (some ⟨0, xs_r, none⟩) xs_m 1] [some ⟨false, .fl .f32 xs⟩] [.b false, .b false] [] [some 0, some 2] (.slice (some ⟨1, 0, none⟩) xs_m 1) [some ⟨false, .fl .f32 xs⟩, some ⟨true, .fl .f32 (List.take xs_m (List.drop xs_r xs))⟩] = some [(0 < xs_m), (false = false), (xs_r + xs_m ≤ (List.length xs)), (xs_m ≤ 1073741824), (0 = 0), (xs_m = xs_m), (xs = xs), ((List.take xs_m (List.drop xs_r xs)) = (List.take xs_m (List.drop xs_r xs)))] := by kernel_rfl
  exact Ev.of mixed _ _ _ Try.func115 (by kernel_rfl) e ⟨(by omega), rfl, (by omega), (by omega), rfl, rfl, rfl, rfl, trivial⟩

def ev_framesOf_L1_step (xs : List Nat) (xs_n : Nat) (size : Int) (step : Int) (k1 : Nat) (s1 : (List (List Nat))) : (List (List Nat)) := (s1 ++ [(List.take (((size).toNat + (k1 * (step).toNat)) - (k1 * (step).toNat)) (List.drop (k1 * (step).toNat) xs))])

def ev_framesOf_L1_S (xs : List Nat) (xs_n : Nat) (size : Int) (step : Int) : Nat → (List (List Nat))
  | 0 => []
  | k + 1 => ev_framesOf_L1_step xs xs_n size step k (ev_framesOf_L1_S xs xs_n size step k)

def ev_framesOf_L1_I (xs : List Nat) (xs_n : Nat) (size : Int) (step : Int) (k1 : Nat) (s1 : (List (List Nat))) : St := ⟨[(0, .slice (some ⟨0, 0, none⟩) xs_n 1), (1, .int .i64 size), (2, .int .i64 step), (6, .slice none 0 0), (7, .slice (some ⟨1, 0, none⟩) k1 1), (8, .int .i64 (((k1 * (step).toNat) : Nat) : Int))], [some ⟨false, .fl .f32 xs⟩, some ⟨true, .nst k1 1 (rowF s1) []⟩]⟩

theorem ev_framesOf_L1_inv (xs : List Nat) (xs_n : Nat) (xs_h : xs.length = xs_n) (xs_b : xs_n ≤ 9223372036854775807) (size : Int) (step : Int)  (hs1 : 1 ≤ size) (hs2 : size ≤ 1048576) (ht1 : 1 ≤ step) (ht2 : step ≤ 1048576) (hxs : xs_n ≤ 1048576) : ∀ k, List.length (ev_framesOf_L1_S xs xs_n size step k) = k := by
  intro k
  induction k with
  | zero => simp [ev_framesOf_L1_S, List.length_set, List.length_append, List.length_replicate, List.length_cons, List.length_nil, List.length_take, List.length_drop, rowAdd_eq, xs_h]
  | succ k ih =>
    simp only [ev_framesOf_L1_S]
    generalize ev_framesOf_L1_S xs xs_n size step k = s at ih ⊢
    unfold ev_framesOf_L1_step
    first
    | (simp [-List.getD_eq_getElem?_getD, List.length_set, List.length_append, List.length_replicate, List.length_cons, List.length_nil, List.length_take, List.length_drop, rowAdd_eq, xs_h, ih]; done)
    | ((repeat' split) <;> (simp_all [-List.getD_eq_getElem?_getD, List.length_set, List.length_append, List.length_replicate, List.length_cons, List.length_nil, List.length_take, List.length_drop, rowAdd_eq, xs_h]) <;> omega)
    | ((repeat' split) <;> (simp_all [-List.getD_eq_getElem?_getD, List.length_set, List.length_append, List.length_replicate, List.length_cons, List.length_nil, List.length_take, List.length_drop, rowAdd_eq, xs_h]); done)

theorem ev_framesOf_L1_inv0 (xs : List Nat) (xs_n : Nat) (xs_h : xs.length = xs_n) (xs_b : xs_n ≤ 9223372036854775807) (size : Int) (step : Int)  (hs1 : 1 ≤ size) (hs2 : size ≤ 1048576) (ht1 : 1 ≤ step) (ht2 : step ≤ 1048576) (hxs : xs_n ≤ 1048576) (k : Nat) : List.length (ev_framesOf_L1_S xs xs_n size step k) = k := (ev_framesOf_L1_inv xs xs_n xs_h xs_b size step hs1 hs2 ht1 ht2 hxs k)

theorem ev_framesOf_L1_body (xs : List Nat) (xs_n : Nat) (xs_h : xs.length = xs_n) (xs_b : xs_n ≤ 9223372036854775807) (size : Int) (step : Int)  (hs1 : 1 ≤ size) (hs2 : size ≤ 1048576) (ht1 : 1 ≤ step) (ht2 : step ≤ 1048576) (hxs : xs_n ≤ 1048576) (k1 : Nat) (s1 : (List (List Nat))) (s1_i0 : List.length s1 = k1) (hk_k1 : k1 < ((((step).toNat + xs_n) - (size).toNat) / (step).toNat))  : PW Try.prog 29 1 (sub [1, 1, 0, 1, 0, 0] (bodyOf Try.f130)) (ev_framesOf_L1_I xs xs_n size step k1 s1) .normal (ev_framesOf_L1_I xs xs_n size step (k1 + 1) (ev_framesOf_L1_step xs xs_n size step k1 s1)) := by
  have a0 := (div_round hk_k1)
  have a1 := succ_mulN k1 (step).toNat
  have a2 := Nat.div_le_self (((step).toNat + xs_n) - (size).toNat) (step).toNat
  have e : evL Try.prog 29 1 (sub [1, 1, 0, 1, 0, 0] (bodyOf Try.f130)) (ev_framesOf_L1_I xs xs_n size step k1 s1) [.b true, .n (k1 * (step).toNat), .n ((size).toNat + (k1 * (step).toNat)), .c [(0, false)] (.slice (some ⟨1, 0, none⟩) (((size).toNat + (k1 * (step).toNat)) - (k1 * (step).toNat)) 1) [some ⟨false, .fl .f32 xs⟩, some ⟨true, .fl .f32 (List.take (((size).toNat + (k1 * (step).toNat)) - (k1 * (step).toNat)) (List.drop (k1 * (step).toNat) xs))⟩], .b true] [] [some 0, some 4] .normal (ev_framesOf_L1_I xs xs_n size step (k1 + 1) (ev_framesOf_L1_step xs xs_n size step k1 s1)) = some [(inR .i64 ((((k1 * (step).toNat) : Nat) : Int) + size)), ((decide (((((k1 * (step).toNat) : Nat) : Int) + size) ≤ ((xs_n : Nat) : Int))) = true), (inR .i64 ((((k1 * (step).toNat) : Nat) : Int) + size)), ((((k1 * (step).toNat) : Nat) : Int) = (((k1 * (step).toNat) : Nat) : Int)), (((((k1 * (step).toNat) : Nat) : Int) + size) = ((((size).toNat + (k1 * (step).toNat)) : Nat) : Int)), ((k1 * (step).toNat) ≤ ((size).toNat + (k1 * (step).toNat))), (((size).toNat + (k1 * (step).toNat)) ≤ xs_n), (Ev Try.prog 115 [.slice (some ⟨0, (k1 * (step).toNat), none⟩) (((size).toNat + (k1 * (step).toNat)) - (k1 * (step).toNat)) 1] [some ⟨false, .fl .f32 xs⟩] (.slice (some ⟨1, 0, none⟩) (((size).toNat + (k1 * (step).toNat)) - (k1 * (step).toNat)) 1) [some ⟨false, .fl .f32 xs⟩, some ⟨true, .fl .f32 (List.take (((size).toNat + (k1 * (step).toNat)) - (k1 * (step).toNat)) (List.drop (k1 * (step).toNat) xs))⟩]), ((((size).toNat + (k1 * (step).toNat)) - (k1 * (step).toNat)) = (List.length (List.take (((size).toNat + (k1 * (step).toNat)) - (k1 * (step).toNat)) (List.drop (k1 * (step).toNat) xs)))), (1 = 1), (k1 = k1), ((k1 + 1) ≤ 1073741824), (inR .i64 ((((k1 * (step).toNat) : Nat) : Int) + step)), (0 = 0), (xs_n = xs_n), (size = size), (step = step), (0 = 0), ((k1 + 1) = (k1 + 1)), (((((k1 * (step).toNat) : Nat) : Int) + step) = ((((k1 + 1) * (step).toNat) : Nat) : Int)), (xs = xs), ((k1 + 1) = (k1 + 1)), (1 = 1), (∀ i, i < (k1 + 1) → (fun i => bif Nat.blt i k1 then (rowF s1) i else (fun _ => [HC.r (List.take (((size).toNat + (k1 * (step).toNat)) - (k1 * (step).toNat)) (List.drop (k1 * (step).toNat) xs))]) (i - k1)) i = (rowF (ev_framesOf_L1_step xs xs_n size step k1 s1)) i)] := by kernel_rfl
  exact PW.of_evL mixed _ _ _ e ⟨(inR64 (by omega) (by omega)), (decide_eq_true (by omega)), (inR64 (by omega) (by omega)), rfl, (by omega), (by omega), (by omega), (ev_CloneP xs xs_n xs_h xs_b (k1 * (step).toNat) (((size).toNat + (k1 * (step).toNat)) - (k1 * (step).toNat)) (by omega) (by omega) (by omega)), (by first | omega | (simp only [List.length_set, List.length_append, List.length_replicate, List.length_cons, List.length_nil, List.length_take, List.length_drop, rowAdd_eq, xs_h, s1_i0]; done) | (simp only [List.length_set, List.length_append, List.length_replicate, List.length_cons, List.length_nil, List.length_take, List.length_drop, rowAdd_eq, xs_h, s1_i0]; omega)), rfl, rfl, (by omega), (inR64 (by omega) (by omega)), rfl, rfl, rfl, rfl, rfl, rfl, (by omega), rfl, rfl, rfl, (fun i hi => (rowF_snoc (xs := s1) (n := k1) (by omega) i hi).trans (congrArg (fun q => rowF q i) (show (s1 ++ [(List.take (((size).toNat + (k1 * (step).toNat)) - (k1 * (step).toNat)) (List.drop (k1 * (step).toNat) xs))]) = (ev_framesOf_L1_step xs xs_n size step k1 s1) from (by first | (simp [-List.getD_eq_getElem?_getD, ev_framesOf_L1_step, xs_h, s1_i0]; done) | (simp_all [-List.getD_eq_getElem?_getD, ev_framesOf_L1_step, xs_h, s1_i0]; done))))), trivial⟩

theorem ev_framesOf_L1_end (xs : List Nat) (xs_n : Nat) (xs_h : xs.length = xs_n) (xs_b : xs_n ≤ 9223372036854775807) (size : Int) (step : Int)  (hs1 : 1 ≤ size) (hs2 : size ≤ 1048576) (ht1 : 1 ≤ step) (ht2 : step ≤ 1048576) (hxs : xs_n ≤ 1048576) (s1 : (List (List Nat))) (s1_i0 : List.length s1 = ((((step).toNat + xs_n) - (size).toNat) / (step).toNat)) : PW Try.prog 29 1 (sub [1, 1, 0, 1, 0, 0] (bodyOf Try.f130)) (ev_framesOf_L1_I xs xs_n size step ((((step).toNat + xs_n) - (size).toNat) / (step).toNat) s1) (.exit 0) ⟨[(0, .slice (some ⟨0, 0, none⟩) xs_n 1), (1, .int .i64 size), (2, .int .i64 step), (6, .slice none 0 0), (7, .slice (some ⟨1, 0, none⟩) ((((step).toNat + xs_n) - (size).toNat) / (step).toNat) 1), (8, .int .i64 (((((((step).toNat + xs_n) - (size).toNat) / (step).toNat) * (step).toNat) : Nat) : Int))], [some ⟨false, .fl .f32 xs⟩, some ⟨true, .nst ((((step).toNat + xs_n) - (size).toNat) / (step).toNat) 1 (rowF s1) []⟩]⟩ := by
  have a0 := (div_end (n := (((step).toNat + xs_n) - (size).toNat)) (b := (step).toNat) (by omega))
  have a1 := Nat.div_mul_le_self (((step).toNat + xs_n) - (size).toNat) (step).toNat
  have e : evL Try.prog 29 1 (sub [1, 1, 0, 1, 0, 0] (bodyOf Try.f130)) (ev_framesOf_L1_I xs xs_n size step ((((step).toNat + xs_n) - (size).toNat) / (step).toNat) s1) [.b false] [] [some 0, some 1] (.exit 0) ⟨[(0, .slice (some ⟨0, 0, none⟩) xs_n 1), (1, .int .i64 size), (2, .int .i64 step), (6, .slice none 0 0), (7, .slice (some ⟨1, 0, none⟩) ((((step).toNat + xs_n) - (size).toNat) / (step).toNat) 1), (8, .int .i64 (((((((step).toNat + xs_n) - (size).toNat) / (step).toNat) * (step).toNat) : Nat) : Int))], [some ⟨false, .fl .f32 xs⟩, some ⟨true, .nst ((((step).toNat + xs_n) - (size).toNat) / (step).toNat) 1 (rowF s1) []⟩]⟩ = some [(inR .i64 ((((((((step).toNat + xs_n) - (size).toNat) / (step).toNat) * (step).toNat) : Nat) : Int) + size)), ((decide (((((((((step).toNat + xs_n) - (size).toNat) / (step).toNat) * (step).toNat) : Nat) : Int) + size) ≤ ((xs_n : Nat) : Int))) = false), (0 = 0), (xs_n = xs_n), (size = size), (step = step), (0 = 0), (((((step).toNat + xs_n) - (size).toNat) / (step).toNat) = ((((step).toNat + xs_n) - (size).toNat) / (step).toNat)), ((((((((step).toNat + xs_n) - (size).toNat) / (step).toNat) * (step).toNat) : Nat) : Int) = (((((((step).toNat + xs_n) - (size).toNat) / (step).toNat) * (step).toNat) : Nat) : Int)), (xs = xs), (((((step).toNat + xs_n) - (size).toNat) / (step).toNat) = ((((step).toNat + xs_n) - (size).toNat) / (step).toNat)), (1 = 1), (∀ i, i < ((((step).toNat + xs_n) - (size).toNat) / (step).toNat) → (rowF s1) i = (rowF s1) i)] := by kernel_rfl
  exact PW.of_evL mixed _ _ _ e ⟨(inR64 (by omega) (by omega)), (decide_eq_false (by omega)), rfl, rfl, rfl, rfl, rfl, rfl, rfl, rfl, rfl, rfl, (fun _ _ => rfl), trivial⟩

theorem ev_framesOf_L1 (xs : List Nat) (xs_n : Nat) (xs_h : xs.length = xs_n) (xs_b : xs_n ≤ 9223372036854775807) (size : Int) (step : Int)  (hs1 : 1 ≤ size) (hs2 : size ≤ 1048576) (ht1 : 1 ≤ step) (ht2 : step ≤ 1048576) (hxs : xs_n ≤ 1048576)  : PW Try.prog 29 1 (.loop (sub [1, 1, 0, 1, 0, 0] (bodyOf Try.f130))) (ev_framesOf_L1_I xs xs_n size step 0 (ev_framesOf_L1_S xs xs_n size step 0)) (.exit 0) ⟨[(0, .slice (some ⟨0, 0, none⟩) xs_n 1), (1, .int .i64 size), (2, .int .i64 step), (6, .slice none 0 0), (7, .slice (some ⟨1, 0, none⟩) ((((step).toNat + xs_n) - (size).toNat) / (step).toNat) 1), (8, .int .i64 (((((((step).toNat + xs_n) - (size).toNat) / (step).toNat) * (step).toNat) : Nat) : Int))], [some ⟨false, .fl .f32 xs⟩, some ⟨true, .nst ((((step).toNat + xs_n) - (size).toNat) / (step).toNat) 1 (rowF (ev_framesOf_L1_S xs xs_n size step ((((step).toNat + xs_n) - (size).toNat) / (step).toNat))) []⟩]⟩ :=
  PW.loop (I := (fun k => ev_framesOf_L1_I xs xs_n size step k (ev_framesOf_L1_S xs xs_n size step k))) ((((step).toNat + xs_n) - (size).toNat) / (step).toNat) (by simp) (fun k hk => ev_framesOf_L1_body xs xs_n xs_h xs_b size step hs1 hs2 ht1 ht2 hxs k _ (ev_framesOf_L1_inv0 xs xs_n xs_h xs_b size step hs1 hs2 ht1 ht2 hxs k) hk) (ev_framesOf_L1_end xs xs_n xs_h xs_b size step hs1 hs2 ht1 ht2 hxs _ (ev_framesOf_L1_inv0 xs xs_n xs_h xs_b size step hs1 hs2 ht1 ht2 hxs ((((step).toNat + xs_n) - (size).toNat) / (step).toNat)))

def framesF (xs : List Nat) (size : Int) (step : Int) : (List (List Nat)) := (ev_framesOf_L1_S xs (List.length xs) size step ((((step).toNat + (List.length xs)) - (size).toNat) / (step).toNat))

theorem framesF_w (xs : List Nat) (h : List.length xs ≤ 9223372036854775807) (size step : Int) : okF (framesF xs size step) := by
  unfold framesF
  have key : ∀ k, okF (ev_framesOf_L1_S xs (List.length xs) size step k) := by
    intro k
    induction k with
    | zero => exact okF_nil
    | succ k ih => exact okF_snoc ih (by simp; omega)
  exact key _

theorem framesF_le0 (xs : List Nat) (xs_n : Nat) (xs_h : xs.length = xs_n) (xs_b : xs_n ≤ 9223372036854775807) (size : Int) (step : Int)  (hs1 : 1 ≤ size) (hs2 : size ≤ 1048576) (ht1 : 1 ≤ step) (ht2 : step ≤ 1048576) (hxs : xs_n ≤ 1048576) : List.length (framesF xs size step) ≤ 2097152 := by
  have a0 := Nat.div_le_self (((step).toNat + xs_n) - (size).toNat) (step).toNat
  have a1 := (ev_framesOf_L1_inv0 xs xs_n xs_h xs_b size step hs1 hs2 ht1 ht2 hxs ((((step).toNat + xs_n) - (size).toNat) / (step).toNat))
  have hl : ((((step).toNat + xs_n) - (size).toNat) / (step).toNat) = (List.length (framesF xs size step)) := (by first | omega | (simp [-List.getD_eq_getElem?_getD, framesF, xs_h, (ev_framesOf_L1_inv0 xs xs_n xs_h xs_b size step hs1 hs2 ht1 ht2 hxs ((((step).toNat + xs_n) - (size).toNat) / (step).toNat))]; done) | (simp_all [-List.getD_eq_getElem?_getD, framesF, xs_h, (ev_framesOf_L1_inv0 xs xs_n xs_h xs_b size step hs1 hs2 ht1 ht2 hxs ((((step).toNat + xs_n) - (size).toNat) / (step).toNat))]; done))
  omega

theorem ev_framesOf (xs : List Nat) (xs_n : Nat) (xs_h : xs.length = xs_n) (xs_b : xs_n ≤ 9223372036854775807) (size : Int) (step : Int)  (hs1 : 1 ≤ size) (hs2 : size ≤ 1048576) (ht1 : 1 ≤ step) (ht2 : step ≤ 1048576) (hxs : xs_n ≤ 1048576) : Ev Try.prog 130 [.slice (some ⟨0, 0, none⟩) xs_n 1, .int .i64 size, .int .i64 step] [some ⟨false, .fl .f32 xs⟩] (.slice (some ⟨1, 0, none⟩) (List.length (framesF xs size step)) 1) [some ⟨false, .fl .f32 xs⟩, some ⟨true, .nst (List.length (framesF xs size step)) 1 (rowF (framesF xs size step)) []⟩] := by
  have a0 := Nat.div_le_self (((step).toNat + xs_n) - (size).toNat) (step).toNat
  have a1 := (ev_framesOf_L1_inv0 xs xs_n xs_h xs_b size step hs1 hs2 ht1 ht2 hxs ((((step).toNat + xs_n) - (size).toNat) / (step).toNat))
  have e : evF Try.prog Try.f130 [.slice (some ⟨0, 0, none⟩) xs_n 1, .int .i64 size, .int .i64 step] [some ⟨false, .fl .f32 xs⟩] [] [([some 0, none], (ev_framesOf_L1_I xs xs_n size step 0 (ev_framesOf_L1_S xs xs_n size step 0)), (.exit 0), ⟨[(0, .slice (some ⟨0, 0, none⟩) xs_n 1), (1, .int .i64 size), (2, .int .i64 step), (6, .slice none 0 0), (7, .slice (some ⟨1, 0, none⟩) ((((step).toNat + xs_n) - (size).toNat) / (step).toNat) 1), (8, .int .i64 (((((((step).toNat + xs_n) - (size).toNat) / (step).toNat) * (step).toNat) : Nat) : Int))], [some ⟨false, .fl .f32 xs⟩, some ⟨true, .nst ((((step).toNat + xs_n) - (size).toNat) / (step).toNat) 1 (rowF (ev_framesOf_L1_S xs xs_n size step ((((step).toNat + xs_n) - (size).toNat) / (step).toNat))) []⟩]⟩)] [some 0, some 1] (.slice (some ⟨1, 0, none⟩) (List.length (framesF xs size step)) 1) [some ⟨false, .fl .f32 xs⟩, some ⟨true, .nst (List.length (framesF xs size step)) 1 (rowF (framesF xs size step)) []⟩] = some [(0 = 0), (xs_n = xs_n), (size = size), (step = step), (0 = 0), ((0 : Int) = (((0 * (step).toNat) : Nat) : Int)), (xs = xs), (0 = 0), (PW Try.prog 29 1 (.loop (sub [1, 1, 0, 1, 0, 0] (bodyOf Try.f130))) (ev_framesOf_L1_I xs xs_n size step 0 (ev_framesOf_L1_S xs xs_n size step 0)) (.exit 0) ⟨[(0, .slice (some ⟨0, 0, none⟩) xs_n 1), (1, .int .i64 size), (2, .int .i64 step), (6, .slice none 0 0), (7, .slice (some ⟨1, 0, none⟩) ((((step).toNat + xs_n) - (size).toNat) / (step).toNat) 1), (8, .int .i64 (((((((step).toNat + xs_n) - (size).toNat) / (step).toNat) * (step).toNat) : Nat) : Int))], [some ⟨false, .fl .f32 xs⟩, some ⟨true, .nst ((((step).toNat + xs_n) - (size).toNat) / (step).toNat) 1 (rowF (ev_framesOf_L1_S xs xs_n size step ((((step).toNat + xs_n) - (size).toNat) / (step).toNat))) []⟩]⟩), (0 = 0), (((((step).toNat + xs_n) - (size).toNat) / (step).toNat) = (List.length (framesF xs size step))), (xs = xs), (((((step).toNat + xs_n) - (size).toNat) / (step).toNat) = (List.length (framesF xs size step))), (1 = 1), (∀ i, i < ((((step).toNat + xs_n) - (size).toNat) / (step).toNat) → (rowF (ev_framesOf_L1_S xs xs_n size step ((((step).toNat + xs_n) - (size).toNat) / (step).toNat))) i = (rowF (framesF xs size step)) i)] := by kernel_rfl
  exact Ev.of mixed _ _ _ Try.func130 (by kernel_rfl) e ⟨rfl, rfl, rfl, rfl, rfl, (by omega), rfl, rfl, (ev_framesOf_L1 xs xs_n xs_h xs_b size step hs1 hs2 ht1 ht2 hxs), rfl, (by first | omega | (simp [-List.getD_eq_getElem?_getD, framesF, xs_h, (ev_framesOf_L1_inv0 xs xs_n xs_h xs_b size step hs1 hs2 ht1 ht2 hxs ((((step).toNat + xs_n) - (size).toNat) / (step).toNat))]; done) | (simp_all [-List.getD_eq_getElem?_getD, framesF, xs_h, (ev_framesOf_L1_inv0 xs xs_n xs_h xs_b size step hs1 hs2 ht1 ht2 hxs ((((step).toNat + xs_n) - (size).toNat) / (step).toNat))]; done)), rfl, (by first | omega | (simp [-List.getD_eq_getElem?_getD, framesF, xs_h, (ev_framesOf_L1_inv0 xs xs_n xs_h xs_b size step hs1 hs2 ht1 ht2 hxs ((((step).toNat + xs_n) - (size).toNat) / (step).toNat))]; done) | (simp_all [-List.getD_eq_getElem?_getD, framesF, xs_h, (ev_framesOf_L1_inv0 xs xs_n xs_h xs_b size step hs1 hs2 ht1 ht2 hxs ((((step).toNat + xs_n) - (size).toNat) / (step).toNat))]; done)), rfl, (fun i _ => congrArg (fun q => rowF q i) (show (ev_framesOf_L1_S xs xs_n size step ((((step).toNat + xs_n) - (size).toNat) / (step).toNat)) = (framesF xs size step) from (by first | (simp [-List.getD_eq_getElem?_getD, framesF, xs_h, (ev_framesOf_L1_inv0 xs xs_n xs_h xs_b size step hs1 hs2 ht1 ht2 hxs ((((step).toNat + xs_n) - (size).toNat) / (step).toNat))]; done) | (simp_all [-List.getD_eq_getElem?_getD, framesF, xs_h, (ev_framesOf_L1_inv0 xs xs_n xs_h xs_b size step hs1 hs2 ht1 ht2 hxs ((((step).toNat + xs_n) - (size).toNat) / (step).toNat))]; done)))), trivial⟩

end Go.Sim
end

section
set_option linter.unusedSimpArgs false

set_option linter.unusedVariables false

namespace Go.Sim

open Go Go.Proofs

end Go.Sim
end
