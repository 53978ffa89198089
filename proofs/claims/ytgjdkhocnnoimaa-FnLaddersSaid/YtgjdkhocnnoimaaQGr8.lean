/- Numbers that the laws draw, gaps. Conditions: none. -/

import Derived.Test.YtgjdkhocnnoimaaProg
import Derived.KernelRfl
import Derived.Test.YtgjdkhocnnoimaaQGsr

set_option linter.unusedSimpArgs false

set_option linter.unusedVariables false

namespace Go.Sim

open Go Go.Proofs

def atR (c : List Int) (i n : Int) : Int := if n ≤ 1 then 0 else if i < (c.length : Int) then Int.tmod (c.getD (Int.toNat i) 0) n else 0

theorem atR_range {c : List Int} (h : bytesOk c) {i n : Int} (hn : 1 ≤ n) : 0 ≤ atR c i n ∧ atR c i n < n := by
  unfold atR
  split
  · omega
  · split
    · exact ⟨Int.tmod_nonneg _ (bytes_get h _).1, Int.tmod_lt_of_pos _ (by omega)⟩
    · omega

theorem ev_r8At (c : List Int) (c_n : Nat) (c_h : c.length = c_n) (c_b : c_n ≤ 9223372036854775807) (i : Int) (n : Int)  (hb : bytesOk c) (hi0 : 0 ≤ i) (hi1 : i ≤ 1000000) : Ev Try.prog 24 [.slice (some ⟨0, 0, none⟩) c_n 1, .int .i64 i, .int .i64 n] [some ⟨false, .it .u8 c⟩] (.int .i64 (atR c i n)) [some ⟨false, .it .u8 c⟩] := by
  by_cases h1 : n ≤ (1 : Int)
  ·
    have e : evF Try.prog Try.f24 [.slice (some ⟨0, 0, none⟩) c_n 1, .int .i64 i, .int .i64 n] [some ⟨false, .it .u8 c⟩] [.b true, .b true, .b true, .b true, .b true, .b true] [] [some 0] (.int .i64 (atR c i n)) [some ⟨false, .it .u8 c⟩] = some [((decide (n ≤ (1 : Int))) = true), ((decide (n ≤ (1 : Int))) = true), ((decide (n ≤ (1 : Int))) = true), ((decide (n ≤ (1 : Int))) = true), ((decide (n ≤ (1 : Int))) = true), (true = true), ((0 : Int) = (atR c i n)), (c = c)] := by kernel_rfl
    exact Ev.of mixed _ _ _ Try.func24 (by kernel_rfl) e ⟨(decide_eq_true h1), (decide_eq_true h1), (decide_eq_true h1), (decide_eq_true h1), (decide_eq_true h1), rfl, (by clear e; subst c_h; unfold atR; first | rw [if_pos (by omega)] | (rw [if_neg (by omega), if_pos (by omega)]) | (rw [if_neg (by omega), if_neg (by omega)])), rfl, trivial⟩
  ·
    by_cases h2 : i ≥ ((c_n : Nat) : Int)
    ·
      have e : evF Try.prog Try.f24 [.slice (some ⟨0, 0, none⟩) c_n 1, .int .i64 i, .int .i64 n] [some ⟨false, .it .u8 c⟩] [.b false, .b false, .b false, .b false, .b false, .b true] [] [some 0] (.int .i64 (atR c i n)) [some ⟨false, .it .u8 c⟩] = some [((decide (n ≤ (1 : Int))) = false), ((decide (n ≤ (1 : Int))) = false), ((decide (n ≤ (1 : Int))) = false), ((decide (n ≤ (1 : Int))) = false), ((decide (n ≤ (1 : Int))) = false), ((decide (i ≥ ((c_n : Nat) : Int))) = true), ((0 : Int) = (atR c i n)), (c = c)] := by kernel_rfl
      exact Ev.of mixed _ _ _ Try.func24 (by kernel_rfl) e ⟨(decide_eq_false h1), (decide_eq_false h1), (decide_eq_false h1), (decide_eq_false h1), (decide_eq_false h1), (decide_eq_true h2), (by clear e; subst c_h; unfold atR; first | rw [if_pos (by omega)] | (rw [if_neg (by omega), if_pos (by omega)]) | (rw [if_neg (by omega), if_neg (by omega)])), rfl, trivial⟩
    ·
      have e : evF Try.prog Try.f24 [.slice (some ⟨0, 0, none⟩) c_n 1, .int .i64 i, .int .i64 n] [some ⟨false, .it .u8 c⟩] [.b false, .b false, .b false, .b false, .b false, .b false, .n (i).toNat] [] [some 0] (.int .i64 (atR c i n)) [some ⟨false, .it .u8 c⟩] = some [((decide (n ≤ (1 : Int))) = false), ((decide (n ≤ (1 : Int))) = false), ((decide (n ≤ (1 : Int))) = false), ((decide (n ≤ (1 : Int))) = false), ((decide (n ≤ (1 : Int))) = false), ((decide (i ≥ ((c_n : Nat) : Int))) = false), (i = (((i).toNat : Nat) : Int)), ((i).toNat < c_n), ((i).toNat < (List.length c)), (inR .i64 (List.getD c (i).toNat 0)), (n ≠ 0), ((Int.tmod (List.getD c (i).toNat 0) n) = (atR c i n)), (c = c)] := by kernel_rfl
      exact Ev.of mixed _ _ _ Try.func24 (by kernel_rfl) e ⟨(decide_eq_false h1), (decide_eq_false h1), (decide_eq_false h1), (decide_eq_false h1), (decide_eq_false h1), (decide_eq_false h2), (by omega), (by omega), (by omega), (inR64 (by have q := bytes_get hb (Int.toNat i); omega) (by have q := bytes_get hb (Int.toNat i); omega)), (by omega), (by clear e; subst c_h; unfold atR; first | rw [if_pos (by omega)] | (rw [if_neg (by omega), if_pos (by omega)]) | (rw [if_neg (by omega), if_neg (by omega)])), rfl, trivial⟩

def longG (xs : List Int) (ys : List Int) : Bool := (if (List.length xs) > 48 then true else (decide ((((List.length ys) : Nat) : Int) > (48 : Int))))

theorem ev_r8Long (xs : List Int) (xs_n : Nat) (xs_h : xs.length = xs_n) (xs_b : xs_n ≤ 9223372036854775807) (ys : List Int) (ys_n : Nat) (ys_h : ys.length = ys_n) (ys_b : ys_n ≤ 9223372036854775807)  : Ev Try.prog 22 [.slice (some ⟨0, 0, none⟩) xs_n 1, .slice (some ⟨1, 0, none⟩) ys_n 1] [some ⟨false, .it .u8 xs⟩, some ⟨false, .it .u8 ys⟩] (.bool (longG xs ys)) [some ⟨false, .it .u8 xs⟩, some ⟨false, .it .u8 ys⟩] := by
  by_cases h1 : xs_n > 48
  ·
    have e : evF Try.prog Try.f22 [.slice (some ⟨0, 0, none⟩) xs_n 1, .slice (some ⟨1, 0, none⟩) ys_n 1] [some ⟨false, .it .u8 xs⟩, some ⟨false, .it .u8 ys⟩] [.b true, .b true, .b true, .b true] [] [some 0, some 1] (.bool (longG xs ys)) [some ⟨false, .it .u8 xs⟩, some ⟨false, .it .u8 ys⟩] = some [((decide (((xs_n : Nat) : Int) > (48 : Int))) = true), ((decide (((xs_n : Nat) : Int) > (48 : Int))) = true), ((decide (((xs_n : Nat) : Int) > (48 : Int))) = true), ((decide (((xs_n : Nat) : Int) > (48 : Int))) = true), (true = (longG xs ys)), (xs = xs), (ys = ys)] := by kernel_rfl
    exact Ev.of mixed _ _ _ Try.func22 (by kernel_rfl) e ⟨(decide_eq_true (by omega)), (decide_eq_true (by omega)), (decide_eq_true (by omega)), (decide_eq_true (by omega)), (by simp [-List.getD_eq_getElem?_getD, longG, h1, (show ((xs_n : Nat) : Int) > (48 : Int) from by omega), xs_h, ys_h]), rfl, rfl, trivial⟩
  ·
    have e : evF Try.prog Try.f22 [.slice (some ⟨0, 0, none⟩) xs_n 1, .slice (some ⟨1, 0, none⟩) ys_n 1] [some ⟨false, .it .u8 xs⟩, some ⟨false, .it .u8 ys⟩] [.b false, .b false, .b false, .b false] [] [some 0, some 1] (.bool (longG xs ys)) [some ⟨false, .it .u8 xs⟩, some ⟨false, .it .u8 ys⟩] = some [((decide (((xs_n : Nat) : Int) > (48 : Int))) = false), ((decide (((xs_n : Nat) : Int) > (48 : Int))) = false), ((decide (((xs_n : Nat) : Int) > (48 : Int))) = false), ((decide (((xs_n : Nat) : Int) > (48 : Int))) = false), ((decide (((ys_n : Nat) : Int) > (48 : Int))) = (longG xs ys)), (xs = xs), (ys = ys)] := by kernel_rfl
    exact Ev.of mixed _ _ _ Try.func22 (by kernel_rfl) e ⟨(decide_eq_false (by omega)), (decide_eq_false (by omega)), (decide_eq_false (by omega)), (decide_eq_false (by omega)), (by simp [-List.getD_eq_getElem?_getD, longG, h1, (show ¬ (((xs_n : Nat) : Int) > (48 : Int)) from by omega), xs_h, ys_h]), rfl, rfl, trivial⟩

def gapR (x : Nat) (y : Nat) : Nat := (fminmax true .f64 (fop .sub .f64 x y) (fop .sub .f64 y x))

theorem ev_r8Gap (x : Nat) (y : Nat)  : Ev Try.prog 27 [.float .f64 x, .float .f64 y] [] (.float .f64 (gapR x y)) [] := by
  have e : evF Try.prog Try.f27 [.float .f64 x, .float .f64 y] [] [] [] [] (.float .f64 (gapR x y)) [] = some [((fminmax true .f64 (fop .sub .f64 x y) (fop .sub .f64 y x)) = (gapR x y))] := by kernel_rfl
  exact Ev.of mixed _ _ _ Try.func27 (by kernel_rfl) e ⟨(by simp [-List.getD_eq_getElem?_getD, gapR]), trivial⟩

end Go.Sim
