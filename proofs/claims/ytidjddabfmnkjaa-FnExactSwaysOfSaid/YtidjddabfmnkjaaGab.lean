/- Absolute values. Conditions: none. -/

import Derived.Test.YtidjddabfmnkjaaProg
import Derived.KernelRfl
import Derived.Test.YtidjddabfmnkjaaGb
import Derived.Test.YtidjddabfmnkjaaS22
import Derived.Test.YtidjddabfmnkjaaPvF

set_option linter.unusedSimpArgs false

set_option linter.unusedVariables false

namespace Go.Sim

open Go Go.Proofs

theorem ev_Abs (x : Nat)  (hn : isN .f64 x = false) : Ev Try.prog 126 [.float .f64 x] [] (.float .f64 (canon .f64 (Int.toNat (IntKind.wrap .u64 ((BitVec.ofInt (IntKind.bits .u64) ((x : Nat) : Int) &&& ~~~BitVec.ofInt (IntKind.bits .u64) (9223372036854775808 : Int)).toNat : Int))))) [] := by
  have e : evF Try.prog Try.f126 [.float .f64 x] [] [.x (.int .u64 ((x : Nat) : Int)), .x (.float .f64 (canon .f64 (Int.toNat (IntKind.wrap .u64 ((BitVec.ofInt (IntKind.bits .u64) ((x : Nat) : Int) &&& ~~~BitVec.ofInt (IntKind.bits .u64) (9223372036854775808 : Int)).toNat : Int)))))] [] [] (.float .f64 (canon .f64 (Int.toNat (IntKind.wrap .u64 ((BitVec.ofInt (IntKind.bits .u64) ((x : Nat) : Int) &&& ~~~BitVec.ofInt (IntKind.bits .u64) (9223372036854775808 : Int)).toNat : Int))))) [] = some [(EvX Try.prog 149 [.float .f64 x] (.int .u64 ((x : Nat) : Int))), (EvX Try.prog 148 [.int .u64 (IntKind.wrap .u64 ((BitVec.ofInt (IntKind.bits .u64) ((x : Nat) : Int) &&& ~~~BitVec.ofInt (IntKind.bits .u64) (9223372036854775808 : Int)).toNat : Int))] (.float .f64 (canon .f64 (Int.toNat (IntKind.wrap .u64 ((BitVec.ofInt (IntKind.bits .u64) ((x : Nat) : Int) &&& ~~~BitVec.ofInt (IntKind.bits .u64) (9223372036854775808 : Int)).toNat : Int)))))), ((canon .f64 (Int.toNat (IntKind.wrap .u64 ((BitVec.ofInt (IntKind.bits .u64) ((x : Nat) : Int) &&& ~~~BitVec.ofInt (IntKind.bits .u64) (9223372036854775808 : Int)).toNat : Int)))) = (canon .f64 (Int.toNat (IntKind.wrap .u64 ((BitVec.ofInt (IntKind.bits .u64) ((x : Nat) : Int) &&& ~~~BitVec.ofInt (IntKind.bits .u64) (9223372036854775808 : Int)).toNat : Int)))))] := by kernel_rfl
  exact Ev.of mixed _ _ _ Try.func126 (by kernel_rfl) e ⟨(evx_f64bits Try.func149 (by kernel_rfl) (by kernel_rfl) (by kernel_rfl) (by kernel_rfl) x hn), (evx_f64frombits Try.func148 (by kernel_rfl) (by kernel_rfl) (by kernel_rfl) (by kernel_rfl) (IntKind.wrap .u64 ((BitVec.ofInt (IntKind.bits .u64) ((x : Nat) : Int) &&& ~~~BitVec.ofInt (IntKind.bits .u64) (9223372036854775808 : Int)).toNat : Int)) (wrapu64_lt _)), rfl, trivial⟩

theorem ev_absNumber (x : Nat)  (hx : w32 x) (hn : isN .f32 x = false) : Ev Try.prog 96 [.float .f32 x] [] (.float .f32 (absW x)) [] := by
  have e : evF Try.prog Try.f96 [.float .f32 x] [] [.c [] (.float .f64 (canon .f64 (Int.toNat (IntKind.wrap .u64 ((BitVec.ofInt (IntKind.bits .u64) (((fcv .f32 .f64 x) : Nat) : Int) &&& ~~~BitVec.ofInt (IntKind.bits .u64) (9223372036854775808 : Int)).toNat : Int))))) []] [] [] (.float .f32 (absW x)) [] = some [(Ev Try.prog 126 [.float .f64 (fcv .f32 .f64 x)] [] (.float .f64 (canon .f64 (Int.toNat (IntKind.wrap .u64 ((BitVec.ofInt (IntKind.bits .u64) (((fcv .f32 .f64 x) : Nat) : Int) &&& ~~~BitVec.ofInt (IntKind.bits .u64) (9223372036854775808 : Int)).toNat : Int))))) []), (fconvOk .f64 .f32 (canon .f64 (Int.toNat (IntKind.wrap .u64 ((BitVec.ofInt (IntKind.bits .u64) (((fcv .f32 .f64 x) : Nat) : Int) &&& ~~~BitVec.ofInt (IntKind.bits .u64) (9223372036854775808 : Int)).toNat : Int))))), ((fcv .f64 .f32 (canon .f64 (Int.toNat (IntKind.wrap .u64 ((BitVec.ofInt (IntKind.bits .u64) (((fcv .f32 .f64 x) : Nat) : Int) &&& ~~~BitVec.ofInt (IntKind.bits .u64) (9223372036854775808 : Int)).toNat : Int))))) = (absW x))] := by kernel_rfl
  exact Ev.of mixed _ _ _ Try.func96 (by kernel_rfl) e ⟨(ev_Abs (fcv .f32 .f64 x) (fcv_notN hn)), (abs_both hx hn).2.1, (abs_both hx hn).1, trivial⟩

theorem ev_l03Size (x : Nat)  (hx : w32 x) (hn : isN .f32 x = false) : Ev Try.prog 100 [.float .f32 x] [] (.float .f32 (absW x)) [] := by
  rcases Bool.eq_false_or_eq_true (fcmp .leq .f32 x 0) with h1 | h1
  ·
    have e : evF Try.prog Try.f100 [.float .f32 x] [] [.b true] [] [] (.float .f32 (absW x)) [] = some [((fcmp .leq .f32 x 0) = true), ((fop .sub .f32 0 x) = (absW x))] := by kernel_rfl
    exact Ev.of mixed _ _ _ Try.func100 (by kernel_rfl) e ⟨h1, (by have q := (abs_both hx hn).2.2.2; first | (rw [if_pos (by assumption)] at q; exact q) | (rw [if_neg (Bool.eq_false_iff.1 (by assumption))] at q; exact q)), trivial⟩
  ·
    have e : evF Try.prog Try.f100 [.float .f32 x] [] [.b false] [] [] (.float .f32 (absW x)) [] = some [((fcmp .leq .f32 x 0) = false), (x = (absW x))] := by kernel_rfl
    exact Ev.of mixed _ _ _ Try.func100 (by kernel_rfl) e ⟨h1, (by have q := (abs_both hx hn).2.2.2; first | (rw [if_pos (by assumption)] at q; exact q) | (rw [if_neg (Bool.eq_false_iff.1 (by assumption))] at q; exact q)), trivial⟩

end Go.Sim
