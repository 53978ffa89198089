/- Absolute values. Conditions: none. -/

import Derived.Test.YtgjdkhocnnoimaaProg
import Derived.KernelRfl
import Derived.Test.YtgjdkhocnnoimaaGb
import Derived.Test.YtgjdkhocnnoimaaS22
import Derived.Test.YtgjdkhocnnoimaaPvF

set_option linter.unusedSimpArgs false

set_option linter.unusedVariables false

namespace Go.Sim

open Go Go.Proofs

theorem ev_Abs (x : Nat)  (hn : isN .f64 x = false) : Ev Try.prog 162 [.float .f64 x] [] (.float .f64 (canon .f64 (Int.toNat (IntKind.wrap .u64 ((BitVec.ofInt (IntKind.bits .u64) ((x : Nat) : Int) &&& ~~~BitVec.ofInt (IntKind.bits .u64) (9223372036854775808 : Int)).toNat : Int))))) [] := by
  have e : evF Try.prog Try.f162 [.float .f64 x] [] [.x (.int .u64 ((x : Nat) : Int)), .x (.float .f64 (canon .f64 (Int.toNat (IntKind.wrap .u64 ((BitVec.ofInt (IntKind.bits .u64) ((x : Nat) : Int) &&& ~~~BitVec.ofInt (IntKind.bits .u64) (9223372036854775808 : Int)).toNat : Int)))))] [] [] (.float .f64 (canon .f64 (Int.toNat (IntKind.wrap .u64 ((BitVec.ofInt (IntKind.bits .u64) ((x : Nat) : Int) &&& ~~~BitVec.ofInt (IntKind.bits .u64) (9223372036854775808 : Int)).toNat : Int))))) [] = some [(EvX Try.prog 194 [.float .f64 x] (.int .u64 ((x : Nat) : Int))), (EvX Try.prog 193 [.int .u64 (IntKind.wrap .u64 ((BitVec.ofInt (IntKind.bits .u64) ((x : Nat) : Int) &&& ~~~BitVec.ofInt (IntKind.bits .u64) (9223372036854775808 : Int)).toNat : Int))] (.float .f64 (canon .f64 (Int.toNat (IntKind.wrap .u64 ((BitVec.ofInt (IntKind.bits .u64) ((x : Nat) : Int) &&& ~~~BitVec.ofInt (IntKind.bits .u64) (9223372036854775808 : Int)).toNat : Int)))))), ((canon .f64 (Int.toNat (IntKind.wrap .u64 ((BitVec.ofInt (IntKind.bits .u64) ((x : Nat) : Int) &&& ~~~BitVec.ofInt (IntKind.bits .u64) (9223372036854775808 : Int)).toNat : Int)))) = (canon .f64 (Int.toNat (IntKind.wrap .u64 ((BitVec.ofInt (IntKind.bits .u64) ((x : Nat) : Int) &&& ~~~BitVec.ofInt (IntKind.bits .u64) (9223372036854775808 : Int)).toNat : Int)))))] := by kernel_rfl
  exact Ev.of mixed _ _ _ Try.func162 (by kernel_rfl) e ⟨(evx_f64bits Try.func194 (by kernel_rfl) (by kernel_rfl) (by kernel_rfl) (by kernel_rfl) x hn), (evx_f64frombits Try.func193 (by kernel_rfl) (by kernel_rfl) (by kernel_rfl) (by kernel_rfl) (IntKind.wrap .u64 ((BitVec.ofInt (IntKind.bits .u64) ((x : Nat) : Int) &&& ~~~BitVec.ofInt (IntKind.bits .u64) (9223372036854775808 : Int)).toNat : Int)) (wrapu64_lt _)), rfl, trivial⟩

theorem ev_absNumber (x : Nat)  (hx : w32 x) (hn : isN .f32 x = false) : Ev Try.prog 117 [.float .f32 x] [] (.float .f32 (absW x)) [] := by
  have e : evF Try.prog Try.f117 [.float .f32 x] [] [.c [] (.float .f64 (canon .f64 (Int.toNat (IntKind.wrap .u64 ((BitVec.ofInt (IntKind.bits .u64) (((fcv .f32 .f64 x) : Nat) : Int) &&& ~~~BitVec.ofInt (IntKind.bits .u64) (9223372036854775808 : Int)).toNat : Int))))) []] [] [] (.float .f32 (absW x)) [] = some [(Ev Try.prog 162 [.float .f64 (fcv .f32 .f64 x)] [] (.float .f64 (canon .f64 (Int.toNat (IntKind.wrap .u64 ((BitVec.ofInt (IntKind.bits .u64) (((fcv .f32 .f64 x) : Nat) : Int) &&& ~~~BitVec.ofInt (IntKind.bits .u64) (9223372036854775808 : Int)).toNat : Int))))) []), (fconvOk .f64 .f32 (canon .f64 (Int.toNat (IntKind.wrap .u64 ((BitVec.ofInt (IntKind.bits .u64) (((fcv .f32 .f64 x) : Nat) : Int) &&& ~~~BitVec.ofInt (IntKind.bits .u64) (9223372036854775808 : Int)).toNat : Int))))), ((fcv .f64 .f32 (canon .f64 (Int.toNat (IntKind.wrap .u64 ((BitVec.ofInt (IntKind.bits .u64) (((fcv .f32 .f64 x) : Nat) : Int) &&& ~~~BitVec.ofInt (IntKind.bits .u64) (9223372036854775808 : Int)).toNat : Int))))) = (absW x))] := by kernel_rfl
  exact Ev.of mixed _ _ _ Try.func117 (by kernel_rfl) e ⟨(ev_Abs (fcv .f32 .f64 x) (fcv_notN hn)), (abs_both hx hn).2.1, (abs_both hx hn).1, trivial⟩

end Go.Sim
