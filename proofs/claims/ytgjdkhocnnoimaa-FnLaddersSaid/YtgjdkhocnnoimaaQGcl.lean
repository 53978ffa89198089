/- Copies. Conditions: none. -/

import Derived.Test.YtgjdkhocnnoimaaProg
import Derived.KernelRfl
import Derived.Test.YtgjdkhocnnoimaaQGb

set_option linter.unusedSimpArgs false

set_option linter.unusedVariables false

namespace Go.Sim

open Go Go.Proofs

theorem ev_CloneF (xs : List Nat) (xs_n : Nat) (xs_h : xs.length = xs_n) (xs_b : xs_n ≤ 9223372036854775807)  (hsz : xs_n ≤ 2097152) (hpos : 0 < xs_n) : Ev Try.prog 115 [.slice (some ⟨0, 0, none⟩) xs_n 1] [some ⟨false, .fl .f32 xs⟩] (.slice (some ⟨1, 0, none⟩) xs_n 1) [some ⟨false, .fl .f32 xs⟩, some ⟨true, .fl .f32 xs⟩] := by
  have e : evF Try.prog Try.f115 [.slice (some ⟨0, 0, none⟩) xs_n 1] [some ⟨false, .fl .f32 xs⟩] [.b false, .b true] [] [some 0, some 2] (.slice (some ⟨1, 0, none⟩) xs_n 1) [some ⟨false, .fl .f32 xs⟩, some ⟨true, .fl .f32 xs⟩] = some [(0 < xs_n), (false = false), (xs_n = (List.length xs)), (xs_n ≤ 1073741824), (0 = 0), (xs_n = xs_n), (xs = xs), (xs = xs)] := by kernel_rfl
  exact Ev.of mixed _ _ _ Try.func115 (by kernel_rfl) e ⟨(by omega), rfl, (by omega), (by omega), rfl, rfl, rfl, rfl, trivial⟩

end Go.Sim
