/- Copies of accents. Conditions: none. -/

import Derived.Test.YtgjdkhocnnoimaaProg
import Derived.KernelRfl
import Derived.Test.YtgjdkhocnnoimaaGtn

set_option linter.unusedSimpArgs false

set_option linter.unusedVariables false

namespace Go.Sim

open Go Go.Proofs

/-- A slice that may be nil: the run for nil and the one for a slice that is not. -/
theorem Ev.nilOr {P : Program} {f : FuncId} {a : Addr} {n : Nat} {H H' : Heap} {v : Value} (h1 : n = 0 → Ev P f [.slice none 0 0] H v H') (h2 : Ev P f [.slice (some a) n 2] H v H') : Ev P f [.slice (some a) n 1] H v H' := by
  intro ι w args' hrh hargs
  cases hargs with
  | cons h hs =>
    cases hs
    cases h with
    | slice hp hb hl hc h0 => exact h2 ι w _ hrh (.cons (.slice hp hb hl hc (fun h => by cases h)) .nil)
    | slice0 hx =>
      rename_i x
      cases x with
      | none => exact h1 rfl ι w _ hrh (.cons .nils .nil)
      | some x => exact h2 ι w _ hrh (.cons (.slice0 (fun _ => by simp)) .nil)

theorem ev_CloneAnn (xs : List (Nat × Nat × Nat)) (xs_n : Nat) (xs_h : xs.length = xs_n) (xs_b : xs_n ≤ 9223372036854775807)  (hsz : xs_n ≤ 2097152) : Ev Try.prog 100 [.slice (some ⟨0, 0, none⟩) xs_n 2] [some ⟨false, .fn xs_n 3 (row3 xs)⟩] (.slice (some ⟨1, 0, none⟩) xs_n 1) [some ⟨false, .fn xs_n 3 (row3 xs)⟩, some ⟨true, .fn xs_n 3 (row3 xs)⟩] := by
  have e : evF Try.prog Try.f100 [.slice (some ⟨0, 0, none⟩) xs_n 2] [some ⟨false, .fn xs_n 3 (row3 xs)⟩] [.b false, .b true] [] [some 0, some 2] (.slice (some ⟨1, 0, none⟩) xs_n 1) [some ⟨false, .fn xs_n 3 (row3 xs)⟩, some ⟨true, .fn xs_n 3 (row3 xs)⟩] = some [(false = false), (xs_n = xs_n), (xs_n ≤ 1073741824), (0 = 0), (xs_n = xs_n), (xs_n = xs_n), (3 = 3), (∀ i, i < xs_n → (row3 xs) i = (row3 xs) i), (xs_n = xs_n), (3 = 3), (∀ i, i < xs_n → (row3 xs) i = (row3 xs) i)] := by kernel_rfl
  exact Ev.of mixed _ _ _ Try.func100 (by kernel_rfl) e ⟨rfl, rfl, (by omega), rfl, rfl, rfl, rfl, (fun _ _ => rfl), rfl, rfl, (fun _ _ => rfl), trivial⟩

theorem ev_CloneAnil : Ev Try.prog 100 [.slice none 0 0] [some ⟨false, .fn 0 3 (row3 [])⟩] (.slice (some ⟨1, 0, none⟩) 0 1) [some ⟨false, .fn 0 3 (row3 [])⟩, some ⟨true, .fn 0 3 (row3 [])⟩] := by
  have e : evF Try.prog Try.f100 [.slice none 0 0] [some ⟨false, .fn 0 3 (row3 [])⟩] [.b true] [] [some 0, none] (.slice (some ⟨1, 0, none⟩) 0 1) [some ⟨false, .fn 0 3 (row3 [])⟩, some ⟨true, .fn 0 3 (row3 [])⟩] = some [(true = true), (0 = 0), (0 = 0), (3 = 3), (∀ i, i < 0 → row3 [] i = row3 [] i), (0 = 0)] := by kernel_rfl
  exact Ev.of mixed _ _ _ Try.func100 (by kernel_rfl) e ⟨rfl, rfl, rfl, rfl, fun _ _ => rfl, rfl, trivial⟩

theorem ev_CloneA (xs : List (Nat × Nat × Nat)) (xs_n : Nat) (xs_h : xs.length = xs_n) (xs_b : xs_n ≤ 9223372036854775807)  (hsz : xs_n ≤ 2097152) : Ev Try.prog 100 [.slice (some ⟨0, 0, none⟩) xs_n 1] [some ⟨false, .fn xs_n 3 (row3 xs)⟩] (.slice (some ⟨1, 0, none⟩) xs_n 1) [some ⟨false, .fn xs_n 3 (row3 xs)⟩, some ⟨true, .fn xs_n 3 (row3 xs)⟩] :=
  Ev.nilOr (fun h0 => by subst h0; cases xs with | nil => exact ev_CloneAnil | cons x xs => simp at xs_h) (ev_CloneAnn xs xs_n xs_h xs_b hsz)

end Go.Sim
