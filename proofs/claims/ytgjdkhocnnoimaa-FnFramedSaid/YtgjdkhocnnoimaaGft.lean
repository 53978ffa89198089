/- Tables of small numbers. Conditions: none. -/
import Derived.Test.YtgjdkhocnnoimaaProg
import Derived.KernelRfl
import Derived.Test.YtgjdkhocnnoimaaGb
import Derived.Test.YtgjdkhocnnoimaaGst2
import Derived.Test.YtgjdkhocnnoimaaPvN
import Derived.Test.YtgjdkhocnnoimaaPvQ

section
set_option linter.unusedSimpArgs false

set_option linter.unusedVariables false

namespace Go.Sim

open Go Go.Proofs

def gapB (x : Nat) (y : Nat) : Nat := (if (fcmp .lss .f64 x y) then (fop .sub .f64 y x) else (fop .sub .f64 x y))

theorem ev_b10Gap (x : Nat) (y : Nat)  : Ev Try.prog 16 [.float .f64 x, .float .f64 y] [] (.float .f64 (gapB x y)) [] := by
  rcases Bool.eq_false_or_eq_true (fcmp .lss .f64 x y) with h1 | h1
  ·
    have e : evF Try.prog Try.f16 [.float .f64 x, .float .f64 y] [] [.b true] [] [] (.float .f64 (gapB x y)) [] = some [((fcmp .lss .f64 x y) = true), ((fop .sub .f64 y x) = (gapB x y))] := by kernel_rfl
    exact Ev.of mixed _ _ _ Try.func16 (by kernel_rfl) e ⟨h1, (by first | (simp [-List.getD_eq_getElem?_getD, gapB, h1]; done) | (simp_all [-List.getD_eq_getElem?_getD, gapB]; done)), trivial⟩
  ·
    have e : evF Try.prog Try.f16 [.float .f64 x, .float .f64 y] [] [.b false] [] [] (.float .f64 (gapB x y)) [] = some [((fcmp .lss .f64 x y) = false), ((fop .sub .f64 x y) = (gapB x y))] := by kernel_rfl
    exact Ev.of mixed _ _ _ Try.func16 (by kernel_rfl) e ⟨h1, (by first | (simp [-List.getD_eq_getElem?_getD, gapB, h1]; done) | (simp_all [-List.getD_eq_getElem?_getD, gapB]; done)), trivial⟩

end Go.Sim
end

section
set_option linter.unusedSimpArgs false

set_option linter.unusedVariables false

namespace Go.Sim

open Go Go.Proofs

/-! ### Small tables -/

def all8 (P : Int → Bool) : Bool := (List.range 8).all fun i => P ((i : Int) + 1) && P (-((i : Int) + 1))

theorem all8_at {P : Int → Bool} (h : all8 P = true) {v : Int} (h0 : v ≠ 0) (h8 : v.natAbs ≤ 8) : P v = true := by
  unfold all8 at h
  rw [List.all_eq_true] at h
  have := h (v.natAbs - 1) (by simp; omega)
  rw [Bool.and_eq_true] at this
  have e : (((v.natAbs - 1 : Nat) : Int) + 1) = (v.natAbs : Int) := by omega
  rw [e] at this
  rcases Int.natAbs_eq v with h' | h'
  · rw [h']; exact this.1
  · rw [h']; exact this.2

def shW (j : Int) : Nat := fop .quo .f32 (cvI j) 1090519040
/-- A number made rough and smooth again is what it was. -/
def roughOk (j y x : Int) : Bool := fin32 (fop .sub .f32 (cvI x) (fop .mul .f32 (shW j) (cvI y))) && Nat.beq (fop .add .f32 (fop .sub .f32 (cvI x) (fop .mul .f32 (shW j) (cvI y))) (fop .mul .f32 (shW j) (cvI y))) (cvI x)
theorem rough_tab : ((List.range 9).all fun j => fin32 (shW ((j : Int) - 4)) && all8 fun y => all8 fun x => roughOk ((j : Int) - 4) y x) = true := by decide +kernel

def nearG (x y : Nat) : Bool := !fcmp .gtr .f64 (gapB (fcv .f32 .f64 x) (fcv .f32 .f64 y)) 4562254508917369340 && fcmp .lss .f64 (gapB (fcv .f32 .f64 x) (fcv .f32 .f64 y)) 4562254508917369340
def betw (f a b : Nat) : Nat := fop .add .f32 a (fop .mul .f32 f (fop .sub .f32 b a))
theorem betw_tab0 : (all8 fun a => all8 fun b => nearG (betw 0 (cvI a) (cvI b)) (cvI a)) = true := by decide +kernel
theorem betw_tabe : (all8 fun a => all8 fun b => nearG (betw 889192448 (cvI a) (cvI b)) (cvI a)) = true := by decide +kernel
theorem betw_tab1 : (all8 fun a => all8 fun b => nearG (betw 1065353216 (cvI a) (cvI b)) (cvI b)) = true := by decide +kernel

def strF (n : Nat) (c : Int) (k : Nat) : Nat := fop .sub .f32 (strP n c k) (canon .f32 (FloatKind.nearest .f32 (strK n c k)))
def sameOk (n k : Nat) : Bool := (decide (strK n n k = k) && decide (k + 1 < n) && (Nat.beq (strF n n k) 0 || Nat.beq (strF n n k) 889192448)) || (decide (strK n n k + 1 = k) && Nat.beq (strF n n k) 1065353216)
theorem same_tab : ((List.range 16).all fun i => (List.range (i + 4)).all fun k => sameOk (i + 4) k) = true := by decide +kernel
def endsOk (n : Nat) (c : Nat) : Bool := decide (strK n c 0 = 0) && Nat.beq (strF n c 0) 0 && decide (strK n c (c - 1) = ((n : Int) - 2)) && Nat.beq (strF n c (c - 1)) 1065353216
theorem ends_tab : ((List.range 16).all fun i => (List.range 20).all fun j => endsOk (i + 4) (j + 2)) = true := by decide +kernel

def loudOk (s : Nat) (S : Nat) : Bool := fin32 (fcv .f64 .f32 (sqrtW (fcv .f32 .f64 (fop .quo .f32 (cvI (S : Int)) (cvI (s : Int))))))
theorem loud_tab : ((List.range 4).all fun i => (List.range 257).all fun S => loudOk (i + 1) S) = true := by decide +kernel

def thinOk (s : Nat) (S : Int) : Bool := fin32 (fop .quo .f32 (cvI S) (cvI (s : Int))) && !fcmp .gtr .f64 (gapB (fop .mul .f64 (fcv .f32 .f64 (fop .quo .f32 (cvI S) (cvI (s : Int)))) (canon .f64 (FloatKind.nearest .f64 (s : Int)))) (canon .f64 (FloatKind.nearest .f64 S))) 4562254508917369340
theorem thin_tab : ((List.range 4).all fun i => (List.range 65).all fun S => thinOk (i + 1) ((S : Int) - 32)) = true := by decide +kernel
def c64 (v : Int) : Nat := canon .f64 (FloatKind.nearest .f64 v)
theorem sum_tab : ((List.range 49).all fun p => all8 fun v => Nat.beq (fop .add .f64 (c64 ((p : Int) - 24)) (fcv .f32 .f64 (cvI v))) (c64 ((p : Int) - 24 + v))) = true := by decide +kernel

end Go.Sim
end
