/- Accents: lists of three float32s. Conditions: none. -/
import Derived.Test.YtlglmpgjljihjaaPu5
import Derived.Test.YtlglmpgjljihjaaS23
namespace Go.Sim
open Go

theorem copyA (xs : List (Nat × Nat × Nat)) (n : Nat) (h : xs.length = n) (S : Nat → List (Nat × Nat × Nat)) (h0 : S 0 = List.replicate n (0, 0, 0)) (hs : ∀ k, S (k + 1) = (S k).set k ((List.getD xs k (0, 0, 0)).1, (List.getD xs k (0, 0, 0)).2.1, (List.getD xs k (0, 0, 0)).2.2)) : S n = xs := by
  subst h
  rw [set_all xs.length (fun k => List.getD xs k (0, 0, 0)) S (by simp [h0]) hs]
  apply List.ext_getElem?
  intro i
  rcases Nat.lt_or_ge i xs.length with h | h
  · simp [h]
  · rw [List.getElem?_eq_none (by simpa using h), List.getElem?_eq_none h]

def sameA (xs ys : List (Nat × Nat × Nat)) : Bool := (xs.length == ys.length) && allBelow (fun k => sameD (fcv .f32 .f64 (List.getD xs k (0, 0, 0)).1) (fcv .f32 .f64 (List.getD ys k (0, 0, 0)).1) && (sameD (fcv .f32 .f64 (List.getD xs k (0, 0, 0)).2.1) (fcv .f32 .f64 (List.getD ys k (0, 0, 0)).2.1) && sameD (fcv .f32 .f64 (List.getD xs k (0, 0, 0)).2.2) (fcv .f32 .f64 (List.getD ys k (0, 0, 0)).2.2))) xs.length

theorem sameA_self (xs : List (Nat × Nat × Nat)) : sameA xs xs = true := by
  simp only [sameA, beq_self_eq_true, Bool.true_and]
  exact allBelow_true.2 fun k _ => by rw [sameD_self, sameD_self, sameD_self]; rfl

def accsOk (xs : List (Nat × Nat × Nat)) : Bool := allBelow (fun k => accOk (List.getD xs k (0, 0, 0)).1 (List.getD xs k (0, 0, 0)).2.1 (List.getD xs k (0, 0, 0)).2.2) xs.length

def tuneOk (b f r : Nat) (xs : List (Nat × Nat × Nat)) : Bool :=
  fin32 b && (fcmp .gtr .f32 b 0 && (fcmp .geq .f32 f 0 && (fcmp .leq .f32 f 1065353216 && (fin32 r && (decide (xs.length ≤ 8) && accsOk xs)))))

theorem tuneOk_len {b f r : Nat} {xs : List (Nat × Nat × Nat)} (h : tuneOk b f r xs = true) : xs.length ≤ 8 := by
  simp only [tuneOk, Bool.and_eq_true, decide_eq_true_eq] at h; exact h.2.2.2.2.2.1

def w3 (y : Nat × Nat × Nat) : Prop := w32 y.1 ∧ w32 y.2.1 ∧ w32 y.2.2

theorem w3_get {xs : List (Nat × Nat × Nat)} (h : ∀ y ∈ xs, w3 y) (k : Nat) : w3 (List.getD xs k (0, 0, 0)) := by
  rcases Nat.lt_or_ge k xs.length with hk | hk
  · have : List.getD xs k (0, 0, 0) = xs[k] := by simp [hk]
    rw [this]; exact h _ (List.getElem_mem hk)
  · have : List.getD xs k (0, 0, 0) = (0, 0, 0) := by simp [List.getElem?_eq_none hk]
    rw [this]; exact ⟨w32_zero, w32_zero, w32_zero⟩

def sameWA (xs ys : List (Nat × Nat × Nat)) : Bool := (xs.length == ys.length) && allBelow (fun k => sameN (List.getD xs k (0, 0, 0)).1 (List.getD ys k (0, 0, 0)).1 && (sameN (List.getD xs k (0, 0, 0)).2.1 (List.getD ys k (0, 0, 0)).2.1 && sameN (List.getD xs k (0, 0, 0)).2.2 (List.getD ys k (0, 0, 0)).2.2)) xs.length

end Go.Sim
