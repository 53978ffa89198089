/- Accents: lists of three float32s. Conditions: none. -/
import Derived.Test.YtidjddabfmnkjaaPu5
import Derived.Test.YtidjddabfmnkjaaS23
namespace Go.Sim
open Go

theorem copyA (xs : List (Nat × Nat × Nat)) (n : Nat) (h : xs.length = n) (S : Nat → List (Nat × Nat × Nat)) (h0 : S 0 = List.replicate n (0, 0, 0)) (hs : ∀ k, S (k + 1) = (S k).set k ((List.getD xs k (0, 0, 0)).1, (List.getD xs k (0, 0, 0)).2.1, (List.getD xs k (0, 0, 0)).2.2)) : S n = xs := by
  subst h
  rw [set_all xs.length (fun k => List.getD xs k (0, 0, 0)) S (by simp [h0]) hs]
  apply List.ext_getElem?
  intro i
  rcases Nat.lt_or_ge i xs.length with h | h
  · simp [h]
  · rw [List.getElem?_eq_none (by simpa using h), List.getElem?_eq_none h]

def sameA (xs ys : List (Nat × Nat × Nat)) : Bool := (xs.length == ys.length) && allBelow (fun k => sameD (fcv .f32 .f64 (List.getD xs k (0, 0, 0)).1) (fcv .f32 .f64 (List.getD ys k (0, 0, 0)).1) && (sameD (fcv .f32 .f64 (List.getD xs k (0, 0, 0)).2.1) (fcv .f32 .f64 (List.getD ys k (0, 0, 0)).2.1) && sameD (fcv .f32 .f64 (List.getD xs k (0, 0, 0)).2.2) (fcv .f32 .f64 (List.getD ys k (0, 0, 0)).2.2))) xs.length

theorem sameA_self (xs : List (Nat × Nat × Nat)) : sameA xs xs = true := by
  simp only [sameA, beq_self_eq_true, Bool.true_and]
  exact allBelow_true.2 fun k _ => by rw [sameD_self, sameD_self, sameD_self]; rfl

def accsOk (xs : List (Nat × Nat × Nat)) : Bool := allBelow (fun k => accOk (List.getD xs k (0, 0, 0)).1 (List.getD xs k (0, 0, 0)).2.1 (List.getD xs k (0, 0, 0)).2.2) xs.length

def tuneOk (b f r : Nat) (xs : List (Nat × Nat × Nat)) : Bool :=
  fin32 b && (fcmp .gtr .f32 b 0 && (fcmp .geq .f32 f 0 && (fcmp .leq .f32 f 1065353216 && (fin32 r && (decide (xs.length ≤ 8) && accsOk xs)))))

theorem tuneOk_len {b f r : Nat} {xs : List (Nat × Nat × Nat)} (h : tuneOk b f r xs = true) : xs.length ≤ 8 := by
  simp only [tuneOk, Bool.and_eq_true, decide_eq_true_eq] at h; exact h.2.2.2.2.2.1

def w3 (y : Nat × Nat × Nat) : Prop := w32 y.1 ∧ w32 y.2.1 ∧ w32 y.2.2

theorem w3_get {xs : List (Nat × Nat × Nat)} (h : ∀ y ∈ xs, w3 y) (k : Nat) : w3 (List.getD xs k (0, 0, 0)) := by
  rcases Nat.lt_or_ge k xs.length with hk | hk
  · have : List.getD xs k (0, 0, 0) = xs[k] := by simp [hk]
    rw [this]; exact h _ (List.getElem_mem hk)
  · have : List.getD xs k (0, 0, 0) = (0, 0, 0) := by simp [List.getElem?_eq_none hk]
    rw [this]; exact ⟨w32_zero, w32_zero, w32_zero⟩

def sameWA (xs ys : List (Nat × Nat × Nat)) : Bool := (xs.length == ys.length) && allBelow (fun k => sameN (List.getD xs k (0, 0, 0)).1 (List.getD ys k (0, 0, 0)).1 && (sameN (List.getD xs k (0, 0, 0)).2.1 (List.getD ys k (0, 0, 0)).2.1 && sameN (List.getD xs k (0, 0, 0)).2.2 (List.getD ys k (0, 0, 0)).2.2)) xs.length

/-! ### One number of an accent is written -/

theorem row3_put {g : Nat → List Sc} {xs : List (Nat × Nat × Nat)} {r : Nat} (y : Nat × Nat × Nat) {us : List Sc} {j : Nat} (hg : ∀ i, g i = row3 xs i) (h : r < xs.length)
    (hy : splice (row3 xs r) j us = [.f .f32 y.1, .f .f32 y.2.1, .f .f32 y.2.2]) : ∀ i : Nat, (bif Nat.beq i r then splice (g i) j us else g i) = row3 (xs.set r y) i := by
  intro i
  rw [hg]
  cases hb : Nat.beq i r with
  | true =>
    have := Nat.eq_of_beq_eq_true hb; subst this
    rw [cond_true, hy]
    simp [row3, h]
  | false =>
    have hne : i ≠ r := fun e => by subst e; simp at hb
    simp only [cond_false, row3, List.getD_eq_getElem?_getD, List.getElem?_set, if_neg (Ne.symm hne)]

theorem row3_put0 {g : Nat → List Sc} {xs : List (Nat × Nat × Nat)} {r x : Nat} (hg : ∀ i, g i = row3 xs i) (h : r < xs.length) : ∀ i : Nat, (bif Nat.beq i r then splice (g i) 0 [Sc.f .f32 x] else g i) = row3 (xs.set r (x, (List.getD xs r (0, 0, 0)).2.1, (List.getD xs r (0, 0, 0)).2.2)) i :=
  row3_put _ hg h rfl

theorem row3_put1 {g : Nat → List Sc} {xs : List (Nat × Nat × Nat)} {r x : Nat} (hg : ∀ i, g i = row3 xs i) (h : r < xs.length) : ∀ i : Nat, (bif Nat.beq i r then splice (g i) 1 [Sc.f .f32 x] else g i) = row3 (xs.set r ((List.getD xs r (0, 0, 0)).1, x, (List.getD xs r (0, 0, 0)).2.2)) i :=
  row3_put _ hg h rfl

theorem row3_put2 {g : Nat → List Sc} {xs : List (Nat × Nat × Nat)} {r x : Nat} (hg : ∀ i, g i = row3 xs i) (h : r < xs.length) : ∀ i : Nat, (bif Nat.beq i r then splice (g i) 2 [Sc.f .f32 x] else g i) = row3 (xs.set r ((List.getD xs r (0, 0, 0)).1, (List.getD xs r (0, 0, 0)).2.1, x)) i :=
  row3_put _ hg h rfl

/-- The three writes of one accent. -/
def put3 (l : List (Nat × Nat × Nat)) (k a b c : Nat) : List (Nat × Nat × Nat) :=
  let l1 := l.set k (a, (List.getD l k (0, 0, 0)).2.1, (List.getD l k (0, 0, 0)).2.2)
  let l2 := l1.set k ((List.getD l1 k (0, 0, 0)).1, b, (List.getD l1 k (0, 0, 0)).2.2)
  l2.set k ((List.getD l2 k (0, 0, 0)).1, (List.getD l2 k (0, 0, 0)).2.1, c)

theorem put3_eq (l : List (Nat × Nat × Nat)) (k a b c : Nat) : put3 l k a b c = l.set k (a, b, c) := by
  unfold put3
  rcases Nat.lt_or_ge k l.length with h | h
  · simp [h]
  · simp [List.set_eq_of_length_le h]

def markA (n : Nat) (t : Int) : List (Nat × Nat × Nat) := (List.range n).map fun i : Nat => (cvI (t + 3 * (i : Int)), cvI (t + 3 * (i : Int) + 1), cvI (t + 3 * (i : Int) + 2))

theorem markA_len (n : Nat) (t : Int) : (markA n t).length = n := by simp [markA]

theorem mark_allA (xs : List (Nat × Nat × Nat)) (n : Nat) (t : Int) (h : xs.length = n) (S : Nat → Int × List (Nat × Nat × Nat)) (h0 : S 0 = (t, xs))
    (hs : ∀ k, S (k + 1) = ((S k).1 + 1 + 1 + 1, put3 (S k).2 k (cvI (S k).1) (cvI ((S k).1 + 1)) (cvI ((S k).1 + 1 + 1)))) : (S n).2 = markA n t := by
  have h1 : ∀ k, (S k).1 = t + 3 * ((k : Nat) : Int) := by
    intro k
    induction k with
    | zero => rw [h0]; simp
    | succ k ih => rw [hs k]; simp only [ih]; omega
  refine set_all n (fun k => (cvI (t + 3 * ((k : Nat) : Int)), cvI (t + 3 * ((k : Nat) : Int) + 1), cvI (t + 3 * ((k : Nat) : Int) + 2))) (fun k => (S k).2) (by rw [h0]; exact h) (fun k => ?_)
  simp only [hs k, put3_eq, h1 k]
  rw [show t + 3 * ((k : Nat) : Int) + 1 + 1 = t + 3 * ((k : Nat) : Int) + 2 from by omega]

theorem markA_get {n k : Nat} (t : Int) (hk : k < n) : List.getD (markA n t) k (0, 0, 0) = (cvI (t + 3 * (k : Int)), cvI (t + 3 * (k : Int) + 1), cvI (t + 3 * (k : Int) + 2)) := by simp [markA, hk]

theorem held_neA {xs : List (Nat × Nat × Nat)} {n k : Nat} {t s : Int} (h : xs = markA n t) (hk : k < n) (hs : s = t + 3 * (k : Int)) :
    fcmp .neq .f32 (List.getD xs k (0, 0, 0)).1 (canon .f32 (FloatKind.nearest .f32 s)) = false ∧ fcmp .neq .f32 (List.getD xs k (0, 0, 0)).2.1 (canon .f32 (FloatKind.nearest .f32 (s + 1))) = false ∧ fcmp .neq .f32 (List.getD xs k (0, 0, 0)).2.2 (canon .f32 (FloatKind.nearest .f32 (s + 1 + 1))) = false := by
  subst h; subst hs
  rw [markA_get t hk, show t + 3 * (k : Int) + 1 + 1 = t + 3 * (k : Int) + 2 from by omega]
  exact ⟨neq_self (cvI_notN _), neq_self (cvI_notN _), neq_self (cvI_notN _)⟩

end Go.Sim
