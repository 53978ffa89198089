/- Rows that hold lists: copied, counted, compared. Conditions: none. -/
import Derived.Test.YtidjddabfmnkjaaS26
import Derived.Test.YtidjddabfmnkjaaS27
import Derived.Test.YtidjddabfmnkjaaPu2
import Derived.Test.YtidjddabfmnkjaaPuA
import Derived.Test.YtidjddabfmnkjaaPu5
import Derived.Test.YtidjddabfmnkjaaPu3
namespace Go.Sim
open Go

/-- A list written place by place. -/
theorem copy_allG {α : Type} (d : α) (xs : List α) (n : Nat) (h : xs.length = n) (S : Nat → List α) (h0 : S 0 = List.replicate n d) (hs : ∀ k, S (k + 1) = (S k).set k (xs.getD k d)) : S n = xs := by
  subst h
  have key : ∀ k, k ≤ xs.length → S k = xs.take k ++ List.replicate (xs.length - k) d := by
    intro k
    induction k with
    | zero => intro _; rw [h0]; simp
    | succ k ih =>
      intro hk
      rw [hs, ih (by omega)]
      have h1 : xs.length - k = (xs.length - (k + 1)) + 1 := by omega
      have h2 : k < xs.length := by omega
      rw [h1, List.replicate_succ]
      rw [List.set_append_right _ _ (by simp; omega)]
      simp only [List.length_take, Nat.min_eq_left (Nat.le_of_lt h2), Nat.sub_self, List.set_cons_zero]
      have e : xs.getD k d = xs[k] := by simp [h2]
      rw [e, ← List.take_append_getElem h2, List.append_assoc, List.singleton_append]
  rw [key xs.length (Nat.le_refl _)]; simp

/-- What a count comes to. -/
def sumW (w : Nat → Nat) : Nat → Nat
  | 0 => 0
  | k + 1 => sumW w k + w k

theorem sumW_mono (w : Nat → Nat) {j n : Nat} (h : j ≤ n) : sumW w j ≤ sumW w n := by
  induction n with
  | zero => have : j = 0 := by omega
            subst this; exact Nat.le_refl _
  | succ n ih =>
    rcases Nat.lt_or_ge j (n + 1) with h' | h'
    · exact Nat.le_trans (ih (by omega)) (Nat.le_add_right _ _)
    · have : j = n + 1 := by omega
      subst this; exact Nat.le_refl _

theorem le_sumW (w : Nat → Nat) {j n : Nat} (h : j < n) : w j ≤ sumW w n :=
  Nat.le_trans (Nat.le_add_left _ _) (sumW_mono w (show j + 1 ≤ n from h))

/-- What is left behind each round. -/
theorem left_S (w : Nat → Nat) (c : Int) (S : Nat → Int) (h0 : S 0 = c) (hs : ∀ k, S (k + 1) = if ((w k : Nat) : Int) ≤ S k then S k - ((w k : Nat) : Int) else 0) {n : Nat} (h : ((sumW w n : Nat) : Int) ≤ c) : ∀ k, k ≤ n → S k = c - ((sumW w k : Nat) : Int) := by
  intro k
  induction k with
  | zero => intro _; simp [h0, sumW]
  | succ k ih =>
    intro hk
    have h1 := sumW_mono w hk
    rw [sumW] at h1
    rw [hs, ih (by omega), if_pos (by omega), sumW]; omega

theorem left_good (w : Nat → Nat) (c : Int) (S : Nat → Int) (h0 : S 0 = c) (hs : ∀ k, S (k + 1) = if ((w k : Nat) : Int) ≤ S k then S k - ((w k : Nat) : Int) else 0) (g : Nat → Int → Bool) (hg : ∀ k s, g k s = decide (((w k : Nat) : Int) ≤ s)) {n : Nat} (h : ((sumW w n : Nat) : Int) ≤ c) :
    allBelow (fun k => g k (S k)) n = true := by
  refine allBelow_true.2 fun k hk => ?_
  show g k (S k) = true
  rw [hg, left_S w c S h0 hs h k (by omega)]
  have h1 := sumW_mono w (show k + 1 ≤ n from hk)
  rw [sumW] at h1
  exact decide_eq_true (by omega)

theorem left_bad (w : Nat → Nat) (c : Int) (hc : 0 ≤ c) (S : Nat → Int) (h0 : S 0 = c) (hs : ∀ k, S (k + 1) = if ((w k : Nat) : Int) ≤ S k then S k - ((w k : Nat) : Int) else 0) (g : Nat → Int → Bool) (hg : ∀ k s, g k s = decide (((w k : Nat) : Int) ≤ s)) {n : Nat} (h : ¬ ((sumW w n : Nat) : Int) ≤ c) :
    allBelow (fun k => g k (S k)) n = false := by
  cases hb : allBelow (fun k => g k (S k)) n with
  | false => rfl
  | true =>
    exfalso
    have h1 := allBelow_true.1 hb
    apply h
    have key : ∀ k, k ≤ n → ((sumW w k : Nat) : Int) ≤ c := by
      intro k
      induction k with
      | zero => intro _; simpa [sumW] using hc
      | succ k ih =>
        intro hk
        have h2 : g k (S k) = true := h1 k hk
        rw [hg, left_S w c S h0 hs (ih (by omega)) k (Nat.le_refl k)] at h2
        have h3 := of_decide_eq_true h2
        rw [sumW]; omega
    exact key n (Nat.le_refl n)

theorem beq_decL (a b : List UInt8) : (a == b) = decide (a = b) := by
  cases h : (a == b) with
  | true => rw [eq_of_beq h]; simp
  | false => have := ne_of_beq_false h; simp [this]

/-! ### Rows appended -/

theorem rowF_one {i : Nat} {y : List Nat} (h : i < 1) : (fun (_ : Nat) => [HC.r y]) i = rowF [y] i := by
  have : i = 0 := by omega
  subst this; rfl

theorem rowF_snoc {xs : List (List Nat)} {n : Nat} {y : List Nat} (h : xs.length = n) (i : Nat) (hi : i < n + 1) : (bif Nat.blt i n then rowF xs i else (fun (_ : Nat) => [HC.r y]) (i - n)) = rowF (xs ++ [y]) i := by
  subst h
  cases hb : Nat.blt i xs.length with
  | true =>
    have hl : i < xs.length := Nat.le_of_ble_eq_true hb
    simp [rowF, List.getElem?_append_left hl]
  | false =>
    have hl : i = xs.length := by
      rcases Nat.lt_or_ge i xs.length with h' | h'
      · have : Nat.blt i xs.length = true := Nat.ble_eq_true_of_le h'
        rw [this] at hb; cases hb
      · omega
    subst hl
    simp [rowF]

/-! ### Rows marked -/

theorem rowF_upd {xs : List (List Nat)} {r : Nat} {ys : List Nat} (h : r < xs.length) : ∀ i : Nat, updR (rowF xs) r ys i = rowF (xs.set r ys) i := by
  intro i
  unfold updR
  cases hb : Nat.beq i r with
  | true => have := Nat.eq_of_beq_eq_true hb; subst this; simp [rowF, setR, h]
  | false =>
    have hne : i ≠ r := fun e => by subst e; simp at hb
    simp only [cond_false, rowF, List.getD_eq_getElem?_getD, List.getElem?_set, if_neg (Ne.symm hne)]

/-- Rows marked one after another, the marks going on. -/
def markLS (xs : List (List Nat)) (t : Int) : Nat → List (List Nat)
  | 0 => xs
  | k + 1 => (markLS xs t k).set k (markL (List.length (List.getD xs k [])) (t + ((sumW (fun i => List.length (List.getD xs i [])) k : Nat) : Int)))
def markLL (xs : List (List Nat)) (t : Int) : List (List Nat) := markLS xs t xs.length

def markInv (xs : List (List Nat)) (t : Int) (k : Nat) (s : Int × List (List Nat)) : Prop :=
  s.1 = t + ((sumW (fun i => List.length (List.getD xs i [])) k : Nat) : Int) ∧ s.2 = markLS xs t k ∧ s.2.length = xs.length ∧ ∀ i, List.length (List.getD s.2 i []) = List.length (List.getD xs i [])

theorem getD_setL {α : Type} (l : List α) (k i : Nat) (x d : α) : List.getD (l.set k x) i d = if i = k ∧ k < l.length then x else List.getD l i d := by
  simp only [List.getD_eq_getElem?_getD, List.getElem?_set]
  by_cases h : k = i
  · subst h
    by_cases h2 : k < l.length
    · simp [h2]
    · simp [h2]
  · rw [if_neg h, if_neg (fun hh => h hh.1.symm)]

theorem mark_inv (xs : List (List Nat)) (t : Int) (S : Nat → Int × List (List Nat)) (h0 : S 0 = (t, xs))
    (hs : ∀ k, S (k + 1) = ((S k).1 + ((List.length (List.getD (S k).2 k []) : Nat) : Int), (S k).2.set k (markL (List.length (List.getD (S k).2 k [])) (S k).1))) : ∀ k, markInv xs t k (S k) := by
  intro k
  induction k with
  | zero => rw [h0]; exact ⟨by simp [sumW], rfl, rfl, fun _ => rfl⟩
  | succ k ih =>
    obtain ⟨i1, i2, i3, i4⟩ := ih
    rw [hs]
    refine ⟨?_, ?_, ?_, fun i => ?_⟩
    · show (S k).1 + _ = _
      rw [i1, i4 k, sumW]; omega
    · show (S k).2.set k _ = _
      rw [i4 k, i1, i2]; rfl
    · show ((S k).2.set k _).length = _
      simp [i3]
    · show List.length (List.getD ((S k).2.set k _) i []) = _
      rw [getD_setL]
      split
      · rename_i h; rw [markL_len, i4 k, h.1]
      · exact i4 i

theorem markInv_lo {xs : List (List Nat)} {t : Int} {k : Nat} {s : Int × List (List Nat)} (h : markInv xs t k s) (ht : 0 ≤ t) : 0 ≤ s.1 := by
  rw [h.1]; omega
theorem markInv_hi {xs : List (List Nat)} {t : Int} {k n : Nat} {s : Int × List (List Nat)} (h : markInv xs t k s) (hk : k < n) {B : Int} (ht : t + ((sumW (fun i => List.length (List.getD xs i [])) n : Nat) : Int) ≤ B) : s.1 + ((List.length (List.getD s.2 k []) : Nat) : Int) ≤ B := by
  have h1 := sumW_mono (fun i => List.length (List.getD xs i [])) (show k + 1 ≤ n from hk)
  rw [sumW] at h1
  rw [h.1, h.2.2.2 k]; omega

theorem markLS_len (xs : List (List Nat)) (t : Int) : ∀ k, (markLS xs t k).length = xs.length
  | 0 => rfl
  | k + 1 => by simp [markLS, markLS_len xs t k]
theorem markLL_len (xs : List (List Nat)) (t : Int) : (markLL xs t).length = xs.length := markLS_len xs t _

theorem markLS_get (xs : List (List Nat)) (t : Int) : ∀ (k i : Nat), k ≤ xs.length → List.getD (markLS xs t k) i [] = if i < k then markL (List.length (List.getD xs i [])) (t + ((sumW (fun i => List.length (List.getD xs i [])) i : Nat) : Int)) else List.getD xs i []
  | 0, i, _ => by simp [markLS]
  | k + 1, i, h => by
    rw [markLS, getD_setL, markLS_get xs t k i (by omega), markLS_len]
    by_cases hik : i = k
    · subst hik
      rw [if_pos ⟨rfl, by omega⟩, if_pos (by omega)]
    · rw [if_neg (fun hh => hik hh.1)]
      by_cases h2 : i < k
      · rw [if_pos h2, if_pos (by omega)]
      · rw [if_neg h2, if_neg (by omega)]

theorem markLL_get (xs : List (List Nat)) (t : Int) (i : Nat) : List.getD (markLL xs t) i [] = if i < xs.length then markL (List.length (List.getD xs i [])) (t + ((sumW (fun i => List.length (List.getD xs i [])) i : Nat) : Int)) else List.getD xs i [] :=
  markLS_get xs t xs.length i (Nat.le_refl _)

theorem markLL_row (xs : List (List Nat)) (t : Int) (i : Nat) : List.length (List.getD (markLL xs t) i []) = List.length (List.getD xs i []) := by
  rw [markLL_get]
  split
  · rw [markL_len]
  · rfl

theorem markLL_w {xs : List (List Nat)} (h : okF xs) (t : Int) : okF (markLL xs t) := fun i => by rw [markLL_row]; exact h i

theorem sumW_mark (xs : List (List Nat)) (t : Int) (n : Nat) : sumW (fun i => List.length (List.getD (markLL xs t) i [])) n = sumW (fun i => List.length (List.getD xs i [])) n := by
  have : (fun i => List.length (List.getD (markLL xs t) i [])) = fun i => List.length (List.getD xs i []) := by funext i; exact markLL_row xs t i
  rw [this]

theorem sumW_le (w : Nat → Nat) (c : Nat) (h : ∀ i, w i ≤ c) : ∀ n, sumW w n ≤ n * c
  | 0 => by simp [sumW]
  | n + 1 => by
    have := sumW_le w c h n
    have := h n
    rw [sumW, Nat.add_mul]; omega

/-- Rows hold the marks. -/
def heldP (xs : List (List Nat)) (t : Int) : Prop := ∀ k, k < xs.length → List.getD xs k [] = markL (List.length (List.getD xs k [])) (t + ((sumW (fun i => List.length (List.getD xs i [])) k : Nat) : Int))

theorem heldP_mark (xs : List (List Nat)) (t : Int) : heldP (markLL xs t) t := by
  intro k hk
  rw [markLL_len] at hk
  rw [sumW_mark, markLL_row, markLL_get, if_pos hk]

theorem held_S (w : Nat → Nat) (t : Int) (S : Nat → Int) (h0 : S 0 = t) (hs : ∀ k, S (k + 1) = S k + ((w k : Nat) : Int)) : ∀ k, S k = t + ((sumW w k : Nat) : Int) := by
  intro k
  induction k with
  | zero => simp [h0, sumW]
  | succ k ih => rw [hs, ih, sumW]; omega

theorem heldInv_lo {w : Nat → Nat} {t s : Int} {k : Nat} (h : s = t + ((sumW w k : Nat) : Int)) (ht : 0 ≤ t) : 0 ≤ s := by omega
theorem heldInv_hi {w : Nat → Nat} {t s : Int} {k n : Nat} (h : s = t + ((sumW w k : Nat) : Int)) (hk : k < n) {B : Int} (ht : t + ((sumW w n : Nat) : Int) ≤ B) : s + ((w k : Nat) : Int) ≤ B := by
  have h1 := sumW_mono w (show k + 1 ≤ n from hk)
  rw [sumW] at h1
  omega

/-! ### Frames marked -/

theorem rowM_upd {xs : List (List Nat × Nat × Nat × Nat)} {r : Nat} {ys : List Nat} (h : r < xs.length) : ∀ i : Nat, updR (rowM xs) r ys i = rowM (xs.set r (ys, (List.getD xs r dM).2.1, (List.getD xs r dM).2.2.1, (List.getD xs r dM).2.2.2)) i := by
  intro i
  unfold updR
  cases hb : Nat.beq i r with
  | true => have := Nat.eq_of_beq_eq_true hb; subst this; simp [rowM, setR, h]
  | false =>
    have hne : i ≠ r := fun e => by subst e; simp at hb
    simp only [cond_false, rowM, List.getD_eq_getElem?_getD, List.getElem?_set, if_neg (Ne.symm hne)]

theorem setM_len (l : List (List Nat × Nat × Nat × Nat)) (k : Nat) (x : List Nat × Nat × Nat × Nat) (h : x.1.length = (List.getD l k dM).1.length) (i : Nat) : List.length (List.getD (l.set k x) i dM).1 = List.length (List.getD l i dM).1 := by
  rw [getD_setL]
  split
  · rename_i hh; rw [hh.1, h]
  · rfl

def wM (xs : List (List Nat × Nat × Nat × Nat)) (i : Nat) : Nat := List.length (List.getD xs i dM).1 + 3
def markMInv (xs : List (List Nat × Nat × Nat × Nat)) (t : Int) (k : Nat) (s : Int × List (List Nat × Nat × Nat × Nat)) : Prop :=
  s.1 = t + ((sumW (wM xs) k : Nat) : Int) ∧ s.2.length = xs.length ∧ ∀ i, List.length (List.getD s.2 i dM).1 = List.length (List.getD xs i dM).1

abbrev LM := List (List Nat × Nat × Nat × Nat)
def putM0 (l : LM) (k : Nat) (ys : List Nat) : LM := List.set l k (ys, (List.getD l k dM).2.1, (List.getD l k dM).2.2.1, (List.getD l k dM).2.2.2)
def putM1 (l : LM) (k v : Nat) : LM := List.set l k ((List.getD l k dM).1, v, (List.getD l k dM).2.2.1, (List.getD l k dM).2.2.2)
def putM2 (l : LM) (k v : Nat) : LM := List.set l k ((List.getD l k dM).1, (List.getD l k dM).2.1, v, (List.getD l k dM).2.2.2)
def putM3 (l : LM) (k v : Nat) : LM := List.set l k ((List.getD l k dM).1, (List.getD l k dM).2.1, (List.getD l k dM).2.2.1, v)
theorem putM0_len (l : LM) (k : Nat) (ys : List Nat) : List.length (putM0 l k ys) = List.length l := List.length_set
theorem putM1_len (l : LM) (k v : Nat) : List.length (putM1 l k v) = List.length l := List.length_set
theorem putM2_len (l : LM) (k v : Nat) : List.length (putM2 l k v) = List.length l := List.length_set
theorem putM3_len (l : LM) (k v : Nat) : List.length (putM3 l k v) = List.length l := List.length_set
/-- A row's marks: those of its slice, then those of its numbers. -/
def stepM (k : Nat) (s : Int × LM) : Int × LM :=
  ((((s.1 + ((List.length (List.getD s.2 k dM).1 : Nat) : Int)) + 1) + 1) + 1,
    putM3 (putM2 (putM1 (putM0 s.2 k (markL (List.length (List.getD s.2 k dM).1) s.1)) k (canon .f32 (FloatKind.nearest .f32 (s.1 + ((List.length (List.getD s.2 k dM).1 : Nat) : Int)))))
      k (canon .f32 (FloatKind.nearest .f32 ((s.1 + ((List.length (List.getD s.2 k dM).1 : Nat) : Int)) + 1)))) k (canon .f32 (FloatKind.nearest .f32 (((s.1 + ((List.length (List.getD s.2 k dM).1 : Nat) : Int)) + 1) + 1))))

theorem markM_inv (xs : LM) (t : Int) (S : Nat → Int × LM) (h0 : S 0 = (t, xs)) (hs : ∀ k, S (k + 1) = stepM k (S k)) : ∀ k, markMInv xs t k (S k) := by
  intro k
  induction k with
  | zero => rw [h0]; exact ⟨by simp [sumW], rfl, fun _ => rfl⟩
  | succ k ih =>
    obtain ⟨i1, i2, i3⟩ := ih
    rw [hs]
    refine ⟨?_, ?_, fun i => ?_⟩
    · show (((S k).1 + ((List.length (List.getD (S k).2 k dM).1 : Nat) : Int)) + 1) + 1 + 1 = _
      rw [i1, i3 k, sumW, wM]; omega
    · show List.length (putM3 _ _ _) = _
      simp [putM3, putM2, putM1, putM0, i2]
    · show List.length (List.getD (putM3 _ _ _) i dM).1 = _
      unfold putM3 putM2 putM1 putM0
      rw [setM_len, setM_len, setM_len, setM_len]
      · exact i3 i
      · exact markL_len _ _
      all_goals rfl

theorem markMInv_lo {xs : List (List Nat × Nat × Nat × Nat)} {t : Int} {k : Nat} {s : Int × List (List Nat × Nat × Nat × Nat)} (h : markMInv xs t k s) (ht : 0 ≤ t) : 0 ≤ s.1 := by
  rw [h.1]; omega
theorem markMInv_hi {xs : List (List Nat × Nat × Nat × Nat)} {t : Int} {k n : Nat} {s : Int × List (List Nat × Nat × Nat × Nat)} (h : markMInv xs t k s) (hk : k < n) {B : Int} (ht : t + ((sumW (wM xs) n : Nat) : Int) ≤ B) : s.1 + ((List.length (List.getD s.2 k dM).1 : Nat) : Int) + 3 ≤ B := by
  have h1 := sumW_mono (wM xs) (show k + 1 ≤ n from hk)
  rw [sumW] at h1
  have h2 := h.2.2 k
  have h3 : wM xs k = List.length (List.getD xs k dM).1 + 3 := rfl
  rw [h.1, h2]
  omega
theorem sumM_le (xs : List (List Nat × Nat × Nat × Nat)) (n : Nat) : sumW (wM xs) n = sumW (fun i => List.length (List.getD xs i dM).1) n + 3 * n := by
  induction n with
  | zero => rfl
  | succ n ih => rw [sumW, sumW, ih, wM]; omega

/-! ### Places of frames -/

theorem mulA (n : Nat) (s : Int) : 1 ≤ s → s ≤ 256 → 1 ≤ n → n ≤ 256 → 0 ≤ (((n : Nat) : Int) - (1 : Int)) * s ∧ (((n : Nat) : Int) - (1 : Int)) * s ≤ 65536 := by
  intro h1 h2 h3 h4
  constructor
  · exact Int.mul_nonneg (by omega) (by omega)
  · have := Int.mul_le_mul (show ((n : Nat) : Int) - 1 ≤ 256 by omega) h2 (by omega) (by omega)
    omega
theorem mulAc (n : Nat) (s : Int) : 1 ≤ s → s ≤ 256 → 1 ≤ n → n ≤ 256 → 0 ≤ s * (((n : Nat) : Int) - (1 : Int)) ∧ s * (((n : Nat) : Int) - (1 : Int)) ≤ 65536 := by
  rw [Int.mul_comm]; exact mulA n s
theorem mulK {k n : Nat} (h : k < n) (s : Int) : 1 ≤ s → 0 ≤ ((k : Nat) : Int) * s ∧ ((k : Nat) : Int) * s ≤ (((n : Nat) : Int) - (1 : Int)) * s := by
  intro h1
  exact ⟨Int.mul_nonneg (by omega) (by omega), Int.mul_le_mul_of_nonneg_right (by omega) (by omega)⟩
theorem mulKc {k n : Nat} (h : k < n) (s : Int) : 1 ≤ s → 0 ≤ s * ((k : Nat) : Int) ∧ s * ((k : Nat) : Int) ≤ s * (((n : Nat) : Int) - (1 : Int)) := by
  rw [Int.mul_comm s, Int.mul_comm s]; exact mulK h s

/-! ### Rows compared -/

def sameLL (xs ys : List (List Nat)) : Bool := (xs.length == ys.length) && allBelow (fun k => sameL (List.getD xs k []) (List.getD ys k [])) xs.length
theorem sameLL_self (xs : List (List Nat)) : sameLL xs xs = true := by
  simp only [sameLL, beq_self_eq_true, Bool.true_and]
  exact allBelow_true.2 fun k _ => sameL_self _

def eqS1 (q r : ByteArray × List Nat × Nat × Nat × Nat × Nat) : Bool :=
  (ByteArray.toList q.1 == ByteArray.toList r.1) && (sameL q.2.1 r.2.1 && (sameD (fcv .f32 .f64 q.2.2.1) (fcv .f32 .f64 r.2.2.1) && (sameD (fcv .f32 .f64 q.2.2.2.1) (fcv .f32 .f64 r.2.2.2.1) &&
    (sameD (fcv .f32 .f64 q.2.2.2.2.1) (fcv .f32 .f64 r.2.2.2.2.1) && sameD (fcv .f32 .f64 q.2.2.2.2.2) (fcv .f32 .f64 r.2.2.2.2.2)))))
def eqSnds (xs ys : List (ByteArray × List Nat × Nat × Nat × Nat × Nat)) : Bool := (xs.length == ys.length) && allBelow (fun k => eqS1 (List.getD xs k dS) (List.getD ys k dS)) xs.length
theorem eqSnds_self (xs : List (ByteArray × List Nat × Nat × Nat × Nat × Nat)) : eqSnds xs xs = true := by
  simp only [eqSnds, beq_self_eq_true, Bool.true_and]
  refine allBelow_true.2 fun k _ => ?_
  unfold eqS1
  rw [sameL_self, sameD_self, sameD_self, sameD_self, sameD_self, beq_self_eq_true]; rfl

def eqM1 (q r : List Nat × Nat × Nat × Nat) : Bool :=
  sameL q.1 r.1 && (sameD (fcv .f32 .f64 q.2.1) (fcv .f32 .f64 r.2.1) && (sameD (fcv .f32 .f64 q.2.2.1) (fcv .f32 .f64 r.2.2.1) && sameD (fcv .f32 .f64 q.2.2.2) (fcv .f32 .f64 r.2.2.2)))
def eqMnts (xs ys : List (List Nat × Nat × Nat × Nat)) : Bool := (xs.length == ys.length) && allBelow (fun k => eqM1 (List.getD xs k dM) (List.getD ys k dM)) xs.length
theorem eqMnts_self (xs : List (List Nat × Nat × Nat × Nat)) : eqMnts xs xs = true := by
  simp only [eqMnts, beq_self_eq_true, Bool.true_and]
  refine allBelow_true.2 fun k _ => ?_
  unfold eqM1
  rw [sameL_self, sameD_self, sameD_self, sameD_self]; rfl

/-! ### Sounds -/

def sameS1 (q r : ByteArray × List Nat × Nat × Nat × Nat × Nat) : Bool :=
  (ByteArray.toList q.1 == ByteArray.toList r.1) && (sameW q.2.1 r.2.1 && (sameN q.2.2.1 r.2.2.1 && (sameN q.2.2.2.1 r.2.2.2.1 && (sameN q.2.2.2.2.1 r.2.2.2.2.1 && sameN q.2.2.2.2.2 r.2.2.2.2.2))))
def sameSnds (xs ys : List (ByteArray × List Nat × Nat × Nat × Nat × Nat)) : Bool := (xs.length == ys.length) && allBelow (fun k => sameS1 (List.getD xs k dS) (List.getD ys k dS)) xs.length

theorem w32_fl {x : Nat} (h : fl32 x) : w32 x := w32_mk h
theorem w32_all {xs : List Nat} (h : ∀ y ∈ xs, fl32 y) : ∀ y ∈ xs, w32 y := fun y hy => w32_mk (h y hy)

def okS1 (q : ByteArray × List Nat × Nat × Nat × Nat × Nat) : Bool := soundOk q.1 q.2.1 q.2.2.1 q.2.2.2.1 q.2.2.2.2.1 q.2.2.2.2.2

theorem less_irrefl : ∀ x : List UInt8, Op.bytesLess x x = false
  | [] => rfl
  | a :: l => by simp [Op.bytesLess, less_irrefl l]

/-- One of two texts is less, or they are the same. -/
theorem less_or : ∀ (x y : List UInt8), (!(Op.bytesLess y x)) = (Op.bytesLess x y || x == y)
  | [], [] => by simp [Op.bytesLess]
  | [], b :: y => by simp [Op.bytesLess]
  | a :: x, [] => by simp [Op.bytesLess]
  | a :: x, b :: y => by
    have ih := less_or x y
    simp only [Op.bytesLess]
    rcases Nat.lt_trichotomy a.toNat b.toNat with h | h | h
    · have h1 : a < b := h
      have h2 : ¬ b < a := fun h' => by have : b.toNat < a.toNat := h'; omega
      have h3 : b ≠ a := fun e => by subst e; exact h2 h1
      simp [h1, h2, h3]
    · have e : a = b := UInt8.toNat_inj.1 h
      subst e
      have h2 : ¬ a < a := fun h' => by have : a.toNat < a.toNat := h'; omega
      simp [h2, ih]
    · have h1 : b < a := h
      have h2 : ¬ a < b := fun h' => by have : a.toNat < b.toNat := h'; omega
      have h3 : a ≠ b := fun e => by subst e; exact h2 h1
      simp [h1, h2, h3]


theorem or_l {x y : Bool} (h : x = true) : (x || y) = true := by rw [h]; rfl
theorem or_r {x y : Bool} (h : x = false) (g : y = true) : (x || y) = true := by rw [h, g]; rfl
theorem or_f {x y : Bool} (h : x = false) (g : y = false) : (x || y) = false := by rw [h, g]; rfl

/-- A list of sounds: valid ones, of the same number of areas, in the order of their names. -/
def areS (xs : List (ByteArray × List Nat × Nat × Nat × Nat × Nat)) : Bool := decide (xs.length ≤ 16) && allBelow (fun k =>
  soundOk (List.getD xs k dS).1 (List.getD xs k dS).2.1 (List.getD xs k dS).2.2.1 (List.getD xs k dS).2.2.2.1 (List.getD xs k dS).2.2.2.2.1 (List.getD xs k dS).2.2.2.2.2 &&
    (decide (List.length (List.getD xs k dS).2.1 = List.length (List.getD xs 0 dS).2.1) && (!decide (0 < k) || Op.bytesLess (ByteArray.toList (List.getD xs (k - 1) dS).1) (ByteArray.toList (List.getD xs k dS).1)))) xs.length

theorem areS_spec (xs : List (ByteArray × List Nat × Nat × Nat × Nat × Nat)) : areS xs = (decide (xs.length ≤ 16) && allBelow (fun k =>
  soundOk (List.getD xs k dS).1 (List.getD xs k dS).2.1 (List.getD xs k dS).2.2.1 (List.getD xs k dS).2.2.2.1 (List.getD xs k dS).2.2.2.2.1 (List.getD xs k dS).2.2.2.2.2 &&
    (decide (List.length (List.getD xs k dS).2.1 = List.length (List.getD xs 0 dS).2.1) && (!decide (0 < k) || !(Op.bytesLess (ByteArray.toList (List.getD xs k dS).1) (ByteArray.toList (List.getD xs (k - 1) dS).1) || ByteArray.toList (List.getD xs k dS).1 == ByteArray.toList (List.getD xs (k - 1) dS).1)))) xs.length) := by
  unfold areS
  congr 2
  funext k
  rw [← less_or, Bool.not_not]

end Go.Sim
