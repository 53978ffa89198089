/- Whole numbers as float32, lists that a law marks. Conditions: none. -/
import Derived.Test.YtgjdkhocnnoimaaPu1
import Derived.Laws.FloatBits
namespace Go.Sim
open Go

theorem word_notN (f : Ieee.Format) (neg : Bool) {r : Nat} (h : r ≤ f.infRung) : (f.read (f.word neg r)).isNaN = false := by
  have hlt : r < f.signWeight := Nat.lt_of_le_of_lt h f.infRung_lt
  have hm : f.word neg r % f.signWeight = r := by
    unfold Ieee.Format.word
    split
    · rw [Nat.add_mod_left, Nat.mod_eq_of_lt hlt]
    · exact Nat.mod_eq_of_lt hlt
  unfold Ieee.Format.read
  simp only [hm]
  split
  · rfl
  · split
    · rfl
    · split
      · rfl
      · omega

theorem nearest_notN (k : FloatKind) (n : Int) : isN k (k.nearest n) = false := by
  show (k.format.read (k.format.nearest (decide (n < 0)) n.natAbs 0)).isNaN = false
  unfold Ieee.Format.nearest
  dsimp only
  split
  · exact word_notN _ _ (Nat.zero_le _)
  · exact word_notN _ _ (Nat.min_le_right ..)

/-- A whole number as float32. -/
def cvI (n : Int) : Nat := canon .f32 (FloatKind.nearest .f32 n)

theorem cvI_notN (n : Int) : isN .f32 (cvI n) = false := by unfold cvI; rw [isN_canon]; exact nearest_notN _ _

theorem order_self {k : FloatKind} {x : Nat} (h : isN k x = false) : k.format.order x x = some .eq := by
  simp only [Ieee.Format.order]
  have h' : (k.format.read x).isNaN = false := h
  generalize k.format.read x = d at h'
  cases d with
  | number s m p => simp [Ieee.Datum.order]
  | infinity s => cases s <;> simp [Ieee.Datum.order]
  | nan s f => simp [Ieee.Datum.isNaN] at h'

theorem neq_self {k : FloatKind} {x : Nat} (h : isN k x = false) : fcmp .neq k x x = false := by
  simp [fcmp, order_self h]

/-- The numbers 't', 't + 1' .. that a law writes into a list. -/
def markL (n : Nat) (t : Int) : List Nat := (List.range n).map fun i : Nat => cvI (t + (i : Int))

theorem markL_len (n : Nat) (t : Int) : (markL n t).length = n := by simp [markL]

theorem set_all {α : Type} (n : Nat) (f : Nat → α) (S : Nat → List α) (h0 : (S 0).length = n) (hs : ∀ k, S (k + 1) = (S k).set k (f k)) : S n = (List.range n).map f := by
  have hl : ∀ k, (S k).length = n := by
    intro k
    induction k with
    | zero => exact h0
    | succ k ih => rw [hs]; simpa using ih
  have key : ∀ k, k ≤ n → ∀ i, i < k → (S k)[i]? = some (f i) := by
    intro k
    induction k with
    | zero => intro _ i hi; omega
    | succ k ih =>
      intro hk i hi
      rw [hs, List.getElem?_set]
      split
      · rename_i e
        subst e
        have := hl k
        rw [if_pos (by omega)]
      · exact ih (by omega) i (by omega)
  apply List.ext_getElem?
  intro i
  rcases Nat.lt_or_ge i n with h | h
  · rw [key n (Nat.le_refl _) i h]; simp [h]
  · rw [List.getElem?_eq_none (by rw [hl]; exact h)]
    rw [List.getElem?_eq_none (by simp; exact h)]

theorem append_all {α : Type} (n : Nat) (f : Nat → α) (S : Nat → List α) (h0 : S 0 = []) (hs : ∀ k, S (k + 1) = S k ++ [f k]) : S n = (List.range n).map f := by
  induction n with
  | zero => simpa using h0
  | succ n ih => rw [hs, ih, List.range_succ, List.map_append]; rfl

theorem set_from1 (xs : List Nat) (g : Nat → Nat) (S : Nat → List Nat) (h0 : S 0 = xs) (hs : ∀ k, S (k + 1) = (S k).set (1 + k) (g k)) :
    S (xs.length - 1) = (List.range xs.length).map fun i => if i = 0 then xs.getD 0 0 else g (i - 1) := by
  have hl : ∀ k, (S k).length = xs.length := by
    intro k
    induction k with
    | zero => rw [h0]
    | succ k ih => rw [hs]; simpa using ih
  have key : ∀ k, k ≤ xs.length - 1 → ∀ i, i < xs.length → (S k)[i]? = some (if i = 0 then xs.getD 0 0 else if i ≤ k then g (i - 1) else xs.getD i 0) := by
    intro k
    induction k with
    | zero =>
      intro _ i hi
      rw [h0, List.getElem?_eq_getElem hi]
      congr 1
      split
      · rename_i e; subst e; simp [hi]
      · rw [if_neg (by omega)]; simp [hi]
    | succ k ih =>
      intro hk i hi
      rw [hs, List.getElem?_set]
      split
      · rename_i e
        subst e
        have := hl k
        rw [if_pos (by omega), if_neg (by omega), if_pos (by omega)]
        congr 2; omega
      · rename_i e
        rw [ih (by omega) i hi]
        congr 1
        split
        · rfl
        · by_cases h : i ≤ k
          · rw [if_pos h, if_pos (by omega)]
          · rw [if_neg h, if_neg (by omega)]
  apply List.ext_getElem?
  intro i
  rcases Nat.lt_or_ge i xs.length with h | h
  · rw [key _ (Nat.le_refl _) i h]
    simp only [List.getElem?_map, List.getElem?_range h, Option.map_some]
    congr 1
    split
    · rfl
    · rw [if_pos (by omega)]
  · rw [List.getElem?_eq_none (by rw [hl]; exact h), List.getElem?_eq_none (by simp; exact h)]

/-- A list written place by place, each by the one before it. -/
theorem thread_all (n : Nat) (g : Nat → Nat → Nat) (y : Nat → Nat) (S : Nat → Nat × List Nat) (h0 : (S 0).2.length = n) (hs : ∀ k, S (k + 1) = (g k (S k).1, (S k).2.set k (g k (S k).1)))
    (y0 : ∀ p, g 0 p = y 0) (ys : ∀ k, g (k + 1) (y k) = y (k + 1)) : (S n).2 = (List.range n).map y := by
  have hp : ∀ k, g k (S k).1 = y k := by
    intro k
    induction k with
    | zero => exact y0 _
    | succ k ih => rw [hs]; simp only; rw [ih]; exact ys k
  exact set_all n y (fun k => (S k).2) h0 (fun k => by simp only [hs, hp])

theorem thread_from1 (xs : List Nat) (h : Nat → Nat → Nat) (y : Nat → Nat) (S : Nat → List Nat) (h0 : S 0 = xs) (hs : ∀ k, S (k + 1) = (S k).set (1 + k) (h k ((S k).getD k 0)))
    (y0 : y 0 = xs.getD 0 0) (ys : ∀ k, y (k + 1) = h k (y k)) : S (xs.length - 1) = (List.range xs.length).map y := by
  rw [set_from1 xs (fun k => h k ((S k).getD k 0)) S h0 hs]
  have hl : ∀ k, (S k).length = xs.length := by
    intro k
    induction k with
    | zero => rw [h0]
    | succ k ih => rw [hs]; simpa using ih
  have hy : ∀ k, k < xs.length → (S k).getD k 0 = y k := by
    intro k
    induction k with
    | zero => intro _; rw [h0, y0]
    | succ k ih =>
      intro hk
      rw [hs, ys, ih (by omega)]
      have := hl k
      simp only [List.getD_eq_getElem?_getD, List.getElem?_set]
      rw [if_pos (by omega), if_pos (by omega)]; rfl
  apply List.map_congr_left
  intro i hi
  have hi := List.mem_range.1 hi
  by_cases e : i = 0
  · subst e; simp [y0]
  · rw [if_neg e]
    have : i = (i - 1) + 1 := by omega
    rw [hy (i - 1) (by omega), ← ys]
    rw [← this]

def smoothY (xs : List Nat) (t : Nat) : Nat → Nat
  | 0 => xs.getD 0 0
  | k + 1 => fop .add .f32 (xs.getD (k + 1) 0) (fop .mul .f32 t (smoothY xs t k))

theorem mark_all (xs : List Nat) (n : Nat) (t : Int) (h : xs.length = n) (S : Nat → List Nat) (h0 : S 0 = xs) (hs : ∀ k, S (k + 1) = (S k).set k (canon .f32 (FloatKind.nearest .f32 (t + ((k : Nat) : Int))))) : S n = markL n t :=
  set_all n _ S (by rw [h0]; exact h) hs

theorem held_ne {xs : List Nat} {n k : Nat} {t : Int} (h : xs = markL n t) (hk : k < n) : fcmp .neq .f32 (List.getD xs k 0) (canon .f32 (FloatKind.nearest .f32 (t + ((k : Nat) : Int)))) = false := by
  subst h
  have : (markL n t).getD k 0 = cvI (t + (k : Int)) := by simp [markL, hk]
  rw [this]
  exact neq_self (cvI_notN _)

end Go.Sim
