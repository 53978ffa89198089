/- Lists that loops write, by what stands in their places. Conditions: none. -/
import Derived.Test.YtgjdkhocnnoimaaPu4
namespace Go.Sim
open Go

/-- A list written place by place, each out of what stood there. -/
theorem accum_all (n : Nat) (F : Nat → Nat → Nat) (S : Nat → List Nat) (h0 : S 0 = List.replicate n 0) (hs : ∀ k, k < n → (S k).length = n → S (k + 1) = (S k).set k (F k ((S k).getD k 0))) :
    S n = (List.range n).map fun k => F k 0 := by
  have key : ∀ k, k ≤ n → (S k).length = n ∧ (∀ i, i < k → (S k)[i]? = some (F i 0)) ∧ (∀ i, k ≤ i → i < n → (S k)[i]? = some 0) := by
    intro k
    induction k with
    | zero => intro _; rw [h0]; exact ⟨by simp, fun i hi => by omega, fun i _ hi => by simp [hi]⟩
    | succ k ih =>
      intro hk
      obtain ⟨a, b, c⟩ := ih (by omega)
      have e : (S k).getD k 0 = 0 := by rw [List.getD_eq_getElem?_getD, c k (Nat.le_refl _) (by omega)]; rfl
      rw [hs k (by omega) a, e]
      refine ⟨by simpa using a, fun i hi => ?_, fun i hi hn => ?_⟩
      · rw [List.getElem?_set]
        split
        · rename_i e; subst e; rw [if_pos (by omega)]
        · exact b i (by omega)
      · rw [List.getElem?_set, if_neg (by omega)]; exact c i (by omega) hn
  obtain ⟨a, b, _⟩ := key n (Nat.le_refl _)
  apply List.ext_getElem?
  intro i
  rcases Nat.lt_or_ge i n with h | h
  · rw [b i h]; simp [h]
  · rw [List.getElem?_eq_none (by omega), List.getElem?_eq_none (by simp; exact h)]

/-- One place of a list is added to. -/
theorem set_in_place (s : List Nat) (k : Nat) (hk : k < s.length) (f : Nat → Nat → Nat) (acc : Nat → Nat) (S : Nat → List Nat) (h0 : S 0 = s) (hs : ∀ j, S (j + 1) = (S j).set k (f j ((S j).getD k 0)))
    (a0 : acc 0 = s.getD k 0) (as : ∀ j, acc (j + 1) = f j (acc j)) : ∀ j, S j = s.set k (acc j) := by
  intro j
  induction j with
  | zero =>
    rw [h0, a0]
    apply List.ext_getElem?
    intro i
    rw [List.getElem?_set]
    split
    · rename_i e; subst e; simp [hk]
    · rfl
  | succ j ih =>
    have e : (S j).getD k 0 = acc j := by rw [ih, List.getD_eq_getElem?_getD, List.getElem?_set_self hk]; rfl
    rw [hs, e, ih, as, List.set_set]

/-- The sum of a sound with itself 'k' later, 'j' products of it. -/
def selfAcc (xs : List Nat) (k : Nat) (a : Nat) : Nat → Nat
  | 0 => a
  | j + 1 => fop .add .f32 (selfAcc xs k a j) (fop .mul .f32 (List.getD xs j 0) (List.getD xs (k + j) 0))

def selfL (xs : List Nat) (n : Nat) : List Nat := (List.range n).map fun k => selfAcc xs k 0 (xs.length - k)

theorem selfL_len (xs : List Nat) (n : Nat) : (selfL xs n).length = n := by simp [selfL]

def frameOk (xs : List Nat) (p v n : Nat) : Bool :=
  decide (1 ≤ xs.length) && (decide (xs.length ≤ 16) && (allAbv xs && (fin32 p && (fcmp .geq .f32 p 0 && (fcmp .geq .f32 v 0 && (fcmp .leq .f32 v 1065353216 && (fcmp .geq .f32 n 0 && fcmp .leq .f32 n 1065353216)))))))

theorem frameOk_len {xs : List Nat} {p v n : Nat} (h : frameOk xs p v n = true) : 1 ≤ xs.length ∧ xs.length ≤ 16 := by
  simp only [frameOk, Bool.and_eq_true, decide_eq_true_eq] at h; exact ⟨h.1, h.2.1⟩

def isLow (b : Int) : Bool := if b < (97 : Int) then false else (if b > (122 : Int) then false else true)

theorem cast1 (n : Nat) : ((1 : Int) ≤ ((n : Nat) : Int)) ↔ 1 ≤ n := by omega
theorem cast8 (n : Nat) : (((n : Nat) : Int) ≤ (8 : Int)) ↔ n ≤ 8 := by omega

def allLow (s : ByteArray) : Bool := allBelow (fun k => isLow (strB s k)) (ByteArray.size s)

/-- A text of 1 to 4 small letters. -/
def nameOk (s : ByteArray) : Bool := decide (1 ≤ ByteArray.size s) && (decide (ByteArray.size s ≤ 4) && allLow s)

def name8 (s : ByteArray) : Bool := allLow s && (decide (1 ≤ ByteArray.size s) && decide (ByteArray.size s ≤ 8))

theorem name8_4 {s : ByteArray} (h : ByteArray.size s ≤ 4) : name8 s = nameOk s := by
  unfold name8 nameOk
  rw [decide_eq_true h, decide_eq_true (show ByteArray.size s ≤ 8 by omega), Bool.and_true, Bool.true_and, Bool.and_comm]

theorem nameOk_4 {s : ByteArray} (h : ¬ ByteArray.size s ≤ 4) : nameOk s = false := by
  unfold nameOk
  rw [decide_eq_false h, Bool.false_and, Bool.and_false]

def soundOk (s : ByteArray) (xs : List Nat) (l r v n : Nat) : Bool :=
  nameOk s && (decide (1 ≤ xs.length) && (decide (xs.length ≤ 16) && (allAbv xs && (fin32 l && (fcmp .gtr .f32 l 0 && (fin32 r && (fcmp .geq .f32 r 0 && (fcmp .geq .f32 v 0 && (fcmp .leq .f32 v 1065353216 && (fcmp .geq .f32 n 0 && fcmp .leq .f32 n 1065353216))))))))))

theorem soundOk_len {s : ByteArray} {xs : List Nat} {l r v n : Nat} (h : soundOk s xs l r v n = true) : 1 ≤ xs.length ∧ xs.length ≤ 16 := by
  simp only [soundOk, Bool.and_eq_true, decide_eq_true_eq] at h; exact ⟨h.2.1, h.2.2.1⟩

def tubeOk (xs : List Nat) (l t i : Nat) : Bool :=
  decide (1 ≤ xs.length) && (decide (xs.length ≤ 16) && (allAbv xs && (fcmp .gtr .f32 l 0 && (fcmp .leq .f32 l 1065353216 && (fcmp .geq .f32 t 3212836864 && (fcmp .leq .f32 t 1065353216 && (fcmp .geq .f32 i 3212836864 && fcmp .leq .f32 i 1065353216)))))))

theorem tubeOk_len {xs : List Nat} {l t i : Nat} (h : tubeOk xs l t i = true) : 1 ≤ xs.length ∧ xs.length ≤ 16 := by
  simp only [tubeOk, Bool.and_eq_true, decide_eq_true_eq] at h; exact ⟨h.1, h.2.1⟩

theorem tubeOk_of {xs : List Nat} {p v n : Nat} (h : frameOk xs p v n = true) : tubeOk xs 1065353216 1061158912 3210739712 = true := by
  simp only [frameOk, Bool.and_eq_true, decide_eq_true_eq] at h
  simp only [tubeOk, Bool.and_eq_true, decide_eq_true_eq]
  exact ⟨h.1, h.2.1, h.2.2.1, by decide, by decide, by decide, by decide, by decide, by decide⟩

def mixL (xs ys : List Nat) (s n : Nat) : List Nat := (List.range n).map fun k => fop .add .f32 (List.getD xs k 0) (fop .mul .f32 s (fop .sub .f32 (List.getD ys k 0) (List.getD xs k 0)))

theorem mixL_len (xs ys : List Nat) (s n : Nat) : (mixL xs ys s n).length = n := by simp [mixL]

theorem getD_last {l : List Nat} {n v : Nat} (h : l.length = n) : List.getD (l ++ [v]) n 0 = v := by
  subst h; simp

theorem pred_at (st xs : List Nat) (n : Nat) (S : Nat → Nat) (m : Nat) (h0 : S 0 = 0) (hs : ∀ k, S (k + 1) = fop .add .f32 (S k) (fop .mul .f32 (List.getD st k 0) (List.getD xs (n - (k + 1)) 0))) (hm : m = min st.length n) : S m = predAt st xs n := by
  have key : ∀ k, S k = predV st xs n k := by
    intro k
    induction k with
    | zero => exact h0
    | succ k ih => rw [hs, ih]; rfl
  rw [key, hm]; rfl

end Go.Sim
