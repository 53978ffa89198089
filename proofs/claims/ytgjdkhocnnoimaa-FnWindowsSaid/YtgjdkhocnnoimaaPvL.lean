/- Lists of whole numbers; bands between edges. Conditions: none. -/
import Derived.Test.YtgjdkhocnnoimaaPvH
namespace Go.Sim
open Go

def inW (xs : List Int) (lo hi : Int) : Bool := allBelow (fun k => decide (lo ≤ xs.getD k 0) && decide (xs.getD k 0 ≤ hi)) xs.length
def srtI (xs : List Int) : Bool := allBelow (fun k => !decide (xs.getD (k + 1) 0 < xs.getD k 0)) (xs.length - 1)
/-- Below 'n', from the end. -/
theorem allBelow_rev (p : Nat → Bool) (n : Nat) : allBelow (fun k => p (n - 1 - k)) n = allBelow p n := by
  have h1 : allBelow p n = true → allBelow (fun k => p (n - 1 - k)) n = true := fun h => allBelow_true.2 fun k hk => allBelow_true.1 h _ (by omega)
  have h2 : allBelow (fun k => p (n - 1 - k)) n = true → allBelow p n = true := fun h => allBelow_true.2 fun k hk => by
    have := allBelow_true.1 h (n - 1 - k) (by omega)
    have e : n - 1 - (n - 1 - k) = k := by omega
    simpa [e] using this
  cases ha : allBelow p n with
  | true => exact h1 ha
  | false =>
    cases hb : allBelow (fun k => p (n - 1 - k)) n with
    | false => rfl
    | true => rw [h2 hb] at ha; cases ha

theorem ite_dec' (P : Prop) [Decidable P] : (if P then false else true) = !decide P := by by_cases h : P <;> simp [h]

/-- The edges' tests one by one: in bounds, and not below the one before. -/
def edgeB (xs : List Int) (n : Int) : Bool := allBelow (fun k => (decide (0 ≤ xs.getD k 0) && decide (xs.getD k 0 ≤ n)) && (decide (k = 0) || !decide (xs.getD k 0 < xs.getD (k - 1) 0))) xs.length

theorem edge_eq (xs : List Int) (n : Int) : edgeB xs n = (srtI xs && inW xs 0 n) := by
  have key : edgeB xs n = true ↔ (srtI xs && inW xs 0 n) = true := by
    unfold edgeB srtI inW
    simp only [Bool.and_eq_true, Bool.or_eq_true, Bool.not_eq_true', decide_eq_true_eq, decide_eq_false_iff_not, allBelow_true]
    constructor
    · intro h
      refine ⟨fun k hk => ?_, fun k hk => (h k hk).1⟩
      have := (h (k + 1) (by omega)).2
      rcases this with h0 | h0
      · omega
      · simpa using h0
    · rintro ⟨h1, h2⟩ k hk
      refine ⟨h2 k hk, ?_⟩
      rcases Nat.eq_zero_or_pos k with h | h
      · exact .inl h
      · right
        have := h1 (k - 1) (by omega)
        have e : k - 1 + 1 = k := by omega
        rw [e] at this; exact this
  rcases Bool.eq_false_or_eq_true (edgeB xs n) with h | h
  · rw [h, key.1 h]
  · rw [h]
    rcases Bool.eq_false_or_eq_true (srtI xs && inW xs 0 n) with g | g
    · rw [key.2 g] at h; cases h
    · exact g.symm

theorem edge_at {xs : List Int} {n : Int} (h1 : srtI xs = true) (h2 : inW xs 0 n = true) {k : Nat} (hk : k + 1 < xs.length) : 0 ≤ xs.getD k 0 ∧ xs.getD k 0 ≤ xs.getD (k + 1) 0 ∧ xs.getD (k + 1) 0 ≤ n := by
  have a := allBelow_true.1 h1 k (by omega)
  have b := allBelow_true.1 h2 k (by omega)
  have c := allBelow_true.1 h2 (k + 1) hk
  simp only [Bool.and_eq_true, Bool.not_eq_true', decide_eq_true_eq, decide_eq_false_iff_not] at a b c
  omega

theorem edge_at1 {xs : List Int} {n : Int} (h1 : srtI xs = true) (h2 : inW xs 0 n = true) {k : Nat} (hk : k + 1 < xs.length) : 0 ≤ xs.getD k 0 ∧ xs.getD k 0 ≤ xs.getD (1 + k) 0 ∧ xs.getD (1 + k) 0 ≤ n := by
  rw [Nat.add_comm]; exact edge_at h1 h2 hk
theorem edge_good {xs : List Int} {n : Int} {m : Nat} (h : xs.length = m) (p : Nat → Bool) (hp : ∀ k, p k = (if (List.getD xs k 0) ≥ (0 : Int) then (if (List.getD xs k 0) ≤ n then (if k > 0 then (if (List.getD xs k 0) < (List.getD xs (k - 1) 0) then false else true) else true) else false) else false)) : allBelow p m = edgeB xs n := by
  subst h
  unfold edgeB
  refine allBelow_congr fun k _ => ?_
  rw [hp]
  by_cases a : (List.getD xs k 0) ≥ (0 : Int) <;> by_cases b : (List.getD xs k 0) ≤ n <;> by_cases c : k > 0 <;> by_cases d : (List.getD xs k 0) < (List.getD xs (k - 1) 0)
  all_goals
    have c' : (k = 0) = ¬ (k > 0) := by simp
    simp [-List.getD_eq_getElem?_getD, a, b, c', c, d]

/-- The sum of 'm' numbers from place 'lo'. -/
def sumFrom (ps : List Nat) (lo : Nat) : Nat → Nat
  | 0 => 0
  | m + 1 => fop .add .f32 (sumFrom ps lo m) (List.getD ps (lo + m) 0)

def bandAt (ps : List Nat) (es : List Int) (k : Nat) : Nat := sumFrom ps (es.getD k 0).toNat ((es.getD (k + 1) 0).toNat - (es.getD k 0).toNat)

def bandL (ps : List Nat) (es : List Int) (n : Nat) : List Nat := (List.range n).map (bandAt ps es)
theorem bandL_len (ps : List Nat) (es : List Int) (n : Nat) : (bandL ps es n).length = n := by simp [bandL]

def bandsF (ps : List Nat) (es : List Int) : List Nat × Bool :=
  if (decide (ps.length ≤ 64) && allGe0 ps) = true ∧ 2 ≤ es.length ∧ es.length ≤ 64 ∧ srtI es = true ∧ inW es 0 ((ps.length : Nat) : Int) = true then
    (if allFin (bandL ps es (es.length - 1)) = true then (bandL ps es (es.length - 1), true) else ([], false)) else ([], false)

theorem bands_t {ps L : List Nat} {es : List Int} (h0 : ps.length ≤ 64) (h1 : allGe0 ps = true) (h2 : 2 ≤ es.length) (h3 : es.length ≤ 64) (h4 : srtI es = true) (h5 : inW es 0 ((ps.length : Nat) : Int) = true) (hL : L = bandL ps es (es.length - 1)) (hf : allFin L = true) : bandsF ps es = (L, true) := by
  subst hL; unfold bandsF; rw [if_pos ⟨by simp [h0, h1], h2, h3, h4, h5⟩, if_pos hf]
theorem bands_f {ps L : List Nat} {es : List Int} (h0 : ps.length ≤ 64) (h1 : allGe0 ps = true) (h2 : 2 ≤ es.length) (h3 : es.length ≤ 64) (h4 : srtI es = true) (h5 : inW es 0 ((ps.length : Nat) : Int) = true) (hL : L = bandL ps es (es.length - 1)) (hf : allFin L = false) : bandsF ps es = ([], false) := by
  subst hL; unfold bandsF; rw [if_pos ⟨by simp [h0, h1], h2, h3, h4, h5⟩, if_neg (by rw [hf]; decide)]
theorem bands_n1 {ps : List Nat} {es : List Int} (h1 : allGe0 ps = false) : bandsF ps es = ([], false) := by
  unfold bandsF; rw [if_neg (by rw [h1]; simp)]
theorem bands_n2 {ps : List Nat} {es : List Int} (h1 : ¬ (ps.length ≤ 64 ∧ 2 ≤ es.length ∧ es.length ≤ 64)) : bandsF ps es = ([], false) := by
  unfold bandsF; rw [if_neg]
  rintro ⟨a, b, c, _⟩
  simp at a
  exact h1 ⟨a.1, b, c⟩
theorem bands_n3 {ps : List Nat} {es : List Int} (h1 : srtI es = false) : bandsF ps es = ([], false) := by
  unfold bandsF; rw [if_neg (by rw [h1]; simp)]
theorem bands_n4 {ps : List Nat} {es : List Int} (h1 : inW es 0 ((ps.length : Nat) : Int) = false) : bandsF ps es = ([], false) := by
  unfold bandsF; rw [if_neg (by rw [h1]; simp)]
theorem bands_n5 {ps : List Nat} {es : List Int} (h1 : edgeB es ((ps.length : Nat) : Int) = false) : bandsF ps es = ([], false) := by
  rw [edge_eq, Bool.and_eq_false_iff] at h1
  rcases h1 with h | h
  · exact bands_n3 h
  · exact bands_n4 h
end Go.Sim
