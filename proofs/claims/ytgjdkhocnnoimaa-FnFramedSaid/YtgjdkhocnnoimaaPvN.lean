/- Sums and crossings of small whole numbers. Conditions: none. -/
import Derived.Test.YtgjdkhocnnoimaaPvM
import Derived.Test.YtgjdkhocnnoimaaPu5
namespace Go.Sim
open Go

theorem getD_cvI (vs : List Int) (k : Nat) : (vs.map cvI).getD k 0 = cvI (vs.getD k 0) := by
  rcases Nat.lt_or_ge k vs.length with h | h
  · simp [h]
  · have e1 : (vs.map cvI).getD k 0 = 0 := by simp [h]
    have e2 : vs.getD k 0 = 0 := by simp [h]
    rw [e1, e2, cvI_zero]

def small8 (vs : List Int) : Prop := ∀ v ∈ vs, v ≠ 0 ∧ v.natAbs ≤ 8

theorem small8_at {vs : List Int} (h : small8 vs) {k : Nat} (hk : k < vs.length) : vs.getD k 0 ≠ 0 ∧ (vs.getD k 0).natAbs ≤ 8 := by
  have : vs.getD k 0 = vs[k] := by simp [hk]
  rw [this]; exact h _ (List.getElem_mem hk)

def dotI (vs : List Int) (k : Nat) : Nat → Int
  | 0 => 0
  | j + 1 => dotI vs k j + vs.getD j 0 * vs.getD (k + j) 0

theorem mul_small {a b : Int} (ha : a.natAbs ≤ 8) (hb : b.natAbs ≤ 8) : (a * b).natAbs ≤ 64 := by
  rw [Int.natAbs_mul]; exact Nat.mul_le_mul ha hb

theorem dotI_abs {vs : List Int} (h : small8 vs) {k : Nat} : ∀ j, k + j ≤ vs.length → (dotI vs k j).natAbs ≤ 64 * j := by
  intro j
  induction j with
  | zero => intro _; simp [dotI]
  | succ j ih =>
    intro hj
    have h1 := ih (by omega)
    have h2 := mul_small (small8_at h (k := j) (by omega)).2 (small8_at h (k := k + j) (by omega)).2
    simp only [dotI]
    omega

theorem selfAcc_int {vs : List Int} (h : small8 vs) (hl : vs.length ≤ 256) (k : Nat) : ∀ j, k + j ≤ vs.length → selfAcc (vs.map cvI) k 0 j = cvI (dotI vs k j) := by
  intro j
  induction j with
  | zero => intro _; exact cvI_zero.symm
  | succ j ih =>
    intro hj
    have a := small8_at h (k := j) (by omega)
    have b := small8_at h (k := k + j) (by omega)
    have d := dotI_abs h (k := k) j (by omega)
    have d2 := dotI_abs h (k := k) (j + 1) hj
    have m := mul_small a.2 b.2
    simp only [selfAcc, dotI, ih (by omega)]
    rw [getD_cvI, getD_cvI, cvI_mul (by omega) (by omega) (by omega) (Int.mul_ne_zero a.1 b.1)]
    simp only [dotI] at d2
    exact cvI_add (by omega) (by omega) (by omega)

def negL (vs : List Int) : List Int := vs.map (fun v => -v)

theorem negL_getD (vs : List Int) (k : Nat) : (negL vs).getD k 0 = - vs.getD k 0 := by
  unfold negL
  rcases Nat.lt_or_ge k vs.length with h | h
  · simp [h]
  · simp [h]

theorem negL_small {vs : List Int} (h : small8 vs) : small8 (negL vs) := by
  intro v hv
  simp only [negL, List.mem_map] at hv
  obtain ⟨u, hu, rfl⟩ := hv
  have := h u hu
  exact ⟨by omega, by omega⟩

theorem dotI_neg (vs : List Int) (k : Nat) : ∀ j, dotI (negL vs) k j = dotI vs k j := by
  intro j
  induction j with
  | zero => rfl
  | succ j ih => simp only [dotI, ih, negL_getD, Int.neg_mul_neg]

theorem selfL_int {vs : List Int} (h : small8 vs) (hl : vs.length ≤ 256) (n : Nat) (hn : n ≤ vs.length) : selfL (vs.map cvI) n = (List.range n).map fun k => cvI (dotI vs k (vs.length - k)) := by
  unfold selfL
  refine List.map_congr_left fun k hk => ?_
  have hk := List.mem_range.1 hk
  rw [List.length_map]
  exact selfAcc_int h hl k _ (by omega)

theorem selfL_neg {vs : List Int} (h : small8 vs) (hl : vs.length ≤ 256) (n : Nat) (hn : n ≤ vs.length) : selfL ((negL vs).map cvI) n = selfL (vs.map cvI) n := by
  have e : (negL vs).length = vs.length := by simp [negL]
  rw [selfL_int h hl n hn, selfL_int (negL_small h) (by omega) n (by omega), e]
  exact List.map_congr_left fun k _ => by rw [dotI_neg]

theorem isSnd_int {vs : List Int} (h : small8 vs) (hl : vs.length ≤ 256) : isSnd (vs.map cvI) = true := by
  simp only [isSnd, Bool.and_eq_true, decide_eq_true_eq, List.length_map]
  refine ⟨hl, allBelow_true.2 fun k hk => ?_⟩
  rw [getD_cvI]
  exact cvI_fin (by have := small8_at h (k := k) (by simpa using hk); omega)

theorem allFin_selfL {vs : List Int} (h : small8 vs) (hl : vs.length ≤ 256) (n : Nat) (hn : n ≤ vs.length) : allFin (selfL (vs.map cvI) n) = true := by
  rw [selfL_int h hl n hn]
  refine allBelow_true.2 fun k hk => ?_
  have hk : k < n := by simpa using hk
  have : ((List.range n).map fun k => cvI (dotI vs k (vs.length - k))).getD k 0 = cvI (dotI vs k (vs.length - k)) := by simp [hk]
  rw [this]
  exact cvI_fin (by have := dotI_abs h (k := k) (vs.length - k) (by omega); omega)

theorem sameW_self (xs : List Nat) : sameW xs xs = true := by
  simp only [sameW, beq_self_eq_true, Bool.true_and]
  exact allBelow_true.2 fun k _ => by simp [sameN]

def crI (vs : List Int) : Nat → Int
  | 0 => 0
  | k + 1 => crI vs k + (if decide (0 < vs.getD (1 + k) 0) = decide (0 < vs.getD k 0) then 0 else 1)

theorem dneg {x : Int} (h : x ≠ 0) : decide (0 < -x) = !decide (0 < x) := by
  by_cases h1 : 0 < x
  · rw [decide_eq_true h1, decide_eq_false (by omega)]; rfl
  · rw [decide_eq_false h1, decide_eq_true (by omega)]; rfl

theorem crI_neg {vs : List Int} (h : small8 vs) : ∀ k, k + 1 ≤ vs.length → crI (negL vs) k = crI vs k := by
  intro k
  induction k with
  | zero => intro _; rfl
  | succ k ih =>
    intro hk
    have a := (small8_at h (k := k) (by omega)).1
    have b := (small8_at h (k := 1 + k) (by omega)).1
    simp only [crI, ih (by omega), negL_getD]
    generalize vs.getD k 0 = x at *
    generalize vs.getD (1 + k) 0 = y at *
    congr 1
    rw [dneg a, dneg b]
    cases decide (0 < x) <;> cases decide (0 < y) <;> rfl

theorem ge0_int {v : Int} (h0 : v ≠ 0) (h8 : v.natAbs ≤ 8) : fcmp .geq .f32 (cvI v) 0 = decide (0 < v) := by
  rw [← cvI_zero, cvI_ge (by omega) (by omega)]
  by_cases h : 0 < v
  · rw [decide_eq_true h, decide_eq_true (by omega)]
  · rw [decide_eq_false h, decide_eq_false (by omega)]
theorem gt0_int {v : Int} (h8 : v.natAbs ≤ 8) : fcmp .gtr .f32 (cvI v) 0 = decide (0 < v) := by
  rw [← cvI_zero, cvI_gt (by omega) (by omega)]

/-- The crossings as the program counts them. -/
theorem cross_impl {vs : List Int} (h : small8 vs) (S : Nat → Int) (h0 : S 0 = 0) (hs : ∀ k, S (k + 1) = (if (fcmp .geq .f32 (List.getD (vs.map cvI) (1 + k) 0) 0) then (if (fcmp .geq .f32 (List.getD (vs.map cvI) k 0) 0) then S k else (S k + (1 : Int))) else (if (fcmp .geq .f32 (List.getD (vs.map cvI) k 0) 0) then (S k + (1 : Int)) else S k))) :
    ∀ k, k + 1 ≤ vs.length → S k = crI vs k := by
  intro k
  induction k with
  | zero => intro _; exact h0
  | succ k ih =>
    intro hk
    have a := small8_at h (k := k) (by omega)
    have b := small8_at h (k := 1 + k) (by omega)
    rw [hs, getD_cvI, getD_cvI, ge0_int a.1 a.2, ge0_int b.1 b.2, ih (by omega)]
    simp only [crI]
    by_cases h1 : 0 < vs.getD k 0 <;> by_cases h2 : 0 < vs.getD (1 + k) 0 <;> simp [-List.getD_eq_getElem?_getD, h1, h2]

theorem mul4 {k : Nat} {p : Int} (hk : k < 4) (h1 : 3 ≤ p) (h2 : p ≤ 10) : 0 ≤ ((k : Nat) : Int) * p ∧ ((k : Nat) : Int) * p ≤ 3 * p := by
  rcases (by omega : k = 0 ∨ k = 1 ∨ k = 2 ∨ k = 3) with rfl | rfl | rfl | rfl <;> omega

end Go.Sim
