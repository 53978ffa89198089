/- How far rounded numbers and sums of them are from the exact ones. Conditions: none. -/
import Derived.Test.YtgjdkhocnnoimaaPvD
namespace Go.Sim
open Go

/-- At most 'e' apart. -/
def nr (e x y : Rat) : Prop := x - y ≤ e ∧ y - x ≤ e

theorem nr.trans {e f x y z : Rat} (h : nr e x y) (g : nr f y z) : nr (e + f) x z := by
  obtain ⟨a, b⟩ := h; obtain ⟨c, d⟩ := g
  exact ⟨by grind, by grind⟩
theorem nr.mono {e f x y : Rat} (h : nr e x y) (g : e ≤ f) : nr f x y := by
  obtain ⟨a, b⟩ := h
  exact ⟨by grind, by grind⟩
theorem nr.add {e f x y z w : Rat} (h : nr e x y) (g : nr f z w) : nr (e + f) (x + z) (y + w) := by
  obtain ⟨a, b⟩ := h; obtain ⟨c, d⟩ := g
  exact ⟨by grind, by grind⟩
theorem nr.self (x : Rat) : nr 0 x x := ⟨by grind, by grind⟩

def un (k : FloatKind) : Rat := 2 ^ (-(k.format.fractionBits : Int))

theorem un32 : un .f32 = 1 / 8388608 := by decide +kernel
theorem un64 : un .f64 = 1 / 4503599627370496 := by decide +kernel
theorem un_pos (k : FloatKind) : 0 < un k := zp_pos _

theorem least_le (k : FloatKind) : (2 : Rat) ^ k.format.leastPlace ≤ un k := zp_le (by cases k <;> decide)

/-- A rounded number is near. -/
theorem Rd.nearB {k : FloatKind} {q : Rat} {z : Nat} (h : Rd k q z) (hz : isFl k z) {B : Rat} (hB : 1 ≤ B) (h1 : q ≤ B) (h2 : -B ≤ q) : nr (B * un k) (fv k z) q := by
  obtain ⟨s, r, a, rfl, ha, hq, hr, hup, hlo, he⟩ := h
  have hr' : r < k.format.infRung := by
    have := read_fin hz
    rw [(word_mod k.format s hr).1] at this; exact this
  rw [(word_fin hr').2]
  obtain ⟨e, e1, e2, e3⟩ := he hr'
  have haB : a ≤ B := by rcases sg_cases s with ⟨_, h'⟩ | ⟨_, h'⟩ <;> rw [h'] at hq <;> grind
  have hu := un_pos k
  have key : (2 : Rat) ^ e ≤ B * un k := by
    rcases e3 with e3 | e3
    · subst e3
      have := least_le k
      have h3 := Rat.mul_le_mul_of_nonneg_right hB (show 0 ≤ un k by grind)
      grind
    · have h3 : (2 : Rat) ^ (e + (k.format.fractionBits : Int)) ≤ B := by grind
      have h4 := Rat.mul_le_mul_of_nonneg_right h3 (show 0 ≤ un k by grind)
      have h5 : (2 : Rat) ^ (e + (k.format.fractionBits : Int)) * un k = 2 ^ e := by
        unfold un
        rw [← zp_add]; congr 1; omega
      rw [h5] at h4; exact h4
  rcases sg_cases s with ⟨_, h'⟩ | ⟨_, h'⟩ <;> rw [h'] at hq ⊢ <;> exact ⟨by grind, by grind⟩

theorem big32 : isFl .f32 1333788672 ∧ fv .f32 1333788672 = 4294967296 := ⟨finB_fl (by decide +kernel), by decide +kernel⟩
theorem big64' : isFl .f64 4751297606875873280 ∧ fv .f64 4751297606875873280 = 4294967296 := ⟨finB_fl (by decide +kernel), by decide +kernel⟩

theorem rnd32 {q : Rat} {z : Nat} (h : Rd .f32 q z) {B : Rat} (hB : 1 ≤ B) (hB2 : B ≤ 4294967296) (h1 : q ≤ B) (h2 : -B ≤ q) : isFl .f32 z ∧ nr (B * (1 / 8388608)) (fv .f32 z) q := by
  have hz := h.fin big32.1 (by rw [big32.2]; grind) (by rw [big32.2]; grind)
  have := h.nearB hz hB h1 h2
  rw [un32] at this
  exact ⟨hz, this⟩
theorem rnd64 {q : Rat} {z : Nat} (h : Rd .f64 q z) {B : Rat} (hB : 1 ≤ B) (hB2 : B ≤ 4294967296) (h1 : q ≤ B) (h2 : -B ≤ q) : isFl .f64 z ∧ nr (B * (1 / 4503599627370496)) (fv .f64 z) q := by
  have hz := h.fin big64'.1 (by rw [big64'.2]; grind) (by rw [big64'.2]; grind)
  have := h.nearB hz hB h1 h2
  rw [un64] at this
  exact ⟨hz, this⟩

/-! ### Sums -/

def sumR (t : Nat → Rat) : Nat → Rat
  | 0 => 0
  | j + 1 => sumR t j + t j

theorem sumR_congr {s t : Nat → Rat} : ∀ n, (∀ j, j < n → s j = t j) → sumR s n = sumR t n
  | 0, _ => rfl
  | n + 1, h => by rw [sumR, sumR, sumR_congr n fun j hj => h j (by omega), h n (by omega)]
theorem sumR_add (s t : Nat → Rat) : ∀ n, sumR (fun j => s j + t j) n = sumR s n + sumR t n
  | 0 => by simp only [sumR]; grind
  | n + 1 => by rw [sumR, sumR, sumR, sumR_add s t n]; grind
theorem sumR_mul (c : Rat) (t : Nat → Rat) : ∀ n, sumR (fun j => c * t j) n = c * sumR t n
  | 0 => by simp only [sumR]; grind
  | n + 1 => by rw [sumR, sumR, sumR_mul c t n]; grind
theorem sumR_swap (f : Nat → Nat → Rat) (n : Nat) : ∀ m, sumR (fun i => sumR (fun j => f i j) n) m = sumR (fun j => sumR (fun i => f i j) m) n
  | 0 => by
    simp only [sumR]
    induction n with
    | zero => rfl
    | succ n ih => rw [sumR, ← ih]; grind
  | m + 1 => by
    rw [sumR, sumR_swap f n m, ← sumR_add]; rfl
theorem sumR_le {s t : Nat → Rat} : ∀ n, (∀ j, j < n → s j ≤ t j) → sumR s n ≤ sumR t n
  | 0, _ => by simp only [sumR]; exact Rat.le_refl
  | n + 1, h => by
    have := sumR_le n fun j hj => h j (by omega)
    have := h n (by omega)
    rw [sumR, sumR]; grind
theorem sumR_const (c : Rat) : ∀ n, sumR (fun _ => c) n = (n : Rat) * c
  | 0 => by simp [sumR]
  | n + 1 => by
    rw [sumR, sumR_const c n]
    have : ((n + 1 : Nat) : Rat) = (n : Rat) + 1 := by simp
    rw [this]; grind
theorem sumR_nr {e : Nat → Rat} {s t : Nat → Rat} : ∀ n, (∀ j, j < n → nr (e j) (s j) (t j)) → nr (sumR e n) (sumR s n) (sumR t n)
  | 0, _ => nr.self _
  | n + 1, h => (sumR_nr n fun j hj => h j (by omega)).add (h n (by omega))

theorem natR_succ (n : Nat) : ((n + 1 : Nat) : Rat) = (n : Rat) + 1 := by simp
theorem natR_le {a b : Nat} (h : a ≤ b) : (a : Rat) ≤ (b : Rat) := Rat.natCast_le_natCast.2 h
theorem natR_nonneg (a : Nat) : (0 : Rat) ≤ (a : Rat) := Rat.natCast_nonneg

/-- Each step of a float sum is 'c' off at most. -/
theorem fsum {k : FloatKind} {U : Rat} (hU : ∀ {q : Rat} {z : Nat}, Rd k q z → ∀ {B : Rat}, 1 ≤ B → B ≤ 4294967296 → q ≤ B → -B ≤ q → isFl k z ∧ nr (B * U) (fv k z) q)
    {f : Nat → Nat} {t : Nat → Rat} (S : Nat → Nat) (h0 : S 0 = 0) (hs : ∀ j, S (j + 1) = fop .add k (S j) (f j)) {n : Nat} {e M B : Rat}
    (hf : ∀ j, j < n → isFl k (f j) ∧ nr e (fv k (f j)) (t j)) (hM : ∀ j, j ≤ n → sumR t j ≤ M ∧ -M ≤ sumR t j) (hU0 : 0 ≤ U) (he : 0 ≤ e) (hB1 : 1 ≤ B) (hB2 : B ≤ 4294967296) (hB : M + (n : Rat) * (e + B * U) ≤ B) :
    ∀ j, j ≤ n → isFl k (S j) ∧ nr ((j : Rat) * (e + B * U)) (fv k (S j)) (sumR t j) := by
  intro j
  induction j with
  | zero => intro _; rw [h0]; exact ⟨(zero_fl k).1, by rw [(zero_fl k).2, show ((0 : Nat) : Rat) = 0 from rfl]; simp only [sumR]; exact ⟨by grind, by grind⟩⟩
  | succ j ih =>
    intro hj
    obtain ⟨i1, i2⟩ := ih (by omega)
    obtain ⟨f1, f2⟩ := hf j (by omega)
    have hBU : 0 ≤ B * U := Rat.mul_nonneg (by grind) hU0
    have hc : 0 ≤ e + B * U := by grind
    have hjn : ((j + 1 : Nat) : Rat) * (e + B * U) ≤ (n : Rat) * (e + B * U) := Rat.mul_le_mul_of_nonneg_right (natR_le hj) hc
    have hj1 : ((j + 1 : Nat) : Rat) * (e + B * U) = (j : Rat) * (e + B * U) + (e + B * U) := by rw [natR_succ]; grind
    have hsum := i2.add f2
    have hm := hM (j + 1) hj
    rw [sumR] at hm
    generalize (j : Rat) * (e + B * U) = E at *
    generalize ((j + 1 : Nat) : Rat) * (e + B * U) = E1 at *
    generalize (n : Rat) * (e + B * U) = En at *
    generalize hBUg : B * U = V at *
    obtain ⟨p1, p2⟩ := hsum
    have hr := hU (add_Rd i1 f1) hB1 hB2 (by grind) (by grind)
    rw [hs, sumR]
    refine ⟨hr.1, ?_⟩
    obtain ⟨r1, r2⟩ := hr.2
    rw [hBUg] at r1 r2
    exact ⟨by grind, by grind⟩

end Go.Sim
