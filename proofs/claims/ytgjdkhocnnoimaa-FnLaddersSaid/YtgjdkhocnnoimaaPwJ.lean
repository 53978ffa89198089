/- More of one step of the solving of lags: energies fall, rungs stay below 1, steps are bounded by binomials; ladders as lattices. Conditions: none. -/
import Derived.Test.YtgjdkhocnnoimaaPvX
import Derived.Test.YtgjdkhocnnoimaaPu9
import Derived.Test.YtgjdkhocnnoimaaPvQ

section
namespace Go.Sim
open Go

def sh (x : Nat → Rat) (i n : Nat) : Rat := if i ≤ n then x (n - i) else 0
def lagR (x : Nat → Rat) (k : Nat) : Rat := sumR (fun n => x n * sh x k n) 12
def ab (i j : Nat) : Nat := (i - j) + (j - i)
def nrm (x : Nat → Rat) (a : Nat → Rat) (m i : Nat) : Rat := lagR x i - sumR (fun k => a k * lagR x (ab i (k + 1))) m
def resR (x a : Nat → Rat) (m n : Nat) : Rat := x n - sumR (fun k => a k * sh x (k + 1) n) m
def enJ (x a : Nat → Rat) (m : Nat) : Rat := sumR (fun n => resR x a m n * resR x a m n) 24
def upR (a : Nat → Rat) (r : Rat) (m k : Nat) : Rat := if k < m then a k - r * a (m - 1 - k) else r

theorem sumR_head (f : Nat → Rat) : ∀ n, sumR f (n + 1) = f 0 + sumR (fun k => f (k + 1)) n
  | 0 => by simp only [sumR]; grind
  | n + 1 => by rw [sumR, sumR_head f n, sumR]; grind
theorem sumR_rev (f : Nat → Rat) : ∀ n, sumR (fun k => f (n - 1 - k)) n = sumR f n
  | 0 => rfl
  | n + 1 => by
    rw [sumR_head, sumR, show n + 1 - 1 - 0 = n by omega, ← sumR_rev f n, sumR_congr (s := fun k => f (n + 1 - 1 - (k + 1))) (t := fun k => f (n - 1 - k)) n (fun k hk => by rw [show n + 1 - 1 - (k + 1) = n - 1 - k by omega])]
    grind
theorem sumR_sub (s t : Nat → Rat) (n : Nat) : sumR (fun j => s j - t j) n = sumR s n - sumR t n := by
  have h := sumR_add s (fun j => -1 * t j) n
  rw [sumR_mul] at h
  rw [sumR_congr (t := fun j => s j + -1 * t j) n (fun j _ => by grind), h]; grind
theorem sumR_zero {f : Nat → Rat} (n : Nat) (h : ∀ j, j < n → f j = 0) : sumR f n = 0 := by
  rw [sumR_congr (t := fun _ => 0) n h, sumR_const]; grind
theorem sumR_nonneg {f : Nat → Rat} (n : Nat) (h : ∀ j, j < n → 0 ≤ f j) : 0 ≤ sumR f n := by
  have := sumR_le (s := fun _ => 0) (t := f) n h
  rw [sumR_const] at this; grind
theorem sumR_split (f : Nat → Rat) (n : Nat) : ∀ m, sumR f (n + m) = sumR f n + sumR (fun k => f (n + k)) m
  | 0 => by simp only [sumR, Nat.add_zero]; grind
  | m + 1 => by rw [← Nat.add_assoc, sumR, sumR_split f n m, sumR]; grind

theorem nrm_up (x a : Nat → Rat) (r : Rat) (m i : Nat) (hi : i ≤ m + 1) : nrm x (upR a r m) (m + 1) i = nrm x a m i - r * nrm x a m (m + 1 - i) := by
  unfold nrm
  rw [sumR]
  have h1 : sumR (fun k => upR a r m k * lagR x (ab i (k + 1))) m = sumR (fun k => a k * lagR x (ab i (k + 1))) m - r * sumR (fun k => a k * lagR x (ab (m + 1 - i) (k + 1))) m := by
    rw [← sumR_rev (fun k => a k * lagR x (ab (m + 1 - i) (k + 1))) m, ← sumR_mul, ← sumR_sub]
    refine sumR_congr m fun k hk => ?_
    unfold upR
    rw [if_pos hk, show ab (m + 1 - i) (m - 1 - k + 1) = ab i (k + 1) by unfold ab; omega]
    grind
  have h2 : upR a r m m = r := by unfold upR; rw [if_neg (by omega)]
  rw [h1, h2, show ab i (m + 1) = m + 1 - i by unfold ab; omega]
  grind

theorem nrm_add (x a d : Nat → Rat) (m i : Nat) : nrm x (fun k => a k + d k) m i = nrm x a m i - sumR (fun k => d k * lagR x (ab i (k + 1))) m := by
  unfold nrm
  rw [sumR_congr (t := fun k => a k * lagR x (ab i (k + 1)) + d k * lagR x (ab i (k + 1))) m (fun k _ => by grind), sumR_add]
  grind

theorem nrm_congr (x : Nat → Rat) {a b : Nat → Rat} {m : Nat} (h : ∀ k, k < m → a k = b k) (i : Nat) : nrm x a m i = nrm x b m i := by
  unfold nrm; rw [sumR_congr (t := fun k => b k * lagR x (ab i (k + 1))) m (fun k hk => by rw [h k hk])]

section
variable {x : Nat → Rat} (hx : ∀ n, 12 ≤ n → x n = 0)
include hx

theorem sh_ip0 (d : Nat) : ∀ i L, 12 + i ≤ L → sumR (fun n => sh x i n * sh x (i + d) n) L = lagR x d
  | 0, L, h => by
    obtain ⟨e, rfl⟩ : ∃ e, L = 12 + e := ⟨L - 12, by omega⟩
    rw [sumR_split, sumR_zero (f := fun k => sh x 0 (12 + k) * sh x (0 + d) (12 + k)) e (fun j _ => by
      have : sh x 0 (12 + j) = 0 := by unfold sh; rw [if_pos (by omega)]; exact hx _ (by omega)
      rw [this]; grind)]
    unfold lagR
    rw [sumR_congr (t := fun n => x n * sh x d n) 12 (fun n _ => by
      have : sh x 0 n = x n := by unfold sh; rw [if_pos (by omega)]; rfl
      rw [this, Nat.zero_add])]
    grind
  | i + 1, L, h => by
    obtain ⟨L, rfl⟩ : ∃ e, L = e + 1 := ⟨L - 1, by omega⟩
    rw [sumR_head]
    have h0 : sh x (i + 1) 0 = 0 := by unfold sh; rw [if_neg (by omega)]
    have hs : ∀ j n, sh x (j + 1) (n + 1) = sh x j n := fun j n => by
      unfold sh
      rcases Nat.lt_or_ge n j with g | g
      · rw [if_neg (by omega), if_neg (by omega)]
      · rw [if_pos (by omega), if_pos (by omega), show n + 1 - (j + 1) = n - j by omega]
    rw [h0, sumR_congr (t := fun n => sh x i n * sh x (i + d) n) L (fun n _ => by rw [hs, show i + 1 + d = i + d + 1 by omega, hs]), sh_ip0 d i L (by omega)]
    grind

theorem sh_ip {i j : Nat} (hi : i ≤ 12) (hj : j ≤ 12) : sumR (fun n => sh x i n * sh x j n) 24 = lagR x (ab i j) := by
  rcases Nat.le_total i j with h | h
  · have := sh_ip0 hx (j - i) i 24 (by omega)
    rw [show i + (j - i) = j by omega] at this
    rw [this, show ab i j = j - i by unfold ab; omega]
  · have := sh_ip0 hx (i - j) j 24 (by omega)
    rw [show j + (i - j) = i by omega] at this
    rw [show ab i j = i - j by unfold ab; omega, ← this]
    exact sumR_congr 24 fun n _ => by grind

omit hx in
theorem ip_lin (y : Nat → Rat) (a : Nat → Rat) (m : Nat) : sumR (fun n => y n * sumR (fun k => a k * sh x (k + 1) n) m) 24 = sumR (fun k => a k * sumR (fun n => y n * sh x (k + 1) n) 24) m := by
  rw [sumR_congr (t := fun n => sumR (fun k => y n * (a k * sh x (k + 1) n)) m) 24 (fun n _ => by rw [sumR_mul]), sumR_swap]
  refine sumR_congr m fun k _ => ?_
  rw [← sumR_mul]
  exact sumR_congr 24 fun n _ => by grind

theorem en_nrm (a : Nat → Rat) {m : Nat} (hm : m ≤ 8) : enJ x a m = nrm x a m 0 - sumR (fun k => a k * nrm x a m (k + 1)) m := by
  have x0 : ∀ n, sh x 0 n = x n := fun n => by unfold sh; rw [if_pos (by omega)]; rfl
  have hS : ∀ j, j ≤ 12 → sumR (fun n => sh x j n * sumR (fun k => a k * sh x (k + 1) n) m) 24 = sumR (fun k => a k * lagR x (ab j (k + 1))) m := fun j hj => by
    rw [ip_lin]
    exact sumR_congr m fun k hk => by rw [sh_ip hx hj (by omega)]
  have h1 := hS 0 (by omega)
  have h0 := sh_ip hx (i := 0) (j := 0) (by omega) (by omega)
  have h2 : sumR (fun n => sumR (fun k => a k * sh x (k + 1) n) m * sumR (fun k => a k * sh x (k + 1) n) m) 24 = sumR (fun k => a k * sumR (fun l => a l * lagR x (ab (k + 1) (l + 1))) m) m := by
    rw [ip_lin]
    refine sumR_congr m fun k hk => ?_
    rw [sumR_congr (t := fun n => sh x (k + 1) n * sumR (fun k => a k * sh x (k + 1) n) m) 24 (fun n _ => by grind), hS (k + 1) (by omega)]
  have hn : sumR (fun k => a k * nrm x a m (k + 1)) m = sumR (fun k => a k * lagR x (k + 1)) m - sumR (fun k => a k * sumR (fun l => a l * lagR x (ab (k + 1) (l + 1))) m) m := by
    rw [← sumR_sub]
    exact sumR_congr m fun k _ => by unfold nrm; grind
  unfold enJ resR
  rw [sumR_congr (t := fun n => (sh x 0 n * sh x 0 n - 2 * (sh x 0 n * sumR (fun k => a k * sh x (k + 1) n) m)) + sumR (fun k => a k * sh x (k + 1) n) m * sumR (fun k => a k * sh x (k + 1) n) m) 24 (fun n _ => by rw [x0]; grind), sumR_add, sumR_sub, sumR_mul, h0, h1, h2, hn]
  have e0 : ab 0 0 = 0 := rfl
  have e1 : sumR (fun k => a k * lagR x (ab 0 (k + 1))) m = sumR (fun k => a k * lagR x (k + 1)) m := sumR_congr m fun k _ => by rw [show ab 0 (k + 1) = k + 1 by unfold ab; omega]
  unfold nrm
  rw [e0, e1]
  grind

omit hx in
theorem en_ge (a : Nat → Rat) (m : Nat) : x 0 * x 0 ≤ enJ x a m := by
  unfold enJ
  rw [sumR_head (fun n => resR x a m n * resR x a m n) 23]
  have h0 : resR x a m 0 = x 0 := by
    unfold resR
    rw [sumR_zero m fun k _ => by
      have : sh x (k + 1) 0 = 0 := by unfold sh; rw [if_neg (by omega)]
      rw [this]; grind]
    grind
  have := sumR_nonneg (f := fun k => resR x a m (k + 1) * resR x a m (k + 1)) 23 fun j _ => sq_nonneg _
  rw [h0]; grind

end

/-! ### Steps of a predictor, nearly solved -/

theorem sumR_small {t : Nat → Rat} {e : Rat} (m : Nat) (h : ∀ k, k < m → nr e (t k) 0) : nr ((m : Rat) * e) (sumR t m) 0 := by
  have := sumR_nr (e := fun _ => e) (s := t) (t := fun _ => 0) m h
  rw [sumR_const, sumR_const] at this
  exact ⟨by have := this.1; grind, by have := this.2; grind⟩

theorem nr_prod {a M e b : Rat} (h1 : a ≤ M) (h2 : -M ≤ a) (h : nr e b 0) : nr (M * e) (a * b) 0 := by
  have := mul_bd h1 h2 (b := b) (B := e) (by have := h.1; grind) (by have := h.2; grind)
  exact ⟨by grind, by grind⟩

structure Lev (x a : Nat → Rat) (m : Nat) (e M h : Rat) : Prop where
  b : ∀ k, k < m → a k ≤ M ∧ -M ≤ a k
  n : ∀ i, i < m → nr h (nrm x a m (i + 1)) 0
  o : nr h (nrm x a m 0) e

section
variable {x : Nat → Rat} (hx : ∀ n, 12 ≤ n → x n = 0)
include hx

/-- The energy of what a solved predictor leaves. -/
theorem lev_en {a : Nat → Rat} {m : Nat} {e M h : Rat} (L : Lev x a m e M h) (hm : m ≤ 8) : nr ((m : Rat) * (M * h) + h) (enJ x a m) e := by
  have := sumR_small m fun k hk => nr_prod (L.b k hk).1 (L.b k hk).2 (L.n k hk)
  rw [en_nrm hx a hm]
  obtain ⟨p1, p2⟩ := this
  obtain ⟨q1, q2⟩ := L.o
  exact ⟨by grind, by grind⟩

theorem lev_cross1 {a : Nat → Rat} {m : Nat} {e M h : Rat} (L : Lev x a m e M h) (hm : m ≤ 7) {r : Rat} (hr : r = 1 ∨ r = -1) (_hM : 0 ≤ M) (_hh : 0 ≤ h) :
    x 0 * x 0 ≤ 2 * (e - r * nrm x a m (m + 1)) + (m : Rat) * (2 * M * (2 * h)) + 2 * h := by
  have J := en_nrm hx (upR a r m) (m := m + 1) (by omega)
  have G := en_ge (x := x) (upR a r m) (m + 1)
  rw [J, sumR] at G
  have r1 : r ≤ 1 := by grind
  have r2 : -1 ≤ r := by grind
  have key : nr ((m : Rat) * (2 * M * (2 * h))) (sumR (fun k => upR a r m k * nrm x (upR a r m) (m + 1) (k + 1)) m) 0 := by
    refine sumR_small m fun k hk => ?_
    have hu : upR a r m k = a k - r * a (m - 1 - k) := by unfold upR; rw [if_pos hk]
    have hb := L.b k hk
    have hb' := L.b (m - 1 - k) (by omega)
    have hp := mul_bd r1 (show -(1 : Rat) ≤ r by grind) hb'.1 hb'.2
    have hn := nrm_up x a r m (k + 1) (by omega)
    rw [show m + 1 - (k + 1) = m - 1 - k + 1 by omega] at hn
    have n1 := L.n k hk
    have n2 := nr_prod (M := 1) r1 (by grind) (L.n (m - 1 - k) (by omega))
    refine nr_prod (by rw [hu]; grind) (by rw [hu]; grind) ?_
    rw [hn]
    obtain ⟨c1, c2⟩ := n1; obtain ⟨d1, d2⟩ := n2
    exact ⟨by grind, by grind⟩
  have hl : upR a r m m = r := by unfold upR; rw [if_neg (by omega)]
  rw [hl, nrm_up x a r m 0 (by omega), nrm_up x a r m (m + 1) (by omega), show m + 1 - (m + 1) = 0 by omega, show m + 1 - 0 = m + 1 by omega] at G
  obtain ⟨k1, k2⟩ := key
  obtain ⟨o1, o2⟩ := L.o
  rcases hr with rfl | rfl <;> grind
end

end Go.Sim
end

section
namespace Go.Sim
open Go

theorem nr_abs {e x : Rat} (h : nr e x 0) : x ≤ e ∧ -e ≤ x := ⟨by have := h.1; grind, by have := h.2; grind⟩

theorem nr_mulC {a A e x y : Rat} (h : nr e x y) (h1 : a ≤ A) (h2 : -A ≤ a) : nr (A * e) (a * x) (a * y) := by
  have := mul_bd h1 h2 (b := x - y) (B := e) (by have := h.1; grind) (by have := h.2; grind)
  exact ⟨by grind, by grind⟩

/-- The float sum from which a rung is taken. -/
theorem lev_q {x : Nat → Rat} {L : Nat → Nat} {m : Nat} (hL : ∀ j, j ≤ m + 1 → isFl .f32 (L j) ∧ fv .f32 (L j) = lagR x j) (hR : ∀ j, lagR x j ≤ 64 ∧ -64 ≤ lagR x j) (hm : m ≤ 5)
    {st : Nat → Nat} (fs : ∀ k, k < m → isFl .f64 (st k)) (hb : ∀ k, k < m → fv .f64 (st k) ≤ 32 ∧ -32 ≤ fv .f64 (st k))
    (Q : Nat → Nat) (Q0 : Q 0 = fcv .f32 .f64 (L (1 + m))) (Qs : ∀ j, Q (j + 1) = fop .sub .f64 (Q j) (fop .mul .f64 (st j) (fcv .f32 .f64 (L (m - j))))) :
    isFl .f64 (Q m) ∧ nr (1 / 40000000000) (fv .f64 (Q m)) (nrm x (fun k => fv .f64 (st k)) m (m + 1)) := by
  have key : ∀ j, j ≤ m → isFl .f64 (Q j) ∧ nr ((j : Rat) * (18432 / 4503599627370496)) (fv .f64 (Q j)) (lagR x (m + 1) - sumR (fun k => fv .f64 (st k) * lagR x (ab (m + 1) (k + 1))) j) ∧
      sumR (fun k => fv .f64 (st k) * lagR x (ab (m + 1) (k + 1))) j ≤ (j : Rat) * 2048 ∧ -((j : Rat) * 2048) ≤ sumR (fun k => fv .f64 (st k) * lagR x (ab (m + 1) (k + 1))) j := by
    intro j
    induction j with
    | zero =>
      intro _
      obtain ⟨u1, u2⟩ := hL (1 + m) (by omega)
      obtain ⟨v1, v2⟩ := fcv_up u1
      have z : ((0 : Nat) : Rat) = 0 := rfl
      rw [Q0, z]
      refine ⟨v1, ?_, ?_, ?_⟩
      · rw [v2, u2, show 1 + m = m + 1 by omega]; simp only [sumR]; exact ⟨by grind, by grind⟩
      · simp only [sumR]; grind
      · simp only [sumR]; grind
    | succ j ih =>
      intro hj
      obtain ⟨i1, i2, i3, i4⟩ := ih (by omega)
      obtain ⟨u1, u2⟩ := hL (m - j) (by omega)
      obtain ⟨v1, v2⟩ := fcv_up u1
      have hab : ab (m + 1) (j + 1) = m - j := by unfold ab; omega
      have hj5 : (j : Rat) ≤ 4 := natR_le (b := 4) (by omega)
      have hj0 := natR_nonneg j
      have b1 := hb j (by omega)
      have b2 := hR (m - j)
      have b3 := hR (m + 1)
      have hp := mul_bd b1.1 b1.2 b2.1 b2.2
      have r1 := mul_Rd (fs j (by omega)) v1
      rw [v2, u2] at r1
      obtain ⟨p1, p2⟩ := rnd64 r1 (B := 2048) (by grind) (by grind) (by grind) (by grind)
      rw [Qs, natR_succ]
      simp only [sumR]
      rw [hab]
      generalize sumR (fun k => fv .f64 (st k) * lagR x (ab (m + 1) (k + 1))) j = S at *
      generalize fv .f64 (st j) * lagR x (m - j) = T at *
      obtain ⟨e1, e2⟩ := i2
      obtain ⟨f1, f2⟩ := p2
      have r2 := sub_Rd i1 p1
      obtain ⟨g1, g2, g3⟩ := rnd64 r2 (B := 16384) (by grind) (by grind) (by grind) (by grind)
      exact ⟨g1, ⟨by grind, by grind⟩, by grind, by grind⟩
  obtain ⟨k1, k2, _, _⟩ := key m (by omega)
  have hm5 : (m : Rat) ≤ 5 := natR_le (b := 5) hm
  have hm0 := natR_nonneg m
  unfold nrm
  exact ⟨k1, k2.mono (by grind)⟩

structure LevOk (x : Nat → Rat) (st : Nat → Nat) (m e : Nat) (E P : Rat) : Prop where
  fs : ∀ k, k < m → isFl .f64 (st k)
  fe : isFl .f64 e
  he : fv .f64 e ≤ E
  I : Lev x (fun k => fv .f64 (st k)) m (fv .f64 e) (P - 1 / 2) ((P - 1) * (1 / 10000000000))

section
variable {x : Nat → Rat} (hx : ∀ n, 12 ≤ n → x n = 0)
include hx

theorem lev_e {st : Nat → Nat} {m e : Nat} {E P : Rat} (I : LevOk x st m e E P) (h4 : 4 ≤ x 0 * x 0) (hm : m ≤ 6) (P1 : 1 ≤ P) (P2 : P ≤ 64) :
    3 ≤ fv .f64 e ∧ nr (1 / 100000) (enJ x (fun k => fv .f64 (st k)) m) (fv .f64 e) := by
  have h := lev_en hx I.I (by omega)
  have g := en_ge (x := x) (fun k => fv .f64 (st k)) m
  have hm6 : (m : Rat) ≤ 6 := natR_le (b := 6) hm
  have hm0 := natR_nonneg m
  have b1 := mul_bd (a := P - 1 / 2) (A := 64) (b := (P - 1) * (1 / 10000000000)) (B := 64 / 10000000000) (by grind) (by grind) (by grind) (by grind)
  have b2 := mul_bd (a := (m : Rat)) (A := 6) (by grind) (by grind) b1.1 b1.2
  have hh := h.mono (f := 1 / 100000) (by grind)
  have h1 := hh.1
  have h2 := hh.2
  exact ⟨by grind, hh⟩

theorem lev_step {L : Nat → Nat} {m : Nat} (hL : ∀ j, j ≤ m + 1 → isFl .f32 (L j) ∧ fv .f32 (L j) = lagR x j) (hR : ∀ j, lagR x j ≤ 64 ∧ -64 ≤ lagR x j) (h4 : 4 ≤ x 0 * x 0) (hm : m ≤ 5)
    {st : Nat → Nat} {e : Nat} {E P : Rat} (hE : E ≤ 64) (P1 : 1 ≤ P) (P2 : P ≤ 32) (I : LevOk x st m e E P)
    (Q : Nat → Nat) (Q0 : Q 0 = fcv .f32 .f64 (L (1 + m))) (Qs : ∀ j, Q (j + 1) = fop .sub .f64 (Q j) (fop .mul .f64 (st j) (fcv .f32 .f64 (L (m - j))))) {r e' : Nat} (hr : r = fop .quo .f64 (Q m) e)
    (he' : e' = fop .mul .f64 e (fop .sub .f64 4607182418800017408 (fop .mul .f64 r r))) {st' : Nat → Nat} (hs : ∀ k, k < m → st' k = fop .sub .f64 (st k) (fop .mul .f64 r (st (m - (k + 1))))) (hs' : st' m = r) :
    isFl .f64 (Q m) ∧ isFl .f64 r ∧ fv .f64 r ≤ 1 ∧ -1 ≤ fv .f64 r ∧ LevOk x st' (m + 1) e' E (2 * P) := by
  obtain ⟨e3, _⟩ := lev_e hx I h4 (by omega) P1 (by grind)
  have b32 : ∀ k, k < m → fv .f64 (st k) ≤ 32 ∧ -32 ≤ fv .f64 (st k) := fun k hk => by
    have := I.I.b k hk
    exact ⟨by grind, by grind⟩
  obtain ⟨q1, q2⟩ := lev_q hL hR hm I.fs b32 Q Q0 Qs
  have hm5 : (m : Rat) ≤ 5 := natR_le (b := 5) hm
  have hm0 := natR_nonneg m
  have cr : ∀ s : Rat, s = 1 ∨ s = -1 → s * nrm x (fun k => fv .f64 (st k)) m (m + 1) ≤ fv .f64 e - 19 / 10 := fun s h => by
    have c := lev_cross1 hx I.I (by omega) h (by grind) (by grind)
    have b1 := mul_bd (a := 2 * (P - 1 / 2)) (A := 64) (b := 2 * ((P - 1) * (1 / 10000000000))) (B := 64 / 10000000000) (by grind) (by grind) (by grind) (by grind)
    have b2 := mul_bd (a := (m : Rat)) (A := 5) (by grind) (by grind) b1.1 b1.2
    grind
  have c1 := cr 1 (.inl rfl)
  have c2 := cr (-1) (.inr rfl)
  have he64 := I.he
  -- the rung
  have hne : fv .f64 e ≠ 0 := by grind
  have rr := quo_Rd q1 I.fe hne
  have hdiv : fv .f64 (Q m) / fv .f64 e * fv .f64 e = fv .f64 (Q m) := Rat.div_mul_cancel hne
  have d1 : fv .f64 (Q m) / fv .f64 e ≤ 1 := by
    rw [Rat.div_def]
    refine (mul_div_le (show 0 < fv .f64 e by grind)).1 ?_
    have := q2.1
    grind
  have d2 : -1 ≤ fv .f64 (Q m) / fv .f64 e := by
    rw [Rat.div_def]
    refine (le_mul_div (show 0 < fv .f64 e by grind)).1 ?_
    have := q2.2
    grind
  obtain ⟨r1, r2⟩ := rnd64 rr (B := 1) (by grind) (by grind) d1 d2
  rw [← hr] at r1 r2
  have one : isFl .f64 4607182418800017408 ∧ fv .f64 4607182418800017408 = 1 := ⟨finB_fl (by decide +kernel), by decide +kernel⟩
  have mone : isFl .f64 13830554455654793216 ∧ fv .f64 13830554455654793216 = -1 := ⟨finB_fl (by decide +kernel), by decide +kernel⟩
  have rhi : fv .f64 r ≤ 1 := by
    have := (hr ▸ rr).hi r1 one.1 (by rw [one.2]; exact d1)
    rw [one.2] at this; exact this
  have rlo : -1 ≤ fv .f64 r := by
    have := (hr ▸ rr).lo r1 mone.1 (by rw [mone.2]; exact d2)
    rw [mone.2] at this; exact this
  have hre : nr (64 / 4503599627370496) (fv .f64 r * fv .f64 e) (fv .f64 (Q m)) := by
    have h := nr_mulC (a := fv .f64 e) (A := 64) r2 (by grind) (by grind)
    rw [show fv .f64 e * (fv .f64 (Q m) / fv .f64 e) = fv .f64 (Q m) by rw [Rat.mul_comm]; exact hdiv] at h
    exact ⟨by have := h.1; grind, by have := h.2; grind⟩
  -- the new energy
  have sq1 := mul_bd rhi rlo rhi rlo
  have sq0 := sq_nonneg (fv .f64 r)
  obtain ⟨w1, w2⟩ := rnd64 (mul_Rd r1 r1) (B := 1) (by grind) (by grind) (by grind) (by grind)
  have zf := zero_fl .f64
  have w0 : 0 ≤ fv .f64 (fop .mul .f64 r r) := by
    have := (mul_Rd r1 r1).lo w1 zf.1 (by rw [zf.2]; exact sq0)
    rw [zf.2] at this; exact this
  have w11 : fv .f64 (fop .mul .f64 r r) ≤ 1 := by
    have := (mul_Rd r1 r1).hi w1 one.1 (by rw [one.2]; grind)
    rw [one.2] at this; exact this
  have y0 := sub_Rd one.1 w1
  rw [one.2] at y0
  obtain ⟨y1, y2⟩ := rnd64 y0 (B := 1) (by grind) (by grind) (by grind) (by grind)
  have yhi : fv .f64 (fop .sub .f64 4607182418800017408 (fop .mul .f64 r r)) ≤ 1 := by
    have := y0.hi y1 one.1 (by rw [one.2]; grind)
    rw [one.2] at this; exact this
  have ylo : 0 ≤ fv .f64 (fop .sub .f64 4607182418800017408 (fop .mul .f64 r r)) := by
    have := y0.lo y1 zf.1 (by rw [zf.2]; grind)
    rw [zf.2] at this; exact this
  have z0 := mul_Rd I.fe y1
  rw [← he'] at z0
  have ze := mul_bd (a := fv .f64 e) (A := 64) (by grind) (by grind) (b := fv .f64 (fop .sub .f64 4607182418800017408 (fop .mul .f64 r r))) (B := 1) yhi (by grind)
  obtain ⟨z1, z2⟩ := rnd64 z0 (B := 64) (by grind) (by grind) (by grind) (by grind)
  have zhi : fv .f64 e' ≤ fv .f64 e := by
    refine z0.hi z1 I.fe ?_
    have := Rat.mul_le_mul_of_nonneg_left yhi (show 0 ≤ fv .f64 e by grind)
    grind
  have hyr : nr (2 / 4503599627370496) (fv .f64 (fop .sub .f64 4607182418800017408 (fop .mul .f64 r r))) (1 - fv .f64 r * fv .f64 r) := by
    obtain ⟨a1, a2⟩ := y2; obtain ⟨b1, b2⟩ := w2
    exact ⟨by grind, by grind⟩
  have hez : nr (192 / 4503599627370496) (fv .f64 e') (fv .f64 e * (1 - fv .f64 r * fv .f64 r)) := by
    have h := nr_mulC (a := fv .f64 e) (A := 64) hyr (by grind) (by grind)
    obtain ⟨a1, a2⟩ := h; obtain ⟨b1, b2⟩ := z2
    exact ⟨by grind, by grind⟩
  -- the new steps
  have hst : ∀ k, k < m → isFl .f64 (st' k) ∧ nr (96 / 4503599627370496) (fv .f64 (st' k)) (fv .f64 (st k) - fv .f64 r * fv .f64 (st (m - 1 - k))) ∧ fv .f64 (st' k) ≤ 2 * P - 1 / 2 ∧ -(2 * P - 1 / 2) ≤ fv .f64 (st' k) := fun k hk => by
    have ek : m - (k + 1) = m - 1 - k := by omega
    rw [hs k hk, ek]
    have bk := I.I.b k hk
    have bl := I.I.b (m - 1 - k) (by omega)
    have hp := mul_bd rhi (show -(1 : Rat) ≤ fv .f64 r by grind) bl.1 bl.2
    obtain ⟨a1, a2⟩ := rnd64 (mul_Rd r1 (I.fs (m - 1 - k) (by omega))) (B := 32) (by grind) (by grind) (by grind) (by grind)
    obtain ⟨a2, a3⟩ := a2
    obtain ⟨b1, b2, b3⟩ := rnd64 (sub_Rd (I.fs k hk) a1) (B := 64) (by grind) (by grind) (by grind) (by grind)
    exact ⟨b1, ⟨by grind, by grind⟩, by grind, by grind⟩
  have hd : ∀ i, nr (1 / 100000000000) (nrm x (fun k => fv .f64 (st' k)) (m + 1) i) (nrm x (upR (fun k => fv .f64 (st k)) (fv .f64 r) m) (m + 1) i) := fun i => by
    have e1 : nrm x (fun k => fv .f64 (st' k)) (m + 1) i = nrm x (fun k => upR (fun k => fv .f64 (st k)) (fv .f64 r) m k + (fv .f64 (st' k) - upR (fun k => fv .f64 (st k)) (fv .f64 r) m k)) (m + 1) i := nrm_congr x (fun k _ => by grind) i
    rw [e1, nrm_add]
    have hs : nr (((m + 1 : Nat) : Rat) * (96 / 4503599627370496 * 64)) (sumR (fun k => (fv .f64 (st' k) - upR (fun k => fv .f64 (st k)) (fv .f64 r) m k) * lagR x (ab i (k + 1))) (m + 1)) 0 := by
      refine sumR_small (m + 1) fun k hk => ?_
      have hk' : fv .f64 (st' k) - upR (fun k => fv .f64 (st k)) (fv .f64 r) m k ≤ 96 / 4503599627370496 ∧ -(96 / 4503599627370496) ≤ fv .f64 (st' k) - upR (fun k => fv .f64 (st k)) (fv .f64 r) m k := by
        unfold upR
        rcases Nat.lt_or_ge k m with g | g
        · rw [if_pos g]
          obtain ⟨_, ⟨a1, a2⟩, _⟩ := hst k g
          exact ⟨by grind, by grind⟩
        · have : k = m := by omega
          subst this
          rw [if_neg (by omega), hs']; exact ⟨by grind, by grind⟩
      have hl := hR (ab i (k + 1))
      have hp := mul_bd hk'.1 hk'.2 hl.1 hl.2
      exact ⟨by grind, by grind⟩
    rw [natR_succ] at hs
    obtain ⟨a1, a2⟩ := hs
    exact ⟨by grind, by grind⟩
  have hrN : ∀ i, i < m → nr ((P - 1) * (1 / 10000000000)) (fv .f64 r * nrm x (fun k => fv .f64 (st k)) m (i + 1)) 0 := fun i hi => by
    have := nr_prod (M := 1) rhi (by grind) (I.I.n i hi)
    exact this.mono (by grind)
  refine ⟨q1, r1, rhi, rlo, ?_, z1, by grind, ?_, ?_, ?_⟩
  · intro k hk
    rcases Nat.lt_or_ge k m with g | g
    · exact (hst k g).1
    · have : k = m := by omega
      subst this; rw [hs']; exact r1
  · intro k hk
    rcases Nat.lt_or_ge k m with g | g
    · exact (hst k g).2.2
    · have : k = m := by omega
      subst this
      simp only [hs']
      exact ⟨by grind, by grind⟩
  · intro i hi
    have d := hd (i + 1)
    rw [nrm_up x _ _ m (i + 1) (by omega)] at d
    rcases Nat.lt_or_ge i m with g | g
    · rw [show m + 1 - (i + 1) = m - 1 - i + 1 by omega] at d
      obtain ⟨a1, a2⟩ := I.I.n i g
      obtain ⟨b1, b2⟩ := hrN (m - 1 - i) (by omega)
      obtain ⟨d1, d2⟩ := d
      exact ⟨by grind, by grind⟩
    · have : i = m := by omega
      subst this
      rw [show i + 1 - (i + 1) = 0 by omega] at d
      have o := nr_mulC (a := fv .f64 r) (A := 1) I.I.o rhi (by grind)
      obtain ⟨o1, o2⟩ := o
      obtain ⟨d1, d2⟩ := d
      obtain ⟨g1, g2⟩ := q2
      obtain ⟨h1, h2⟩ := hre
      exact ⟨by grind, by grind⟩
  · have d := hd 0
    rw [nrm_up x _ _ m 0 (by omega), show m + 1 - 0 = m + 1 by omega] at d
    have o := I.I.o
    have c := nr_mulC (a := fv .f64 r) (A := 1) q2 rhi (by grind)
    have c' := nr_mulC (a := fv .f64 r) (A := 1) hre rhi (by grind)
    obtain ⟨o1, o2⟩ := o
    obtain ⟨d1, d2⟩ := d
    obtain ⟨g1, g2⟩ := c
    obtain ⟨h1, h2⟩ := c'
    obtain ⟨k1, k2⟩ := hez
    exact ⟨by grind, by grind⟩
end

end Go.Sim
end

section
namespace Go.Sim
open Go

def P2 (j : Nat) : Rat := ((2 ^ j : Nat) : Rat)
def gr (j : Nat) (q : Rat) : Prop := ∃ n : Int, q * P2 j = (n : Rat)

theorem P2_add (i j : Nat) : P2 (i + j) = P2 i * P2 j := by
  unfold P2; rw [Nat.pow_add, Rat.natCast_mul]
theorem P2_pos (j : Nat) : 0 < P2 j := by
  unfold P2; exact Rat.natCast_pos.2 (Nat.two_pow_pos j)
theorem P2_inv (j : Nat) : P2 j * 2 ^ (-(j : Int)) = 1 := by
  unfold P2; rw [← zp_nat, ← zp_add, show ((j : Nat) : Int) + -(j : Int) = 0 by omega]; rfl
theorem P2_succ (j : Nat) : P2 (j + 1) = 2 * P2 j := by
  rw [P2_add]
  have : P2 1 = 2 := by decide +kernel
  rw [this]; grind
theorem P2_ge (j : Nat) : 1 ≤ P2 j := by
  induction j with
  | zero => decide +kernel
  | succ j ih => rw [P2_succ]; grind

theorem P2_mono {i j : Nat} (h : i ≤ j) : P2 i ≤ P2 j := by
  obtain ⟨k, rfl⟩ : ∃ k, j = i + k := ⟨j - i, by omega⟩
  rw [P2_add]
  have := Rat.mul_le_mul_of_nonneg_left (P2_ge k) (Rat.le_of_lt (P2_pos i))
  rw [Rat.mul_one] at this; exact this

theorem gr.mul {i j : Nat} {p q : Rat} (h : gr i p) (g : gr j q) : gr (i + j) (p * q) := by
  obtain ⟨m, hm⟩ := h; obtain ⟨n, hn⟩ := g
  exact ⟨m * n, by rw [P2_add, Rat.intCast_mul, ← hm, ← hn]; grind⟩
theorem gr_int (n : Int) : gr 0 (n : Rat) := by
  have : P2 0 = 1 := by decide +kernel
  exact ⟨n, by rw [this]; grind⟩
theorem gr.up {i j : Nat} {p : Rat} (h : gr i p) (hij : i ≤ j) : gr j p := by
  obtain ⟨k, rfl⟩ : ∃ k, j = i + k := ⟨j - i, by omega⟩
  obtain ⟨m, hm⟩ := h
  exact ⟨m * ((2 ^ k : Nat) : Int), by rw [P2_add, Rat.intCast_mul, Rat.intCast_natCast, ← hm]; unfold P2; grind⟩
theorem gr.add {j : Nat} {p q : Rat} (h : gr j p) (g : gr j q) : gr j (p + q) := by
  obtain ⟨m, hm⟩ := h; obtain ⟨n, hn⟩ := g
  exact ⟨m + n, by rw [Rat.intCast_add, ← hm, ← hn]; grind⟩
theorem gr.sub {j : Nat} {p q : Rat} (h : gr j p) (g : gr j q) : gr j (p - q) := by
  obtain ⟨m, hm⟩ := h; obtain ⟨n, hn⟩ := g
  exact ⟨m - n, by rw [Rat.intCast_sub, ← hm, ← hn]; grind⟩
theorem gr_zero (j : Nat) : gr j 0 := ⟨0, by grind⟩
theorem natAbs_le_rat {n : Int} {B : Nat} (h1 : (n : Rat) ≤ (B : Rat)) (h2 : -(B : Rat) ≤ (n : Rat)) : n.natAbs ≤ B := by
  have a : (n : Rat) ≤ (((B : Nat) : Int) : Rat) := by rw [Rat.intCast_natCast]; exact h1
  have b : ((-((B : Nat) : Int) : Int) : Rat) ≤ (n : Rat) := by rw [Rat.intCast_neg, Rat.intCast_natCast]; exact h2
  have a' := Rat.intCast_le_intCast.1 a
  have b' := Rat.intCast_le_intCast.1 b
  omega

theorem ex_gr {k : FloatKind} {q : Rat} {z j : Nat} (h : Rd k q z) (hj : k.format.leastPlace ≤ -(j : Int)) (g : gr j q) {w : Nat} (hw : isFl k w) {B : Nat} (hB : B ≤ 2 * k.format.binade) (hBw : (B : Rat) ≤ fv k w) (b1 : q * P2 j ≤ (B : Rat)) (b2 : -(B : Rat) ≤ q * P2 j) : isFl k z ∧ fv k z = q := by
  obtain ⟨n, hn⟩ := g
  rw [hn] at b1 b2
  have hA := natAbs_le_rat b1 b2
  have hp := P2_inv j
  have h1 : mgv n.natAbs (-(j : Int)) ≤ fv k w := by
    unfold mgv
    have a : ((n.natAbs : Nat) : Rat) ≤ (B : Rat) := natR_le hA
    have p1 := P2_ge j
    have p0 := zp_pos (-(j : Int))
    have p2 : (2 : Rat) ^ (-(j : Int)) ≤ 1 := by
      have := Rat.mul_le_mul_of_nonneg_right p1 (Rat.le_of_lt p0)
      grind
    have := Rat.mul_le_mul_of_nonneg_left p2 (natR_nonneg n.natAbs)
    grind
  obtain ⟨x, hx, hv⟩ := rep_fin (k := k) (m := n.natAbs) (e := -(j : Int)) (by omega) hj hw h1 (if n = 0 then false else decide (n < 0))
  refine h.exact hx ?_
  rw [hv, total_val]
  have : q = q * (P2 j * 2 ^ (-(j : Int))) := by rw [hp]; grind
  rw [this, ← hn]; grind

theorem ex20 {q : Rat} {z : Nat} (h : Rd .f32 q z) (g : gr 20 q) (b1 : q ≤ 16) (b2 : -16 ≤ q) : isFl .f32 z ∧ fv .f32 z = q := by
  have p : P2 20 = 1048576 := by decide +kernel
  have c : ((16777216 : Nat) : Rat) = 16777216 := rfl
  exact ex_gr (B := 16777216) h (by decide) g big32.1 (by decide) (by rw [big32.2, c]; grind) (by rw [p, c]; grind) (by rw [p, c]; grind)

theorem ex64 {q : Rat} {z : Nat} (h : Rd .f64 q z) (g : gr 20 q) (b1 : q ≤ 4096) (b2 : -4096 ≤ q) : isFl .f64 z ∧ fv .f64 z = q := by
  have p : P2 20 = 1048576 := by decide +kernel
  have c : ((4294967296 : Nat) : Rat) = 4294967296 := rfl
  exact ex_gr (B := 4294967296) h (by decide) g big64'.1 (by decide) (by rw [big64'.2, c]; grind) (by rw [p, c]; grind) (by rw [p, c]; grind)

theorem p2_tab : ∀ j, j < 101 → (finB .f32 ((127 + j) * 8388608) && decide (fv .f32 ((127 + j) * 8388608) = P2 j) && finB .f32 (2147483648 + (127 + j) * 8388608) && decide (fv .f32 (2147483648 + (127 + j) * 8388608) = -P2 j)) = true := by decide +kernel

theorem lim32 {q : Rat} {z j : Nat} (h : Rd .f32 q z) (hj : j ≤ 100) (b1 : q ≤ P2 j) (b2 : -P2 j ≤ q) : isFl .f32 z ∧ fv .f32 z ≤ P2 j ∧ -P2 j ≤ fv .f32 z := by
  have t := p2_tab j (by omega)
  simp only [Bool.and_eq_true, decide_eq_true_eq] at t
  obtain ⟨⟨⟨a, b⟩, c⟩, d⟩ := t
  have fz := h.fin (finB_fl a) (by rw [b]; exact b1) (by rw [b]; exact b2)
  have u := h.hi fz (finB_fl a) (by rw [b]; exact b1)
  have l := h.lo fz (finB_fl c) (by rw [d]; exact b2)
  rw [b] at u; rw [d] at l
  exact ⟨fz, u, l⟩

/-! ### Steps up, exactly -/

def aR (r : Nat → Rat) : Nat → Nat → Rat
  | 0, _ => 0
  | m + 1, k => upR (aR r m) (r m) m k
def cB : Nat → Rat
  | 0 => 1 / 3
  | m + 1 => 3 / 2 * cB m

theorem cB_ge : ∀ m, 1 / 3 ≤ cB m
  | 0 => by simp only [cB]; exact Rat.le_refl
  | m + 1 => by have := cB_ge m; simp only [cB]; grind
theorem cB_le : ∀ m, m < 7 → cB m ≤ 4 := by decide +kernel
theorem aR_gr {r : Nat → Rat} (h : ∀ k, gr 3 (r k)) : ∀ m k, gr (3 * m) (aR r m k)
  | 0, _ => gr_zero _
  | m + 1, k => by
    simp only [aR, upR]
    split
    · exact ((aR_gr h m k).up (by omega)).sub (((h m).mul (aR_gr h m (m - 1 - k))).up (by omega))
    · exact (h m).up (by omega)
theorem aR_bd {r : Nat → Rat} (h : ∀ k, r k ≤ 1 / 2 ∧ -(1 / 2) ≤ r k) : ∀ m k, aR r m k ≤ cB m ∧ -cB m ≤ aR r m k
  | 0, _ => by simp only [aR, cB]; exact ⟨by grind, by grind⟩
  | m + 1, k => by
    have c := cB_ge m
    simp only [aR, upR, cB]
    split
    · have a := aR_bd h m k
      have b := aR_bd h m (m - 1 - k)
      have p := mul_bd (h m).1 (h m).2 b.1 b.2
      exact ⟨by grind, by grind⟩
    · have := h m
      exact ⟨by grind, by grind⟩

/-- One step up in floats is exact. -/
theorem up_step {r : Nat → Rat} (hg : ∀ k, gr 3 (r k)) (hb : ∀ k, r k ≤ 1 / 2 ∧ -(1 / 2) ≤ r k) {m k : Nat} (hm : m ≤ 5) (hk : k < m) {a b w : Nat} (fa : isFl .f32 a) (va : fv .f32 a = aR r m k) (fb : isFl .f32 b) (vb : fv .f32 b = aR r m (m - 1 - k)) (fw : isFl .f32 w) (vw : fv .f32 w = r m) :
    isFl .f32 (fop .sub .f32 a (fop .mul .f32 w b)) ∧ fv .f32 (fop .sub .f32 a (fop .mul .f32 w b)) = aR r (m + 1) k := by
  have c4 := cB_le m (by omega)
  have b1 := aR_bd hb m k
  have b2 := aR_bd hb m (m - 1 - k)
  have p := mul_bd (hb m).1 (hb m).2 b2.1 b2.2
  have g1 := aR_gr hg m k
  have g2 := (hg m).mul (aR_gr hg m (m - 1 - k))
  have r1 := mul_Rd fw fb
  rw [vw, vb] at r1
  obtain ⟨f1, v1⟩ := ex20 r1 (g2.up (by omega)) (by grind) (by grind)
  have r2 := sub_Rd fa f1
  rw [va, v1] at r2
  have e : aR r (m + 1) k = aR r m k - r m * aR r m (m - 1 - k) := by simp only [aR, upR]; rw [if_pos hk]
  rw [e]
  exact ex20 r2 ((g1.up (by omega)).sub (g2.up (by omega))) (by grind) (by grind)

/-! ### Predictions -/

theorem res_min (x a : Nat → Rat) (m n : Nat) : sumR (fun k => a k * sh x (k + 1) n) m = sumR (fun k => a k * x (n - (k + 1))) (min m n) := by
  rcases Nat.le_total m n with h | h
  · rw [Nat.min_eq_left h]
    exact sumR_congr m fun k hk => by unfold sh; rw [if_pos (by omega)]
  · rw [Nat.min_eq_right h]
    obtain ⟨e, rfl⟩ : ∃ e, m = n + e := ⟨m - n, by omega⟩
    rw [sumR_split, sumR_zero (f := fun k => a (n + k) * sh x (n + k + 1) n) e (fun k _ => by
      have : sh x (n + k + 1) n = 0 := by unfold sh; rw [if_neg (by omega)]
      rw [this]; grind), sumR_congr (t := fun k => a k * x (n - (k + 1))) n (fun k hk => by unfold sh; rw [if_pos (by omega)])]
    grind

/-! ### A root -/

set_option maxRecDepth 100000 in
theorem root_arith {n w b : Nat} (hb : b ≤ 1) (hsq : w * w ≤ n) (hwn : w * 100000 ≤ n) (hbig : 10000 ≤ n) : (2 * w + b) * (2 * w + b) * 10000 ≤ 4 * n * 10001 := by
  have h1 : (2 * w + b) * (2 * w + b) ≤ (2 * w + 1) * (2 * w + 1) := Nat.mul_le_mul (by omega) (by omega)
  have h2 : (2 * w + 1) * (2 * w + 1) = 4 * (w * w) + 4 * w + 1 := by grind
  rw [h2] at h1
  generalize (2 * w + b) * (2 * w + b) = A at *
  generalize w * w = s at *
  omega

theorem root_sq (m : Nat) (i : Int) (hm : m ≠ 0) : ∃ (M : Nat) (p : Int), Ieee.Datum.root 54 (.number false m i) = some (.number false M p) ∧ mgv M p * mgv M p ≤ mgv m i * (10001 / 10000) := by
  simp only [Ieee.Datum.root, if_neg hm, Bool.false_eq_true, if_false]
  generalize hmore : 2 * 54 - m.log2 + ((i - ((2 * 54 - m.log2 : Nat) : Int)) % 2).toNat = more
  obtain ⟨E, hE⟩ : ∃ E : Int, i - (more : Int) = 2 * E := ⟨(i - (more : Int)) / 2, by omega⟩
  have hEe : (i - (more : Int)) / 2 - 1 = E - 1 := by omega
  rw [hEe]
  generalize hn : m <<< more = n
  generalize hw : Ieee.Datum.rootFrom n (n.log2 / 2 + 1) 0 = w
  have hsq : w * w ≤ n := by rw [← hw]; exact rootFrom_sq n _ 0 (Nat.zero_le _)
  have hbig : 2 ^ 40 ≤ n := by
    rw [← hn, Nat.shiftLeft_eq]
    have l := log2_le hm
    have : 2 ^ 40 ≤ 2 ^ (m.log2 + more) := Nat.pow_le_pow_right (by omega) (by omega)
    rw [Nat.pow_add] at this
    exact Nat.le_trans this (Nat.mul_le_mul_right _ l)
  replace hbig : 10000000000 < n := Nat.lt_of_lt_of_le (by decide) hbig
  have hwn : w * 100000 ≤ n := by
    rcases Nat.le_total (w * 100000) n with h | h
    · exact h
    · exfalso
      have h1 : n * n ≤ (w * 100000) * (w * 100000) := Nat.mul_le_mul h h
      have h2 : (w * 100000) * (w * 100000) = w * w * 10000000000 := by
        rw [Nat.mul_mul_mul_comm]
      have h3 : w * w * 10000000000 ≤ n * 10000000000 := Nat.mul_le_mul_right _ hsq
      have h4 : n * n ≤ n * 10000000000 := by omega
      have h5 := Nat.le_of_mul_le_mul_left h4 (by omega)
      omega
  refine ⟨_, _, rfl, ?_⟩
  have hM : (2 * w + (w * w != n).toNat) * (2 * w + (w * w != n).toNat) * 10000 ≤ 4 * n * 10001 := by
    have : (w * w != n).toNat ≤ 1 := by cases (w * w != n) <;> simp
    generalize (w * w != n).toNat = b at *
    exact root_arith this hsq hwn (Nat.le_trans (by decide) (Nat.le_of_lt hbig))
  have e1 : mgv m i = mgv n (2 * E) := by
    rw [← hn, Nat.shiftLeft_eq, mv_shift]
    congr 1; omega
  rw [e1, ← mv_mul]
  generalize (2 * w + (w * w != n).toNat) * (2 * w + (w * w != n).toNat) = M at *
  have e2 : mgv n (2 * E) = mgv (4 * n) (E - 1 + (E - 1)) := by
    rw [show 4 * n = n * 2 ^ 2 by omega, mv_shift]; congr 1; omega
  rw [e2]
  have := mv_le (e := E - 1 + (E - 1)) |>.2 hM
  have c1 : ((10000 : Nat) : Rat) = 10000 := rfl
  have c2 : ((10001 : Nat) : Rat) = 10001 := rfl
  have a1 : mgv (M * 10000) (E - 1 + (E - 1)) = mgv M (E - 1 + (E - 1)) * 10000 := by
    unfold mgv; rw [Rat.natCast_mul, c1]; grind
  have a2 : mgv (4 * n * 10001) (E - 1 + (E - 1)) = mgv (4 * n) (E - 1 + (E - 1)) * 10001 := by
    unfold mgv; rw [Rat.natCast_mul (4 * n), c2]; grind
  rw [a1, a2] at this
  grind

theorem sq_le_of {u B : Rat} (h0 : 0 ≤ u) (hB : 0 < B) (h : u * u ≤ B * B) : u ≤ B := by
  rcases Rat.le_total (a := u) (b := B) with g | g
  · exact g
  · by_cases e : u = B
    · rw [e]; exact Rat.le_refl
    · exfalso
      have := Rat.mul_pos (show 0 < u - B by grind) (show 0 < u + B by grind)
      grind

/-- The root of a number between 3 and 64. -/
theorem sqrt_near {y : Nat} (hy : isFl .f64 y) (h1 : 3 ≤ fv .f64 y) (h2 : fv .f64 y ≤ 64) : isFl .f64 (sqrtW y) ∧ 0 ≤ fv .f64 (sqrtW y) ∧ fv .f64 (sqrtW y) ≤ 9 ∧ fv .f64 (sqrtW y) * fv .f64 (sqrtW y) ≤ fv .f64 y * (1001 / 1000) - 1 / 1000 := by
  obtain ⟨s, m, i, hd⟩ := hy
  have hv := fv_num hd
  have hs : s = false ∧ fv .f64 y = mgv m i := by
    rcases sg_cases s with ⟨a, b⟩ | ⟨a, b⟩
    · rw [b] at hv; exact ⟨a, by grind⟩
    · rw [b] at hv
      have := mv_nonneg m i
      exfalso; grind
  obtain ⟨hs1, hv2⟩ := hs
  subst hs1
  have hm : m ≠ 0 := by
    intro e; subst e
    have : mgv 0 i = 0 := by unfold mgv; simp
    rw [this] at hv2; grind
  obtain ⟨M, p, e1, e2⟩ := root_sq m i hm
  have hw : sqrtW y = canon .f64 (FloatKind.f64.format.nearest false M p) := by
    unfold sqrtW Ieee.Format.sqrt
    have hd' : FloatKind.f64.format.read y = .number false m i := hd
    rw [hd']
    have : FloatKind.f64.format.fractionBits + 2 = 54 := rfl
    rw [this, e1]; rfl
  rw [hw]
  have R := nearest_Rd .f64 false M p
  have sg1 : sg false = 1 := rfl
  rw [sg1] at R
  have m0 := mv_nonneg M p
  rw [← hv2] at e2
  have u9 : mgv M p ≤ 9 := sq_le_of m0 (by grind) (by grind)
  obtain ⟨f1, f2⟩ := rnd64 R (B := 16) (by grind) (by grind) (by grind) (by grind)
  have lo := R.lo f1 (zero_fl .f64).1 (by rw [(zero_fl .f64).2]; grind)
  rw [(zero_fl .f64).2] at lo
  have nine : isFl .f64 4621256167635550208 ∧ fv .f64 4621256167635550208 = 9 := ⟨finB_fl (by decide +kernel), by decide +kernel⟩
  have hi := R.hi f1 nine.1 (by rw [nine.2]; grind)
  rw [nine.2] at hi
  refine ⟨f1, lo, hi, ?_⟩
  obtain ⟨d1, d2⟩ := f2
  generalize fv .f64 (canon .f64 (FloatKind.f64.format.nearest false M p)) = z at *
  have hz : z ≤ mgv M p + 16 / 4503599627370496 := by grind
  have q1 := Rat.mul_le_mul_of_nonneg_left hz lo
  have q2 := Rat.mul_le_mul_of_nonneg_right hz m0
  grind

end Go.Sim
end

section
namespace Go.Sim
open Go

/-- Binomial bounds of steps. -/
def bn : Nat → Nat → Nat
  | 0, _ => 0
  | m + 1, k => if k < m then bn m k + bn m (m - 1 - k) else 1
theorem nr_of {e x : Rat} (h1 : x ≤ e) (h2 : -e ≤ x) : nr e x 0 := ⟨by grind, by grind⟩

/-- The steps of each order, nearly solved. -/
structure Chain (x : Nat → Rat) (A : Nat → Nat → Rat) (e : Nat → Rat) (n : Nat) : Prop where
  b : ∀ m, m ≤ n → ∀ k, k < m → nr ((bn m k : Rat) + 1 / 100000000) (A m k) 0
  s : ∀ m, m ≤ n → ∀ t : Nat → Rat, ∀ h : Rat, 0 ≤ h → (∀ k, k < m → nr h (t k) 0) → nr ((P2 m - 1 + 1 / 10000000) * h) (sumR (fun k => A m k * t k) m) 0
  z : ∀ m, m ≤ n → ∀ i, i < m → nr (1 / 100000000) (nrm x (A m) m (i + 1)) 0
  o : ∀ m, m ≤ n → nr (1 / 100000000) (nrm x (A m) m 0) (e m)
  lo : ∀ m, m ≤ n → 899 / 100 ≤ e m
  hi : ∀ m, m ≤ n → e m ≤ 53
  mono : ∀ m, m < n → e (m + 1) ≤ e m
  r : ∀ m, m < n → nr (19 / 20) (A (m + 1) m) 0

/-- Rows of the matrix of lags. -/
def tpl (x d : Nat → Rat) (m i : Nat) : Rat := sumR (fun j => d j * lagR x (ab i j)) m

theorem tpl_rev (x a : Nat → Rat) (m j : Nat) (hj : j ≤ m) : lagR x (m - j) - sumR (fun i => a (m - 1 - i) * lagR x (ab i j)) m = nrm x a m (m - j) := by
  unfold nrm
  rw [← sumR_rev (fun k => a k * lagR x (ab (m - j) (k + 1))) m]
  congr 1
  refine sumR_congr m fun i hi => ?_
  rw [show ab (m - j) (m - 1 - i + 1) = ab i j by unfold ab; omega]

theorem ab_comm (i j : Nat) : ab i j = ab j i := by unfold ab; omega

def lc : Nat → Rat
  | 0 => 0
  | m + 1 => 2 * P2 m * P2 m / 8 + 2 * lc m

theorem lc_nonneg : ∀ m, 0 ≤ lc m
  | 0 => by simp only [lc]; exact Rat.le_refl
  | m + 1 => by
    have := lc_nonneg m
    have p := sq_nonneg (P2 m)
    simp only [lc]
    have e : 2 * P2 m * P2 m / 8 = P2 m * P2 m * (1 / 4) := by grind
    rw [e]; grind
theorem lc_le : ∀ m, m < 7 → lc m ≤ 1000 := by decide +kernel

section
variable {x : Nat → Rat} {A : Nat → Nat → Rat} {e : Nat → Rat} {n : Nat} (C : Chain x A e n)
include C

/-- The last number of a vector whose rows are small. -/
theorem lin_last {m : Nat} (hm : m ≤ n) (hm5 : m ≤ 5) {d : Nat → Rat} {η D : Rat} (hη : 0 ≤ η) (hr : ∀ i, i < m + 1 → nr η (tpl x d (m + 1) i) 0) (hD0 : 0 ≤ D) (hD : ∀ j, j < m → nr D (d j) 0) :
    nr ((P2 m + 1 / 1000) * η + D * (1 / 10000000)) (d m * nrm x (A m) m 0) 0 := by
  have key : tpl x d (m + 1) m - sumR (fun i => A m (m - 1 - i) * tpl x d (m + 1) i) m = sumR (fun j => d j * nrm x (A m) m (m - j)) (m + 1) := by
    have e1 : sumR (fun i => A m (m - 1 - i) * tpl x d (m + 1) i) m = sumR (fun j => d j * sumR (fun i => A m (m - 1 - i) * lagR x (ab i j)) m) (m + 1) := by
      rw [sumR_congr (t := fun i => sumR (fun j => d j * (A m (m - 1 - i) * lagR x (ab i j))) (m + 1)) m (fun i _ => by unfold tpl; rw [← sumR_mul]; exact sumR_congr _ fun j _ => by grind), sumR_swap]
      exact sumR_congr _ fun j _ => by rw [sumR_mul]
    rw [e1]
    unfold tpl
    rw [← sumR_sub]
    refine sumR_congr _ fun j hj => ?_
    rw [← tpl_rev x (A m) m j (by omega), show ab m j = m - j by unfold ab; omega]
    grind
  have t1 := hr m (by omega)
  have t2 : nr ((P2 m - 1 + 1 / 10000000) * η) (sumR (fun i => A m (m - 1 - i) * tpl x d (m + 1) i) m) 0 := by
    have := C.s m hm (fun k => tpl x d (m + 1) (m - 1 - k)) η hη fun k hk => hr _ (by omega)
    rw [← sumR_rev] at this
    rw [sumR_congr (t := fun i => A m (m - 1 - i) * tpl x d (m + 1) (m - 1 - (m - 1 - i))) m (fun i hi => by rw [show m - 1 - (m - 1 - i) = i by omega])]
    exact this
  have t3 : nr ((m : Rat) * (D * (1 / 100000000))) (sumR (fun j => d j * nrm x (A m) m (m - j)) m) 0 := sumR_small m fun j hj => by
    have a := hD j hj
    have b := C.z m hm (m - 1 - j) (by omega)
    rw [show m - 1 - j + 1 = m - j by omega] at b
    have := nr_prod (nr_abs a).1 (nr_abs a).2 b
    exact this
  rw [sumR, Nat.sub_self] at key
  have m5 : (m : Rat) ≤ 5 := natR_le (b := 5) hm5
  have m0 := natR_nonneg m
  have md := mul_bd (a := (m : Rat)) (A := 5) m5 (by grind) (b := D * (1 / 100000000)) (B := D * (1 / 100000000)) (by grind) (by grind)
  obtain ⟨a1, a2⟩ := nr_abs t1
  obtain ⟨b1, b2⟩ := nr_abs t2
  obtain ⟨c1, c2⟩ := nr_abs t3
  exact nr_of (by grind) (by grind)

theorem lin {m : Nat} : m ≤ n + 1 → m ≤ 6 → ∀ (d : Nat → Rat) (η : Rat), 0 ≤ η → (∀ i, i < m → nr η (tpl x d m i) 0) → (∀ j, j < m → nr (lc m * η) (d j) 0) ∧ ∀ k, m = k + 1 → nr ((P2 k + 1 / 100) * η) (d k * e k) 0 := by
  induction m with
  | zero => intro _ _ d η _ _; exact ⟨fun j hj => by omega, fun k hk => by omega⟩
  | succ m ih =>
    intro hm h6 d η hη hr
    have ih := ih (by omega) (by omega)
    obtain ⟨δ, hδ0, hδ, hδs⟩ : ∃ δ : Rat, 0 ≤ δ ∧ nr δ (d m) 0 ∧ (δ = d m ∨ δ = -d m) := by
      rcases Rat.le_total (a := 0) (b := d m) with h | h
      · exact ⟨d m, h, ⟨by grind, by grind⟩, .inl rfl⟩
      · exact ⟨-d m, by grind, ⟨by grind, by grind⟩, .inr rfl⟩
    have hbn : ∀ k, k < m → (bn m k : Rat) ≤ P2 m - 1 := fun k hk => by
      have tab : ∀ m, m < 6 → ∀ k, k < m → bn m k ≤ 2 ^ m - 1 := by decide
      have q := natR_le (tab m (by omega) k hk)
      have p : ((2 ^ m - 1 : Nat) : Rat) = P2 m - 1 := by
        have : 2 ^ m = (2 ^ m - 1) + 1 := by have := Nat.two_pow_pos m; omega
        unfold P2
        rw [this, natR_succ]
        grind
      rw [p] at q; exact q
    have hP := P2_ge m
    have hlc := lc_nonneg m
    have hlc2 := lc_le m (by omega)
    -- the vector without its last number
    have red : ∀ j, j < m → nr (lc m * (η + δ * (1 / 100000000))) (d j - d m * -(A m (m - 1 - j))) 0 := by
      refine (ih (fun j => d j - d m * -(A m (m - 1 - j))) (η + δ * (1 / 100000000)) (by grind) fun i hi => ?_).1
      have e1 : tpl x (fun j => d j - d m * -(A m (m - 1 - j))) m i = tpl x d (m + 1) i - d m * nrm x (A m) m (m - i) := by
        unfold tpl
        rw [sumR, sumR_congr (t := fun j => d j * lagR x (ab i j) + d m * (A m (m - 1 - j) * lagR x (ab j i))) m (fun j _ => by rw [ab_comm j i]; grind), sumR_add, sumR_mul, ← tpl_rev x (A m) m i (by omega), show ab i m = m - i by unfold ab; omega]
        grind
      rw [e1]
      have b := C.z m (by omega) (m - 1 - i) (by omega)
      rw [show m - 1 - i + 1 = m - i by omega] at b
      have p := nr_prod (nr_abs hδ).1 (nr_abs hδ).2 b
      obtain ⟨a1, a2⟩ := nr_abs (hr i (by omega))
      obtain ⟨b1, b2⟩ := nr_abs p
      exact nr_of (by grind) (by grind)
    have hD : ∀ j, j < m → nr (lc m * (η + δ * (1 / 100000000)) + δ * P2 m) (d j) 0 := fun j hj => by
      have a := red j hj
      have b := C.b m (by omega) (m - 1 - j) (by omega)
      have b' := b.mono (f := P2 m) (by have := hbn (m - 1 - j) (by omega); grind)
      have p := nr_prod (nr_abs hδ).1 (nr_abs hδ).2 b'
      obtain ⟨a1, a2⟩ := nr_abs a
      obtain ⟨p1, p2⟩ := nr_abs p
      exact nr_of (by grind) (by grind)
    have P32 : P2 m ≤ 32 := by
      have := P2_mono (i := m) (j := 5) (by omega)
      have e : P2 5 = 32 := by decide +kernel
      rw [e] at this; exact this
    have l1 := mul_bd (a := lc m) (A := 1000) hlc2 (by grind) (b := η + δ * (1 / 100000000)) (B := η + δ * (1 / 100000000)) (by grind) (by grind)
    have l2 := mul_bd (a := P2 m) (A := 32) P32 (by grind) (b := δ) (B := δ) (by grind) (by grind)
    have last := lin_last C (m := m) (by omega) (by omega) hη hr (D := 1000 * (η + δ * (1 / 100000000)) + 32 * δ) (by grind) (fun j hj => (hD j hj).mono (by grind))
    have o := C.o m (by omega)
    have lo := C.lo m (by omega)
    have hi := C.hi m (by omega)
    obtain ⟨o1, o2⟩ := o
    obtain ⟨q1, q2⟩ := nr_abs last
    -- the last number
    have big : δ * 8 ≤ (P2 m + 1 / 100) * η := by
      have pe := Rat.mul_le_mul_of_nonneg_left (show 898 / 100 ≤ nrm x (A m) m 0 by grind) hδ0
      rcases hδs with h | h <;> rw [h] at pe ⊢ <;> rw [h] at q1 q2 <;> grind
    have hPη := mul_bd (a := P2 m) (A := 32) P32 (by grind) (b := η) (B := η) (by grind) (by grind)
    refine ⟨fun j hj => ?_, fun k hk => ?_⟩
    · have lcs : lc (m + 1) * η = P2 m * (P2 m * η) * (1 / 4) + 2 * (lc m * η) := by simp only [lc]; grind
      have one : η ≤ P2 m * η := by
        have := Rat.mul_le_mul_of_nonneg_right hP hη
        grind
      have δb : δ ≤ P2 m * η * (1 / 4) := by grind
      have x1 := Rat.mul_le_mul_of_nonneg_left δb (show 0 ≤ P2 m by grind)
      have x2 : 0 ≤ lc m * η := Rat.mul_nonneg hlc hη
      have x3 : lc m * (δ * (1 / 100000000)) ≤ lc m * η := by
        refine Rat.mul_le_mul_of_nonneg_left ?_ hlc
        grind
      have x4 : 0 ≤ P2 m * (P2 m * η) := Rat.mul_nonneg (by grind) (Rat.mul_nonneg (by grind) hη)
      rw [lcs]
      rcases Nat.lt_or_ge j m with g | g
      · refine (hD j g).mono ?_
        grind
      · have : j = m := by omega
        subst this
        refine hδ.mono ?_
        have := Rat.mul_le_mul_of_nonneg_right hP (Rat.mul_nonneg (show 0 ≤ P2 j by grind) hη)
        grind
    · have : m = k := by omega
      subst this
      have dd : nr (δ * (1 / 100000000)) (d m * nrm x (A m) m 0) (d m * e m) := by
        have := nr_mulC (a := d m) (A := δ) (C.o m (by omega)) (nr_abs hδ).1 (nr_abs hδ).2
        exact this
      obtain ⟨u1, u2⟩ := dd
      exact nr_of (by grind) (by grind)
end

end Go.Sim
end

section
namespace Go.Sim
open Go

theorem tpl_diff (x a b : Nat → Rat) (m i : Nat) : tpl x (fun k => b k - a k) m i = nrm x a m (i + 1) - nrm x b m (i + 1) := by
  unfold tpl nrm
  rw [sumR_congr (t := fun j => b j * lagR x (ab (i + 1) (j + 1)) - a j * lagR x (ab (i + 1) (j + 1))) m (fun j _ => by rw [show ab (i + 1) (j + 1) = ab i j by unfold ab; omega]; grind), sumR_sub]
  grind

/-- The energies of two predictors against each other. -/
theorem nrm_sym (x a b : Nat → Rat) (m : Nat) : nrm x a m 0 - sumR (fun k => b k * nrm x a m (k + 1)) m = nrm x b m 0 - sumR (fun k => a k * nrm x b m (k + 1)) m := by
  have h : ∀ u v : Nat → Rat, sumR (fun k => v k * nrm x u m (k + 1)) m = sumR (fun k => v k * lagR x (k + 1)) m - sumR (fun k => sumR (fun l => v k * (u l * lagR x (ab (k + 1) (l + 1)))) m) m := fun u v => by
    rw [← sumR_sub]
    refine sumR_congr m fun k _ => ?_
    unfold nrm
    rw [sumR_mul]; grind
  have h0 : ∀ u : Nat → Rat, nrm x u m 0 = lagR x 0 - sumR (fun k => u k * lagR x (k + 1)) m := fun u => by
    unfold nrm
    congr 1
    exact sumR_congr m fun k _ => by rw [show ab 0 (k + 1) = k + 1 by unfold ab; omega]
  have sw : sumR (fun k => sumR (fun l => b k * (a l * lagR x (ab (k + 1) (l + 1)))) m) m = sumR (fun k => sumR (fun l => a k * (b l * lagR x (ab (k + 1) (l + 1)))) m) m := by
    rw [sumR_swap]
    exact sumR_congr m fun k _ => sumR_congr m fun l _ => by rw [ab_comm (l + 1) (k + 1)]; grind
  rw [h a b, h b a, h0 a, h0 b, sw]
  grind

section
variable {x : Nat → Rat} {A : Nat → Nat → Rat} {e : Nat → Rat} {n : Nat} (C : Chain x A e n)
include C

/-- The first equation of a predictor that nearly solves the others. -/
theorem near_first {m : Nat} (hm : m ≤ n) (h6 : m ≤ 6) {b : Nat → Rat} {η X : Rat} (hη : 0 ≤ η) (hX : 0 ≤ X) (hb : ∀ k, k < m → nr X (b k) 0) (hn : ∀ i, i < m → nr η (nrm x b m (i + 1)) 0) :
    nr (P2 m * η + 6 * X * (1 / 100000000) + 1 / 100000000) (nrm x b m 0) (e m) := by
  have s := nrm_sym x (A m) b m
  have t1 := sumR_small m fun k hk => nr_prod (nr_abs (hb k hk)).1 (nr_abs (hb k hk)).2 (C.z m hm k hk)
  have t2 := C.s m hm (fun k => nrm x b m (k + 1)) η hη hn
  have o := C.o m hm
  have m6 : (m : Rat) ≤ 6 := natR_le (b := 6) h6
  have m0 := natR_nonneg m
  have md := mul_bd (a := (m : Rat)) (A := 6) m6 (by grind) (b := X * (1 / 100000000)) (B := X * (1 / 100000000)) (by grind) (by grind)
  obtain ⟨a1, a2⟩ := nr_abs t1
  obtain ⟨b1, b2⟩ := nr_abs t2
  obtain ⟨c1, c2⟩ := o
  exact ⟨by grind, by grind⟩

/-- How far such a predictor is from the solved one. -/
theorem near_all {m : Nat} (hm : m ≤ n) (h6 : m ≤ 6) {b : Nat → Rat} {η : Rat} (hη : 0 ≤ η) (hn : ∀ i, i < m → nr η (nrm x b m (i + 1)) 0) :
    (∀ j, j < m → nr (lc m * (η + 1 / 100000000)) (b j - A m j) 0) ∧ ∀ k, m = k + 1 → nr ((P2 k + 1 / 100) * (η + 1 / 100000000)) ((b k - A m k) * e k) 0 := by
  have h := lin C (m := m) (by omega) h6 (fun k => b k - A m k) (η + 1 / 100000000) (by grind) (fun i hi => by
    rw [tpl_diff]
    obtain ⟨a1, a2⟩ := nr_abs (hn i hi)
    obtain ⟨b1, b2⟩ := nr_abs (C.z m hm i hi)
    exact nr_of (by grind) (by grind))
  exact h
end

/-- A step down, exactly: 'w' is 1 less the square of the last step. -/
theorem down_up {b b' : Nat → Rat} {m : Nat} {w : Rat} (hw : w = 1 - b m * b m) (hw0 : w ≠ 0) (hb : ∀ k, k < m → b' k * w = b k + b m * b (m - 1 - k)) : ∀ k, k < m + 1 → upR b' (b m) m k = b k := by
  intro k hk
  unfold upR
  split
  · rename_i h
    have h1 := hb k h
    have h2 := hb (m - 1 - k) (by omega)
    rw [show m - 1 - (m - 1 - k) = k by omega] at h2
    have : (b' k - b m * b' (m - 1 - k)) * w = b k * w := by grind
    have i : (b' k - b m * b' (m - 1 - k)) * w * w⁻¹ = b k * w * w⁻¹ := by rw [this]
    rw [Rat.mul_assoc, Rat.mul_assoc, Rat.mul_inv_cancel _ hw0, Rat.mul_one, Rat.mul_one] at i
    exact i
  · have : k = m := by omega
    rw [this]

theorem down_nrm (x : Nat → Rat) {b b' : Nat → Rat} {m : Nat} {w : Rat} (hw : w = 1 - b m * b m) (hw0 : w ≠ 0) (hb : ∀ k, k < m → b' k * w = b k + b m * b (m - 1 - k)) (i : Nat) (hi : i ≤ m + 1) :
    nrm x b' m i * w = nrm x b (m + 1) i + b m * nrm x b (m + 1) (m + 1 - i) := by
  have up := down_up hw hw0 hb
  have e1 := nrm_up x b' (b m) m i hi
  have e2 := nrm_up x b' (b m) m (m + 1 - i) (by omega)
  rw [show m + 1 - (m + 1 - i) = i by omega] at e2
  rw [nrm_congr x up] at e1 e2
  rw [e1, e2, hw]; grind

section
variable {x : Nat → Rat} {A : Nat → Nat → Rat} {e : Nat → Rat} {n : Nat} (C : Chain x A e n)
include C

/-- What a step down does to a predictor that nearly solves the equations. -/
theorem down_near {m : Nat} (hm : m + 1 ≤ n) (h6 : m ≤ 5) {b b' : Nat → Rat} {σ κ w X : Rat} (hσ : 0 ≤ σ) (hX : 0 ≤ X) (hX2 : X ≤ 100) (hb : ∀ k, k < m + 1 → nr X (b k) 0) (hn : ∀ i, i < m + 1 → nr (σ * e (m + 1)) (nrm x b (m + 1) (i + 1)) 0)
    (hw : w = 1 - b m * b m) (hw0 : 0 < w) (hb' : ∀ k, k < m → b' k * w = b k + b m * b (m - 1 - k)) (hr : b m ≤ 1 ∧ -1 ≤ b m) (hκ : 2 * P2 (m + 1) * σ + σ + 1 / 10000 ≤ κ) (hκ1 : κ ≤ 1 / 2) :
    e (m + 1) * (1 - κ) ≤ w * e m ∧ ∀ i, i < m → nr (2 * σ * e (m + 1)) (nrm x b' m (i + 1) * w) 0 := by
  have lo := C.lo (m + 1) hm
  have lo' := C.lo m (by omega)
  have hi := C.hi (m + 1) hm
  have hP := P2_succ m
  have P1 := P2_ge m
  have ηp : 0 ≤ σ * e (m + 1) := Rat.mul_nonneg hσ (by grind)
  have N := down_nrm x hw (by grind) hb'
  have first := near_first C hm (by omega) ηp hX hb hn
  have rest : ∀ i, i < m → nr (2 * σ * e (m + 1)) (nrm x b' m (i + 1) * w) 0 := fun i hi => by
    rw [N (i + 1) (by omega)]
    have a := hn i (by omega)
    have c := hn (m - 1 - i) (by omega)
    rw [show m - 1 - i + 1 = m + 1 - (i + 1) by omega] at c
    have p := nr_prod (M := 1) hr.1 (by grind) c
    obtain ⟨a1, a2⟩ := nr_abs a
    obtain ⟨p1, p2⟩ := nr_abs p
    exact nr_of (by grind) (by grind)
  refine ⟨?_, rest⟩
  -- the first equation one order below, times w
  have s := nrm_sym x (A m) b' m
  have sw : (nrm x (A m) m 0 - sumR (fun k => b' k * nrm x (A m) m (k + 1)) m) * w = (nrm x b' m 0 - sumR (fun k => A m k * nrm x b' m (k + 1)) m) * w := by rw [s]
  have e1 : sumR (fun k => b' k * nrm x (A m) m (k + 1)) m * w = sumR (fun k => b' k * w * nrm x (A m) m (k + 1)) m := by
    rw [Rat.mul_comm, ← sumR_mul]; exact sumR_congr m fun k _ => by grind
  have e2 : sumR (fun k => A m k * nrm x b' m (k + 1)) m * w = sumR (fun k => A m k * (nrm x b' m (k + 1) * w)) m := by
    rw [Rat.mul_comm, ← sumR_mul]; exact sumR_congr m fun k _ => by grind
  have t1 := sumR_small m fun k hk => nr_prod (M := 2 * X) (a := b' k * w) (by
      rw [hb' k hk]
      have p := mul_bd hr.1 (show -(1 : Rat) ≤ b m by grind) (nr_abs (hb (m - 1 - k) (by omega))).1 (nr_abs (hb (m - 1 - k) (by omega))).2
      have q := nr_abs (hb k (by omega))
      grind) (by
      rw [hb' k hk]
      have p := mul_bd hr.1 (show -(1 : Rat) ≤ b m by grind) (nr_abs (hb (m - 1 - k) (by omega))).1 (nr_abs (hb (m - 1 - k) (by omega))).2
      have q := nr_abs (hb k (by omega))
      grind) (C.z m (by omega) k hk)
  have t2 := C.s m (by omega) (fun k => nrm x b' m (k + 1) * w) (2 * σ * e (m + 1)) (by grind) rest
  have n0 := N 0 (by omega)
  rw [Nat.sub_zero] at n0
  have nm := hn m (by omega)
  have pm := nr_prod (M := 1) hr.1 (by grind) nm
  have o := C.o m (by omega)
  have m5 : (m : Rat) ≤ 5 := natR_le (b := 5) h6
  have m0 := natR_nonneg m
  have md := mul_bd (a := (m : Rat)) (A := 5) m5 (by grind) (b := 2 * X * (1 / 100000000)) (B := 200 * (1 / 100000000)) (by grind) (by grind)
  have w1 : w ≤ 1 := by have := sq_nonneg (b m); grind
  have ow := nr_mulC (a := w) (A := 1) o w1 (by grind)
  have sw2 : nrm x (A m) m 0 * w - sumR (fun k => b' k * nrm x (A m) m (k + 1)) m * w = nrm x b' m 0 * w - sumR (fun k => A m k * nrm x b' m (k + 1)) m * w := by grind
  rw [e1, e2] at sw2
  clear sw
  obtain ⟨a1, a2⟩ := nr_abs t1
  obtain ⟨b1, b2⟩ := nr_abs t2
  obtain ⟨c1, c2⟩ := ow
  obtain ⟨d1, d2⟩ := nr_abs pm
  obtain ⟨f1, f2⟩ := first
  have Ps : 2 * (P2 (m + 1) * (σ * e (m + 1))) + σ * e (m + 1) + e (m + 1) * (1 / 10000) ≤ e (m + 1) * κ := by
    have := Rat.mul_le_mul_of_nonneg_left hκ (show 0 ≤ e (m + 1) by grind)
    grind
  have q1 : (P2 m - 1 + 1 / 10000000) * (2 * σ * e (m + 1)) ≤ P2 (m + 1) * (σ * e (m + 1)) := by
    have := Rat.mul_le_mul_of_nonneg_right (show (P2 m - 1 + 1 / 10000000) * 2 ≤ P2 (m + 1) by grind) ηp
    grind
  generalize (P2 m - 1 + 1 / 10000000) * (2 * σ * e (m + 1)) = Q at *
  generalize P2 (m + 1) * (σ * e (m + 1)) = T at *
  generalize sumR (fun k => b' k * w * nrm x (A m) m (k + 1)) m = S1 at *
  generalize sumR (fun k => A m k * (nrm x b' m (k + 1) * w)) m = S2 at *
  generalize b m * nrm x b (m + 1) (m + 1) = U at *
  generalize nrm x b (m + 1) 0 = V at *
  generalize nrm x b' m 0 * w = V' at *
  have g1 : w * nrm x (A m) m 0 = V' - S2 + S1 := by grind
  rw [g1] at c1 c2
  have g2 : V' = V + U := n0
  have g3 : 8 / 10000 ≤ e (m + 1) * (1 / 10000) := by grind
  generalize σ * e (m + 1) = H at *
  clear sw2 n0 N s rest hn hb hb' t1 t2 pm nm o
  grind
end

end Go.Sim
end

section
namespace Go.Sim
open Go

theorem down_float {m : Nat} {bw : Nat → Nat} (fb : ∀ k, k < m + 1 → isFl .f32 (bw k)) {X X' w : Rat} (hX1 : 1 ≤ X) (hX : X ≤ 100) (hX1' : 1 ≤ X') (hX' : X' ≤ 100) (hb : ∀ k, k < m + 1 → nr X (fv .f32 (bw k)) 0)
    (hr : fv .f32 (bw m) ≤ 1 ∧ -1 ≤ fv .f32 (bw m)) (hw : w = 1 - fv .f32 (bw m) * fv .f32 (bw m)) (hw0 : 1 / 10 ≤ w) {b' : Nat → Rat} (hb' : ∀ k, k < m → b' k * w = fv .f32 (bw k) + fv .f32 (bw m) * fv .f32 (bw (m - 1 - k))) (hbX : ∀ k, k < m → nr X' (b' k) 0) :
    ∀ k, k < m → isFl .f32 (fop .quo .f32 (fop .add .f32 (bw k) (fop .mul .f32 (bw m) (bw (m - 1 - k)))) (fop .sub .f32 1065353216 (fop .mul .f32 (bw m) (bw m)))) ∧
      nr ((3 * X + 4 * X' + 3) * (1 / 8388608)) ((fv .f32 (fop .quo .f32 (fop .add .f32 (bw k) (fop .mul .f32 (bw m) (bw (m - 1 - k)))) (fop .sub .f32 1065353216 (fop .mul .f32 (bw m) (bw m)))) - b' k) * w) 0 := by
  intro k hk
  have one : isFl .f32 1065353216 ∧ fv .f32 1065353216 = 1 := ⟨finB_fl (by decide +kernel), by decide +kernel⟩
  have fr := fb m (by omega)
  have fk := fb k (by omega)
  have fl_ := fb (m - 1 - k) (by omega)
  obtain ⟨x1, x2⟩ := nr_abs (hb k (by omega))
  obtain ⟨y1, y2⟩ := nr_abs (hb (m - 1 - k) (by omega))
  obtain ⟨z1, z2⟩ := nr_abs (hbX k hk)
  have pb := mul_bd hr.1 (show -(1 : Rat) ≤ fv .f32 (bw m) by grind) y1 y2
  obtain ⟨p1, p2, p3⟩ := rnd32 (mul_Rd fr fl_) (B := X) hX1 (by grind) (by grind) (by grind)
  obtain ⟨s1, s2, s3⟩ := rnd32 (add_Rd fk p1) (B := 2 * X + 1) (by grind) (by grind) (by grind) (by grind)
  have rb := mul_bd hr.1 (show -(1 : Rat) ≤ fv .f32 (bw m) by grind) hr.1 (show -(1 : Rat) ≤ fv .f32 (bw m) by grind)
  have r0 := sq_nonneg (fv .f32 (bw m))
  obtain ⟨q1, q2, q3⟩ := rnd32 (mul_Rd fr fr) (B := 1) (by grind) (by grind) (by grind) (by grind)
  have q0 : 0 ≤ fv .f32 (fop .mul .f32 (bw m) (bw m)) := by
    have := (mul_Rd fr fr).lo q1 (zero_fl .f32).1 (by rw [(zero_fl .f32).2]; exact r0)
    rw [(zero_fl .f32).2] at this; exact this
  have v0 := sub_Rd one.1 q1
  rw [one.2] at v0
  obtain ⟨v1, v2, v3⟩ := rnd32 v0 (B := 1) (by grind) (by grind) (by grind) (by grind)
  have hv := hb' k hk
  generalize fop .add .f32 (bw k) (fop .mul .f32 (bw m) (bw (m - 1 - k))) = S at *
  generalize fop .sub .f32 1065353216 (fop .mul .f32 (bw m) (bw m)) = V at *
  generalize fop .mul .f32 (bw m) (bw (m - 1 - k)) = Pw at *
  generalize fop .mul .f32 (bw m) (bw m) = Qw at *
  have vw1 : fv .f32 V - w ≤ 2 / 8388608 := by grind
  have vw2 : w - fv .f32 V ≤ 2 / 8388608 := by grind
  have sv1 : fv .f32 S - b' k * w ≤ (3 * X + 1) * (1 / 8388608) := by grind
  have sv2 : b' k * w - fv .f32 S ≤ (3 * X + 1) * (1 / 8388608) := by grind
  clear s2 s3 p2 p3 q2 q3 v2 v3 hv pb rb r0 hb hbX hb'
  have hne : fv .f32 V ≠ 0 := by grind
  have dv : fv .f32 S / fv .f32 V * fv .f32 V = fv .f32 S := Rat.div_mul_cancel hne
  have rq := quo_Rd s1 v1 hne
  generalize fv .f32 S / fv .f32 V = T at *
  -- (T - b') V = S - b' V
  have w1 : w ≤ 1 := by have := sq_nonneg (fv .f32 (bw m)); grind
  have bv := mul_bd z1 z2 (show fv .f32 V - w ≤ 2 / 8388608 from vw1) (show -(2 / 8388608) ≤ fv .f32 V - w by grind)
  have tv : nr ((3 * X + 1) * (1 / 8388608) + X' * (2 / 8388608)) ((T - b' k) * fv .f32 V) 0 := nr_of (by grind) (by grind)
  have vlo : 9 / 100 ≤ fv .f32 V := by grind
  obtain ⟨t1, t2⟩ := nr_abs tv
  have hK : (3 * X + 1) * (1 / 8388608) + X' * (2 / 8388608) ≤ 1 / 10000 := by grind
  have tb1 : T - b' k ≤ 1 / 100 := by
    rcases Rat.le_total (a := T - b' k) (b := 1 / 100) with h | h
    · exact h
    · have := Rat.mul_le_mul_of_nonneg_left vlo (show 0 ≤ T - b' k by grind)
      grind
  have tb2 : b' k - T ≤ 1 / 100 := by
    rcases Rat.le_total (a := b' k - T) (b := 1 / 100) with h | h
    · exact h
    · have := Rat.mul_le_mul_of_nonneg_left vlo (show 0 ≤ b' k - T by grind)
      grind
  have tw := mul_bd (a := T - b' k) (A := 1 / 100) tb1 (by grind) (b := w - fv .f32 V) (B := 2 / 8388608) (by grind) (by grind)
  obtain ⟨f1, f2, f3⟩ := rnd32 rq (B := X' + 1) (by grind) (by grind) (by grind) (by grind)
  generalize fv .f32 (fop .quo .f32 S V) = F at *
  have fw := mul_bd (a := F - T) (A := (X' + 1) * (1 / 8388608)) f2 (by grind) (b := w) (B := 1) w1 (by grind)
  refine ⟨f1, nr_of ?_ ?_⟩
  · have e : (F - b' k) * w = (F - T) * w + ((T - b' k) * fv .f32 V + (T - b' k) * (w - fv .f32 V)) := by grind
    rw [e]; grind
  · have e : (F - b' k) * w = (F - T) * w + ((T - b' k) * fv .f32 V + (T - b' k) * (w - fv .f32 V)) := by grind
    rw [e]; grind

end Go.Sim
end

section
namespace Go.Sim
open Go

def sgT : Nat → Rat
  | 1 => 9 / 400
  | 2 => 1 / 100
  | 3 => 9 / 2000
  | 4 => 1 / 500
  | 5 => 1 / 1250
  | _ => 1 / 10000
def bx : Nat → Rat
  | 1 => 1
  | 2 => 2
  | 3 => 3
  | 4 => 6
  | 5 => 10
  | _ => 20
def xg (m : Nat) : Rat := bx m + lc m * (sgT m * 53 + 1 / 10000000) + 1 / 10000000
def kp (m : Nat) : Rat := 2 * P2 m * sgT m + sgT m + 1 / 10000
def kf (m : Nat) : Rat := (3 * xg (m + 1) + 4 * xg m + 3) * (1 / 8388608)

theorem sgT_tab : ∀ m, m < 7 → 0 ≤ sgT m ∧ sgT m ≤ 1 / 40 ∧ 1 ≤ xg m ∧ xg m ≤ 100 ∧ 0 ≤ kp m ∧ kp m ≤ 1 / 8 ∧ 0 ≤ kf m ∧ kf m ≤ 1 / 1000 := by decide +kernel
theorem sgT_down : ∀ m, m < 6 → 1 ≤ m → 2 * sgT (m + 1) ≤ sgT m * (1 - kp (m + 1)) ∧ (m : Rat) * (kf m * 53) ≤ (sgT m * (1 - kp (m + 1)) - 2 * sgT (m + 1)) * (899 / 100) := by decide +kernel
theorem bn_tab : ∀ m, m < 7 → ∀ k, k < m → (bn m k : Rat) ≤ bx m := by decide +kernel
theorem sgT_last : ∀ k, k < 6 → (P2 k + 1 / 100) * (sgT (k + 1) + 1 / 10000000) ≤ 1 / 41 := by decide +kernel

structure Low (x : Nat → Rat) (e : Nat → Rat) (bw : Nat → Nat) (m : Nat) : Prop where
  f : ∀ k, k < m → isFl .f32 (bw k)
  n : ∀ i, i < m → nr (sgT m * e m) (nrm x (fun k => fv .f32 (bw k)) m (i + 1)) 0

section
variable {x : Nat → Rat} {A : Nat → Nat → Rat} {e : Nat → Rat} {n : Nat} (C : Chain x A e n)
include C

theorem near_bd {m : Nat} (hm : m ≤ n) (h6 : m ≤ 6) {b : Nat → Rat} (hn : ∀ i, i < m → nr (sgT m * e m) (nrm x b m (i + 1)) 0) :
    (∀ k, k < m → nr (xg m) (b k) 0) ∧ ∀ k, m = k + 1 → nr (1 / 41) (b k - A m k) 0 := by
  obtain ⟨s0, s1, _⟩ := sgT_tab m (by omega)
  have lo := C.lo m hm
  have hi := C.hi m hm
  have se : sgT m * e m ≤ sgT m * 53 := Rat.mul_le_mul_of_nonneg_left hi s0
  have h := near_all C hm h6 (b := b) (Rat.mul_nonneg s0 (show 0 ≤ e m by grind)) hn
  have l0 := lc_nonneg m
  refine ⟨fun k hk => ?_, fun k hk => ?_⟩
  · obtain ⟨a1, a2⟩ := nr_abs (h.1 k hk)
    obtain ⟨b1, b2⟩ := nr_abs (C.b m hm k hk)
    have t := bn_tab m (by omega) k hk
    have q := Rat.mul_le_mul_of_nonneg_left (show sgT m * e m + 1 / 100000000 ≤ sgT m * 53 + 1 / 10000000 by grind) l0
    unfold xg
    exact nr_of (by grind) (by grind)
  · subst hk
    have q := h.2 k rfl
    have mo := C.mono k (by omega)
    have lk := C.lo k (by omega)
    have t := sgT_last k (by omega)
    have P := P2_ge k
    have u1 : (P2 k + 1 / 100) * (sgT (k + 1) * e (k + 1) + 1 / 100000000) ≤ (P2 k + 1 / 100) * ((sgT (k + 1) + 1 / 10000000) * e k) := by
      refine Rat.mul_le_mul_of_nonneg_left ?_ (by grind)
      have := Rat.mul_le_mul_of_nonneg_left mo s0
      grind
    have u2 := Rat.mul_le_mul_of_nonneg_right t (show 0 ≤ e k by grind)
    obtain ⟨q1, q2⟩ := nr_abs q
    have ek : 0 < e k := by grind
    have v1 : (b k - A (k + 1) k) * e k ≤ 1 / 41 * e k := by grind
    have v2 : -(1 / 41) * e k ≤ (b k - A (k + 1) k) * e k := by grind
    exact nr_of (Rat.le_of_mul_le_mul_right v1 ek) (Rat.le_of_mul_le_mul_right v2 ek)

theorem low_step {m : Nat} (hm : m + 1 ≤ n) (h5 : m ≤ 5) (h1 : 1 ≤ m) (hR : ∀ j, lagR x j ≤ 53 ∧ -53 ≤ lagR x j) {bw bw' : Nat → Nat} (L : Low x e bw (m + 1))
    (hs : ∀ k, k < m → bw' k = fop .quo .f32 (fop .add .f32 (bw k) (fop .mul .f32 (bw m) (bw (m - 1 - k)))) (fop .sub .f32 1065353216 (fop .mul .f32 (bw m) (bw m)))) : Low x e bw' m := by
  obtain ⟨s0, s1, x1, x2, k0, k1, _, _⟩ := sgT_tab (m + 1) (by omega)
  obtain ⟨s0', s1', x1', x2', _, _, f0, f1⟩ := sgT_tab m (by omega)
  obtain ⟨t1, t2⟩ := sgT_down m (by omega) h1
  obtain ⟨bd, last⟩ := near_bd C hm (by omega) L.n
  obtain ⟨l1, l2⟩ := nr_abs (last m rfl)
  obtain ⟨r1, r2⟩ := nr_abs (C.r m (by omega))
  have lo := C.lo (m + 1) hm
  have lo' := C.lo m (by omega)
  have hi' := C.hi m (by omega)
  have hrb : fv .f32 (bw m) ≤ 39 / 40 ∧ -(39 / 40) ≤ fv .f32 (bw m) := ⟨by grind, by grind⟩
  obtain ⟨w, hw⟩ : ∃ w, w = 1 - fv .f32 (bw m) * fv .f32 (bw m) := ⟨_, rfl⟩
  have sq := mul_bd hrb.1 hrb.2 hrb.1 hrb.2
  have w0 : 0 < w := by rw [hw]; grind
  have hb' : ∀ k, k < m → (fun k => (fv .f32 (bw k) + fv .f32 (bw m) * fv .f32 (bw (m - 1 - k))) / w) k * w = fv .f32 (bw k) + fv .f32 (bw m) * fv .f32 (bw (m - 1 - k)) := fun k _ => Rat.div_mul_cancel (by grind)
  obtain ⟨d1, d2⟩ := down_near C hm h5 (b := fun k => fv .f32 (bw k)) s0 (by grind) x2 bd L.n hw w0 hb' ⟨by grind, by grind⟩ (κ := kp (m + 1)) (by unfold kp; exact Rat.le_refl) (by grind)
  generalize (fun k => (fv .f32 (bw k) + fv .f32 (bw m) * fv .f32 (bw (m - 1 - k))) / w) = b' at *
  have em : 0 < e (m + 1) := by grind
  -- what the residuals are, without w
  have unw : ∀ Y z : Rat, 0 ≤ Y → Y ≤ sgT m * (1 - kp (m + 1)) * e (m + 1) → nr Y (z * w) 0 → nr (sgT m * e m) z 0 := fun Y z _ hY hz => by
    obtain ⟨z1, z2⟩ := nr_abs hz
    have g := Rat.mul_le_mul_of_nonneg_left d1 s0'
    exact nr_of (Rat.le_of_mul_le_mul_right (by grind) w0) (Rat.le_of_mul_le_mul_right (by grind) w0)
  have two := Rat.mul_le_mul_of_nonneg_right t1 (show 0 ≤ e (m + 1) by grind)
  have ex := near_bd C (m := m) (by omega) (by omega) (b := b') fun i hi => unw (2 * sgT (m + 1) * e (m + 1)) _ (by have := Rat.mul_nonneg s0 (show 0 ≤ e (m + 1) by grind); grind) (by grind) (d2 i hi)
  have wlo : 1 / 10 ≤ w := by
    have a := Rat.mul_le_mul_of_nonneg_left (show 7 / 8 ≤ 1 - kp (m + 1) by grind) (show 0 ≤ e (m + 1) by grind)
    have b := Rat.mul_le_mul_of_nonneg_left hi' (show 0 ≤ w by grind)
    grind
  have F := down_float L.f x1 x2 x1' x2' bd ⟨by grind, by grind⟩ hw wlo hb' ex.1
  refine ⟨fun k hk => by rw [hs k hk]; exact (F k hk).1, fun i hi => ?_⟩
  have e1 : nrm x (fun k => fv .f32 (bw' k)) m (i + 1) = nrm x b' m (i + 1) - sumR (fun k => (fv .f32 (bw' k) - b' k) * lagR x (ab (i + 1) (k + 1))) m := by
    rw [← nrm_add]; exact nrm_congr x (fun k _ => by grind) _
  have e2 : sumR (fun k => (fv .f32 (bw' k) - b' k) * lagR x (ab (i + 1) (k + 1))) m * w = sumR (fun k => (fv .f32 (bw' k) - b' k) * w * lagR x (ab (i + 1) (k + 1))) m := by
    rw [Rat.mul_comm, ← sumR_mul]; exact sumR_congr m fun k _ => by grind
  have s := sumR_small (e := kf m * 53) m fun k hk => (show nr (kf m * 53) ((fv .f32 (bw' k) - b' k) * w * lagR x (ab (i + 1) (k + 1))) 0 from by
    have q := (F k hk).2
    rw [← hs k hk] at q
    have p := nr_prod (hR (ab (i + 1) (k + 1))).1 (hR (ab (i + 1) (k + 1))).2 q
    obtain ⟨p1, p2⟩ := nr_abs p
    unfold kf
    exact nr_of (by grind) (by grind))
  have big := Rat.mul_le_mul_of_nonneg_left (show 899 / 100 ≤ e (m + 1) from lo) (show 0 ≤ sgT m * (1 - kp (m + 1)) - 2 * sgT (m + 1) by grind)
  have m0 := Rat.mul_nonneg (natR_nonneg m) (Rat.mul_nonneg f0 (show (0 : Rat) ≤ 53 by grind))
  have se := Rat.mul_nonneg s0 (show 0 ≤ e (m + 1) by grind)
  refine unw (2 * sgT (m + 1) * e (m + 1) + (m : Rat) * (kf m * 53)) _ (by grind) (by grind) ?_
  have hw2 : nrm x (fun k => fv .f32 (bw' k)) m (i + 1) * w = nrm x b' m (i + 1) * w - sumR (fun k => (fv .f32 (bw' k) - b' k) * w * lagR x (ab (i + 1) (k + 1))) m := by
    rw [e1, ← e2]; grind
  rw [hw2]
  obtain ⟨a1, a2⟩ := nr_abs (d2 i hi)
  obtain ⟨c1, c2⟩ := nr_abs s
  exact nr_of (by grind) (by grind)
end

end Go.Sim
end

section
namespace Go.Sim
open Go

theorem lev_more {e r e' : Nat} (fe : isFl .f64 e) (fr : isFl .f64 r) (e0 : 0 ≤ fv .f64 e) (e53 : fv .f64 e ≤ 54) (r1 : fv .f64 r ≤ 1) (r2 : -1 ≤ fv .f64 r) (he' : e' = fop .mul .f64 e (fop .sub .f64 4607182418800017408 (fop .mul .f64 r r))) (lo : 898 / 100 ≤ fv .f64 e') :
    fv .f64 e' ≤ fv .f64 e ∧ nr (19 / 20) (fv .f64 r) 0 := by
  have one : isFl .f64 4607182418800017408 ∧ fv .f64 4607182418800017408 = 1 := ⟨finB_fl (by decide +kernel), by decide +kernel⟩
  have sq1 := mul_bd r1 r2 r1 r2
  have sq0 := sq_nonneg (fv .f64 r)
  obtain ⟨w1, w2, w3⟩ := rnd64 (mul_Rd fr fr) (B := 1) (by grind) (by grind) (by grind) (by grind)
  have zf := zero_fl .f64
  have w0 : 0 ≤ fv .f64 (fop .mul .f64 r r) := by
    have := (mul_Rd fr fr).lo w1 zf.1 (by rw [zf.2]; exact sq0)
    rw [zf.2] at this; exact this
  have y0 := sub_Rd one.1 w1
  rw [one.2] at y0
  obtain ⟨y1, y2, y3⟩ := rnd64 y0 (B := 2) (by grind) (by grind) (by grind) (by grind)
  have yhi : fv .f64 (fop .sub .f64 4607182418800017408 (fop .mul .f64 r r)) ≤ 1 := by
    have := y0.hi y1 one.1 (by rw [one.2]; grind)
    rw [one.2] at this; exact this
  have z0 := mul_Rd fe y1
  rw [← he'] at z0
  have ze := mul_bd (a := fv .f64 e) (A := 54) e53 (by grind) (b := fv .f64 (fop .sub .f64 4607182418800017408 (fop .mul .f64 r r))) (B := 2) (by grind) (by grind)
  obtain ⟨z1, z2, z3⟩ := rnd64 z0 (B := 108) (by grind) (by grind) (by grind) (by grind)
  have zhi : fv .f64 e' ≤ fv .f64 e := by
    refine z0.hi z1 fe ?_
    have := Rat.mul_le_mul_of_nonneg_left yhi e0
    grind
  refine ⟨zhi, ?_⟩
  generalize fv .f64 (fop .sub .f64 4607182418800017408 (fop .mul .f64 r r)) = Y at *
  generalize fv .f64 (fop .mul .f64 r r) = Wq at *
  have hY : Y ≤ 1 - fv .f64 r * fv .f64 r + 3 / 1000000 := by grind
  have Yp : 16 / 100 ≤ Y := by
    rcases Rat.le_total (a := 16 / 100) (b := Y) with h | h
    · exact h
    · have := Rat.mul_le_mul_of_nonneg_left h e0
      grind
  have hs : fv .f64 r * fv .f64 r ≤ 19 / 20 * (19 / 20) := by grind
  rcases Rat.le_total (a := 0) (b := fv .f64 r) with h | h
  · have := sq_le_of h (show (0 : Rat) < 19 / 20 by grind) hs
    exact nr_of this (by grind)
  · have := sq_le_of (u := -(fv .f64 r)) (by grind) (show (0 : Rat) < 19 / 20 by grind) (by grind)
    exact nr_of (by grind) (by grind)

theorem lev_bin {a b r : Nat} (fa : isFl .f64 a) (fb : isFl .f64 b) (fr : isFl .f64 r) (r1 : fv .f64 r ≤ 1) (r2 : -1 ≤ fv .f64 r) {X Y : Rat} (hX : 0 ≤ X) (hY : 0 ≤ Y) (hX1 : X ≤ 64) (hY1 : Y ≤ 64) (ha : nr X (fv .f64 a) 0) (hb : nr Y (fv .f64 b) 0) :
    nr (X + Y + 1 / 1000000000000) (fv .f64 (fop .sub .f64 a (fop .mul .f64 r b))) 0 := by
  obtain ⟨a1, a2⟩ := nr_abs ha
  obtain ⟨b1, b2⟩ := nr_abs hb
  have p := mul_bd r1 (show -(1 : Rat) ≤ fv .f64 r by grind) b1 b2
  obtain ⟨p1, p2, p3⟩ := rnd64 (mul_Rd fr fb) (B := 64) (by grind) (by grind) (by grind) (by grind)
  obtain ⟨s1, s2, s3⟩ := rnd64 (sub_Rd fa p1) (B := 256) (by grind) (by grind) (by grind) (by grind)
  exact nr_of (by grind) (by grind)

theorem bnS_tab : ∀ m, m < 7 → sumR (fun k => (bn m k : Rat)) m = P2 m - 1 := by decide +kernel

/-- Sums under binomial bounds. -/
theorem bin_sum {a : Nat → Rat} {m : Nat} (h6 : m ≤ 6) (hb : ∀ k, k < m → nr ((bn m k : Rat) + 1 / 100000000) (a k) 0) (t : Nat → Rat) (h : Rat) (h0 : 0 ≤ h) (ht : ∀ k, k < m → nr h (t k) 0) : nr ((P2 m - 1 + 1 / 10000000) * h) (sumR (fun k => a k * t k) m) 0 := by
  have s := sumR_nr (e := fun k => ((bn m k : Rat) + 1 / 100000000) * h) (s := fun k => a k * t k) (t := fun _ => 0) m fun k hk => nr_prod (nr_abs (hb k hk)).1 (nr_abs (hb k hk)).2 (ht k hk)
  have e : sumR (fun k => ((bn m k : Rat) + 1 / 100000000) * h) m = (P2 m - 1) * h + (m : Rat) * (1 / 100000000 * h) := by
    rw [sumR_congr (t := fun k => h * (bn m k : Rat) + 1 / 100000000 * h) m (fun k _ => by grind), sumR_add, sumR_mul, sumR_const, bnS_tab m (by omega)]; grind
  rw [e, sumR_const] at s
  have m6 : (m : Rat) ≤ 6 := natR_le (b := 6) h6
  have q := Rat.mul_le_mul_of_nonneg_right m6 (show 0 ≤ 1 / 100000000 * h by grind)
  obtain ⟨s1, s2⟩ := s
  exact nr_of (by grind) (by grind)

/-! ### Ladders as lattices -/

/-- What a ladder's other side holds, one number before. -/
def ubR (x a : Nat → Rat) (m n : Nat) : Rat := sh x (m + 1) n - sumR (fun k => a (m - 1 - k) * sh x (k + 1) n) m
def uR (x a : Nat → Rat) (m n : Nat) : Rat := sh x m n - sumR (fun k => a (m - 1 - k) * sh x k n) m

theorem sh_succ (x : Nat → Rat) (k n : Nat) : sh x (k + 1) (n + 1) = sh x k n := by
  unfold sh
  rcases Nat.lt_or_ge n k with g | g
  · rw [if_neg (by omega), if_neg (by omega)]
  · rw [if_pos (by omega), if_pos (by omega), show n + 1 - (k + 1) = n - k by omega]
theorem ub_zero (x a : Nat → Rat) (m : Nat) : ubR x a m 0 = 0 := by
  have z : ∀ k, sh x (k + 1) 0 = 0 := fun k => by unfold sh; rw [if_neg (by omega)]
  unfold ubR
  rw [z, sumR_zero m fun k _ => by rw [z]; grind]; grind
theorem ub_succ (x a : Nat → Rat) (m n : Nat) : ubR x a m (n + 1) = uR x a m n := by
  unfold ubR uR
  rw [sh_succ, sumR_congr (t := fun k => a (m - 1 - k) * sh x k n) m (fun k _ => by rw [sh_succ])]

theorem lat_f (x a : Nat → Rat) (r : Rat) (m n : Nat) : resR x (upR a r m) (m + 1) n = resR x a m n - r * ubR x a m n := by
  unfold resR ubR
  rw [sumR, sumR_congr (t := fun k => a k * sh x (k + 1) n - r * (a (m - 1 - k) * sh x (k + 1) n)) m (fun k hk => by unfold upR; rw [if_pos hk]; grind), sumR_sub, sumR_mul]
  have : upR a r m m = r := by unfold upR; rw [if_neg (by omega)]
  rw [this]; grind
theorem lat_u (x a : Nat → Rat) (r : Rat) (m n : Nat) : uR x (upR a r m) (m + 1) n = ubR x a m n - r * resR x a m n := by
  unfold uR ubR resR
  rw [sumR_head]
  have e0 : upR a r m (m + 1 - 1 - 0) = r := by unfold upR; rw [if_neg (by omega)]
  have x0 : sh x 0 n = x n := by unfold sh; rw [if_pos (by omega)]; rfl
  rw [e0, x0, sumR_congr (t := fun k => a (m - 1 - k) * sh x (k + 1) n - r * (a k * sh x (k + 1) n)) m (fun k hk => by
    have : upR a r m (m + 1 - 1 - (k + 1)) = a (m - 1 - k) - r * a k := by
      unfold upR; rw [if_pos (by omega), show m + 1 - 1 - (k + 1) = m - 1 - k by omega, show m - 1 - (m - 1 - k) = k by omega]
    rw [this]; grind), sumR_sub, sumR_mul]
  grind

def gB : Nat → Rat
  | 0 => 2
  | m + 1 => 3 / 2 * gB m
theorem gB_tab : ∀ m, m < 7 → 2 ≤ gB m ∧ gB m ≤ 23 := by decide +kernel

section
variable {x r : Nat → Rat} (hx : ∀ n, x n ≤ 2 ∧ -2 ≤ x n) (hr : ∀ k, r k ≤ 1 / 2 ∧ -(1 / 2) ≤ r k)
include hx hr

theorem lat_bd : ∀ m, m < 7 → ∀ n, nr (gB m) (resR x (aR r m) m n) 0 ∧ nr (gB m) (uR x (aR r m) m n) 0 ∧ nr (gB m) (ubR x (aR r m) m n) 0
  | 0, _, n => by
    have s : ∀ k, sh x k n ≤ 2 ∧ -2 ≤ sh x k n := fun k => by
      unfold sh; split
      · exact hx _
      · exact ⟨by grind, by grind⟩
    unfold resR uR ubR
    simp only [sumR, gB]
    exact ⟨nr_of (by have := (hx n).1; grind) (by have := (hx n).2; grind), nr_of (by have := (s 0).1; grind) (by have := (s 0).2; grind), nr_of (by have := (s 1).1; grind) (by have := (s 1).2; grind)⟩
  | m + 1, h7, n => by
    have ih := lat_bd m (by omega)
    have step : ∀ n, nr (3 / 2 * gB m) (resR x (aR r (m + 1)) (m + 1) n) 0 ∧ nr (3 / 2 * gB m) (uR x (aR r (m + 1)) (m + 1) n) 0 := fun n => by
      obtain ⟨f, _, ub⟩ := ih n
      have ef : resR x (aR r (m + 1)) (m + 1) n = resR x (aR r m) m n - r m * ubR x (aR r m) m n := lat_f x (aR r m) (r m) m n
      have eu : uR x (aR r (m + 1)) (m + 1) n = ubR x (aR r m) m n - r m * resR x (aR r m) m n := lat_u x (aR r m) (r m) m n
      obtain ⟨f1, f2⟩ := nr_abs f
      obtain ⟨u1, u2⟩ := nr_abs ub
      have p := mul_bd (hr m).1 (hr m).2 u1 u2
      have q := mul_bd (hr m).1 (hr m).2 f1 f2
      rw [ef, eu]
      exact ⟨nr_of (by grind) (by grind), nr_of (by grind) (by grind)⟩
    have g := (gB_tab m (by omega)).1
    simp only [gB]
    refine ⟨(step n).1, (step n).2, ?_⟩
    cases n with
    | zero => rw [ub_zero]; exact nr_of (by grind) (by grind)
    | succ n => rw [ub_succ]; exact (step n).2
end

end Go.Sim
end
