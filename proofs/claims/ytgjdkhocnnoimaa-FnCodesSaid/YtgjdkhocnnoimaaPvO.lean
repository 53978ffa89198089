/- Of two numbers the greater has the greater logarithm, as it is reckoned; so codes keep the order. Conditions: none. -/
import Derived.Test.YtgjdkhocnnoimaaPvH
namespace Go.Sim
open Go

/-! ### Small errors -/

/-- 10^-12 -/
def eta : Rat := 1 / 1000000000000

theorem eta_pos : 0 < eta := by decide +kernel

theorem er {q : Rat} {z : Nat} (h : Rd .f64 q z) (hz : isFl .f64 z) (h1 : q ≤ 256) (h2 : -256 ≤ q) : fv .f64 z ≤ q + eta ∧ q ≤ fv .f64 z + eta := by
  have e := h.err hz h1 h2
  have c : (256 : Rat) * 2 ^ (-(FloatKind.f64.format.fractionBits : Int)) + 2 ^ FloatKind.f64.format.leastPlace ≤ eta := by decide +kernel
  constructor <;> grind

theorem mul_le2 {a b c d : Rat} (h : a ≤ b) (g : c ≤ d) (ha : 0 ≤ b) (hc : 0 ≤ c) : a * c ≤ b * d :=
  Rat.le_trans (Rat.mul_le_mul_of_nonneg_right h hc) (Rat.mul_le_mul_of_nonneg_left g ha)

/-! ### The quotient -/

theorem logS_line {x : Nat} (h : Iv .f64 x 4604930618986332160 4609434218613702656) :
    fv .f64 (logS x) * (fv .f64 x + 1) ≤ (fv .f64 x - 1) + 8 * eta ∧ (fv .f64 x - 1) ≤ fv .f64 (logS x) * (fv .f64 x + 1) + 8 * eta := by
  have h1 : Iv .f64 (fop .sub .f64 x 4607182418800017408) 13821727400385147044 4602768891165194322 := h.sub one_iv _ _ (by decide +kernel)
  have h2 : Iv .f64 (fop .add .f64 x 4607182418800017408) 4610515082524271575 4612811918334230528 := h.add one_iv _ _ (by decide +kernel)
  have hs := logS_iv h
  have v1 : fv .f64 4607182418800017408 = 1 := by decide +kernel
  have lo : fv .f64 4604930618986332160 = 3 / 4 := by decide +kernel
  have hi : fv .f64 4609434218613702656 = 3 / 2 := by decide +kernel
  have xl := h.lo; have xh := h.hi
  rw [lo] at xl; rw [hi] at xh
  have a := er (sub_Rd h.fx one_iv.fx) h1.fx (by rw [v1]; grind) (by rw [v1]; grind)
  have b := er (add_Rd h.fx one_iv.fx) h2.fx (by rw [v1]; grind) (by rw [v1]; grind)
  rw [v1] at a b
  have he : eta ≤ 1 / 1000 := by decide +kernel
  have e0 := eta_pos
  have bl := h2.lo
  have bl' : (17 : Rat) / 10 ≤ fv .f64 4610515082524271575 := by decide +kernel
  have bp : 0 < fv .f64 (fop .add .f64 x 4607182418800017408) := by grind
  have sl := hs.lo; have sh := hs.hi
  have sl' : -1 ≤ fv .f64 13817944376698155827 := by decide +kernel
  have sh' : fv .f64 4596734067664517857 ≤ 1 := by decide +kernel
  have hq := quo_Rd h1.fx h2.fx (by grind)
  have q1 : fv .f64 (fop .sub .f64 x 4607182418800017408) / fv .f64 (fop .add .f64 x 4607182418800017408) ≤ 256 := by
    rw [Rat.div_def]; exact (mul_div_le bp).1 (by grind)
  have q2 : -256 ≤ fv .f64 (fop .sub .f64 x 4607182418800017408) / fv .f64 (fop .add .f64 x 4607182418800017408) := by
    rw [Rat.div_def]; exact (le_mul_div bp).1 (by grind)
  have d := er hq hs.fx q1 q2
  show fv .f64 (logS x) * (fv .f64 x + 1) ≤ (fv .f64 x - 1) + 8 * eta ∧ (fv .f64 x - 1) ≤ fv .f64 (logS x) * (fv .f64 x + 1) + 8 * eta
  have hm : fv .f64 (fop .sub .f64 x 4607182418800017408) / fv .f64 (fop .add .f64 x 4607182418800017408) * fv .f64 (fop .add .f64 x 4607182418800017408) = fv .f64 (fop .sub .f64 x 4607182418800017408) := Rat.div_mul_cancel (by grind)
  change fv .f64 (logS x) ≤ _ ∧ _ ≤ fv .f64 (logS x) + eta at d
  generalize fv .f64 (fop .sub .f64 x 4607182418800017408) / fv .f64 (fop .add .f64 x 4607182418800017408) = r at *
  generalize fv .f64 (fop .sub .f64 x 4607182418800017408) = A at *
  generalize fv .f64 (fop .add .f64 x 4607182418800017408) = B at *
  generalize fv .f64 (logS x) = s at *
  generalize fv .f64 x = X at *
  -- s B is near A
  have m1 : s * B ≤ (r + eta) * B := Rat.mul_le_mul_of_nonneg_right d.1 (Rat.le_of_lt bp)
  have m2 : r * B ≤ (s + eta) * B := Rat.mul_le_mul_of_nonneg_right d.2 (Rat.le_of_lt bp)
  have B3 : eta * B ≤ eta * 3 := Rat.mul_le_mul_of_nonneg_left (by grind) (Rat.le_of_lt e0)
  -- s (X + 1 - B) is small
  have t1 : s * (X + 1 - B) ≤ eta := by
    have p1 : (s + 1) * (X + 1 - B + eta) ≥ 0 := Rat.mul_nonneg (by grind) (by grind)
    have p2 : (1 - s) * (eta - (X + 1 - B)) ≥ 0 := Rat.mul_nonneg (by grind) (by grind)
    have p3 : (1 + s) * (eta - (X + 1 - B)) ≥ 0 := Rat.mul_nonneg (by grind) (by grind)
    have p4 : (1 - s) * (X + 1 - B + eta) ≥ 0 := Rat.mul_nonneg (by grind) (by grind)
    grind
  have t2 : -eta ≤ s * (X + 1 - B) := by
    have p1 : (s + 1) * (X + 1 - B + eta) ≥ 0 := Rat.mul_nonneg (by grind) (by grind)
    have p2 : (1 - s) * (eta - (X + 1 - B)) ≥ 0 := Rat.mul_nonneg (by grind) (by grind)
    have p3 : (1 + s) * (eta - (X + 1 - B)) ≥ 0 := Rat.mul_nonneg (by grind) (by grind)
    have p4 : (1 - s) * (X + 1 - B + eta) ≥ 0 := Rat.mul_nonneg (by grind) (by grind)
    grind
  constructor <;> grind

theorem logS_num {x : Nat} (h : Iv .f64 x 4604930618986332160 4609434218613702656) : -(3 / 20) ≤ fv .f64 (logS x) ∧ fv .f64 (logS x) ≤ 21 / 100 ∧ 3 / 4 ≤ fv .f64 x ∧ fv .f64 x ≤ 3 / 2 := by
  have hs := logS_iv h
  have l : -(3 / 20) ≤ fv .f64 13817944376698155827 := by decide +kernel
  have u : fv .f64 4596734067664517857 ≤ 21 / 100 := by decide +kernel
  have lo : fv .f64 4604930618986332160 = 3 / 4 := by decide +kernel
  have hi : fv .f64 4609434218613702656 = 3 / 2 := by decide +kernel
  have a := hs.lo; have b := hs.hi; have c := h.lo; have d := h.hi
  refine ⟨by grind, by grind, by grind, by grind⟩

/-- The quotients keep the order, nearly, and how far apart they are. -/
theorem logS_gap {x y : Nat} (hx : Iv .f64 x 4604930618986332160 4609434218613702656) (hy : Iv .f64 y 4604930618986332160 4609434218613702656) (hxy : fv .f64 x ≤ fv .f64 y) :
    3 / 10 * (fv .f64 y - fv .f64 x) - 10 * eta ≤ fv .f64 (logS y) - fv .f64 (logS x) := by
  have lx := logS_line hx; have ly := logS_line hy
  obtain ⟨s1, s2, x1, x2⟩ := logS_num hx
  obtain ⟨t1, t2, y1, y2⟩ := logS_num hy
  have e0 := eta_pos
  generalize fv .f64 (logS x) = s at *
  generalize fv .f64 (logS y) = t at *
  generalize fv .f64 x = X at *
  generalize fv .f64 y = Y at *
  -- (t - s) (X + 1) is (1 - t) (Y - X), nearly
  have p : 79 / 100 * (Y - X) ≤ (1 - t) * (Y - X) := Rat.mul_le_mul_of_nonneg_right (by grind) (by grind)
  have k : 79 / 100 * (Y - X) - 16 * eta ≤ (t - s) * (X + 1) := by grind
  refine Rat.not_lt.1 fun hc => ?_
  have m : (t - s) * (X + 1) < (3 / 10 * (Y - X) - 10 * eta) * (X + 1) := Rat.mul_lt_mul_of_pos_right hc (by grind)
  have n1 : 3 / 10 * (Y - X) * (X + 1) ≤ 3 / 10 * (Y - X) * (5 / 2) := Rat.mul_le_mul_of_nonneg_left (by grind) (by grind)
  have n2 : eta * (7 / 4) ≤ eta * (X + 1) := Rat.mul_le_mul_of_nonneg_left (by grind) (Rat.le_of_lt e0)
  grind

/-! ### The row -/

theorem u_num {u : Nat} (h : Iv .f64 u 0 4587366580439587226) : 0 ≤ fv .f64 u ∧ fv .f64 u ≤ 51 / 1000 := by
  have a := h.lo; have b := h.hi
  have c : fv .f64 4587366580439587226 ≤ 51 / 1000 := by decide +kernel
  rw [(zero_fl .f64).2] at a
  exact ⟨a, by grind⟩

theorem q_num {u : Nat} (h : Iv .f64 u 0 4587366580439587226) {k : Nat} (hk : k ≤ 13) : 0 ≤ fv .f64 (logQ u k) ∧ fv .f64 (logQ u k) ≤ 5 / 4 := by
  have g := logQ_iv h k hk
  have a := g.lo; have b := g.hi
  have c : fv .f64 4608308318706860032 ≤ 5 / 4 := by decide +kernel
  rw [(zero_fl .f64).2] at a
  exact ⟨a, by grind⟩

theorem logQ_step {u : Nat} (h : Iv .f64 u 0 4587366580439587226) {k : Nat} (hk : k < 13) : ∃ c, 0 ≤ c ∧ c ≤ 1 ∧ (k = 12 → c = 1) ∧ c = fv .f64 (fop .quo .f64 4607182418800017408 (canon .f64 (FloatKind.nearest .f64 ((25 : Int) + (-2 : Int) * ((k : Nat) : Int))))) ∧
    fv .f64 (logQ u (k + 1)) ≤ c + fv .f64 u * fv .f64 (logQ u k) + 2 * eta ∧ c + fv .f64 u * fv .f64 (logQ u k) ≤ fv .f64 (logQ u (k + 1)) + 2 * eta := by
  have h1 := logQ_iv h k (by omega)
  have h2 := Iv.int .f64 ((25 : Int) + (-2 : Int) * ((k : Nat) : Int)) (a := 1) (b := 25) (by omega) (by omega) (by omega) (by omega)
  have h3 : Iv .f64 (fop .quo .f64 4607182418800017408 (canon .f64 (FloatKind.nearest .f64 ((25 : Int) + (-2 : Int) * ((k : Nat) : Int))))) 0 4607182418800017408 := one_iv.quo h2 _ _ (by decide +kernel)
  have h4 : Iv .f64 (fop .mul .f64 u (logQ u k)) 0 4589708452245819884 := h.mul h1 _ _ (by decide +kernel)
  have h5 := logQ_iv h (k + 1) (by omega)
  have v1 : fv .f64 4607182418800017408 = 1 := by decide +kernel
  obtain ⟨u0, u1⟩ := u_num h
  obtain ⟨q0, q1⟩ := q_num h (k := k) (by omega)
  have p0 : 0 ≤ fv .f64 u * fv .f64 (logQ u k) := Rat.mul_nonneg u0 q0
  have p1 : fv .f64 u * fv .f64 (logQ u k) ≤ 51 / 1000 * (5 / 4) := mul_le2 u1 q1 (by grind) q0
  have c0 := h3.lo; have c1 := h3.hi
  rw [(zero_fl .f64).2] at c0
  rw [v1] at c1
  have e0 := eta_pos
  have he : eta ≤ 1 / 1000 := by decide +kernel
  have a := er (mul_Rd h.fx h1.fx) h4.fx (by grind) (by grind)
  have b := er (add_Rd h3.fx h4.fx) h5.fx (by grind) (by grind)
  change fv .f64 (logQ u (k + 1)) ≤ _ ∧ _ ≤ fv .f64 (logQ u (k + 1)) + eta at b
  refine ⟨_, c0, c1, fun hk12 => ?_, rfl, by grind, by grind⟩
  subst hk12
  decide +kernel

theorem logQ_mono {u w : Nat} (hu : Iv .f64 u 0 4587366580439587226) (hw : Iv .f64 w 0 4587366580439587226) (h : fv .f64 u ≤ fv .f64 w + 8 * eta) : ∀ k, k ≤ 13 → fv .f64 (logQ u k) ≤ fv .f64 (logQ w k) + 30 * eta := by
  intro k
  have e0 := eta_pos
  have he : eta ≤ 1 / 1000 := by decide +kernel
  induction k with
  | zero => intro _; show fv .f64 0 ≤ fv .f64 0 + _; grind
  | succ k ih =>
    intro hk
    obtain ⟨c, _, _, _, hc, a1, _⟩ := logQ_step hu (k := k) (by omega)
    obtain ⟨d, _, _, _, hd, _, b2⟩ := logQ_step hw (k := k) (by omega)
    rw [← hc] at hd
    have i := ih (by omega)
    obtain ⟨u0, u1⟩ := u_num hu
    obtain ⟨w0, w1⟩ := u_num hw
    obtain ⟨q0, q1⟩ := q_num hu (k := k) (by omega)
    obtain ⟨r0, r1⟩ := q_num hw (k := k) (by omega)
    -- u q ≤ (w + 8 eta) (r + 30 eta)
    have m1 : fv .f64 u * fv .f64 (logQ u k) ≤ (fv .f64 w + 8 * eta) * fv .f64 (logQ u k) := Rat.mul_le_mul_of_nonneg_right h q0
    have m2 : fv .f64 w * fv .f64 (logQ u k) ≤ fv .f64 w * (fv .f64 (logQ w k) + 30 * eta) := Rat.mul_le_mul_of_nonneg_left i w0
    have m3 : eta * fv .f64 (logQ u k) ≤ eta * (5 / 4) := Rat.mul_le_mul_of_nonneg_left q1 (Rat.le_of_lt e0)
    have m4 : fv .f64 w * eta ≤ 51 / 1000 * eta := Rat.mul_le_mul_of_nonneg_right w1 (Rat.le_of_lt e0)
    grind

theorem logQ_one {u : Nat} (h : Iv .f64 u 0 4587366580439587226) : 1 - 2 * eta ≤ fv .f64 (logQ u 13) := by
  obtain ⟨c, _, _, hc, _, _, b⟩ := logQ_step h (k := 12) (by omega)
  have := hc rfl
  obtain ⟨u0, _⟩ := u_num h
  obtain ⟨q0, _⟩ := q_num h (k := 12) (by omega)
  have p0 : 0 ≤ fv .f64 u * fv .f64 (logQ u 12) := Rat.mul_nonneg u0 q0
  grind

/-! ### The logarithm of a number from 3/4 to 3/2 -/

def logM (x : Nat) : Nat := fop .mul .f64 4611686018427387904 (fop .mul .f64 (logS x) (logQ (fop .mul .f64 (logS x) (logS x)) 13))

theorem logM_parts {x : Nat} (h : Iv .f64 x 4604930618986332160 4609434218613702656) : ∃ u, Iv .f64 u 0 4587366580439587226 ∧ isFl .f64 (logM x) ∧
    fv .f64 u ≤ fv .f64 (logS x) * fv .f64 (logS x) + eta ∧ fv .f64 (logS x) * fv .f64 (logS x) ≤ fv .f64 u + eta ∧
    fv .f64 (logM x) ≤ 2 * (fv .f64 (logS x) * fv .f64 (logQ u 13)) + 3 * eta ∧ 2 * (fv .f64 (logS x) * fv .f64 (logQ u 13)) ≤ fv .f64 (logM x) + 3 * eta ∧ fv .f64 (logM x) ≤ 1 ∧ -1 ≤ fv .f64 (logM x) := by
  have hs := logS_iv h
  have hu : Iv .f64 (fop .mul .f64 (logS x) (logS x)) 0 4587366580439587226 := hs.sq _ (by decide +kernel)
  have hq := logQ_iv hu 13 (by omega)
  have hsq : Iv .f64 (fop .mul .f64 (logS x) (logQ (fop .mul .f64 (logS x) (logS x)) 13)) 13819745816549104026 4599075939470750515 := hs.mul hq _ _ (by decide +kernel)
  have h2sq : Iv .f64 (logM x) 13824429560161569341 4603669611090668421 := two_iv.mul hsq _ _ (by decide +kernel)
  obtain ⟨s1, s2, _, _⟩ := logS_num h
  obtain ⟨q0, q1⟩ := q_num hu (k := 13) (by omega)
  have v2 : fv .f64 4611686018427387904 = 2 := by decide +kernel
  have e0 := eta_pos
  have he : eta ≤ 1 / 1000 := by decide +kernel
  have ss0 := sq_nonneg (fv .f64 (logS x))
  have ss1 : fv .f64 (logS x) * fv .f64 (logS x) ≤ 1 := by
    have p1 : 0 ≤ (fv .f64 (logS x) + 1) * (1 - fv .f64 (logS x)) := Rat.mul_nonneg (by grind) (by grind)
    grind
  have sq1 : fv .f64 (logS x) * fv .f64 (logQ (fop .mul .f64 (logS x) (logS x)) 13) ≤ 2 := by
    have p1 : 0 ≤ (1 - fv .f64 (logS x)) * fv .f64 (logQ (fop .mul .f64 (logS x) (logS x)) 13) := Rat.mul_nonneg (by grind) q0
    grind
  have sq2 : -2 ≤ fv .f64 (logS x) * fv .f64 (logQ (fop .mul .f64 (logS x) (logS x)) 13) := by
    have p1 : 0 ≤ (1 + fv .f64 (logS x)) * fv .f64 (logQ (fop .mul .f64 (logS x) (logS x)) 13) := Rat.mul_nonneg (by grind) q0
    grind
  have a := er (mul_Rd hs.fx hs.fx) hu.fx (by grind) (by grind)
  have b := er (mul_Rd hs.fx hq.fx) hsq.fx (by grind) (by grind)
  have c := er (mul_Rd two_iv.fx hsq.fx) h2sq.fx (by rw [v2]; grind) (by rw [v2]; grind)
  rw [v2] at c
  change fv .f64 (logM x) ≤ _ ∧ _ ≤ fv .f64 (logM x) + eta at c
  have ml := h2sq.lo; have mh := h2sq.hi
  have k1 : -1 ≤ fv .f64 13824429560161569341 := by decide +kernel
  have k2 : fv .f64 4603669611090668421 ≤ 1 := by decide +kernel
  exact ⟨_, hu, h2sq.fx, a.1, a.2, by grind, by grind, by grind, by grind⟩

theorem logM_gap {x y : Nat} (hx : Iv .f64 x 4604930618986332160 4609434218613702656) (hy : Iv .f64 y 4604930618986332160 4609434218613702656) (hxy : fv .f64 x ≤ fv .f64 y) :
    6 / 10 * (fv .f64 y - fv .f64 x) - 200 * eta ≤ fv .f64 (logM y) - fv .f64 (logM x) := by
  have g := logS_gap hx hy hxy
  obtain ⟨u, hu, _, u1, u2, m1, m2, _⟩ := logM_parts hx
  obtain ⟨w, hw, _, w1, w2, n1, n2, _⟩ := logM_parts hy
  obtain ⟨s1, s2, _, _⟩ := logS_num hx
  obtain ⟨t1, t2, _, _⟩ := logS_num hy
  obtain ⟨p0, p1⟩ := q_num hu (k := 13) (by omega)
  obtain ⟨q0, q1⟩ := q_num hw (k := 13) (by omega)
  have o1 := logQ_one hu; have o2 := logQ_one hw
  have e0 := eta_pos
  have he : eta ≤ 1 / 1000 := by decide +kernel
  have gap : -(10 * eta) ≤ fv .f64 (logS y) - fv .f64 (logS x) := by grind
  have key : (fv .f64 (logS y) - fv .f64 (logS x)) - 60 * eta ≤ fv .f64 (logS y) * fv .f64 (logQ w 13) - fv .f64 (logS x) * fv .f64 (logQ u 13) := by
    clear g m1 m2 n1 n2
    have mono1 := logQ_mono hu hw
    have mono2 := logQ_mono hw hu
    generalize fv .f64 (logS x) = s at *
    generalize fv .f64 (logS y) = t at *
    generalize fv .f64 u = U at *
    generalize fv .f64 w = W at *
    rcases (Rat.le_total (a := 0) (b := s)) with hs | hs
    · rcases (Rat.le_total (a := 0) (b := t)) with ht | ht
      · -- both positive
        have a : s * s ≤ t * t + 6 * eta := by
          have b1 : s * s ≤ (t + 10 * eta) * s := Rat.mul_le_mul_of_nonneg_right (by grind) hs
          have b2 : t * s ≤ t * (t + 10 * eta) := Rat.mul_le_mul_of_nonneg_left (by grind) ht
          have b3 : eta * s ≤ eta * (21 / 100) := Rat.mul_le_mul_of_nonneg_left s2 (Rat.le_of_lt e0)
          have b4 : t * eta ≤ 21 / 100 * eta := Rat.mul_le_mul_of_nonneg_right t2 (Rat.le_of_lt e0)
          grind
        have m := mono1 (by grind) 13 (by omega)
        generalize fv .f64 (logQ u 13) = P at *
        generalize fv .f64 (logQ w 13) = Q at *
        have c1 : s * P ≤ s * (Q + 30 * eta) := Rat.mul_le_mul_of_nonneg_left m hs
        have c2 : s * eta ≤ 21 / 100 * eta := Rat.mul_le_mul_of_nonneg_right s2 (Rat.le_of_lt e0)
        have c3 : 0 ≤ (t - s + 10 * eta) * (Q - 1 + 2 * eta) := Rat.mul_nonneg (by grind) (by grind)
        have c4 : eta * Q ≤ eta * (5 / 4) := Rat.mul_le_mul_of_nonneg_left q1 (Rat.le_of_lt e0)
        have c5 : eta * t ≤ eta * 1 := Rat.mul_le_mul_of_nonneg_left (by grind) (Rat.le_of_lt e0)
        have c6 : 0 ≤ eta * s := Rat.mul_nonneg (Rat.le_of_lt e0) hs
        have c7 : eta * eta ≤ eta * (1 / 1000) := Rat.mul_le_mul_of_nonneg_left he (Rat.le_of_lt e0)
        grind
      · -- 0 ≤ s, t ≤ 0: both nearly nothing
        generalize fv .f64 (logQ u 13) = P at *
        generalize fv .f64 (logQ w 13) = Q at *
        have c1 : s * P ≤ (10 * eta) * (5 / 4) := mul_le2 (by grind) p1 (by grind) p0
        have c2 : (-t) * Q ≤ (10 * eta) * (5 / 4) := mul_le2 (by grind) q1 (by grind) q0
        grind
    · rcases (Rat.le_total (a := 0) (b := t)) with ht | ht
      · -- s ≤ 0 ≤ t
        generalize fv .f64 (logQ u 13) = P at *
        generalize fv .f64 (logQ w 13) = Q at *
        have c1 : 0 ≤ (-s) * (P - 1 + 2 * eta) := Rat.mul_nonneg (by grind) (by grind)
        have c2 : 0 ≤ t * (Q - 1 + 2 * eta) := Rat.mul_nonneg ht (by grind)
        have c3 : eta * t ≤ eta * 1 := Rat.mul_le_mul_of_nonneg_left (by grind) (Rat.le_of_lt e0)
        have c4 : eta * (-s) ≤ eta * 1 := Rat.mul_le_mul_of_nonneg_left (by grind) (Rat.le_of_lt e0)
        grind
      · -- both negative
        have a : t * t ≤ s * s + 6 * eta := by
          have b1 : (-t) * (-t) ≤ (-s + 10 * eta) * (-t) := Rat.mul_le_mul_of_nonneg_right (by grind) (by grind)
          have b2 : (-s) * (-t) ≤ (-s) * (-s + 10 * eta) := Rat.mul_le_mul_of_nonneg_left (by grind) (by grind)
          have b3 : eta * (-t) ≤ eta * (3 / 20) := Rat.mul_le_mul_of_nonneg_left (by grind) (Rat.le_of_lt e0)
          have b4 : (-s) * eta ≤ 3 / 20 * eta := Rat.mul_le_mul_of_nonneg_right (by grind) (Rat.le_of_lt e0)
          grind
        have m := mono2 (by grind) 13 (by omega)
        generalize fv .f64 (logQ u 13) = P at *
        generalize fv .f64 (logQ w 13) = Q at *
        have c1 : (-t) * Q ≤ (-t) * (P + 30 * eta) := Rat.mul_le_mul_of_nonneg_left m (by grind)
        have c2 : (-t) * eta ≤ 3 / 20 * eta := Rat.mul_le_mul_of_nonneg_right (by grind) (Rat.le_of_lt e0)
        have c3 : 0 ≤ (t - s + 10 * eta) * (P - 1 + 2 * eta) := Rat.mul_nonneg (by grind) (by grind)
        have c4 : eta * P ≤ eta * (5 / 4) := Rat.mul_le_mul_of_nonneg_left p1 (Rat.le_of_lt e0)
        have c5 : eta * (t - s) ≤ eta * 1 := Rat.mul_le_mul_of_nonneg_left (by grind) (Rat.le_of_lt e0)
        have c7 : eta * eta ≤ eta * (1 / 1000) := Rat.mul_le_mul_of_nonneg_left he (Rat.le_of_lt e0)
        grind
  grind

/-! ### Halves, and the logarithm of a number from 1 to 256 -/

theorem pow2_one (k : Nat) : (1 : Rat) ≤ 2 ^ k := by
  induction k with
  | zero => exact Rat.le_refl
  | succ k ih => rw [Rat.pow_succ]; grind

theorem pow2_mono {j k : Nat} (h : j ≤ k) : (2 : Rat) ^ j ≤ 2 ^ k := by
  induction h with
  | refl => exact Rat.le_refl
  | step _ ih => rw [Rat.pow_succ]; have := pow2_one j; grind

theorem halve_near {y : Nat} (h : Iv .f64 y 4607182418800017408 4643211215818981376) : ∀ k, k ≤ 8 → fv .f64 y ≤ fv .f64 (halve y k) * 2 ^ k + 2 * 2 ^ k * eta ∧ fv .f64 (halve y k) * 2 ^ k ≤ fv .f64 y + 2 * 2 ^ k * eta := by
  have e0 := eta_pos
  intro k
  induction k with
  | zero => intro _; simp only [halve]; constructor <;> grind
  | succ k ih =>
    intro hk
    obtain ⟨i1, i2⟩ := ih (by omega)
    have a := (halve_up h).1 k (by omega)
    have b := (halve_up h).1 (k + 1) hk
    have v2 : fv .f64 4611686018427387904 = 2 := by decide +kernel
    have v256 : fv .f64 4643211215818981376 = 256 := by decide +kernel
    have a0 := a.lo; have a1 := a.hi
    rw [(zero_fl .f64).2] at a0
    rw [v256] at a1
    have hq := quo_Rd a.fx two_iv.fx (by rw [v2]; decide)
    rw [v2] at hq
    have hh : fv .f64 (halve y k) / 2 = fv .f64 (halve y k) * (1 / 2) := by grind
    rw [hh] at hq
    have c := er hq b.fx (by grind) (by grind)
    change fv .f64 (halve y (k + 1)) ≤ _ ∧ _ ≤ fv .f64 (halve y (k + 1)) + eta at c
    rw [Rat.pow_succ]
    have p1 := pow2_one k
    generalize (2 : Rat) ^ k = P at *
    have m1 : fv .f64 (halve y (k + 1)) * P ≤ (fv .f64 (halve y k) * (1 / 2) + eta) * P := Rat.mul_le_mul_of_nonneg_right c.1 (by grind)
    have m2 : (fv .f64 (halve y k) * (1 / 2)) * P ≤ (fv .f64 (halve y (k + 1)) + eta) * P := Rat.mul_le_mul_of_nonneg_right c.2 (by grind)
    constructor <;> grind

theorem log_parts {y : Nat} (h : Iv .f64 y 4607182418800017408 4643211215818981376) : ∃ (n x : Nat), n ≤ 8 ∧ Iv .f64 x 4604930618986332160 4609434218613702656 ∧ fv .f64 y ≤ fv .f64 x * (2 : Rat) ^ n + 2 * (2 : Rat) ^ n * eta ∧ fv .f64 x * (2 : Rat) ^ n ≤ fv .f64 y + 2 * (2 : Rat) ^ n * eta ∧
    fv .f64 (logW y) ≤ fv .f64 (logM x) + (n : Rat) * fv .f64 4604418534313441775 + 3 * eta ∧ fv .f64 (logM x) + (n : Rat) * fv .f64 4604418534313441775 ≤ fv .f64 (logW y) + 3 * eta := by
  obtain ⟨h1, h2, _⟩ := halve_spec h
  obtain ⟨h5, h6⟩ := halve_near h _ h1
  have hl := (log_iv h).fx
  refine ⟨halveN y, halve y (halveN y), h1, h2, h5, h6, ?_⟩
  have e : logW y = fop .add .f64 (logM (halve y (halveN y))) (fop .mul .f64 (canon .f64 (FloatKind.nearest .f64 ((halveN y : Nat) : Int))) 4604418534313441775) := by unfold logW logV; rfl
  obtain ⟨_, _, hm, _, _, _, _, m1, m2⟩ := logM_parts h2
  rw [e] at hl ⊢
  generalize halveN y = n at *
  obtain ⟨hi1, hi2⟩ := int_exact (k := .f64) ((n : Nat) : Int) (by omega)
  have e1 := Iv.int .f64 ((n : Nat) : Int) (a := 0) (b := 8) (by omega) (by omega) (by omega) (by omega)
  have e2 : Iv .f64 (fop .mul .f64 (canon .f64 (FloatKind.nearest .f64 ((n : Nat) : Int))) 4604418534313441775) 0 4618441417868443648 := e1.mul ln2_iv _ _ (by decide +kernel)
  have hc1 : (69 : Rat) / 100 ≤ fv .f64 4604418534313441775 := by decide +kernel
  have hc2 : fv .f64 4604418534313441775 ≤ 70 / 100 := by decide +kernel
  have n0 : (0 : Rat) ≤ (n : Rat) := Rat.natCast_nonneg
  have n8 : (n : Rat) ≤ 8 := Rat.natCast_le_natCast.2 h1
  have hn : (((n : Nat) : Int) : Rat) = (n : Rat) := rfl
  rw [hn] at hi2
  have p0 : 0 ≤ (n : Rat) * fv .f64 4604418534313441775 := Rat.mul_nonneg n0 (by grind)
  have p1 : (n : Rat) * fv .f64 4604418534313441775 ≤ 8 * (70 / 100) := mul_le2 n8 hc2 (by grind) (by grind)
  have e0 := eta_pos
  have he : eta ≤ 1 / 1000 := by decide +kernel
  have a := er (mul_Rd hi1 ln2_iv.fx) e2.fx (by rw [hi2]; grind) (by rw [hi2]; grind)
  rw [hi2] at a
  have b := er (add_Rd hm e2.fx) hl (by grind) (by grind)
  constructor <;> grind

/-- The logarithm grows, and how much at least. -/
theorem log_gap {y z : Nat} (hy : Iv .f64 y 4607182418800017408 4643211215818981376) (hz : Iv .f64 z 4607182418800017408 4643211215818981376) (hyz : fv .f64 y + 1 / 10 ≤ fv .f64 z) :
    6 / 2560 * (fv .f64 z - fv .f64 y) - 1 / 100000000 ≤ fv .f64 (logW z) - fv .f64 (logW y) := by
  obtain ⟨n, x, hn, hx, a1, a2, a3, a4⟩ := log_parts hy
  obtain ⟨m, w, hm, hw, b1, b2, b3, b4⟩ := log_parts hz
  have e0 := eta_pos
  have he : eta ≤ 1 / 1000000000000 := by decide +kernel
  have y1 := hy.lo
  have z1 := hz.hi
  have v1 : fv .f64 4607182418800017408 = 1 := by decide +kernel
  have v256 : fv .f64 4643211215818981376 = 256 := by decide +kernel
  rw [v1] at y1
  rw [v256] at z1
  obtain ⟨_, _, x1, x2⟩ := logS_num hx
  obtain ⟨_, _, w1, w2⟩ := logS_num hw
  have i34 : Iv .f64 4604930618986332160 4604930618986332160 4609434218613702656 := Iv.of (by decide +kernel)
  have i32 : Iv .f64 4609434218613702656 4604930618986332160 4609434218613702656 := Iv.of (by decide +kernel)
  have u34 : fv .f64 4604930618986332160 = 3 / 4 := by decide +kernel
  have u32 : fv .f64 4609434218613702656 = 3 / 2 := by decide +kernel
  have gx := logM_gap hx i32 (by rw [u32]; exact x2)
  have gw := logM_gap i34 hw (by rw [u34]; exact w1)
  rw [u32] at gx
  rw [u34] at gw
  have edge : fv .f64 (logM 4609434218613702656) ≤ fv .f64 (logM 4604930618986332160) + fv .f64 4604418534313441775 + 1 / 1000000000 := by decide +kernel
  have hc1 : (69 : Rat) / 100 ≤ fv .f64 4604418534313441775 := by decide +kernel
  have p1 := pow2_one n; have q1 := pow2_one m
  have p8 : (2 : Rat) ^ n ≤ 256 := Rat.le_trans (pow2_mono hn) (by decide +kernel)
  have q8 : (2 : Rat) ^ m ≤ 256 := Rat.le_trans (pow2_mono hm) (by decide +kernel)
  have pe : (2 : Rat) ^ n * eta ≤ 256 * eta := Rat.mul_le_mul_of_nonneg_right p8 (Rat.le_of_lt e0)
  have qe : (2 : Rat) ^ m * eta ≤ 256 * eta := Rat.mul_le_mul_of_nonneg_right q8 (Rat.le_of_lt e0)
  have four : m < n ∨ m = n ∨ m = n + 1 ∨ n + 2 ≤ m := by omega
  rcases four with hmn | hmn | hmn | hmn
  · -- less halves: it cannot be
    exfalso
    have h2 : (2 : Rat) ^ (m + 1) ≤ 2 ^ n := pow2_mono hmn
    rw [Rat.pow_succ] at h2
    have c1 : 3 / 4 * (2 : Rat) ^ n ≤ fv .f64 x * 2 ^ n := Rat.mul_le_mul_of_nonneg_right x1 (by grind)
    have c2 : fv .f64 w * (2 : Rat) ^ m ≤ 3 / 2 * 2 ^ m := Rat.mul_le_mul_of_nonneg_right w2 (by grind)
    grind
  · subst hmn
    have hxw : fv .f64 x ≤ fv .f64 w := by
      refine Rat.not_lt.1 fun hc => ?_
      have : fv .f64 w * (2 : Rat) ^ m ≤ fv .f64 x * 2 ^ m := Rat.mul_le_mul_of_nonneg_right (Rat.le_of_lt hc) (by grind)
      grind
    have g := logM_gap hx hw hxw
    have c : (fv .f64 w - fv .f64 x) * (2 : Rat) ^ m ≤ (fv .f64 w - fv .f64 x) * 256 := Rat.mul_le_mul_of_nonneg_left p8 (by grind)
    grind
  · subst hmn
    rw [Rat.pow_succ] at *
    have hcast : ((n + 1 : Nat) : Rat) = (n : Rat) + 1 := Rat.natCast_add n 1
    rw [hcast] at b3 b4
    have c1 : (fv .f64 w - 3 / 4) * (2 : Rat) ^ n ≤ (fv .f64 w - 3 / 4) * 128 := Rat.mul_le_mul_of_nonneg_left (by grind) (by grind)
    have c2 : (3 / 2 - fv .f64 x) * (2 : Rat) ^ n ≤ (3 / 2 - fv .f64 x) * 128 := Rat.mul_le_mul_of_nonneg_left (by grind) (by grind)
    grind
  · have hcast : (n : Rat) + 2 ≤ (m : Rat) := by
      have : ((n + 2 : Nat) : Rat) ≤ (m : Rat) := Rat.natCast_le_natCast.2 hmn
      rwa [Rat.natCast_add] at this
    have c1 : ((n : Rat) + 2) * fv .f64 4604418534313441775 ≤ (m : Rat) * fv .f64 4604418534313441775 := Rat.mul_le_mul_of_nonneg_right hcast (by grind)
    grind

/-! ### Whole numbers that are nearest -/

theorem mgv_add (a b : Nat) (e : Int) : mgv (a + b) e = mgv a e + mgv b e := by
  unfold mgv; rw [Rat.natCast_add]; grind

theorem whole_near {x N : Nat} (h : Iv .f64 x 0 (canon .f64 (FloatKind.nearest .f64 ((N : Nat) : Int)))) (hN : N ≤ 16777216) : fv .f64 (wholeW .even x) ≤ fv .f64 x + 1 / 2 ∧ fv .f64 x ≤ fv .f64 (wholeW .even x) + 1 / 2 := by
  obtain ⟨n0, hn0, hf, hfv⟩ := whole_even h hN
  obtain ⟨s, m, e, hd⟩ := h.fx
  have hlo := h.lo
  rw [(zero_fl .f64).2] at hlo
  have hv := fv_num hd
  have hm := mv_nonneg m e
  obtain ⟨c, hc, hup, _, h3, h4⟩ := cut_eq s (m <<< e.toNat) (-e).toNat
  have hz : Rd .f64 (sg s * mgv c 0) (wholeW .even x) := by
    have : wholeW .even x = canon .f64 (FloatKind.f64.format.nearest s c 0) := by
      unfold wholeW
      rw [hd]
      show canon .f64 (FloatKind.f64.format.write (.number s (Ieee.Toward.even.cut s (m <<< e.toNat) (-e).toNat) 0)) = _
      rw [hc]; rfl
    rw [this]
    exact nearest_Rd .f64 s c 0
  -- c is near m * 2^e
  have near : mgv c 0 ≤ mgv m e + 1 / 2 ∧ mgv m e ≤ mgv c 0 + 1 / 2 := by
    rw [Nat.shiftLeft_eq] at h3 h4
    rcases Int.le_total 0 e with he | he
    · have e1 : (-e).toNat = 0 := by omega
      rw [e1, Nat.pow_zero, Nat.mul_one] at h3 h4
      have e2 : mgv m e = mgv (m * 2 ^ e.toNat) 0 := by rw [mv_shift]; congr 1; omega
      have : c = m * 2 ^ e.toNat := by omega
      rw [e2, this]
      constructor <;> grind
    · have e1 : e.toNat = 0 := by omega
      rw [e1, Nat.pow_zero, Nat.mul_one] at h3 h4
      have e3 : mgv c 0 = mgv (c * 2 ^ (-e).toNat) e := by rw [mv_shift]; congr 1; omega
      have e4 : mgv 1 0 = mgv (2 ^ (-e).toNat) e := by
        have := mv_shift 1 e (-e).toNat
        rw [Nat.one_mul] at this
        rw [this]; congr 1; omega
      have one : mgv 1 0 = 1 := by rw [mv_zero]; rfl
      have b3 : mgv (2 * (c * 2 ^ (-e).toNat)) e ≤ mgv (2 * m + 2 ^ (-e).toNat) e := mv_le.2 h3
      have b4 : mgv (2 * m) e ≤ mgv (2 * (c * 2 ^ (-e).toNat) + 2 ^ (-e).toNat) e := mv_le.2 h4
      rw [Nat.two_mul, Nat.two_mul, mgv_add, mgv_add, mgv_add] at b3
      rw [Nat.two_mul, Nat.two_mul, mgv_add, mgv_add, mgv_add] at b4
      rw [← e3, ← e4, one] at b3 b4
      constructor <;> grind
  rcases sg_cases s with ⟨_, e1⟩ | ⟨_, e1⟩
  · -- the whole number is c
    have hcN : mgv c 0 ≤ mgv 33554432 0 := by
      have hi := h.hi
      rw [(int_exact (k := .f64) ((N : Nat) : Int) (by omega)).2, Rat.intCast_natCast, ← mv_zero] at hi
      have k1 : mgv N 0 ≤ mgv 16777216 0 := mv_le.2 hN
      have k2 : mgv 16777216 0 + 1 ≤ mgv 33554432 0 := by decide +kernel
      rw [e1] at hv
      grind
    have hcn : c ≤ 33554432 := mv_le.1 hcN
    have hbv : mgv 33554432 0 ≤ fv .f64 9218868437227405311 := by decide +kernel
    obtain ⟨w, hw, hwv⟩ := rep_fin (k := .f64) (m := c) (e := 0) (Nat.le_trans hcn (by decide)) (by decide) big64 (Rat.le_trans hcN hbv) s
    have hx := hz.exact hw hwv.symm
    rw [hx.2, hv, e1]
    constructor <;> grind
  · have m0 : mgv m e = 0 := by rw [e1] at hv; grind
    have x0 : fv .f64 x = 0 := by rw [hv, e1, m0]; grind
    have c0 : mgv c 0 ≤ 1 / 2 := by grind
    have : c = 0 := by
      rcases Nat.eq_zero_or_pos c with h | h
      · exact h
      · have h2 : mgv 1 0 ≤ mgv c 0 := mv_le.2 h
        have one : mgv 1 0 = 1 := by rw [mv_zero]; rfl
        exfalso; grind
    subst this
    obtain ⟨w, hw, hwv⟩ := rep_fin (k := .f64) (m := 0) (e := 0) (Nat.zero_le _) (by decide) big64 (by decide +kernel) s
    have hx := hz.exact hw hwv.symm
    have z0 : mgv 0 0 = 0 := by unfold mgv; simp
    rw [hx.2, x0, e1, z0]
    constructor <;> grind

/-! ### Codes keep the order -/

theorem er32 {q : Rat} {z : Nat} (h : Rd .f32 q z) (hz : isFl .f32 z) (h1 : q ≤ 256) (h2 : -256 ≤ q) : fv .f32 z ≤ q + 1 / 30000 ∧ q ≤ fv .f32 z + 1 / 30000 := by
  have e := h.err hz h1 h2
  have c : (256 : Rat) * 2 ^ (-(FloatKind.f32.format.fractionBits : Int)) + 2 ^ FloatKind.f32.format.leastPlace ≤ 1 / 30000 := by decide +kernel
  constructor <;> grind

theorem er8 {q : Rat} {z : Nat} (h : Rd .f32 q z) (hz : isFl .f32 z) (h1 : q ≤ 8) (h2 : -8 ≤ q) : fv .f32 z ≤ q + 1 / 1000000 ∧ q ≤ fv .f32 z + 1 / 1000000 := by
  have e := h.err hz h1 h2
  have c : (8 : Rat) * 2 ^ (-(FloatKind.f32.format.fractionBits : Int)) + 2 ^ FloatKind.f32.format.leastPlace ≤ 1 / 1000000 := by decide +kernel
  constructor <;> grind

theorem er2 {q : Rat} {z : Nat} (h : Rd .f32 q z) (hz : isFl .f32 z) (h1 : q ≤ 2) (h2 : -2 ≤ q) : fv .f32 z ≤ q + 1 / 4000000 ∧ q ≤ fv .f32 z + 1 / 4000000 := by
  have e := h.err hz h1 h2
  have c : (2 : Rat) * 2 ^ (-(FloatKind.f32.format.fractionBits : Int)) + 2 ^ FloatKind.f32.format.leastPlace ≤ 1 / 4000000 := by decide +kernel
  constructor <;> grind

/-- What is given to the logarithm. -/
theorem codeU_near {x : Nat} (hx : w32 x) (h : isFl .f32 x) : 0 ≤ fv .f32 (codeA x) ∧ fv .f32 (codeA x) ≤ 1 ∧
    fv .f64 (fcv .f32 .f64 (fop .add .f32 1065353216 (fop .mul .f32 1132396544 (codeA x)))) ≤ 1 + 255 * fv .f32 (codeA x) + 2 / 30000 ∧ 1 + 255 * fv .f32 (codeA x) ≤ fv .f64 (fcv .f32 .f64 (fop .add .f32 1065353216 (fop .mul .f32 1132396544 (codeA x)))) + 2 / 30000 := by
  have h0 := codeA_iv hx h
  have h1 : Iv .f32 (fop .mul .f32 1132396544 (codeA x)) 0 1132396544 := (Iv.self (k := .f32) (x := 1132396544) (by decide +kernel)).mul h0 _ _ (by decide +kernel)
  have h2 := codeV_iv hx h
  have i255 : Iv .f32 1132396544 1132396544 1132396544 := Iv.self (by decide +kernel)
  have i1 : Iv .f32 1065353216 1065353216 1065353216 := Iv.self (by decide +kernel)
  have v255 : fv .f32 1132396544 = 255 := by decide +kernel
  have v1 : fv .f32 1065353216 = 1 := by decide +kernel
  have a0 := h0.lo; have a1 := h0.hi
  rw [(zero_fl .f32).2] at a0
  rw [v1] at a1
  have a := er32 (mul_Rd i255.fx h0.fx) h1.fx (by rw [v255]; grind) (by rw [v255]; grind)
  rw [v255] at a
  have m1 := h1.lo; have m2 := h1.hi
  rw [(zero_fl .f32).2] at m1
  rw [v255] at m2
  have b := er32 (add_Rd i1.fx h1.fx) h2.fx (by rw [v1]; grind) (by rw [v1]; grind)
  rw [v1] at b
  rw [(fcv_up h2.fx).2]
  refine ⟨a0, a1, by grind, by grind⟩

/-- What becomes of the logarithm. -/
theorem codeY_near {x : Nat} (hx : w32 x) (h : isFl .f32 x) : fv .f32 (codeY x) * 1453635 ≤ 127 * 262144 * fv .f64 (logW (fcv .f32 .f64 (fop .add .f32 1065353216 (fop .mul .f32 1132396544 (codeA x))))) + 134 ∧
    127 * 262144 * fv .f64 (logW (fcv .f32 .f64 (fop .add .f32 1065353216 (fop .mul .f32 1132396544 (codeA x))))) ≤ fv .f32 (codeY x) * 1453635 + 134 := by
  have hl := log_iv (codeV_up hx h)
  have h1 := (codeL_iv hx h).1
  have ic : Iv .f32 1085370904 1085370904 1085370904 := Iv.self (by decide +kernel)
  have h2 : Iv .f32 (fop .quo .f32 (fcv .f64 .f32 (logW (fcv .f32 .f64 (fop .add .f32 1065353216 (fop .mul .f32 1132396544 (codeA x)))))) 1085370904) 0 1065353216 := h1.quo ic _ _ (by decide +kernel)
  have h3 := codeY_iv hx h
  have i127 : Iv .f32 1123942400 1123942400 1123942400 := Iv.self (by decide +kernel)
  have v127 : fv .f32 1123942400 = 127 := by decide +kernel
  have vc : fv .f32 1085370904 = 1453635 / 262144 := by decide +kernel
  have v1 : fv .f32 1065353216 = 1 := by decide +kernel
  unfold codeY at h3 ⊢
  generalize logW (fcv .f32 .f64 (fop .add .f32 1065353216 (fop .mul .f32 1132396544 (codeA x)))) = L at *
  have l0 := hl.lo; have l1 := hl.hi
  rw [(zero_fl .f64).2] at l0
  have l8 : fv .f64 4617929333195553263 ≤ 8 := by decide +kernel
  have a := er8 (fcv_down_Rd hl.fx) h1.fx (by grind) (by grind)
  have q0 := h1.lo; have q1 := h1.hi
  rw [(zero_fl .f32).2] at q0
  rw [vc] at q1
  have hq := quo_Rd h1.fx ic.fx (by rw [vc]; decide +kernel)
  rw [vc] at hq
  have hdiv : fv .f32 (fcv .f64 .f32 L) / (1453635 / 262144) = fv .f32 (fcv .f64 .f32 L) * (262144 / 1453635) := by grind
  rw [hdiv] at hq
  have b := er2 hq h2.fx (by grind) (by grind)
  have r0 := h2.lo; have r1 := h2.hi
  rw [(zero_fl .f32).2] at r0
  rw [v1] at r1
  have c := er32 (mul_Rd i127.fx h2.fx) h3.fx (by rw [v127]; grind) (by rw [v127]; grind)
  rw [v127] at c
  constructor <;> grind

theorem codeK_near {x : Nat} (hx : w32 x) (h : isFl .f32 x) : ((codeK x : Int) : Rat) ≤ fv .f32 (codeY x) + 1 / 2 ∧ fv .f32 (codeY x) ≤ ((codeK x : Int) : Rat) + 1 / 2 := by
  have h0 := (codeY_iv hx h)
  have h1 := h0.up
  have e0 : fcv .f32 .f64 0 = 0 := by decide
  have e1 : fcv .f32 .f64 1123942400 = canon .f64 (FloatKind.nearest .f64 ((127 : Nat) : Int)) := by decide
  rw [e0, e1] at h1
  have w := whole_near h1 (by omega)
  obtain ⟨n, _, h2, h3⟩ := whole_even h1 (by omega)
  obtain ⟨m, m1, m2, m3, _⟩ := f2i_val h2 (by rw [h3]; exact Rat.natCast_nonneg) (N := n + 1) (by rw [h3]; exact Rat.natCast_lt_natCast.2 (by omega)) (by omega)
  rw [h3] at m2 m3
  have := Rat.natCast_le_natCast.1 m2
  have := Rat.natCast_lt_natCast.1 m3
  have : m = n := by omega
  subst this
  have hk : codeK x = (m : Int) := by unfold codeK; rw [m1]; rfl
  rw [(fcv_up h0.fx).2] at w
  have hc : (((m : Nat) : Int) : Rat) = (m : Rat) := rfl
  rw [hk, hc, ← h3]
  exact w

/-- A number that is greater by some has no lesser code. -/
theorem codeK_gap {x z : Nat} (hx : w32 x) (fx : isFl .f32 x) (hz : w32 z) (fz : isFl .f32 z) (h : fv .f32 (codeA x) + 1 / 1700 ≤ fv .f32 (codeA z)) : codeK x ≤ codeK z := by
  obtain ⟨a0, a1, a2, a3⟩ := codeU_near hx fx
  obtain ⟨b0, b1, b2, b3⟩ := codeU_near hz fz
  have g := log_gap (codeV_up hx fx) (codeV_up hz fz) (by grind)
  have y1 := codeY_near hx fx
  have y2 := codeY_near hz fz
  have k1 := codeK_near hx fx
  have k2 := codeK_near hz fz
  generalize logW (fcv .f32 .f64 (fop .add .f32 1065353216 (fop .mul .f32 1132396544 (codeA x)))) = L at *
  generalize logW (fcv .f32 .f64 (fop .add .f32 1065353216 (fop .mul .f32 1132396544 (codeA z)))) = M at *
  have yy : fv .f32 (codeY x) < fv .f32 (codeY z) := by grind
  have kk : ((codeK x : Int) : Rat) < ((codeK z : Int) : Rat) + 1 := by grind
  have : ((codeK z : Int) : Rat) + 1 = ((codeK z + 1 : Int) : Rat) := by rw [Rat.intCast_add]; rfl
  rw [this] at kk
  have := Rat.intCast_lt_intCast.1 kk
  omega

end Go.Sim
