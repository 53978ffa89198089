/- Sums of the powers of short spectra. Conditions: none. -/
import Derived.Test.YtgjdkhocnnoimaaPvW
import Derived.Test.YtgjdkhocnnoimaaPvN
import Derived.Test.YtgjdkhocnnoimaaPvS
import Derived.Test.YtgjdkhocnnoimaaPvL

section
namespace Go.Sim
open Go

theorem all_r {n : Nat} {P : Nat → Bool} (h : (List.range n).all P = true) {k : Nat} (hk : k < n) : P k = true := by
  rw [List.all_eq_true] at h; exact h k (by simpa using hk)

def pR (n r : Nat) : Rat := ((phI n r).1 : Rat) / 134217728
def qR (n r : Nat) : Rat := ((phI n r).2 : Rat) / 134217728

theorem phasW_at {n r : Nat} (h1 : 1 ≤ n) (h2 : n ≤ 16) (hr : r < n) : (phasW (phT (r : Int) (n : Int))).1 = (phWd n r).1 ∧ (phasW (phT (r : Int) (n : Int))).2 = (phWd n r).2 := by
  have := all_r (all_r ph_words (k := n - 1) (by omega)) (k := r) (by omega)
  rw [show n - 1 + 1 = n by omega, Bool.and_eq_true] at this
  exact ⟨Nat.eq_of_beq_eq_true this.1, Nat.eq_of_beq_eq_true this.2⟩

/-- A point of the unit circle: its words are numbers, and what they are. -/
structure PhOk (n r a b : Nat) : Prop where
  fa : isFl .f32 a
  fb : isFl .f32 b
  va : fv .f32 a = pR n r
  vb : fv .f32 b = qR n r
  na : (phI n r).1.natAbs ≤ 134217728
  nb : (phI n r).2.natAbs ≤ 134217728
  nn : (phI n r).1.natAbs + (phI n r).2.natAbs ≤ 189820000

theorem phOk_at {n r : Nat} (h1 : 1 ≤ n) (h2 : n ≤ 16) (hr : r < n) : PhOk n r (phasW (phT (r : Int) (n : Int))).1 (phasW (phT (r : Int) (n : Int))).2 := by
  obtain ⟨e1, e2⟩ := phasW_at h1 h2 hr
  rw [e1, e2]
  have := all_r (all_r ph_ints (k := n - 1) (by omega)) (k := r) (by omega)
  rw [show n - 1 + 1 = n by omega] at this
  unfold phOk at this
  simp only [Bool.and_eq_true, decide_eq_true_eq] at this
  obtain ⟨⟨⟨⟨⟨⟨f1, f2⟩, f3⟩, f4⟩, f5⟩, f6⟩, f7⟩ := this
  exact ⟨finB_fl f1, finB_fl f2, f3, f4, f5, f6, f7⟩

/-! ### Products with bounded numbers -/

theorem int_abs (z : Int) : (z : Rat) ≤ ((z.natAbs : Nat) : Rat) ∧ -((z.natAbs : Nat) : Rat) ≤ (z : Rat) := by
  have h1 : z ≤ ((z.natAbs : Nat) : Int) := by omega
  have h2 : -((z.natAbs : Nat) : Int) ≤ z := by omega
  refine ⟨?_, ?_⟩
  · have := Rat.intCast_le_intCast.2 h1
    rwa [Rat.intCast_natCast] at this
  · have := Rat.intCast_le_intCast.2 h2
    rwa [Rat.intCast_neg, Rat.intCast_natCast] at this

/-- A product of numbers within bounds. -/
theorem mul_bd {a b A B : Rat} (ha : a ≤ A) (ha' : -A ≤ a) (hb : b ≤ B) (hb' : -B ≤ b) : a * b ≤ A * B ∧ -(A * B) ≤ a * b := by
  have hA : 0 ≤ A := by grind
  have hB : 0 ≤ B := by grind
  have e1 : 0 ≤ (A - a) * (B + b) := Rat.mul_nonneg (by grind) (by grind)
  have e2 : 0 ≤ (A + a) * (B - b) := Rat.mul_nonneg (by grind) (by grind)
  have e3 : 0 ≤ (A - a) * (B - b) := Rat.mul_nonneg (by grind) (by grind)
  have e4 : 0 ≤ (A + a) * (B + b) := Rat.mul_nonneg (by grind) (by grind)
  exact ⟨by grind, by grind⟩

theorem pR_bd {n r a b : Nat} (h : PhOk n r a b) : pR n r ≤ 1 ∧ -1 ≤ pR n r ∧ qR n r ≤ 1 ∧ -1 ≤ qR n r := by
  obtain ⟨x1, x2⟩ := int_abs (phI n r).1
  obtain ⟨y1, y2⟩ := int_abs (phI n r).2
  have n1 := Rat.natCast_le_natCast.2 h.na
  have n2 := Rat.natCast_le_natCast.2 h.nb
  have e : ((134217728 : Nat) : Rat) = 134217728 := rfl
  rw [e] at n1 n2
  unfold pR qR
  refine ⟨?_, ?_, ?_, ?_⟩ <;> grind

/-- p x - q y, where x, y are within D. -/
theorem pq_bd {n r a b : Nat} (h : PhOk n r a b) {x y D : Rat} (hx : x ≤ D) (hx' : -D ≤ x) (hy : y ≤ D) (hy' : -D ≤ y) : pR n r * x - qR n r * y ≤ D * (1415 / 1000) ∧ -(D * (1415 / 1000)) ≤ pR n r * x - qR n r * y := by
  obtain ⟨x1, x2⟩ := int_abs (phI n r).1
  obtain ⟨y1, y2⟩ := int_abs (phI n r).2
  have n3 := Rat.natCast_le_natCast.2 h.nn
  rw [Rat.natCast_add] at n3
  have e : ((189820000 : Nat) : Rat) = 189820000 := rfl
  rw [e] at n3
  have hD : 0 ≤ D := by grind
  generalize hP : (((phI n r).1.natAbs : Nat) : Rat) = P at *
  generalize hQ : (((phI n r).2.natAbs : Nat) : Rat) = Q at *
  have hP0 : 0 ≤ P := by grind
  have hQ0 : 0 ≤ Q := by grind
  obtain ⟨m1, m2⟩ := mul_bd (a := pR n r) (A := P / 134217728) (b := x) (B := D) (by unfold pR; grind) (by unfold pR; grind) hx hx'
  obtain ⟨m3, m4⟩ := mul_bd (a := qR n r) (A := Q / 134217728) (b := y) (B := D) (by unfold qR; grind) (by unfold qR; grind) hy hy'
  have hs : P / 134217728 * D + Q / 134217728 * D ≤ D * (1415 / 1000) := by
    have h0 : (P + Q) * D ≤ 189820000 * D := Rat.mul_le_mul_of_nonneg_right n3 hD
    grind
  exact ⟨by grind, by grind⟩

/-! ### Which points -/

theorem specT_nat {n : Nat} (h1 : 1 ≤ n) (m k : Nat) : specT (n : Int) m k = (((n - m * k % n) % n : Nat) : Int) := by
  unfold specT
  rw [← Int.natCast_mul, Int.natCast_tmod_natCast]
  have : m * k % n < n := Nat.mod_lt _ (by omega)
  rw [show (n : Int) - ((m * k % n : Nat) : Int) = ((n - m * k % n : Nat) : Int) by omega, Int.natCast_tmod_natCast]
where
  Int.natCast_tmod_natCast {a b : Nat} : Int.tmod (a : Int) (b : Int) = ((a % b : Nat) : Int) := rfl

theorem rI_nat {n : Nat} (h1 : 1 ≤ n) (m k : Nat) : rI (((m : Nat) : Int) * ((k : Nat) : Int)) (n : Int) = ((m * k % n : Nat) : Int) := by
  unfold rI
  rw [← Int.natCast_mul]
  show Int.tmod (((m * k % n : Nat) : Int) + (n : Int)) (n : Int) = _
  rw [← Int.natCast_add]
  show (((m * k % n + n) % n : Nat) : Int) = _
  rw [Nat.add_mod_right, Nat.mod_mod]

end Go.Sim
end

section
namespace Go.Sim
open Go

/-- Sums of absolute values. -/
def aw (vs : List Int) : Nat → Nat
  | 0 => 0
  | j + 1 => aw vs j + (vs.getD j 0).natAbs

theorem aw_mono (vs : List Int) {i j : Nat} (h : i ≤ j) : aw vs i ≤ aw vs j := by
  induction j with
  | zero => have : i = 0 := by omega
            subst this; exact Nat.le_refl _
  | succ j ih =>
    rcases Nat.lt_or_ge i (j + 1) with h' | h'
    · have := ih (by omega); simp only [aw]; omega
    · have : i = j + 1 := by omega
      subst this; exact Nat.le_refl _
theorem aw_le {vs : List Int} (hv : small8 vs) : ∀ j, j ≤ vs.length → j ≤ aw vs j ∧ aw vs j ≤ 8 * j
  | 0, _ => ⟨Nat.le_refl _, Nat.le_refl _⟩
  | j + 1, h => by
    have := aw_le hv j (by omega)
    have := small8_at hv (k := j) (by omega)
    simp only [aw]; omega

def xi (n m j : Nat) : Nat := (n - m * j % n) % n
theorem xi_lt {n : Nat} (h : 1 ≤ n) (m j : Nat) : xi n m j < n := Nat.mod_lt _ (by omega)

def aT (vs : List Int) (n m j : Nat) : Rat := pR n (xi n m j) * ((vs.getD j 0 : Int) : Rat)
def bT (vs : List Int) (n m j : Nat) : Rat := qR n (xi n m j) * ((vs.getD j 0 : Int) : Rat)
def aR (vs : List Int) (n m : Nat) : Rat := sumR (aT vs n m) n
def bR (vs : List Int) (n m : Nat) : Rat := sumR (bT vs n m) n

theorem sum_bd {t : Nat → Rat} {w : Nat → Nat} (h0 : w 0 = 0) (h : ∀ j, t j ≤ ((w (j + 1) - w j : Nat) : Rat) ∧ -((w (j + 1) - w j : Nat) : Rat) ≤ t j) (hm : ∀ j, w j ≤ w (j + 1)) : ∀ j, sumR t j ≤ (w j : Rat) ∧ -(w j : Rat) ≤ sumR t j
  | 0 => by rw [h0, show ((0 : Nat) : Rat) = 0 from rfl]; simp only [sumR]; exact ⟨by grind, by grind⟩
  | j + 1 => by
    obtain ⟨i1, i2⟩ := sum_bd h0 h hm j
    obtain ⟨j1, j2⟩ := h j
    have e : ((w (j + 1) : Nat) : Rat) = (w j : Rat) + ((w (j + 1) - w j : Nat) : Rat) := by
      rw [← Rat.natCast_add]; congr 1; have := hm j; omega
    rw [sumR, e]
    exact ⟨by grind, by grind⟩

theorem aT_bd (vs : List Int) {n : Nat} (h1 : 1 ≤ n) (h2 : n ≤ 16) (m : Nat) (j : Nat) : (sumR (aT vs n m) j ≤ (aw vs j : Rat) ∧ -(aw vs j : Rat) ≤ sumR (aT vs n m) j) ∧ (sumR (bT vs n m) j ≤ (aw vs j : Rat) ∧ -(aw vs j : Rat) ≤ sumR (bT vs n m) j) := by
  have e : ∀ j, aw vs (j + 1) - aw vs j = (vs.getD j 0).natAbs := fun j => by simp only [aw]; omega
  have hm : ∀ j, aw vs j ≤ aw vs (j + 1) := fun j => by simp only [aw]; omega
  have key : ∀ j, (aT vs n m j ≤ ((aw vs (j + 1) - aw vs j : Nat) : Rat) ∧ -((aw vs (j + 1) - aw vs j : Nat) : Rat) ≤ aT vs n m j) ∧ (bT vs n m j ≤ ((aw vs (j + 1) - aw vs j : Nat) : Rat) ∧ -((aw vs (j + 1) - aw vs j : Nat) : Rat) ≤ bT vs n m j) := by
    intro j
    rw [e]
    obtain ⟨p1, p2, p3, p4⟩ := pR_bd (phOk_at h1 h2 (xi_lt h1 m j))
    obtain ⟨v1, v2⟩ := int_abs (vs.getD j 0)
    obtain ⟨m1, m2⟩ := mul_bd p1 p2 v1 v2
    obtain ⟨m3, m4⟩ := mul_bd p3 p4 v1 v2
    unfold aT bT
    exact ⟨⟨by grind, by grind⟩, ⟨by grind, by grind⟩⟩
  exact ⟨sum_bd rfl (fun j => (key j).1) hm j, sum_bd rfl (fun j => (key j).2) hm j⟩

/-- How far one number of a spectrum may be off. -/
def dW (n W : Rat) : Rat := n * (8 * (1 / 8388608) + (W + 1) * (1 / 8388608))

theorem dW_le {n W : Nat} (h1 : 1 ≤ n) (h2 : n ≤ 16) (hW : n ≤ W) (hW2 : W ≤ 8 * n) : dW n W ≤ 2192 / 8388608 ∧ dW n W ≤ (W : Rat) * (25 / 8388608) ∧ 0 ≤ dW n W := by
  have a : (n * (W + 9) : Nat) ≤ 2192 := by
    have : n * (W + 9) ≤ 16 * 137 := Nat.mul_le_mul h2 (by omega)
    omega
  have b : (n * (W + 9) : Nat) ≤ W * 25 := by
    have e1 : n * (W + 9) = n * W + n * 9 := Nat.mul_add _ _ _
    have e2 : n * W ≤ 16 * W := Nat.mul_le_mul_right W h2
    omega
  have a' := Rat.natCast_le_natCast.2 a
  have b' := Rat.natCast_le_natCast.2 b
  rw [Rat.natCast_mul, Rat.natCast_add] at a' b'
  rw [Rat.natCast_mul] at b'
  have c9 : ((9 : Nat) : Rat) = 9 := rfl
  have c25 : ((25 : Nat) : Rat) = 25 := rfl
  have c2192 : ((2192 : Nat) : Rat) = 2192 := rfl
  rw [c9] at a' b'; rw [c25] at b'; rw [c2192] at a'
  have hn := natR_nonneg n; have hw := natR_nonneg W
  have hp : 0 ≤ (n : Rat) * ((W : Rat) + 9) := Rat.mul_nonneg hn (by grind)
  have e : dW n W = ((n : Rat) * ((W : Rat) + 9)) * (1 / 8388608) := by unfold dW; grind
  rw [e]
  generalize (n : Rat) * ((W : Rat) + 9) = Z at *
  exact ⟨by grind, by grind, by grind⟩

theorem getD_fl {vs : List Int} (hv : small8 vs) {j : Nat} (hj : j < vs.length) : isFl .f32 (List.getD (vs.map cvI) j 0) ∧ fv .f32 (List.getD (vs.map cvI) j 0) = ((vs.getD j 0 : Int) : Rat) ∧ ((vs.getD j 0 : Int) : Rat) ≤ 8 ∧ -8 ≤ ((vs.getD j 0 : Int) : Rat) := by
  have a := small8_at hv hj
  obtain ⟨x1, x2⟩ := cvI_fl (n := vs.getD j 0) (by omega)
  rw [getD_cvI]
  have h8 : ((8 : Int) : Rat) = 8 := rfl
  have h8' : ((-8 : Int) : Rat) = -8 := rfl
  exact ⟨x1, x2, by rw [← h8]; exact Rat.intCast_le_intCast.2 (by omega), by rw [← h8']; exact Rat.intCast_le_intCast.2 (by omega)⟩

theorem spec_err {vs : List Int} (hv : small8 vs) {n : Nat} (hl : vs.length = n) (h1 : 1 ≤ n) (h2 : n ≤ 16) (m : Nat) :
    (isFl .f32 (specS (vs.map cvI) n m n).1 ∧ nr (dW n (aw vs n)) (fv .f32 (specS (vs.map cvI) n m n).1) (aR vs n m)) ∧ (isFl .f32 (specS (vs.map cvI) n m n).2 ∧ nr (dW n (aw vs n)) (fv .f32 (specS (vs.map cvI) n m n).2) (bR vs n m)) := by
  have hW := aw_le hv n (by omega)
  have hWr := natR_le hW.2
  have hWn := natR_le hW.1
  have hW128 : ((aw vs n : Nat) : Rat) ≤ 128 := by
    have : aw vs n ≤ 128 := by omega
    exact natR_le this
  have hW0 : (1 : Rat) ≤ ((aw vs n : Nat) : Rat) := natR_le (a := 1) (by omega)
  have hd := dW_le h1 h2 hW.1 hW.2
  have hB : (aw vs n : Rat) + (n : Rat) * (8 * (1 / 8388608) + ((aw vs n : Rat) + 1) * (1 / 8388608)) ≤ (aw vs n : Rat) + 1 := by
    have : (n : Rat) * (8 * (1 / 8388608) + ((aw vs n : Rat) + 1) * (1 / 8388608)) = dW n (aw vs n) := rfl
    rw [this]; grind
  have hph : ∀ j, PhOk n (xi n m j) (phasW (phT (specT (n : Int) m j) (n : Int))).1 (phasW (phT (specT (n : Int) m j) (n : Int))).2 := fun j => by
    rw [specT_nat h1]; exact phOk_at h1 h2 (xi_lt h1 m j)
  constructor
  · refine fsum (k := .f32) (U := 1 / 8388608) (fun h => fun {B} => rnd32 h) (f := fun j => fop .mul .f32 (phasW (phT (specT (n : Int) m j) (n : Int))).1 (List.getD (vs.map cvI) j 0)) (t := aT vs n m) (fun j => (specS (vs.map cvI) n m j).1) rfl (fun _ => rfl)
      (n := n) (e := 8 * (1 / 8388608)) (M := (aw vs n : Rat)) (B := (aw vs n : Rat) + 1) (fun j hj => ?_) (fun j hj => ?_) (by grind) (by grind) (by grind) (by grind) hB n (Nat.le_refl _)
    · obtain ⟨x1, x2, x3, x4⟩ := getD_fl hv (j := j) (by omega)
      have hp := hph j
      obtain ⟨p1, p2, p3, p4⟩ := pR_bd hp
      have hr := mul_Rd hp.fa x1
      rw [hp.va, x2] at hr
      obtain ⟨m1, m2⟩ := mul_bd p1 p2 x3 x4
      exact rnd32 hr (by grind) (by grind) (by grind) (by grind)
    · have := (aT_bd vs h1 h2 m j).1
      have := natR_le (aw_mono vs hj)
      exact ⟨by grind, by grind⟩
  · refine fsum (k := .f32) (U := 1 / 8388608) (fun h => fun {B} => rnd32 h) (f := fun j => fop .mul .f32 (phasW (phT (specT (n : Int) m j) (n : Int))).2 (List.getD (vs.map cvI) j 0)) (t := bT vs n m) (fun j => (specS (vs.map cvI) n m j).2) rfl (fun _ => rfl)
      (n := n) (e := 8 * (1 / 8388608)) (M := (aw vs n : Rat)) (B := (aw vs n : Rat) + 1) (fun j hj => ?_) (fun j hj => ?_) (by grind) (by grind) (by grind) (by grind) hB n (Nat.le_refl _)
    · obtain ⟨x1, x2, x3, x4⟩ := getD_fl hv (j := j) (by omega)
      have hp := hph j
      obtain ⟨p1, p2, p3, p4⟩ := pR_bd hp
      have hr := mul_Rd hp.fb x1
      rw [hp.vb, x2] at hr
      obtain ⟨m1, m2⟩ := mul_bd p3 p4 x3 x4
      exact rnd32 hr (by grind) (by grind) (by grind) (by grind)
    · have := (aT_bd vs h1 h2 m j).2
      have := natR_le (aw_mono vs hj)
      exact ⟨by grind, by grind⟩

end Go.Sim
end

section
namespace Go.Sim
open Go

theorem prW_near {n r a b c d : Nat} (h : PhOk n r a b) (hc : isFl .f32 c) (hd : isFl .f32 d) (c1 : fv .f32 c ≤ 129) (c2 : -129 ≤ fv .f32 c) (d1 : fv .f32 d ≤ 129) (d2 : -129 ≤ fv .f32 d) :
    isFl .f32 (fcv .f64 .f32 (prW a b c d)) ∧ nr (184 / 8388608) (fv .f32 (fcv .f64 .f32 (prW a b c d))) (pR n r * fv .f32 c - qR n r * fv .f32 d) := by
  obtain ⟨p1, p2, p3, p4⟩ := pR_bd h
  obtain ⟨ua, va⟩ := fcv_up h.fa
  obtain ⟨ub, vb⟩ := fcv_up h.fb
  obtain ⟨uc, vc⟩ := fcv_up hc
  obtain ⟨ud, vd⟩ := fcv_up hd
  rw [h.va] at va; rw [h.vb] at vb
  have r1 := mul_Rd ua uc
  have r2 := mul_Rd ub ud
  rw [va, vc] at r1; rw [vb, vd] at r2
  obtain ⟨b1, b2⟩ := mul_bd p1 p2 c1 c2
  obtain ⟨b3, b4⟩ := mul_bd p3 p4 d1 d2
  obtain ⟨m1, n1, n1'⟩ := rnd64 r1 (B := 129) (by grind) (by grind) (by grind) (by grind)
  obtain ⟨m2, n2, n2'⟩ := rnd64 r2 (B := 129) (by grind) (by grind) (by grind) (by grind)
  obtain ⟨m3, n3, n3'⟩ := rnd64 (sub_Rd m1 m2) (B := 260) (by grind) (by grind) (by grind) (by grind)
  obtain ⟨q1, q2⟩ := pq_bd h c1 c2 d1 d2
  have r4 := fcv_down_Rd m3
  unfold prW
  obtain ⟨m4, n4, n4'⟩ := rnd32 r4 (B := 183) (by grind) (by grind) (by grind) (by grind)
  exact ⟨m4, by grind, by grind⟩

theorem sumZ_R (f : Nat → Int) (D : Rat) : ∀ n, sumR (fun m => ((f m : Int) : Rat) / D) n = ((sumZ f n : Int) : Rat) / D
  | 0 => by simp only [sumR, sumZ]; rw [show ((0 : Int) : Rat) = 0 from rfl, Rat.div_def, Rat.zero_mul]
  | n + 1 => by
    rw [sumR, sumZ_R f D n, sumZ, Rat.intCast_add, Rat.div_def, Rat.div_def, Rat.div_def, Rat.add_mul]

theorem ppR (n r s : Nat) : pR n r * pR n s - qR n r * qR n s = (((phI n r).1 * (phI n s).1 - (phI n r).2 * (phI n s).2 : Int) : Rat) / 18014398509481984 := by
  unfold pR qR
  rw [Rat.intCast_sub, Rat.intCast_mul, Rat.intCast_mul]
  grind
theorem ppR' (n r s : Nat) : pR n r * pR n s + qR n r * qR n s = (((phI n r).1 * (phI n s).1 + (phI n r).2 * (phI n s).2 : Int) : Rat) / 18014398509481984 := by
  unfold pR qR
  rw [Rat.intCast_add, Rat.intCast_mul, Rat.intCast_mul]
  grind

def dlt (n k j : Nat) : Rat := if k = j then (n : Rat) else 0

theorem gh_near {n k j : Nat} (h1 : 1 ≤ n) (h2 : n ≤ 16) (hk : k < n) (hj : j < n) :
    nr (1 / 1600000) (sumR (fun m => pR n (m * k % n) * pR n (xi n m j) - qR n (m * k % n) * qR n (xi n m j)) n) (dlt n k j) ∧
    nr (1 / 1600000) (sumR (fun m => pR n (xi n m k) * pR n (xi n m j) + qR n (xi n m k) * qR n (xi n m j)) n) (dlt n k j) := by
  have ht := all_r (all_r (all_r gh_tab (k := n - 1) (by omega)) (k := k) (by omega)) (k := j) (by omega)
  rw [show n - 1 + 1 = n by omega] at ht
  unfold ghOk at ht
  simp only [Bool.and_eq_true, decide_eq_true_eq] at ht
  obtain ⟨t1, t2⟩ := ht
  have hd : ((if k = j then (n : Int) * 18014398509481984 else 0 : Int) : Rat) = dlt n k j * 18014398509481984 := by
    unfold dlt
    split
    · rw [Rat.intCast_mul, Rat.intCast_natCast]; rfl
    · rw [Rat.zero_mul]; rfl
  have key : ∀ z : Int, (z - (if k = j then (n : Int) * 18014398509481984 else 0)).natAbs ≤ 10808639105 → nr (1 / 1600000) ((z : Rat) / 18014398509481984) (dlt n k j) := by
    intro z hz
    obtain ⟨x1, x2⟩ := int_abs (z - (if k = j then (n : Int) * 18014398509481984 else 0))
    have x3 := Rat.natCast_le_natCast.2 hz
    have e : ((10808639105 : Nat) : Rat) = 10808639105 := rfl
    rw [e] at x3
    rw [Rat.intCast_sub, hd] at x1 x2
    exact ⟨by grind, by grind⟩
  constructor
  · rw [sumR_congr (t := fun m => (((phI n (m * k % n)).1 * (phI n (xi n m j)).1 - (phI n (m * k % n)).2 * (phI n (xi n m j)).2 : Int) : Rat) / 18014398509481984) n (fun m _ => ppR n _ _), sumZ_R]
    exact key _ t1
  · rw [sumR_congr (t := fun m => (((phI n (xi n m k)).1 * (phI n (xi n m j)).1 + (phI n (xi n m k)).2 * (phI n (xi n m j)).2 : Int) : Rat) / 18014398509481984) n (fun m _ => ppR' n _ _), sumZ_R]
    exact key _ t2

theorem sum_dlt (f : Nat → Rat) (n k : Nat) : ∀ j, sumR (fun i => f i * dlt n k i) j = if k < j then f k * (n : Rat) else 0
  | 0 => by simp [sumR]
  | j + 1 => by
    rw [sumR, sum_dlt f n k j]
    unfold dlt
    rcases Nat.lt_trichotomy k j with h | h | h
    · rw [if_pos h, if_neg (by omega), if_pos (by omega)]; grind
    · subst h; rw [if_neg (by omega), if_pos rfl, if_pos (by omega)]; grind
    · rw [if_neg (by omega), if_neg (by omega), if_neg (by omega)]; grind

theorem aw_sum (vs : List Int) (c : Rat) : ∀ n, sumR (fun j => (((vs.getD j 0).natAbs : Nat) : Rat) * c) n = (aw vs n : Rat) * c
  | 0 => by simp only [sumR, aw]; rw [show ((0 : Nat) : Rat) = 0 from rfl, Rat.zero_mul]
  | n + 1 => by rw [sumR, aw_sum vs c n, aw, Rat.natCast_add, Rat.add_mul]

/-- A bounded number times two numbers that are near. -/
theorem nr_mul {a A e x y : Rat} (h : nr e x y) (h1 : a ≤ A) (h2 : -A ≤ a) : nr (A * e) (a * x) (a * y) := by
  obtain ⟨p, q⟩ := h
  obtain ⟨m1, m2⟩ := mul_bd h1 h2 (b := x - y) (B := e) p (by grind)
  exact ⟨by grind, by grind⟩

/-- The exact sums, taken back. -/
theorem back_exact {vs : List Int} {n k : Nat} (h1 : 1 ≤ n) (h2 : n ≤ 16) (hk : k < n) :
    nr ((aw vs n : Rat) * (1 / 1600000)) (sumR (fun m => pR n (m * k % n) * aR vs n m - qR n (m * k % n) * bR vs n m) n) ((n : Rat) * ((vs.getD k 0 : Int) : Rat)) := by
  have e1 : ∀ m, m < n → pR n (m * k % n) * aR vs n m - qR n (m * k % n) * bR vs n m = sumR (fun j => ((vs.getD j 0 : Int) : Rat) * (pR n (m * k % n) * pR n (xi n m j) - qR n (m * k % n) * qR n (xi n m j))) n := by
    intro m _
    have a1 : pR n (m * k % n) * aR vs n m = sumR (fun j => pR n (m * k % n) * aT vs n m j) n := (sumR_mul _ _ n).symm
    have a2 : -(qR n (m * k % n)) * bR vs n m = sumR (fun j => -(qR n (m * k % n)) * bT vs n m j) n := (sumR_mul _ _ n).symm
    have a3 : pR n (m * k % n) * aR vs n m - qR n (m * k % n) * bR vs n m = pR n (m * k % n) * aR vs n m + -(qR n (m * k % n)) * bR vs n m := by grind
    rw [a3, a1, a2, ← sumR_add]
    refine sumR_congr n fun j _ => ?_
    unfold aT bT
    grind
  rw [sumR_congr n e1, sumR_swap]
  have e2 : ∀ j, j < n → sumR (fun m => ((vs.getD j 0 : Int) : Rat) * (pR n (m * k % n) * pR n (xi n m j) - qR n (m * k % n) * qR n (xi n m j))) n = ((vs.getD j 0 : Int) : Rat) * sumR (fun m => pR n (m * k % n) * pR n (xi n m j) - qR n (m * k % n) * qR n (xi n m j)) n := fun j _ => sumR_mul _ _ n
  rw [sumR_congr n e2]
  have hs := sumR_nr (e := fun j => (((vs.getD j 0).natAbs : Nat) : Rat) * (1 / 1600000)) (s := fun j => ((vs.getD j 0 : Int) : Rat) * sumR (fun m => pR n (m * k % n) * pR n (xi n m j) - qR n (m * k % n) * qR n (xi n m j)) n) (t := fun j => ((vs.getD j 0 : Int) : Rat) * dlt n k j) n
    (fun j hj => nr_mul (gh_near h1 h2 hk hj).1 (int_abs _).1 (int_abs _).2)
  rw [aw_sum, sum_dlt, if_pos hk] at hs
  rw [Rat.mul_comm (n : Rat)]
  exact hs

theorem natR_pos {n : Nat} (h : 1 ≤ n) : (0 : Rat) < (n : Rat) := Rat.natCast_pos.2 h

theorem sum_abs {t : Nat → Rat} {c : Rat} {n : Nat} (h : ∀ j, j < n → t j ≤ c ∧ -c ≤ t j) : ∀ j, j ≤ n → sumR t j ≤ (j : Rat) * c ∧ -((j : Rat) * c) ≤ sumR t j
  | 0, _ => by rw [show ((0 : Nat) : Rat) = 0 from rfl]; simp only [sumR]; exact ⟨by grind, by grind⟩
  | j + 1, hj => by
    obtain ⟨i1, i2⟩ := sum_abs h j (by omega)
    obtain ⟨t1, t2⟩ := h j (by omega)
    rw [sumR, natR_succ]
    exact ⟨by grind, by grind⟩

/-- The numbers of the spectrum that are taken back. -/
theorem back_err {vs : List Int} (hv : small8 vs) {n : Nat} (hl : vs.length = n) (h1 : 1 ≤ n) (h2 : n ≤ 16) {k : Nat} (hk : k < n) (S : Nat → Nat) (h0 : S 0 = 0)
    (hs : ∀ m, S (m + 1) = fop .add .f32 (S m) (fcv .f64 .f32 (prW (phasW (phT (rI (((m : Nat) : Int) * ((k : Nat) : Int)) (n : Int)) (n : Int))).1 (phasW (phT (rI (((m : Nat) : Int) * ((k : Nat) : Int)) (n : Int)) (n : Int))).2 (List.getD (specL (vs.map cvI) n n) m (0, 0)).1 (List.getD (specL (vs.map cvI) n n) m (0, 0)).2))) :
    isFl .f32 (fop .quo .f32 (S n) (cvI (n : Int))) ∧ nr (82 / 100000) (fv .f32 (fop .quo .f32 (S n) (cvI (n : Int)))) ((vs.getD k 0 : Int) : Rat) := by
  have hW := aw_le hv n (by omega)
  have hd := dW_le h1 h2 hW.1 hW.2
  have hW128 : ((aw vs n : Nat) : Rat) ≤ 128 := natR_le (b := 128) (by omega)
  have hW0 := natR_nonneg (aw vs n)
  have hn16 : (n : Rat) ≤ 16 := natR_le (b := 16) h2
  have hn1 : (1 : Rat) ≤ (n : Rat) := natR_le (a := 1) h1
  have hab : ∀ m, aR vs n m ≤ 128 ∧ -128 ≤ aR vs n m ∧ bR vs n m ≤ 128 ∧ -128 ≤ bR vs n m := fun m => by
    obtain ⟨⟨a1, a2⟩, a3, a4⟩ := aT_bd vs h1 h2 m n
    exact ⟨by unfold aR; grind, by unfold aR; grind, by unfold bR; grind, by unfold bR; grind⟩
  have hsum := fsum (k := .f32) (U := 1 / 8388608) (fun h => fun {B} => rnd32 h) (f := fun m => fcv .f64 .f32 (prW (phasW (phT (rI (((m : Nat) : Int) * ((k : Nat) : Int)) (n : Int)) (n : Int))).1 (phasW (phT (rI (((m : Nat) : Int) * ((k : Nat) : Int)) (n : Int)) (n : Int))).2 (List.getD (specL (vs.map cvI) n n) m (0, 0)).1 (List.getD (specL (vs.map cvI) n n) m (0, 0)).2))
    (t := fun m => pR n (m * k % n) * aR vs n m - qR n (m * k % n) * bR vs n m) S h0 hs (n := n) (e := 3286 / 8388608) (M := 2898) (B := 2899) (fun m hm => by
      obtain ⟨⟨f1, g1, g1'⟩, f2, g2, g2'⟩ := spec_err hv hl h1 h2 m
      have hp : PhOk n (m * k % n) (phasW (phT (rI (((m : Nat) : Int) * ((k : Nat) : Int)) (n : Int)) (n : Int))).1 (phasW (phT (rI (((m : Nat) : Int) * ((k : Nat) : Int)) (n : Int)) (n : Int))).2 := by
        rw [rI_nat h1]; exact phOk_at h1 h2 (Nat.mod_lt _ (by omega))
      have hg : List.getD (specL (vs.map cvI) n n) m (0, 0) = specS (vs.map cvI) n m n := by
        rw [specL_get _ _ hm, List.length_map, hl]
      rw [hg]
      obtain ⟨q1, q2, q3, q4⟩ := hab m
      obtain ⟨z1, z2, z3⟩ := prW_near hp f1 f2 (by grind) (by grind) (by grind) (by grind)
      obtain ⟨w1, w2⟩ := pq_bd hp (x := fv .f32 (specS (vs.map cvI) n m n).1 - aR vs n m) (y := fv .f32 (specS (vs.map cvI) n m n).2 - bR vs n m) (D := dW n (aw vs n)) (by grind) (by grind) (by grind) (by grind)
      exact ⟨z1, by grind, by grind⟩)
    (fun j hj => by
      have hb := sum_abs (t := fun m => pR n (m * k % n) * aR vs n m - qR n (m * k % n) * bR vs n m) (c := 128 * (1415 / 1000)) (n := n) (fun m _ => by
        obtain ⟨q1, q2, q3, q4⟩ := hab m
        exact pq_bd (phOk_at h1 h2 (Nat.mod_lt (m * k) (show 0 < n by omega))) q1 q2 q3 q4) j hj
      have hj16 : (j : Rat) ≤ 16 := natR_le (b := 16) (by omega)
      have := natR_nonneg j
      exact ⟨by grind, by grind⟩)
    (by grind) (by grind) (by grind) (by grind) (by grind) n (Nat.le_refl _)
  obtain ⟨s1, s2⟩ := hsum
  have hex := s2.trans (back_exact (vs := vs) h1 h2 hk)
  obtain ⟨v1, v2, v3, v4⟩ := getD_fl hv (j := k) (by omega)
  obtain ⟨i1, i2⟩ := cvI_fl (n := (n : Int)) (by omega)
  rw [Rat.intCast_natCast] at i2
  have hq := quo_Rd s1 i1 (by rw [i2]; grind)
  rw [i2] at hq
  have hqe : fv .f32 (S n) / (n : Rat) * (n : Rat) = fv .f32 (S n) := Rat.div_mul_cancel (by grind)
  generalize fv .f32 (S n) / (n : Rat) = q at hq hqe
  have hnear : nr (8180 / 10000000) q ((vs.getD k 0 : Int) : Rat) := by
    obtain ⟨x1, x2⟩ := hex
    rw [← hqe] at x1 x2
    generalize ((vs.getD k 0 : Int) : Rat) = v at *
    have hp := natR_pos h1
    have k1 : (q - v) * (n : Rat) ≤ (8180 / 10000000) * (n : Rat) := by grind
    have k2 : (v - q) * (n : Rat) ≤ (8180 / 10000000) * (n : Rat) := by grind
    exact ⟨Rat.le_of_mul_le_mul_right k1 hp, Rat.le_of_mul_le_mul_right k2 hp⟩
  obtain ⟨y1, y2⟩ := hnear
  obtain ⟨z1, z2, z3⟩ := rnd32 hq (B := 9) (by grind) (by grind) (by grind) (by grind)
  exact ⟨z1, by grind, by grind⟩

end Go.Sim
end

section
namespace Go.Sim
open Go

/-- Sums of squares. -/
def sq (vs : List Int) : Nat → Nat
  | 0 => 0
  | j + 1 => sq vs j + (vs.getD j 0).natAbs * (vs.getD j 0).natAbs

theorem two_mul_sq (x y : Nat) : 2 * (x * y) ≤ x * x + y * y := by
  rcases Nat.le_total x y with h | h
  · obtain ⟨d, rfl⟩ := Nat.exists_eq_add_of_le h
    have e1 : x * (x + d) = x * x + x * d := Nat.mul_add _ _ _
    have e2 : (x + d) * (x + d) = x * x + x * d + (d * x + d * d) := by rw [Nat.add_mul, Nat.mul_add, Nat.mul_add]
    have e3 : d * x = x * d := Nat.mul_comm _ _
    omega
  · obtain ⟨d, rfl⟩ := Nat.exists_eq_add_of_le h
    have e1 : (y + d) * y = y * y + d * y := Nat.add_mul _ _ _
    have e2 : (y + d) * (y + d) = y * y + y * d + (d * y + d * d) := by rw [Nat.add_mul, Nat.mul_add, Nat.mul_add]
    have e3 : d * y = y * d := Nat.mul_comm _ _
    omega

theorem cauchy1 (vs : List Int) (x : Nat) : ∀ j, 2 * (aw vs j * x) ≤ j * (x * x) + sq vs j
  | 0 => by simp [aw, sq]
  | j + 1 => by
    have h := cauchy1 vs x j
    have g := two_mul_sq (vs.getD j 0).natAbs x
    simp only [aw, sq]
    rw [Nat.add_mul, Nat.add_mul, Nat.one_mul]
    omega

theorem cauchy (vs : List Int) : ∀ j, aw vs j * aw vs j ≤ j * sq vs j
  | 0 => by simp [aw]
  | j + 1 => by
    have h := cauchy vs j
    have g := cauchy1 vs (vs.getD j 0).natAbs j
    simp only [aw, sq]
    generalize (vs.getD j 0).natAbs = x at *
    have e1 : (aw vs j + x) * (aw vs j + x) = aw vs j * aw vs j + 2 * (aw vs j * x) + x * x := by
      rw [Nat.add_mul, Nat.mul_add, Nat.mul_add, Nat.mul_comm x (aw vs j)]; omega
    have e2 : (j + 1) * (sq vs j + x * x) = j * sq vs j + j * (x * x) + (sq vs j + x * x) := by rw [Nat.add_mul, Nat.mul_add, Nat.one_mul]
    rw [e1, e2]; omega

theorem sq_le {vs : List Int} (hv : small8 vs) : ∀ j, j ≤ vs.length → j ≤ sq vs j ∧ sq vs j ≤ 64 * j
  | 0, _ => ⟨Nat.le_refl _, Nat.le_refl _⟩
  | j + 1, h => by
    have := sq_le hv j (by omega)
    have a := small8_at hv (k := j) (by omega)
    simp only [sq]
    generalize hx : (vs.getD j 0).natAbs = x at *
    have h1 : 1 ≤ x := by omega
    have h2 : x * x ≤ 8 * 8 := Nat.mul_le_mul a.2 a.2
    have h3 : 1 * 1 ≤ x * x := Nat.mul_le_mul h1 h1
    omega

theorem sum_sq (f : Nat → Rat) (n : Nat) : sumR f n * sumR f n = sumR (fun l => sumR (fun j => f l * f j) n) n := by
  rw [← sumR_mul (sumR f n) f n]
  refine sumR_congr n fun l _ => ?_
  rw [sumR_mul]; grind

theorem sq_sum (vs : List Int) : ∀ n, sumR (fun l => ((vs.getD l 0 : Int) : Rat) * ((vs.getD l 0 : Int) : Rat)) n = (sq vs n : Rat)
  | 0 => rfl
  | n + 1 => by
    rw [sumR, sq_sum vs n, sq, Rat.natCast_add]
    congr 1
    have : ((vs.getD n 0).natAbs : Int) * ((vs.getD n 0).natAbs : Int) = vs.getD n 0 * vs.getD n 0 := by
      rw [← Int.natCast_mul, ← Int.natAbs_mul]
      rcases Int.le_total 0 (vs.getD n 0) with h | h
      · have := Int.mul_nonneg h h; omega
      · have := Int.mul_nonneg_of_nonpos_of_nonpos h h; omega
    rw [← Rat.intCast_mul, ← this, ← Int.natCast_mul, Rat.intCast_natCast]

theorem parseval {vs : List Int} {n : Nat} (h1 : 1 ≤ n) (h2 : n ≤ 16) :
    nr ((aw vs n : Rat) * ((aw vs n : Rat) * (1 / 1600000))) (sumR (fun m => aR vs n m * aR vs n m + bR vs n m * bR vs n m) n) ((n : Rat) * (sq vs n : Rat)) := by
  have e1 : ∀ m, m < n → aR vs n m * aR vs n m + bR vs n m * bR vs n m = sumR (fun l => sumR (fun j => (((vs.getD l 0 : Int) : Rat) * ((vs.getD j 0 : Int) : Rat)) * (pR n (xi n m l) * pR n (xi n m j) + qR n (xi n m l) * qR n (xi n m j))) n) n := by
    intro m _
    unfold aR bR
    rw [sum_sq, sum_sq, ← sumR_add]
    refine sumR_congr n fun l _ => ?_
    rw [← sumR_add]
    refine sumR_congr n fun j _ => ?_
    unfold aT bT
    grind
  rw [sumR_congr n e1, sumR_swap]
  have e2 : ∀ l, l < n → sumR (fun m => sumR (fun j => (((vs.getD l 0 : Int) : Rat) * ((vs.getD j 0 : Int) : Rat)) * (pR n (xi n m l) * pR n (xi n m j) + qR n (xi n m l) * qR n (xi n m j))) n) n =
      sumR (fun j => (((vs.getD l 0 : Int) : Rat) * ((vs.getD j 0 : Int) : Rat)) * sumR (fun m => pR n (xi n m l) * pR n (xi n m j) + qR n (xi n m l) * qR n (xi n m j)) n) n := by
    intro l _
    rw [sumR_swap]
    exact sumR_congr n fun j _ => sumR_mul _ _ n
  rw [sumR_congr n e2]
  have hs := sumR_nr (e := fun l => (((vs.getD l 0).natAbs : Nat) : Rat) * ((aw vs n : Rat) * (1 / 1600000)))
    (s := fun l => sumR (fun j => (((vs.getD l 0 : Int) : Rat) * ((vs.getD j 0 : Int) : Rat)) * sumR (fun m => pR n (xi n m l) * pR n (xi n m j) + qR n (xi n m l) * qR n (xi n m j)) n) n)
    (t := fun l => (((vs.getD l 0 : Int) : Rat) * ((vs.getD l 0 : Int) : Rat)) * (n : Rat)) n (fun l hl => by
      have hi := sumR_nr (e := fun j => (((vs.getD j 0).natAbs : Nat) : Rat) * ((((vs.getD l 0).natAbs : Nat) : Rat) * (1 / 1600000)))
        (s := fun j => (((vs.getD l 0 : Int) : Rat) * ((vs.getD j 0 : Int) : Rat)) * sumR (fun m => pR n (xi n m l) * pR n (xi n m j) + qR n (xi n m l) * qR n (xi n m j)) n)
        (t := fun j => (((vs.getD l 0 : Int) : Rat) * ((vs.getD j 0 : Int) : Rat)) * dlt n l j) n (fun j hj => by
          have a1 := int_abs (vs.getD l 0)
          have a2 := int_abs (vs.getD j 0)
          obtain ⟨m1, m2⟩ := mul_bd a1.1 a1.2 a2.1 a2.2
          have := nr_mul (gh_near h1 h2 hl hj).2 m1 m2
          exact this.mono (by grind))
      rw [aw_sum, sum_dlt, if_pos hl] at hi
      exact hi.mono (by grind))
  rw [aw_sum] at hs
  have e3 : sumR (fun l => (((vs.getD l 0 : Int) : Rat) * ((vs.getD l 0 : Int) : Rat)) * (n : Rat)) n = (n : Rat) * (sq vs n : Rat) := by
    rw [← sq_sum, ← sumR_mul]
    exact sumR_congr n fun l _ => Rat.mul_comm _ _
  rw [e3] at hs
  exact hs

theorem zero_v (k : FloatKind) : fv k 0 = 0 := (zero_fl k).2

/-- The power of a number that is near another. -/
theorem pow_near {A B : Nat} {a b D W : Rat} (fA : isFl .f32 A) (fB : isFl .f32 B) (nA : nr D (fv .f32 A) a) (nB : nr D (fv .f32 B) b) (a1 : a ≤ W) (a2 : -W ≤ a) (b1 : b ≤ W) (b2 : -W ≤ b) (hD : D ≤ W * (25 / 8388608)) (hD0 : 0 ≤ D) (hW : 1 ≤ W) (hW2 : W ≤ 128) :
    isFl .f32 (fcv .f64 .f32 (poW A B)) ∧ 0 ≤ fv .f32 (fcv .f64 .f32 (poW A B)) ∧ nr (W * W * (104 / 8388608)) (fv .f32 (fcv .f64 .f32 (poW A B))) (a * a + b * b) := by
  obtain ⟨uA, vA⟩ := fcv_up fA
  obtain ⟨uB, vB⟩ := fcv_up fB
  obtain ⟨x1, x2⟩ := nA
  obtain ⟨y1, y2⟩ := nB
  have r1 := mul_Rd uA uA
  have r2 := mul_Rd uB uB
  rw [vA] at r1; rw [vB] at r2
  generalize fv .f32 A = x at *
  generalize fv .f32 B = y at *
  have sx : 0 ≤ x * x := sq_nonneg x
  have sy : 0 ≤ y * y := sq_nonneg y
  obtain ⟨p1, p2⟩ := mul_bd (a := x) (A := W * (1000003 / 1000000)) (b := x) (B := W * (1000003 / 1000000)) (by grind) (by grind) (by grind) (by grind)
  obtain ⟨p3, p4⟩ := mul_bd (a := y) (A := W * (1000003 / 1000000)) (b := y) (B := W * (1000003 / 1000000)) (by grind) (by grind) (by grind) (by grind)
  obtain ⟨d1, d2⟩ := mul_bd (a := x - a) (A := W * (25 / 8388608)) (b := x + a) (B := 2 * W + W * (25 / 8388608)) (by grind) (by grind) (by grind) (by grind)
  obtain ⟨d3, d4⟩ := mul_bd (a := y - b) (A := W * (25 / 8388608)) (b := y + b) (B := 2 * W + W * (25 / 8388608)) (by grind) (by grind) (by grind) (by grind)
  have hZ1 : 1 ≤ W * W := by
    have := Rat.mul_le_mul_of_nonneg_left hW (show 0 ≤ W by grind)
    grind
  have hZ2 : W * W ≤ 16384 := by
    have g1 := Rat.mul_le_mul_of_nonneg_left hW2 (show 0 ≤ W by grind)
    grind
  have q1 : x * x ≤ W * W * (1001 / 1000) := by grind
  have q2 : y * y ≤ W * W * (1001 / 1000) := by grind
  have g1 : x * x - a * a ≤ W * W * (5001 / 100 / 8388608) := by grind
  have g2 : a * a - x * x ≤ W * W * (5001 / 100 / 8388608) := by grind
  have g3 : y * y - b * b ≤ W * W * (5001 / 100 / 8388608) := by grind
  have g4 : b * b - y * y ≤ W * W * (5001 / 100 / 8388608) := by grind
  generalize x * x = xx at *
  generalize y * y = yy at *
  generalize a * a = aa at *
  generalize b * b = bb at *
  generalize W * W = Z at *
  obtain ⟨m1, n1, n1'⟩ := rnd64 r1 (B := Z * (1001 / 1000)) (by grind) (by grind) (by grind) (by grind)
  obtain ⟨m2, n2, n2'⟩ := rnd64 r2 (B := Z * (1001 / 1000)) (by grind) (by grind) (by grind) (by grind)
  have l1 := r1.lo m1 (zero_fl .f64).1 (by rw [zero_v]; exact sx)
  have l2 := r2.lo m2 (zero_fl .f64).1 (by rw [zero_v]; exact sy)
  rw [zero_v] at l1 l2
  have r3 := add_Rd m1 m2
  obtain ⟨m3, n3, n3'⟩ := rnd64 r3 (B := Z * (2010 / 1000)) (by grind) (by grind) (by grind) (by grind)
  have l3 := r3.lo m3 (zero_fl .f64).1 (by rw [zero_v]; grind)
  rw [zero_v] at l3
  have r4 := fcv_down_Rd m3
  unfold poW
  obtain ⟨m4, n4, n4'⟩ := rnd32 r4 (B := Z * (2020 / 1000)) (by grind) (by grind) (by grind) (by grind)
  have l4 := r4.lo m4 (zero_fl .f32).1 (by rw [zero_v]; exact l3)
  rw [zero_v] at l4
  exact ⟨m4, l4, by grind, by grind⟩

def powP (vs : List Int) (n m : Nat) : Nat := fcv .f64 .f32 (poW (specS (vs.map cvI) n m n).1 (specS (vs.map cvI) n m n).2)
def tot (vs : List Int) (n : Nat) : Rat := (n : Rat) * (sq vs n : Rat)

theorem tot_bd {vs : List Int} (hv : small8 vs) {n : Nat} (hl : vs.length = n) (h1 : 1 ≤ n) (h2 : n ≤ 16) : 1 ≤ tot vs n ∧ tot vs n ≤ 16384 ∧ (aw vs n : Rat) * (aw vs n : Rat) ≤ tot vs n := by
  have hs := sq_le hv n (by omega)
  have c := Rat.natCast_le_natCast.2 (cauchy vs n)
  rw [Rat.natCast_mul, Rat.natCast_mul] at c
  have a : 1 * 1 ≤ n * sq vs n := Nat.mul_le_mul h1 (by omega)
  have b : n * sq vs n ≤ 16 * 1024 := Nat.mul_le_mul h2 (by omega)
  have a' := natR_le (a := 1) (b := n * sq vs n) (by omega)
  have b' := natR_le (a := n * sq vs n) (b := 16384) (by omega)
  rw [Rat.natCast_mul] at a' b'
  exact ⟨a', b', c⟩

theorem pows_near {vs : List Int} (hv : small8 vs) {n : Nat} (hl : vs.length = n) (h1 : 1 ≤ n) (h2 : n ≤ 16) :
    (∀ m, isFl .f32 (powP vs n m) ∧ 0 ≤ fv .f32 (powP vs n m)) ∧ nr (tot vs n * (2 / 10000)) (sumR (fun m => fv .f32 (powP vs n m)) n) (tot vs n) := by
  have hW := aw_le hv n (by omega)
  have hd := dW_le h1 h2 hW.1 hW.2
  have hW128 : ((aw vs n : Nat) : Rat) ≤ 128 := natR_le (b := 128) (by omega)
  have hW1 : (1 : Rat) ≤ ((aw vs n : Nat) : Rat) := natR_le (a := 1) (by omega)
  have hn16 : (n : Rat) ≤ 16 := natR_le (b := 16) h2
  have key : ∀ m, isFl .f32 (powP vs n m) ∧ 0 ≤ fv .f32 (powP vs n m) ∧ nr ((aw vs n : Rat) * (aw vs n : Rat) * (104 / 8388608)) (fv .f32 (powP vs n m)) (aR vs n m * aR vs n m + bR vs n m * bR vs n m) := fun m => by
    obtain ⟨⟨f1, g1⟩, f2, g2⟩ := spec_err hv hl h1 h2 m
    obtain ⟨⟨a1, a2⟩, a3, a4⟩ := aT_bd vs h1 h2 m n
    exact pow_near f1 f2 g1 g2 a1 a2 a3 a4 hd.2.1 hd.2.2 hW1 hW128
  refine ⟨fun m => ⟨(key m).1, (key m).2.1⟩, ?_⟩
  have hs := sumR_nr (e := fun _ => (aw vs n : Rat) * (aw vs n : Rat) * (104 / 8388608)) (s := fun m => fv .f32 (powP vs n m)) (t := fun m => aR vs n m * aR vs n m + bR vs n m * bR vs n m) n (fun m _ => (key m).2.2)
  rw [sumR_const] at hs
  have ht := hs.trans (parseval (vs := vs) h1 h2)
  obtain ⟨t1, t2, t3⟩ := tot_bd hv hl h1 h2
  refine (show nr _ _ (tot vs n) from ht).mono ?_
  have hz : 0 ≤ (aw vs n : Rat) * (aw vs n : Rat) := sq_nonneg _
  have h16 : (n : Rat) * ((aw vs n : Rat) * (aw vs n : Rat) * (104 / 8388608)) ≤ 16 * ((aw vs n : Rat) * (aw vs n : Rat) * (104 / 8388608)) := Rat.mul_le_mul_of_nonneg_right hn16 (by grind)
  have e : (aw vs n : Rat) * ((aw vs n : Rat) * (1 / 1600000)) = (aw vs n : Rat) * (aw vs n : Rat) * (1 / 1600000) := by grind
  rw [e]
  generalize (aw vs n : Rat) * (aw vs n : Rat) = Z at *
  grind

end Go.Sim
end

section
namespace Go.Sim
open Go

/-- A gap between numbers that are near is not above a greater number. -/
theorem gap_le {x y r : Nat} (fx : isFl .f64 x) (fy : isFl .f64 y) (fr : isFl .f64 r) {e B : Rat} (h : nr e (fv .f64 x) (fv .f64 y)) (hB : 1 ≤ B) (hB2 : B ≤ 4294967296) (he : e ≤ B) (hr : e + B * (1 / 4503599627370496) ≤ fv .f64 r) :
    fcmp .gtr .f64 (if fcmp .lss .f64 x y = true then fop .sub .f64 y x else fop .sub .f64 x y) r = false := by
  obtain ⟨h1, h2⟩ := h
  split
  · obtain ⟨f, n1, n2⟩ := rnd64 (sub_Rd fy fx) hB hB2 (by grind) (by grind)
    rw [Bool.eq_false_iff, ne_eq, gtr_iff f fr]; grind
  · obtain ⟨f, n1, n2⟩ := rnd64 (sub_Rd fx fy) hB hB2 (by grind) (by grind)
    rw [Bool.eq_false_iff, ne_eq, gtr_iff f fr]; grind

theorem c001 : isFl .f64 4562254508917369340 ∧ (9999 / 10000000 : Rat) ≤ fv .f64 4562254508917369340 ∧ fv .f64 4562254508917369340 ≤ (1 / 1000 : Rat) + 1 / 1000000000 := ⟨finB_fl (by decide +kernel), by decide +kernel, by decide +kernel⟩

/-- float32s that are near are near as float64s. -/
theorem gap32 {x y : Nat} (fx : isFl .f32 x) (fy : isFl .f32 y) (h : nr (82 / 100000) (fv .f32 x) (fv .f32 y)) :
    fcmp .gtr .f64 (if fcmp .lss .f64 (fcv .f32 .f64 x) (fcv .f32 .f64 y) = true then fop .sub .f64 (fcv .f32 .f64 y) (fcv .f32 .f64 x) else fop .sub .f64 (fcv .f32 .f64 x) (fcv .f32 .f64 y)) 4562254508917369340 = false := by
  obtain ⟨ux, vx⟩ := fcv_up fx
  obtain ⟨uy, vy⟩ := fcv_up fy
  obtain ⟨c1, c2, c3⟩ := c001
  rw [← vx, ← vy] at h
  exact gap_le ux uy c1 h (B := 1) (by grind) (by grind) (by grind) (by grind)

theorem sumR_nonneg {t : Nat → Rat} (h : ∀ j, 0 ≤ t j) : ∀ n, 0 ≤ sumR t n
  | 0 => Rat.le_refl
  | n + 1 => by have := sumR_nonneg h n; have := h n; rw [sumR]; grind
theorem sumR_mono {t : Nat → Rat} (h : ∀ j, 0 ≤ t j) {m n : Nat} (hm : m ≤ n) : sumR t m ≤ sumR t n := by
  induction n with
  | zero => have : m = 0 := by omega
            subst this; exact Rat.le_refl
  | succ n ih =>
    rcases Nat.lt_or_ge m (n + 1) with h' | h'
    · have := ih (by omega); have := h n; rw [sumR]; grind
    · have : m = n + 1 := by omega
      subst this; exact Rat.le_refl
theorem sumR_split (t : Nat → Rat) (i : Nat) : ∀ m, sumR t (i + m) = sumR t i + sumR (fun j => t (i + j)) m
  | 0 => by simp only [sumR, Nat.add_zero]; grind
  | m + 1 => by rw [← Nat.add_assoc, sumR, sumR_split t i m, sumR]; grind

section
variable {vs : List Int} {n : Nat}

def pv (vs : List Int) (n m : Nat) : Rat := fv .f32 (powP vs n m)
def PT (vs : List Int) (n : Nat) : Rat := sumR (pv vs n) n

theorem pt_bd (hv : small8 vs) (hl : vs.length = n) (h1 : 1 ≤ n) (h2 : n ≤ 16) : (∀ m, isFl .f32 (powP vs n m) ∧ 0 ≤ pv vs n m) ∧ nr (tot vs n * (2 / 10000)) (PT vs n) (tot vs n) ∧ 1 ≤ tot vs n ∧ tot vs n ≤ 16384 := by
  obtain ⟨a, b⟩ := pows_near hv hl h1 h2
  obtain ⟨c, d, _⟩ := tot_bd hv hl h1 h2
  exact ⟨a, b, c, d⟩

/-- The sum of all powers, in float64. -/
theorem all_near (hv : small8 vs) (hl : vs.length = n) (h1 : 1 ≤ n) (h2 : n ≤ 16) (S : Nat → Nat) (h0 : S 0 = 0) (p : Nat → Nat) (hp : ∀ j, j < n → p j = powP vs n j) (hs : ∀ j, S (j + 1) = fop .add .f64 (S j) (fcv .f32 .f64 (p j))) :
    isFl .f64 (S n) ∧ nr (1 / 1000000) (fv .f64 (S n)) (PT vs n) := by
  obtain ⟨hP, ⟨t1, t2⟩, t3, t4⟩ := pt_bd hv hl h1 h2
  have hn16 : (n : Rat) ≤ 16 := natR_le (b := 16) h2
  have hn0 := natR_nonneg n
  have hB : 20000 + (n : Rat) * (0 + 20001 * (1 / 4503599627370496)) ≤ 20001 := by grind
  have := fsum (k := .f64) (U := 1 / 4503599627370496) (fun h => fun {B} => rnd64 h) (f := fun j => fcv .f32 .f64 (p j)) (t := pv vs n) S h0 hs (n := n) (e := 0) (M := 20000) (B := 20001)
    (fun j hj => by
      obtain ⟨u1, u2⟩ := fcv_up (hP j).1
      rw [hp j hj]
      exact ⟨u1, by rw [u2]; exact nr.self _⟩)
    (fun j hj => by
      have a := sumR_mono (fun m => (hP m).2) hj
      have b := sumR_nonneg (fun m => (hP m).2) j
      have : sumR (pv vs n) n = PT vs n := rfl
      exact ⟨by grind, by grind⟩)
    (by grind) (by grind) (by grind) (by grind) hB n (Nat.le_refl _)
  exact ⟨this.1, this.2.mono (by grind)⟩

/-- The sum of the sound's squares, in float64. -/
theorem sqs_near (hv : small8 vs) (hl : vs.length = n) (h2 : n ≤ 16) (S : Nat → Nat) (h0 : S 0 = 0)
    (hs : ∀ j, S (j + 1) = fop .add .f64 (S j) (fop .mul .f64 (fcv .f32 .f64 (List.getD (vs.map cvI) j 0)) (fcv .f32 .f64 (List.getD (vs.map cvI) j 0)))) :
    isFl .f64 (S n) ∧ nr (1 / 1000000) (fv .f64 (S n)) (sq vs n : Rat) := by
  have hn16 : (n : Rat) ≤ 16 := natR_le (b := 16) h2
  have hn0 := natR_nonneg n
  have hq := sq_le hv n (by omega)
  have hq2 := natR_le (show sq vs n ≤ 1024 by omega)
  have c : ((1024 : Nat) : Rat) = 1024 := rfl
  rw [c] at hq2
  have hB : 1024 + (n : Rat) * (64 * (1 / 4503599627370496) + 1025 * (1 / 4503599627370496)) ≤ 1025 := by grind
  have := fsum (k := .f64) (U := 1 / 4503599627370496) (fun h => fun {B} => rnd64 h) (f := fun j => fop .mul .f64 (fcv .f32 .f64 (List.getD (vs.map cvI) j 0)) (fcv .f32 .f64 (List.getD (vs.map cvI) j 0))) (t := fun l => ((vs.getD l 0 : Int) : Rat) * ((vs.getD l 0 : Int) : Rat)) S h0 hs (n := n) (e := 64 * (1 / 4503599627370496)) (M := 1024) (B := 1025)
    (fun j hj => by
      obtain ⟨x1, x2, x3, x4⟩ := getD_fl hv (j := j) (by omega)
      obtain ⟨u1, u2⟩ := fcv_up x1
      have r := mul_Rd u1 u1
      rw [u2, x2] at r
      obtain ⟨m1, m2⟩ := mul_bd x3 x4 x3 x4
      exact rnd64 r (by grind) (by grind) (by grind) (by grind))
    (fun j hj => by
      have a := sumR_mono (t := fun l => ((vs.getD l 0 : Int) : Rat) * ((vs.getD l 0 : Int) : Rat)) (fun m => sq_nonneg _) hj
      have b := sumR_nonneg (t := fun l => ((vs.getD l 0 : Int) : Rat) * ((vs.getD l 0 : Int) : Rat)) (fun m => sq_nonneg _) j
      rw [sq_sum vs n] at a
      exact ⟨by grind, by grind⟩)
    (by grind) (by grind) (by grind) (by grind) hB n (Nat.le_refl _)
  rw [sq_sum] at this
  exact ⟨this.1, this.2.mono (by grind)⟩

/-- A thousandth of all. -/
theorem thou {all : Nat} {T : Rat} (fa : isFl .f64 all) (ha : nr (T * (2 / 10000) + 1 / 1000000) (fv .f64 all) T) (t1 : 1 ≤ T) (t2 : T ≤ 16384) : isFl .f64 (fop .mul .f64 4562254508917369340 all) ∧ T * (9 / 10000) ≤ fv .f64 (fop .mul .f64 4562254508917369340 all) := by
  obtain ⟨c1, c2, c3⟩ := c001
  obtain ⟨a1, a2⟩ := ha
  have a0 : 0 ≤ fv .f64 all := by grind
  have lo := Rat.mul_le_mul_of_nonneg_right c2 a0
  have hi := Rat.mul_le_mul_of_nonneg_right c3 a0
  obtain ⟨f, n1, n2⟩ := rnd64 (mul_Rd c1 fa) (B := 20) (by grind) (by grind) (by grind) (by grind)
  exact ⟨f, by grind⟩

theorem gap_all (hv : small8 vs) (hl : vs.length = n) (h1 : 1 ≤ n) (h2 : n ≤ 16) {all sqs : Nat} (ha : isFl .f64 all ∧ nr (1 / 1000000) (fv .f64 all) (PT vs n)) (hs : isFl .f64 sqs ∧ nr (1 / 1000000) (fv .f64 sqs) (sq vs n : Rat)) :
    fcmp .gtr .f64 (if fcmp .lss .f64 all (fop .mul .f64 sqs (canon .f64 (FloatKind.nearest .f64 (n : Int)))) = true then fop .sub .f64 (fop .mul .f64 sqs (canon .f64 (FloatKind.nearest .f64 (n : Int)))) all else fop .sub .f64 all (fop .mul .f64 sqs (canon .f64 (FloatKind.nearest .f64 (n : Int))))) (fop .mul .f64 4562254508917369340 all) = false := by
  obtain ⟨hP, hT, t3, t4⟩ := pt_bd hv hl h1 h2
  obtain ⟨fa, na⟩ := ha
  obtain ⟨fs, s1, s2⟩ := hs
  have hn16 : (n : Rat) ≤ 16 := natR_le (b := 16) h2
  have hn1 : (1 : Rat) ≤ (n : Rat) := natR_le (a := 1) h1
  obtain ⟨i1, i2⟩ := int_exact (k := .f64) (n : Int) (by omega)
  rw [Rat.intCast_natCast] at i2
  have r := mul_Rd fs i1
  rw [i2] at r
  have hq : nr (16 / 1000000) (fv .f64 sqs * (n : Rat)) (tot vs n) := by
    have e : tot vs n = (sq vs n : Rat) * (n : Rat) := by unfold tot; exact Rat.mul_comm _ _
    rw [e]
    obtain ⟨m1, m2⟩ := mul_bd (a := fv .f64 sqs - (sq vs n : Rat)) (A := 1 / 1000000) (b := (n : Rat)) (B := 16) (by grind) (by grind) (by grind) (by grind)
    exact ⟨by grind, by grind⟩
  obtain ⟨q1, q2⟩ := hq
  obtain ⟨f, n1, n2⟩ := rnd64 r (B := 17000) (by grind) (by grind) (by grind) (by grind)
  have hat := na.trans hT
  obtain ⟨g1, g2⟩ := thou fa (hat.mono (by grind)) t3 t4
  obtain ⟨b1, b2⟩ := hat
  exact gap_le fa f g1 (e := tot vs n * (2 / 10000) + 5 / 100000) (B := 100) ⟨by grind, by grind⟩ (by grind) (by grind) (by grind) (by grind)

/-! ### Bands -/

def pwL (vs : List Int) (n : Nat) : List Nat := (List.range n).map (powP vs n)
theorem pwL_len (vs : List Int) (n : Nat) : (pwL vs n).length = n := by simp [pwL]
theorem pwL_get (vs : List Int) {n k : Nat} (hk : k < n) : List.getD (pwL vs n) k 0 = powP vs n k := by simp [pwL, hk]

theorem pwL_ge (hv : small8 vs) (hl : vs.length = n) (h1 : 1 ≤ n) (h2 : n ≤ 16) : allGe0 (pwL vs n) = true ∧ allFin (pwL vs n) = true := by
  obtain ⟨hP, _⟩ := pt_bd hv hl h1 h2
  refine ⟨allBelow_true.2 fun k hk => ?_, allBelow_true.2 fun k hk => ?_⟩
  · rw [pwL_len] at hk
    rw [pwL_get vs hk, fin32_isF.2 (hP k).1, Bool.true_and, geq_iff (hP k).1 (zero_fl .f32).1, zero_v]
    exact (hP k).2
  · rw [pwL_len] at hk
    rw [pwL_get vs hk]; exact fin32_isF.2 (hP k).1

theorem from_near (hv : small8 vs) (hl : vs.length = n) (h1 : 1 ≤ n) (h2 : n ≤ 16) {i m : Nat} (him : i + m ≤ n) :
    isFl .f32 (sumFrom (pwL vs n) i m) ∧ nr (tot vs n * (33 / 8388608)) (fv .f32 (sumFrom (pwL vs n) i m)) (sumR (fun j => pv vs n (i + j)) m) := by
  obtain ⟨hP, ⟨t1, t2⟩, t3, t4⟩ := pt_bd hv hl h1 h2
  have hm16 : (m : Rat) ≤ 16 := natR_le (b := 16) (by omega)
  have hm0 := natR_nonneg m
  have hc : (m : Rat) * (0 + tot vs n * 2 * (1 / 8388608)) ≤ 16 * (0 + tot vs n * 2 * (1 / 8388608)) := Rat.mul_le_mul_of_nonneg_right hm16 (by grind)
  have := fsum (k := .f32) (U := 1 / 8388608) (fun h => fun {B} => rnd32 h) (f := fun j => List.getD (pwL vs n) (i + j) 0) (t := fun j => pv vs n (i + j)) (fun j => sumFrom (pwL vs n) i j) rfl (fun _ => rfl) (n := m) (e := 0) (M := tot vs n * (10002 / 10000)) (B := tot vs n * 2)
    (fun j hj => by
      show isFl .f32 (List.getD (pwL vs n) (i + j) 0) ∧ nr 0 (fv .f32 (List.getD (pwL vs n) (i + j) 0)) _
      rw [pwL_get vs (by omega)]
      exact ⟨(hP _).1, nr.self _⟩)
    (fun j hj => by
      have a := sumR_mono (fun m => (hP m).2) (show i + j ≤ n by omega)
      rw [sumR_split] at a
      have b := sumR_nonneg (fun m => (hP m).2) i
      have c := sumR_nonneg (t := fun j => pv vs n (i + j)) (fun m => (hP _).2) j
      have : sumR (pv vs n) n = PT vs n := rfl
      exact ⟨by grind, by grind⟩)
    (by grind) (by grind) (by grind) (by grind) (by grind) m (Nat.le_refl _)
  exact ⟨this.1, this.2.mono (by grind)⟩

theorem gap_bands (hv : small8 vs) (hl : vs.length = n) (h1 : 1 ≤ n) (h2 : n ≤ 16) {c : Nat} (hc : c ≤ n) {all : Nat} (ha : isFl .f64 all ∧ nr (1 / 1000000) (fv .f64 all) (PT vs n)) {bb : Nat}
    (hbb : bb = fop .add .f64 (fcv .f32 .f64 (sumFrom (pwL vs n) 0 c)) (fcv .f32 .f64 (sumFrom (pwL vs n) c (n - c)))) :
    fcmp .gtr .f64 (if fcmp .lss .f64 bb all = true then fop .sub .f64 all bb else fop .sub .f64 bb all) (fop .mul .f64 4562254508917369340 all) = false := by
  obtain ⟨hP, hT, t3, t4⟩ := pt_bd hv hl h1 h2
  obtain ⟨fa, na⟩ := ha
  obtain ⟨f1, n1, n1'⟩ := from_near hv hl h1 h2 (i := 0) (m := c) (by omega)
  obtain ⟨f2, n2, n2'⟩ := from_near hv hl h1 h2 (i := c) (m := n - c) (by omega)
  obtain ⟨u1, v1⟩ := fcv_up f1
  obtain ⟨u2, v2⟩ := fcv_up f2
  have hsp : PT vs n = sumR (fun j => pv vs n (0 + j)) c + sumR (fun j => pv vs n (c + j)) (n - c) := by
    unfold PT
    have e := sumR_split (pv vs n) c (n - c)
    rw [show c + (n - c) = n by omega] at e
    rw [e]; congr 1
    exact sumR_congr c fun j _ => by rw [Nat.zero_add]
  have r := add_Rd u1 u2
  rw [v1, v2] at r
  obtain ⟨x1, x2⟩ := hT
  obtain ⟨f, m1, m2⟩ := rnd64 r (B := 40000) (by grind) (by grind) (by grind) (by grind)
  have hat := na.trans ⟨x1, x2⟩
  obtain ⟨g1, g2⟩ := thou fa (hat.mono (by grind)) t3 t4
  obtain ⟨b1, b2⟩ := na
  rw [hbb]
  exact gap_le f fa g1 (e := tot vs n * (1 / 10000) + 2 / 1000000) (B := 100) ⟨by grind, by grind⟩ (by grind) (by grind) (by grind) (by grind)

/-! ### Their centre -/

theorem sum_idx {p : Nat → Rat} (hp : ∀ j, 0 ≤ p j) {n : Nat} : ∀ j, j ≤ n → 0 ≤ sumR (fun i => (i : Rat) * p i) j ∧ sumR (fun i => (i : Rat) * p i) j ≤ ((n : Rat) - 1) * sumR p j
  | 0, _ => by simp only [sumR]; exact ⟨Rat.le_refl, by grind⟩
  | j + 1, hj => by
    obtain ⟨i1, i2⟩ := sum_idx (n := n) hp j (by omega)
    have hj1 : ((j + 1 : Nat) : Rat) ≤ (n : Rat) := natR_le hj
    rw [natR_succ] at hj1
    have h0 := hp j
    have a := Rat.mul_nonneg (natR_nonneg j) h0
    have b := Rat.mul_le_mul_of_nonneg_right (show (j : Rat) ≤ (n : Rat) - 1 by grind) h0
    rw [sumR, sumR]
    exact ⟨by grind, by grind⟩

theorem centre_near (hv : small8 vs) (hl : vs.length = n) (h1 : 1 ≤ n) (h2 : n ≤ 16) (S : Nat → Nat × Nat) (h0 : S 0 = (0, 0))
    (hs : ∀ j, S (j + 1) = (fop .add .f32 (S j).1 (fop .mul .f32 (cvI (j : Int)) (List.getD (pwL vs n) j 0)), fop .add .f32 (S j).2 (List.getD (pwL vs n) j 0))) :
    fcmp .gtr .f32 (S n).2 0 = true ∧ isFl .f32 (fop .quo .f32 (S n).1 (S n).2) ∧ -(1 / 10000) ≤ fv .f32 (fop .quo .f32 (S n).1 (S n).2) ∧ fv .f32 (fop .quo .f32 (S n).1 (S n).2) ≤ (n : Rat) - 1 + 2 / 10000 := by
  obtain ⟨hP, ⟨t1, t2⟩, t3, t4⟩ := pt_bd hv hl h1 h2
  have hn16 : (n : Rat) ≤ 16 := natR_le (b := 16) h2
  have hn1 : (1 : Rat) ≤ (n : Rat) := natR_le (a := 1) h1
  have hsum : ∀ j, (S j).2 = sumFrom (pwL vs n) 0 j := by
    intro j
    induction j with
    | zero => rw [h0]; rfl
    | succ j ih => rw [hs, sumFrom, Nat.zero_add, ← ih]
  obtain ⟨f2, n2, n2'⟩ := from_near hv hl h1 h2 (i := 0) (m := n) (by omega)
  rw [← hsum] at f2 n2 n2'
  have hPT : sumR (fun j => pv vs n (0 + j)) n = PT vs n := sumR_congr n fun j _ => by rw [Nat.zero_add]
  rw [hPT] at n2 n2'
  have hpn : ∀ j, 0 ≤ pv vs n j := fun j => (hP j).2
  have hle : ∀ j, j < n → pv vs n j ≤ tot vs n * (10002 / 10000) := fun j hj => by
    have a := sumR_mono hpn (show j + 1 ≤ n from hj)
    rw [sumR] at a
    have b := sumR_nonneg hpn j
    have : sumR (pv vs n) n = PT vs n := rfl
    grind
  have hPTm : ∀ j, j ≤ n → sumR (pv vs n) j ≤ PT vs n := fun j hj => sumR_mono hpn hj
  have hc : (n : Rat) * (tot vs n * 17 * (1 / 8388608) + tot vs n * 17 * (1 / 8388608)) ≤ 16 * (tot vs n * 17 * (1 / 8388608) + tot vs n * 17 * (1 / 8388608)) := Rat.mul_le_mul_of_nonneg_right hn16 (by grind)
  have hw := fsum (k := .f32) (U := 1 / 8388608) (fun h => fun {B} => rnd32 h) (f := fun j => fop .mul .f32 (cvI (j : Int)) (List.getD (pwL vs n) j 0)) (t := fun i => (i : Rat) * pv vs n i) (fun j => (S j).1) (by rw [h0]) (fun j => by rw [hs]) (n := n) (e := tot vs n * 17 * (1 / 8388608)) (M := tot vs n * 16) (B := tot vs n * 17)
    (fun j hj => by
      obtain ⟨i1, i2⟩ := cvI_fl (n := (j : Int)) (by omega)
      rw [Rat.intCast_natCast] at i2
      rw [pwL_get vs hj]
      have r := mul_Rd i1 (hP j).1
      rw [i2] at r
      have hj16 : (j : Rat) ≤ 15 := natR_le (b := 15) (by omega)
      have hj0 := natR_nonneg j
      have hl1 := hle j hj
      obtain ⟨m1, m2⟩ := mul_bd (a := (j : Rat)) (A := 15) (b := pv vs n j) (B := tot vs n * (10002 / 10000)) hj16 (by grind) hl1 (by have := hpn j; grind)
      exact rnd32 (show Rd .f32 ((j : Rat) * pv vs n j) _ from r) (by grind) (by grind) (by grind) (by grind))
    (fun j hj => by
      obtain ⟨a, b⟩ := sum_idx hpn (n := n) j hj
      have c := hPTm j hj
      have d := sumR_nonneg hpn j
      have e := Rat.mul_le_mul_of_nonneg_right (show (n : Rat) - 1 ≤ 15 by grind) d
      exact ⟨by grind, by grind⟩)
    (by grind) (by grind) (by grind) (by grind) (by grind) n (Nat.le_refl _)
  obtain ⟨f1, w1, w2⟩ := hw
  obtain ⟨b1, b2⟩ := sum_idx hpn (n := n) n (Nat.le_refl _)
  have hPTe : sumR (pv vs n) n = PT vs n := rfl
  rw [hPTe] at b2
  generalize sumR (fun i => (i : Rat) * pv vs n i) n = Q at *
  generalize (n : Rat) * (tot vs n * 17 * (1 / 8388608) + tot vs n * 17 * (1 / 8388608)) = E at *
  have z := zero_fl .f32
  have spos : 0 < fv .f32 (S n).2 := by grind
  refine ⟨by rw [gtr_iff f2 z.1, z.2]; exact spos, ?_⟩
  have hq := quo_Rd f1 f2 (by grind)
  have hqe : fv .f32 (S n).1 / fv .f32 (S n).2 * fv .f32 (S n).2 = fv .f32 (S n).1 := Rat.div_mul_cancel (by grind)
  generalize fv .f32 (S n).1 / fv .f32 (S n).2 = q at hq hqe
  have hup : q ≤ (n : Rat) - 1 + 15 / 100000 := by
    refine Rat.le_of_mul_le_mul_right (c := fv .f32 (S n).2) ?_ spos
    rw [hqe]
    have g1 := Rat.mul_le_mul_of_nonneg_left (show PT vs n ≤ fv .f32 (S n).2 + tot vs n * (33 / 8388608) by grind) (show 0 ≤ (n : Rat) - 1 by grind)
    have g2 := Rat.mul_le_mul_of_nonneg_right (show (n : Rat) - 1 ≤ 15 by grind) (show 0 ≤ tot vs n * (33 / 8388608) by grind)
    grind
  have hlo : -(9 / 100000) ≤ q := by
    refine Rat.le_of_mul_le_mul_right (c := fv .f32 (S n).2) ?_ spos
    rw [hqe]
    grind
  obtain ⟨f, m1, m2⟩ := rnd32 hq (B := 17) (by grind) (by grind) (by grind) (by grind)
  exact ⟨f, by grind, by grind⟩

end
end Go.Sim
end
