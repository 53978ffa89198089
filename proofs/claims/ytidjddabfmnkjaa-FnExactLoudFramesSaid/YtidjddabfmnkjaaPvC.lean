/- What floats stand for: quotients, conversions, comparisons, whole parts. Conditions: none. -/
import Derived.Test.YtidjddabfmnkjaaPvB
import Derived.Test.YtidjddabfmnkjaaPuD
import Derived.Test.YtidjddabfmnkjaaPu9
namespace Go.Sim
open Go

theorem zp_le {a b : Int} (h : a ≤ b) : (2 : Rat) ^ a ≤ 2 ^ b := by
  have : b = a + ((b - a).toNat : Int) := by omega
  rw [this, ← mv_pow]
  have h1 : (2 : Rat) ^ a = mgv 1 a := by unfold mgv; simp
  rw [h1]; exact mv_le.2 (Nat.one_le_two_pow)

theorem mv_one (e : Int) : mgv 1 e = 2 ^ e := by unfold mgv; simp

/-! ### Quotients -/

theorem mul_div_le {a b c : Rat} (hb : 0 < b) : a ≤ c * b ↔ a * b⁻¹ ≤ c := by
  have hi : 0 < b⁻¹ := Rat.inv_pos.2 hb
  have e : b * b⁻¹ = 1 := Rat.mul_inv_cancel b (by grind)
  constructor
  · intro h
    have := Rat.mul_le_mul_of_nonneg_right h (Rat.le_of_lt hi)
    rw [Rat.mul_assoc, e, Rat.mul_one] at this; exact this
  · intro h
    have := Rat.mul_le_mul_of_nonneg_right h (Rat.le_of_lt hb)
    rw [Rat.mul_assoc, Rat.mul_comm b⁻¹ b, e, Rat.mul_one] at this; exact this

theorem le_mul_div {a b c : Rat} (hb : 0 < b) : c * b ≤ a ↔ c ≤ a * b⁻¹ := by
  have hi : 0 < b⁻¹ := Rat.inv_pos.2 hb
  have e : b * b⁻¹ = 1 := Rat.mul_inv_cancel b (by grind)
  constructor
  · intro h
    have := Rat.mul_le_mul_of_nonneg_right h (Rat.le_of_lt hi)
    rw [Rat.mul_assoc, e, Rat.mul_one] at this; exact this
  · intro h
    have := Rat.mul_le_mul_of_nonneg_right h (Rat.le_of_lt hb)
    rw [Rat.mul_assoc, Rat.mul_comm b⁻¹ b, e, Rat.mul_one] at this; exact this

/-- A quotient of whole numbers, cut with one digit that tells whether anything is left. -/
theorem sticky_Rd (k : FloatKind) (s : Bool) (D n : Nat) (g : Int) (hn : 0 < n) (hbig : 2 * k.format.binade * n ≤ D) :
    Rd k (sg s * (mgv D g * (n : Rat)⁻¹)) (canon k (k.format.nearest s (2 * (D / n) + (D % n != 0).toNat) (g - 1))) := by
  have hnr : (0 : Rat) < (n : Rat) := Rat.natCast_pos.2 hn
  have hdm := Nat.div_add_mod D n
  have hml := Nat.mod_lt D hn
  have hQ : 2 * k.format.binade ≤ D / n := (Nat.le_div_iff_mul_le hn).2 hbig
  generalize hq : D / n = Q at *
  generalize hr : D % n = R at *
  -- the exact quotient and 'J' units
  have U : ∀ J : Nat, mgv D g * (n : Rat)⁻¹ ≤ mgv J g → D ≤ J * n := by
    intro J h
    have := (mul_div_le hnr).2 h
    have e : mgv J g * (n : Rat) = mgv (J * n) g := by unfold mgv; rw [Rat.natCast_mul]; grind
    rw [e] at this; exact mv_le.1 this
  have U' : ∀ J : Nat, D ≤ J * n → mgv D g * (n : Rat)⁻¹ ≤ mgv J g := by
    intro J h
    refine (mul_div_le hnr).1 ?_
    have e : mgv J g * (n : Rat) = mgv (J * n) g := by unfold mgv; rw [Rat.natCast_mul]; grind
    rw [e]; exact mv_le.2 h
  have V : ∀ J : Nat, mgv J g ≤ mgv D g * (n : Rat)⁻¹ → J * n ≤ D := by
    intro J h
    have := (le_mul_div hnr).2 h
    have e : mgv J g * (n : Rat) = mgv (J * n) g := by unfold mgv; rw [Rat.natCast_mul]; grind
    rw [e] at this; exact mv_le.1 this
  have V' : ∀ J : Nat, J * n ≤ D → mgv J g ≤ mgv D g * (n : Rat)⁻¹ := by
    intro J h
    refine (le_mul_div hnr).1 ?_
    have e : mgv J g * (n : Rat) = mgv (J * n) g := by unfold mgv; rw [Rat.natCast_mul]; grind
    rw [e]; exact mv_le.2 h
  generalize hst : (R != 0).toNat = st
  have hst1 : st ≤ 1 := by subst hst; cases (R != 0) <;> simp
  have hst0 : R = 0 → st = 0 := by intro h; subst h; subst hst; rfl
  have hst2 : R ≠ 0 → st = 1 := by intro h; subst hst; simp [h]
  have hdbl : ∀ J : Nat, mgv J g = mgv (2 * J) (g - 1) := by
    intro J
    rw [Nat.mul_comm]
    have := mv_shift J (g - 1) 1
    rw [Nat.pow_one] at this
    rw [this]; congr 1; omega
  have hN1 : ∀ J : Nat, D ≤ J * n → 2 * Q + st ≤ 2 * J := by
    intro J hJ
    have h1 : Q ≤ J := by
      rcases Nat.lt_or_ge J Q with h | h
      · have : (J + 1) * n ≤ Q * n := Nat.mul_le_mul_right n h
        rw [Nat.succ_mul, Nat.mul_comm Q n] at this; omega
      · exact h
    by_cases h0 : R = 0
    · rw [hst0 h0]; omega
    · rw [hst2 h0]
      rcases Nat.lt_or_ge Q J with h | h
      · omega
      · have : J * n ≤ Q * n := Nat.mul_le_mul_right n h
        rw [Nat.mul_comm Q n] at this; omega
  have hN2 : ∀ J : Nat, J * n ≤ D → 2 * J ≤ 2 * Q + st := by
    intro J hJ
    have : J ≤ Q := by rw [← hq]; exact (Nat.le_div_iff_mul_le hn).2 hJ
    omega
  -- the great size of the quotient
  have hbinQ : mgv (2 * k.format.binade) g ≤ mgv D g * (n : Rat)⁻¹ := V' _ hbig
  have hbin : mgv (2 * k.format.binade) g = 2 ^ (g + 1 + (k.format.fractionBits : Int)) := by
    rw [hdbl]
    have : 2 * (2 * k.format.binade) = 2 ^ (k.format.fractionBits + 2) := by unfold Ieee.Format.binade; rw [Nat.pow_succ, Nat.pow_succ]; omega
    rw [this, mv_pow]; congr 1; omega
  have hd1 : mgv (2 * Q + st) (g - 1) ≤ mgv D g * (n : Rat)⁻¹ + 2 ^ (g - 1) := by
    rw [mv_add, ← hdbl]
    have h1 := V' Q (by rw [Nat.mul_comm]; omega)
    have h2 : mgv st (g - 1) ≤ mgv 1 (g - 1) := mv_le.2 hst1
    rw [mv_one] at h2; grind
  have hd2 : mgv D g * (n : Rat)⁻¹ ≤ mgv (2 * Q + st) (g - 1) + 2 ^ (g - 1) := by
    have h1 := U' (Q + 1) (by rw [Nat.succ_mul, Nat.mul_comm Q n]; omega)
    by_cases h0 : R = 0
    · have h2 := U' Q (by rw [Nat.mul_comm Q n]; omega)
      rw [hst0 h0, Nat.add_zero, ← hdbl]
      have := zp_pos (g - 1); grind
    · rw [hst2 h0]
      rw [hdbl (Q + 1)] at h1
      have e : 2 * (Q + 1) = 2 * Q + 1 + 1 := by omega
      rw [e, mv_add, mv_one] at h1; exact h1
  generalize hA : mgv D g * (n : Rat)⁻¹ = A at *
  have hA0 : 0 ≤ A := by
    have h1 : 0 ≤ mgv (2 * k.format.binade) g := mv_nonneg _ _
    grind
  have sp := rungOf_spec k.format (2 * Q + st) (g - 1)
  rw [nearest_word, word_canon sp.inf]
  refine ⟨s, _, A, rfl, hA0, rfl, sp.inf, fun r0 hr0 hle => ?_, fun r0 hr0 hle => ?_, fun hlt => ?_⟩
  · refine sp.up r0 hr0 ?_
    obtain ⟨t0, k0, rfl, hk0, ht0⟩ := rung_split k.format r0
    rw [rv_form k.format t0 k0 (by omega) ht0] at hle ⊢
    rcases Int.lt_or_le (k.format.leastPlace + (t0 : Int)) g with h | h
    · exfalso
      have h1 : mgv k0 (k.format.leastPlace + (t0 : Int)) < mgv (2 * k.format.binade) (k.format.leastPlace + (t0 : Int)) := mv_lt.2 hk0
      have h2 : mgv (2 * k.format.binade) (k.format.leastPlace + (t0 : Int)) ≤ mgv (2 * k.format.binade) g := Rat.mul_le_mul_of_nonneg_left (zp_le (Int.le_of_lt h)) Rat.natCast_nonneg
      grind
    · have e : k.format.leastPlace + (t0 : Int) = g + ((k.format.leastPlace + (t0 : Int) - g).toNat : Int) := by omega
      rw [e, ← mv_shift] at hle ⊢
      rw [hdbl]
      exact mv_le.2 (hN1 _ (U _ hle))
  · refine sp.lo r0 hr0 ?_
    obtain ⟨t0, k0, rfl, hk0, ht0⟩ := rung_split k.format r0
    rw [rv_form k.format t0 k0 (by omega) ht0] at hle ⊢
    rcases Int.lt_or_le (k.format.leastPlace + (t0 : Int)) g with h | h
    · have h1 : mgv k0 (k.format.leastPlace + (t0 : Int)) ≤ mgv (2 * k.format.binade) (k.format.leastPlace + (t0 : Int)) := mv_le.2 (by omega)
      have h2 : mgv (2 * k.format.binade) (k.format.leastPlace + (t0 : Int)) ≤ mgv (2 * k.format.binade) g := Rat.mul_le_mul_of_nonneg_left (zp_le (Int.le_of_lt h)) Rat.natCast_nonneg
      have h3 : mgv (2 * k.format.binade) g ≤ mgv (2 * Q + st) (g - 1) := by rw [hdbl]; exact mv_le.2 (by omega)
      grind
    · have e : k.format.leastPlace + (t0 : Int) = g + ((k.format.leastPlace + (t0 : Int) - g).toNat : Int) := by omega
      rw [e, ← mv_shift] at hle ⊢
      rw [hdbl]
      exact mv_le.2 (hN2 _ (V _ hle))
  · obtain ⟨e0, a1, a2, a3⟩ := sp.err hlt
    rcases Int.lt_or_le e0 (g - 1) with h | h
    · refine ⟨g, ?_, ?_, .inr ?_⟩
      · have h1 : (2 : Rat) ^ e0 ≤ 2 ^ (g - 1) := zp_le (by omega)
        have h2 : (2 : Rat) ^ g = 2 ^ (g - 1) * 2 := by
          have : g = g - 1 + 1 := by omega
          conv => lhs; rw [this, zp_add]
          rfl
        grind
      · have h1 : (2 : Rat) ^ e0 ≤ 2 ^ (g - 1) := zp_le (by omega)
        have h2 : (2 : Rat) ^ g = 2 ^ (g - 1) * 2 := by
          have : g = g - 1 + 1 := by omega
          conv => lhs; rw [this, zp_add]
          rfl
        grind
      · rw [hbin] at hbinQ
        exact Rat.le_trans (zp_le (by omega)) hbinQ
    · refine ⟨e0 + 1, ?_, ?_, ?_⟩
      · have h1 : (2 : Rat) ^ (g - 1) ≤ 2 ^ e0 := zp_le h
        have h2 : (2 : Rat) ^ (e0 + 1) = 2 ^ e0 * 2 := by rw [zp_add]; rfl
        grind
      · have h1 : (2 : Rat) ^ (g - 1) ≤ 2 ^ e0 := zp_le h
        have h2 : (2 : Rat) ^ (e0 + 1) = 2 ^ e0 * 2 := by rw [zp_add]; rfl
        grind
      · rcases a3 with a3 | a3
        · left; omega
        · right
          have e : e0 + 1 + (k.format.fractionBits : Int) = g + ((e0 + 1 + (k.format.fractionBits : Int) - g).toNat : Int) := by omega
          rw [e, ← mv_pow] at a3 ⊢
          generalize 2 ^ (e0 + 1 + (k.format.fractionBits : Int) - g).toNat = J at *
          rw [hdbl] at a3
          have h4 : 2 * J ≤ 2 * Q + st := mv_le.1 a3
          exact V' J (by
            have : J ≤ Q := by omega
            have := Nat.mul_le_mul_right n this
            rw [Nat.mul_comm Q n] at this; omega)

theorem quo_Rd {k : FloatKind} {x y : Nat} (hx : isFl k x) (hy : isFl k y) (h0 : fv k y ≠ 0) : Rd k (fv k x / fv k y) (fop .quo k x y) := by
  obtain ⟨s, m, i, hx⟩ := hx
  obtain ⟨t, n, j, hy⟩ := hy
  have hn : n ≠ 0 := by
    intro h; subst h
    rw [fv_num hy] at h0
    apply h0; unfold mgv; simp
  have hx' : k.format.read x = .number s m i := hx
  have hy' : k.format.read y = .number t n j := hy
  have hnp : 0 < n := by omega
  have hnr : (0 : Rat) < (n : Rat) := Rat.natCast_pos.2 hnp
  have e2 : ∀ more : Nat, fv k x / fv k y = sg (s ^^ t) * (mgv (m * 2 ^ more) (i - j - (more : Int)) * (n : Rat)⁻¹) := by
    intro more
    rw [fv_num hx, fv_num hy, sg_xor, mv_shift]
    have e3 : i - j - (more : Int) + (more : Int) = i + -j := by omega
    rw [e3]
    unfold mgv
    rw [zp_add, Rat.zpow_neg, Rat.div_def]
    have hj := zp_pos j
    have st : sg t * sg t = 1 := by cases t <;> decide +kernel
    have inv : (sg t * ((n : Rat) * 2 ^ j))⁻¹ = sg t * ((n : Rat)⁻¹ * (2 ^ j)⁻¹) := by
      refine Rat.inv_eq_of_mul_eq_one ?_
      have a1 : (n : Rat) * (n : Rat)⁻¹ = 1 := Rat.mul_inv_cancel _ (by grind)
      have a2 : (2 : Rat) ^ j * (2 ^ j)⁻¹ = 1 := Rat.mul_inv_cancel _ (by grind)
      generalize (n : Rat)⁻¹ = u at *
      generalize ((2 : Rat) ^ j)⁻¹ = v at *
      generalize (n : Rat) = a at *
      generalize (2 : Rat) ^ j = b at *
      generalize sg t = c at *
      have : c * (a * b) * (c * (u * v)) = (c * c) * (a * u) * (b * v) := by grind
      rw [this, st, a1, a2]; simp
    rw [inv]; grind
  by_cases hm : m = 0
  · subst hm
    have e : floatBits .quo k x y = some (k.format.nearest (s ^^ t) 0 (i - j - ((k.format.fractionBits + 2 + n.log2 - Nat.log2 0 : Nat) : Int) - 1)) := by
      simp only [floatBits, Ieee.Format.div, hx', hy', Ieee.Datum.quotient, if_neg hn, Option.map_some, Ieee.Format.write]
      simp [Nat.zero_shiftLeft]
    rw [fop_some e, e2 0]
    have h1 : mgv (0 * 2 ^ 0) (i - j - ((0 : Nat) : Int)) * (n : Rat)⁻¹ = mgv 0 (i - j - ((k.format.fractionBits + 2 + n.log2 - Nat.log2 0 : Nat) : Int) - 1) := by unfold mgv; simp
    rw [h1]
    exact nearest_Rd k _ _ _
  · generalize hmore : k.format.fractionBits + 2 + n.log2 - m.log2 = more
    have e : floatBits .quo k x y = some (k.format.nearest (s ^^ t) (2 * (m * 2 ^ more / n) + (m * 2 ^ more % n != 0).toNat) (i - j - (more : Int) - 1)) := by
      simp only [floatBits, Ieee.Format.div, hx', hy', Ieee.Datum.quotient, if_neg hn, Option.map_some, Ieee.Format.write, hmore, Nat.shiftLeft_eq]
    rw [fop_some e, e2 more]
    refine sticky_Rd k _ _ _ _ hnp ?_
    have h1 : 2 ^ m.log2 ≤ m := Nat.log2_self_le hm
    have h2 : n < 2 ^ (n.log2 + 1) := Nat.lt_log2_self
    have h3 : 2 * k.format.binade = 2 ^ (k.format.fractionBits + 1) := by unfold Ieee.Format.binade; rw [Nat.pow_succ]; omega
    rw [h3]
    calc 2 ^ (k.format.fractionBits + 1) * n ≤ 2 ^ (k.format.fractionBits + 1) * 2 ^ (n.log2 + 1) := Nat.mul_le_mul_left _ (Nat.le_of_lt h2)
      _ = 2 ^ (k.format.fractionBits + 1 + (n.log2 + 1)) := (Nat.pow_add ..).symm
      _ ≤ 2 ^ (m.log2 + more) := Nat.pow_le_pow_right (by omega) (by omega)
      _ = 2 ^ m.log2 * 2 ^ more := Nat.pow_add ..
      _ ≤ m * 2 ^ more := Nat.mul_le_mul_right _ h1

/-! ### Conversions -/

theorem fcv_down_Rd {x : Nat} (hx : isFl .f64 x) : Rd .f32 (fv .f64 x) (fcv .f64 .f32 x) := by
  obtain ⟨s, m, e, h⟩ := hx
  have : fcv .f64 .f32 x = canon .f32 (FloatKind.f32.format.nearest s m e) := by
    unfold fcv fconv; simp only [h]; rfl
  rw [this, fv_num h]
  exact nearest_Rd .f32 _ _ _

theorem fconvOk_fin {x : Nat} (hx : isFl .f64 x) (h : isFl .f32 (fcv .f64 .f32 x)) : fconvOk .f64 .f32 x := by
  obtain ⟨s, m, e, hd⟩ := hx
  have e1 : fcv .f64 .f32 x = FloatKind.encode .f32 (.number s m e) := by
    have : fcv .f64 .f32 x = canon .f32 (FloatKind.f32.format.nearest s m e) := by
      unfold fcv fconv; simp only [hd]; rfl
    rw [this, nearest_word, word_canon (rungOf_spec _ _ _).inf, ← nearest_word]; rfl
  rw [e1] at h
  obtain ⟨s', m', e', h⟩ := h
  unfold fconvOk
  simp only [hd]
  rw [h]; rfl

/-- The greatest float64. -/
theorem big64 : isFl .f64 9218868437227405311 := ⟨_, _, _, rfl⟩
theorem big64_v : rgv FloatKind.f32.format FloatKind.f32.format.infRung ≤ fv .f64 9218868437227405311 := by decide +kernel

theorem fcv_up {x : Nat} (hx : isFl .f32 x) : isFl .f64 (fcv .f32 .f64 x) ∧ fv .f64 (fcv .f32 .f64 x) = fv .f32 x := by
  have hR : Rd .f64 (fv .f32 x) (fcv .f32 .f64 x) := by
    obtain ⟨s, m, e, h⟩ := hx
    have : fcv .f32 .f64 x = canon .f64 (FloatKind.f64.format.nearest s m e) := by
      unfold fcv fconv; simp only [h]; rfl
    rw [this, fv_num h]
    exact nearest_Rd .f64 _ _ _
  obtain ⟨s, r, hr, hv⟩ := fin_rung hx
  obtain ⟨t, k0, e0, hk, ht⟩ := rung_split FloatKind.f32.format r
  have hf := rv_form FloatKind.f32.format t k0 (by omega) ht
  rw [← e0] at hf
  obtain ⟨w, hw, hwv⟩ := rep_fin (k := .f64) (m := k0) (e := FloatKind.f32.format.leastPlace + (t : Int)) (by
    have : 2 * FloatKind.f32.format.binade ≤ 2 * FloatKind.f64.format.binade := by decide
    omega) (by
    have : FloatKind.f64.format.leastPlace ≤ FloatKind.f32.format.leastPlace := by decide
    omega) big64 (by
    rw [← hf]
    exact Rat.le_trans ((rv_le _).2 (Nat.le_of_lt hr)) big64_v) s
  have := hR.exact hw (by rw [hwv, hv, hf])
  exact this

theorem nearest_int_Rd (k : FloatKind) (n : Int) : Rd k (n : Rat) (canon k (k.nearest n)) := by
  have : ((n : Int) : Rat) = sg (decide (n < 0)) * mgv n.natAbs 0 := by
    have h := total_val n false 0
    have z : (2 : Rat) ^ (0 : Int) = 1 := by simp
    rw [z, Rat.mul_one] at h
    rw [← h]
    by_cases h0 : n = 0
    · subst h0; rfl
    · rw [if_neg h0]
  rw [this]
  exact nearest_Rd k _ _ _

/-- A whole number of few digits is written as it is. -/
theorem int_exact {k : FloatKind} (n : Int) (h : n.natAbs ≤ 16777216) : isFl k (canon k (k.nearest n)) ∧ fv k (canon k (k.nearest n)) = n := by
  have hR := nearest_int_Rd k n
  have : ((n : Int) : Rat) = sg (decide (n < 0)) * mgv n.natAbs 0 := by
    have h := total_val n false 0
    have z : (2 : Rat) ^ (0 : Int) = 1 := by simp
    rw [z, Rat.mul_one] at h
    rw [← h]
    by_cases h0 : n = 0
    · subst h0; rfl
    · rw [if_neg h0]
  cases k with
  | f32 =>
    have hb : isFl .f32 2139095039 := ⟨_, _, _, rfl⟩
    have hbv : mgv 16777216 0 ≤ fv .f32 2139095039 := by decide +kernel
    obtain ⟨w, hw, hwv⟩ := rep_fin (k := .f32) (m := n.natAbs) (e := 0) (by have : 2 * FloatKind.f32.format.binade = 16777216 := by decide
                                                                            omega) (by decide) hb (Rat.le_trans (mv_le.2 h) hbv) (decide (n < 0))
    exact hR.exact hw (by rw [hwv, ← this])
  | f64 =>
    have hbv : mgv 16777216 0 ≤ fv .f64 9218868437227405311 := by decide +kernel
    obtain ⟨w, hw, hwv⟩ := rep_fin (k := .f64) (m := n.natAbs) (e := 0) (by have : 16777216 ≤ 2 * FloatKind.f64.format.binade := by decide
                                                                            omega) (by decide) big64 (Rat.le_trans (mv_le.2 h) hbv) (decide (n < 0))
    exact hR.exact hw (by rw [hwv, ← this])

/-! ### Comparisons -/

theorem order_val {k : FloatKind} {x y : Nat} (hx : isFl k x) (hy : isFl k y) : (k.format.order x y = some .lt ∧ fv k x < fv k y) ∨ (k.format.order x y = some .eq ∧ fv k x = fv k y) ∨ (k.format.order x y = some .gt ∧ fv k y < fv k x) := by
  obtain ⟨s, m, i, hx⟩ := hx
  obtain ⟨t, n, j, hy⟩ := hy
  have hx' : k.format.read x = .number s m i := hx
  have hy' : k.format.read y = .number t n j := hy
  have ho : k.format.order x y = some (compare (Ieee.signed s m (i - min i j).toNat) (Ieee.signed t n (j - min i j).toNat)) := by
    simp only [Ieee.Format.order, hx', hy', Ieee.Datum.order]
  rw [ho, fv_num hx, fv_num hy, ← signed_val s m i (min i j) (Int.min_le_left _ _), ← signed_val t n j (min i j) (Int.min_le_right _ _)]
  generalize Ieee.signed s m (i - min i j).toNat = a
  generalize Ieee.signed t n (j - min i j).toNat = b
  have hp := zp_pos (min i j)
  rcases Int.lt_trichotomy a b with h | h | h
  · exact .inl ⟨by rw [Int.compare_eq_lt.2 h], (Rat.mul_lt_mul_right hp).2 (Rat.intCast_lt_intCast.2 h)⟩
  · exact .inr (.inl ⟨by rw [Int.compare_eq_eq.2 h], by rw [h]⟩)
  · exact .inr (.inr ⟨by rw [Int.compare_eq_gt.2 h], (Rat.mul_lt_mul_right hp).2 (Rat.intCast_lt_intCast.2 h)⟩)

section
variable {k : FloatKind} {x y : Nat} (hx : isFl k x) (hy : isFl k y)
include hx hy
theorem lss_iff : fcmp .lss k x y = true ↔ fv k x < fv k y := by
  rcases order_val hx hy with ⟨h, g⟩ | ⟨h, g⟩ | ⟨h, g⟩ <;> simp [fcmp, h] <;> grind
theorem leq_iff : fcmp .leq k x y = true ↔ fv k x ≤ fv k y := by
  rcases order_val hx hy with ⟨h, g⟩ | ⟨h, g⟩ | ⟨h, g⟩ <;> simp [fcmp, h] <;> grind
theorem gtr_iff : fcmp .gtr k x y = true ↔ fv k y < fv k x := by
  rcases order_val hx hy with ⟨h, g⟩ | ⟨h, g⟩ | ⟨h, g⟩ <;> simp [fcmp, h] <;> grind
theorem geq_iff : fcmp .geq k x y = true ↔ fv k y ≤ fv k x := by
  rcases order_val hx hy with ⟨h, g⟩ | ⟨h, g⟩ | ⟨h, g⟩ <;> simp [fcmp, h] <;> grind
theorem eql_iff : fcmp .eql k x y = true ↔ fv k x = fv k y := by
  rcases order_val hx hy with ⟨h, g⟩ | ⟨h, g⟩ | ⟨h, g⟩ <;> simp [fcmp, h] <;> grind
end

theorem isF_notN {k : FloatKind} {x : Nat} (h : isFl k x) : isN k x = false := by
  obtain ⟨s, m, e, h⟩ := h
  unfold isN; rw [h]; rfl

theorem fin32_isF {x : Nat} : fin32 x = true ↔ isFl .f32 x := fin32_iff

/-! ### The other sign -/

theorem neg_word {k : FloatKind} {s : Bool} {r : Nat} (h : r ≤ k.format.infRung) : Op.negFloat k (k.format.word s r) = k.format.word (!s) r := by
  have hlt : r < k.format.signWeight := Nat.lt_of_le_of_lt h k.format.infRung_lt
  unfold Op.negFloat Ieee.Format.word
  have hw : 2 ^ (k.format.exponentBits + k.format.fractionBits) = k.format.signWeight := rfl
  have e1 : r ^^^ k.format.signWeight = k.format.signWeight + r := by
    unfold Ieee.Format.signWeight at hlt ⊢
    generalize k.format.exponentBits + k.format.fractionBits = w at *
    rw [Nat.xor_comm]
    have := Nat.two_pow_add_eq_or_of_lt hlt 1
    rw [Nat.mul_one] at this
    rw [this]
    apply Nat.eq_of_testBit_eq
    intro i
    rw [Nat.testBit_xor, Nat.testBit_or, Nat.testBit_two_pow]
    by_cases hi : w = i
    · subst hi
      rw [Nat.testBit_lt_two_pow hlt]; simp
    · simp [hi]
  rw [hw]
  cases s with
  | true =>
    simp only [Bool.not_true, if_true, Bool.false_eq_true, if_false]
    rw [← e1, Nat.xor_assoc, Nat.xor_self, Nat.xor_zero]
  | false =>
    simp only [Bool.not_false, if_true, Bool.false_eq_true, if_false]
    exact e1

end Go.Sim
