/- The values of floats as rational numbers; what rounding does. Conditions: none. -/
import Ieee.Arith
import GoSem.Core.Float
import Derived.Laws.FloatBits
namespace Go.Sim
open Go

theorem two_ne : (2 : Rat) ≠ 0 := by decide
theorem two_pos : (0 : Rat) < 2 := by decide
theorem zp_pos (e : Int) : (0 : Rat) < 2 ^ e := Rat.zpow_pos two_pos
theorem zp_add (a b : Int) : (2 : Rat) ^ (a + b) = 2 ^ a * 2 ^ b := Rat.zpow_add two_ne a b
theorem zp_nat (n : Nat) : (2 : Rat) ^ ((n : Nat) : Int) = ((2 ^ n : Nat) : Rat) := by
  rw [Rat.zpow_natCast]
  induction n with
  | zero => rfl
  | succ n ih => rw [Rat.pow_succ, ih, Nat.pow_succ, Rat.natCast_mul]; rfl

/-- The number 'm * 2 ^ e'. -/
def mgv (m : Nat) (e : Int) : Rat := (m : Rat) * 2 ^ e

theorem mv_nonneg (m : Nat) (e : Int) : 0 ≤ mgv m e := Rat.mul_nonneg Rat.natCast_nonneg (Rat.le_of_lt (zp_pos e))

theorem mv_shift (m : Nat) (e : Int) (n : Nat) : mgv (m * 2 ^ n) e = mgv m (e + n) := by
  unfold mgv
  rw [zp_add, zp_nat, Rat.natCast_mul, Rat.mul_assoc, Rat.mul_comm ((2 ^ n : Nat) : Rat)]

theorem mv_le {m n : Nat} {e : Int} : mgv m e ≤ mgv n e ↔ m ≤ n := by
  unfold mgv
  constructor
  · intro h; exact Rat.natCast_le_natCast.1 (Rat.le_of_mul_le_mul_right h (zp_pos e))
  · intro h; exact Rat.mul_le_mul_of_nonneg_right (Rat.natCast_le_natCast.2 h) (Rat.le_of_lt (zp_pos e))

theorem mv_lt {m n : Nat} {e : Int} : mgv m e < mgv n e ↔ m < n := by
  rw [← Rat.not_le, mv_le, Nat.not_le]

theorem mv_add (m n : Nat) (e : Int) : mgv (m + n) e = mgv m e + mgv n e := by
  unfold mgv; rw [Rat.natCast_add, Rat.add_mul]

/-! ### The values of the rungs -/

section
variable (f : Ieee.Format)

def rgv (r : Nat) : Rat := if r < f.binade then mgv r f.leastPlace else mgv (f.binade + r % f.binade) (f.leastPlace + ((r / f.binade - 1 : Nat) : Int))

theorem binade_pos : 0 < f.binade := Nat.two_pow_pos _

theorem rv_form (t kept : Nat) (h : kept ≤ 2 * f.binade) (g : t = 0 ∨ f.binade ≤ kept) : rgv f (t * f.binade + kept) = mgv kept (f.leastPlace + (t : Int)) := by
  have hb := binade_pos f
  unfold rgv
  rcases Nat.lt_or_ge kept f.binade with hk | hk
  · have h0 : t = 0 := by rcases g with g | g; exact g; omega
    subst h0
    simp [hk]
  · have hn : ¬ t * f.binade + kept < f.binade := by
      have := Nat.zero_le (t * f.binade); omega
    rw [if_neg hn]
    rcases Nat.lt_or_ge kept (2 * f.binade) with hk2 | hk2
    · have e1 : (t * f.binade + kept) % f.binade = kept - f.binade := by
        have : t * f.binade + kept = (kept - f.binade) + f.binade * (t + 1) := by rw [Nat.mul_add, Nat.mul_comm t]; omega
        rw [this, Nat.add_mul_mod_self_left, Nat.mod_eq_of_lt (by omega)]
      have e2 : (t * f.binade + kept) / f.binade = t + 1 := by
        have : t * f.binade + kept = (kept - f.binade) + f.binade * (t + 1) := by rw [Nat.mul_add, Nat.mul_comm t]; omega
        rw [this, Nat.add_mul_div_left _ _ hb, Nat.div_eq_of_lt (by omega)]; omega
      rw [e1, e2]
      congr 1
      omega
    · have hk3 : kept = 2 * f.binade := by omega
      subst hk3
      have e1 : (t * f.binade + 2 * f.binade) % f.binade = 0 := by
        rw [← Nat.add_mul]; exact Nat.mul_mod_left _ _
      have e2 : (t * f.binade + 2 * f.binade) / f.binade = t + 2 := by
        rw [← Nat.add_mul]; exact Nat.mul_div_cancel _ hb
      rw [e1, e2]
      have : mgv (2 * f.binade) (f.leastPlace + (t : Int)) = mgv f.binade (f.leastPlace + (t : Int) + (1 : Nat)) := by
        rw [Nat.mul_comm 2, ← mv_shift _ _ 1]
      rw [this]
      congr 1
      omega

/-- The place and the digits of a rung. -/
theorem rung_split (r : Nat) : ∃ t k, r = t * f.binade + k ∧ k < 2 * f.binade ∧ (t = 0 ∨ f.binade ≤ k) := by
  have hb := binade_pos f
  rcases Nat.lt_or_ge r f.binade with h | h
  · exact ⟨0, r, by omega, by omega, .inl rfl⟩
  · refine ⟨r / f.binade - 1, f.binade + r % f.binade, ?_, ?_, .inr (by omega)⟩
    · have h1 := Nat.div_add_mod r f.binade
      have h2 : 1 ≤ r / f.binade := (Nat.le_div_iff_mul_le hb).2 (by omega)
      have h3 : (r / f.binade - 1) * f.binade + f.binade = f.binade * (r / f.binade) := by
        rw [← Nat.succ_mul, Nat.mul_comm]; congr 1; omega
      omega
    · have := Nat.mod_lt r hb; omega

theorem rv_succ (r : Nat) : rgv f r < rgv f (r + 1) := by
  obtain ⟨t, k, rfl, hk, ht⟩ := rung_split f r
  rw [Nat.add_assoc, rv_form f t k (by omega) ht, rv_form f t (k + 1) (by omega) (by omega)]
  exact mv_lt.2 (by omega)

theorem rv_lt {r s : Nat} (h : r < s) : rgv f r < rgv f s := by
  induction s with
  | zero => omega
  | succ s ih =>
    rcases Nat.lt_or_ge r s with h' | h'
    · have := ih h'; have := rv_succ f s; grind
    · have : r = s := by omega
      subst this; exact rv_succ f r

theorem rv_le {r s : Nat} : rgv f r ≤ rgv f s ↔ r ≤ s := by
  constructor
  · intro h
    rcases Nat.lt_or_ge s r with h' | h'
    · have := rv_lt f h'; grind
    · exact h'
  · intro h
    rcases Nat.lt_or_ge r s with h' | h'
    · have := rv_lt f h'; grind
    · have : r = s := by omega
      subst this; exact Rat.le_refl

theorem rv_zero : rgv f 0 = 0 := by
  have := binade_pos f
  unfold rgv
  rw [if_pos this]
  unfold mgv; simp

theorem rv_nonneg (r : Nat) : 0 ≤ rgv f r := by
  have := (rv_le f (r := 0) (s := r)).2 (by omega)
  rw [rv_zero] at this; exact this
end

/-! ### To the nearest whole number -/

theorem cut_eq (neg : Bool) (n d : Nat) : ∃ c, Ieee.Toward.even.cut neg n d = c ∧ (∀ j, n ≤ j * 2 ^ d → c ≤ j) ∧ (∀ j, j * 2 ^ d ≤ n → j ≤ c) ∧ 2 * (c * 2 ^ d) ≤ 2 * n + 2 ^ d ∧ 2 * n ≤ 2 * (c * 2 ^ d) + 2 ^ d := by
  refine ⟨_, rfl, ?_⟩
  unfold Ieee.Toward.cut
  have hlog : n < 2 ^ (n.log2 + 1) := Nat.lt_log2_self
  rcases Nat.lt_or_ge (n.log2 + 2) d with hd | hd
  · -- all is dropped
    have hg : 1 <<< min d (n.log2 + 2) = 2 ^ (n.log2 + 2) := by rw [Nat.min_eq_right (by omega), Nat.one_shiftLeft]
    have h2 : (2 : Nat) ^ (n.log2 + 2) = 2 * 2 ^ (n.log2 + 1) := by rw [Nat.pow_succ, Nat.mul_comm]
    have hdiv : n / 2 ^ (n.log2 + 2) = 0 := Nat.div_eq_of_lt (by omega)
    have hmod : n % 2 ^ (n.log2 + 2) = n := Nat.mod_eq_of_lt (by omega)
    have hle : (2 : Nat) ^ (n.log2 + 2) ≤ 2 ^ d := Nat.pow_le_pow_right (by omega) (by omega)
    simp only [hg, hdiv, hmod]
    have hm : (decide (2 ^ (n.log2 + 2) < 2 * n) || (2 ^ (n.log2 + 2) == 2 * n && 0 % 2 == 1)) = false := by
      simp; omega
    simp only [hm]
    refine ⟨fun j _ => by simp, fun j hj => ?_, by simp, by simp; omega⟩
    rcases Nat.eq_zero_or_pos j with rfl | hj0
    · exact Nat.zero_le _
    · have : 2 ^ d ≤ j * 2 ^ d := Nat.le_mul_of_pos_left _ hj0
      omega
  · have hg : 1 <<< min d (n.log2 + 2) = 2 ^ d := by rw [Nat.min_eq_left (by omega), Nat.one_shiftLeft]
    simp only [hg]
    have hp : 0 < 2 ^ d := Nat.two_pow_pos _
    have hdm := Nat.div_add_mod n (2 ^ d)
    have hml := Nat.mod_lt n hp
    generalize 2 ^ d = g at *
    generalize hq : n / g = q at *
    generalize hr : n % g = r at *
    have hlow : ∀ j, j * g ≤ n → j ≤ q := fun j hj => by rw [← hq]; exact (Nat.le_div_iff_mul_le hp).2 hj
    have hup : ∀ j, n ≤ j * g → q ≤ j ∧ (r ≠ 0 → q < j) := by
      intro j hj
      constructor
      · rcases Nat.lt_or_ge j q with h | h
        · have : (j + 1) * g ≤ q * g := Nat.mul_le_mul_right g h
          rw [Nat.succ_mul, Nat.mul_comm q g] at this; omega
        · exact h
      · intro hr0
        rcases Nat.lt_or_ge q j with h | h
        · exact h
        · have : j * g ≤ q * g := Nat.mul_le_mul_right g h
          rw [Nat.mul_comm q g] at this; omega
    cases hm : (decide (g < 2 * r) || (g == 2 * r && q % 2 == 1)) with
    | false =>
      simp only [Bool.toNat_false, Nat.add_zero]
      simp at hm
      refine ⟨fun j hj => (hup j hj).1, hlow, ?_, ?_⟩
      · rw [Nat.mul_comm q g]; omega
      · rw [Nat.mul_comm q g]; omega
    | true =>
      simp only [Bool.toNat_true]
      simp at hm
      refine ⟨fun j hj => (hup j hj).2 (by omega), fun j hj => Nat.le_succ_of_le (hlow j hj), ?_, ?_⟩
      · have e : (q + 1) * g = g * q + g := by rw [Nat.succ_mul, Nat.mul_comm q g]
        rw [e]; omega
      · have e : (q + 1) * g = g * q + g := by rw [Nat.succ_mul, Nat.mul_comm q g]
        rw [e]; omega

/-! ### The nearest rung -/

/-- The rung that is written for 'm * 2 ^ p'. -/
def rungOf (f : Ieee.Format) (m : Nat) (p : Int) : Nat :=
  if m = 0 then 0 else
  let last := max (p + m.log2 - f.fractionBits) f.leastPlace
  min ((last - f.leastPlace).toNat * f.binade + Ieee.Toward.even.cut false (m <<< (p - last).toNat) (last - p).toNat) f.infRung

theorem cut_neg (s : Bool) (n d : Nat) : Ieee.Toward.even.cut s n d = Ieee.Toward.even.cut false n d := rfl

theorem nearest_word (f : Ieee.Format) (s : Bool) (m : Nat) (p : Int) : f.nearest s m p = f.word s (rungOf f m p) := by
  unfold Ieee.Format.nearest rungOf
  split
  · rfl
  · rfl

theorem log2_le {m : Nat} (h : m ≠ 0) : 2 ^ m.log2 ≤ m := Nat.log2_self_le h

structure RungSpec (f : Ieee.Format) (q : Rat) (r : Nat) : Prop where
  inf : r ≤ f.infRung
  up : ∀ r0, r0 ≤ f.infRung → q ≤ rgv f r0 → r ≤ r0
  lo : ∀ r0, r0 ≤ f.infRung → rgv f r0 ≤ q → r0 ≤ r
  err : r < f.infRung → ∃ e : Int, rgv f r ≤ q + 2 ^ e ∧ q ≤ rgv f r + 2 ^ e ∧ (e = f.leastPlace - 1 ∨ (2 : Rat) ^ (e + 1 + f.fractionBits) ≤ q)

theorem mv_pow (a : Nat) (e : Int) : mgv (2 ^ a) e = 2 ^ (e + (a : Int)) := by
  unfold mgv; rw [← zp_nat, Rat.mul_comm, ← zp_add]

theorem rungOf_spec (f : Ieee.Format) (m : Nat) (p : Int) : RungSpec f (mgv m p) (rungOf f m p) := by
  unfold rungOf
  split
  · rename_i h; subst h
    have h0 : mgv 0 p = 0 := by unfold mgv; simp
    rw [h0]
    refine ⟨Nat.zero_le _, fun _ _ _ => Nat.zero_le _, fun r0 _ h => ?_, fun _ => ⟨f.leastPlace - 1, ?_, ?_, .inl rfl⟩⟩
    · rw [← rv_zero f] at h; exact (rv_le f).1 h
    · rw [rv_zero]; have := zp_pos (f.leastPlace - 1); grind
    · rw [rv_zero]; have := zp_pos (f.leastPlace - 1); grind
  · rename_i hm
    have hb := binade_pos f
    generalize hl : max (p + m.log2 - f.fractionBits) f.leastPlace = last
    simp only
    obtain ⟨c, hc, hup, hlo, e1, e2⟩ := cut_eq false (m <<< (p - last).toNat) (last - p).toNat
    rw [hc]
    have hL : f.leastPlace ≤ last := by omega
    have hlast : last = f.leastPlace + ((last - f.leastPlace).toNat : Int) := by omega
    generalize ht : (last - f.leastPlace).toNat = t at *
    rw [Nat.shiftLeft_eq] at hup hlo e1 e2
    -- the exact number in units of 2 ^ (last - drop)
    generalize hd : (last - p).toNat = d at *
    have hq : mgv m p = mgv (m * 2 ^ (p - last).toNat) (last - (d : Int)) := by
      rw [mv_shift]; congr 1; omega
    have hT : ∀ j : Nat, mgv j last = mgv (j * 2 ^ d) (last - (d : Int)) := by
      intro j; rw [mv_shift]; congr 1; omega
    generalize hn : m * 2 ^ (p - last).toNat = n at *
    have U : ∀ j : Nat, mgv m p ≤ mgv j last → c ≤ j := fun j hj => hup j (by rw [hq, hT] at hj; exact mv_le.1 hj)
    have V : ∀ j : Nat, mgv j last ≤ mgv m p → j ≤ c := fun j hj => hlo j (by rw [hq, hT] at hj; exact mv_le.1 hj)
    -- the size of the number
    have hsz1 : (2 : Rat) ^ (p + (m.log2 : Int)) ≤ mgv m p := by
      rw [← mv_pow]; exact mv_le.2 (log2_le hm)
    have hsz2 : mgv m p < (2 : Rat) ^ (p + (m.log2 : Int) + 1) := by
      have : p + (m.log2 : Int) + 1 = p + ((m.log2 + 1 : Nat) : Int) := by omega
      rw [this, ← mv_pow]; exact mv_lt.2 Nat.lt_log2_self
    have hbin : ∀ e : Int, mgv f.binade e = 2 ^ (e + (f.fractionBits : Int)) := fun e => mv_pow _ _
    have zle : ∀ a b : Int, a ≤ b → (2 : Rat) ^ a ≤ 2 ^ b := by
      intro a b h
      have : b = a + ((b - a).toNat : Int) := by omega
      rw [this, ← mv_pow]
      have h1 : (2 : Rat) ^ a = mgv 1 a := by unfold mgv; simp
      rw [h1]; exact mv_le.2 (Nat.one_le_two_pow)
    have c2 : c ≤ 2 * f.binade := by
      refine U _ ?_
      have : mgv (2 * f.binade) last = 2 ^ (last + (f.fractionBits : Int) + 1) := by
        rw [Nat.mul_comm]
        have := mv_shift f.binade last 1
        rw [Nat.pow_one] at this
        rw [this, hbin]; congr 1; omega
      rw [this]
      refine Rat.le_trans (Rat.le_of_lt hsz2) (zle _ _ ?_)
      omega
    have c1 : t = 0 ∨ f.binade ≤ c := by
      rcases Nat.eq_zero_or_pos t with h | h
      · exact .inl h
      · right
        refine V _ ?_
        rw [hbin]
        refine Rat.le_trans (zle _ _ ?_) hsz1
        omega
    have hform := rv_form f t c c2 c1
    rw [← hlast] at hform
    generalize hg : t * f.binade + c = g at *
    refine ⟨Nat.min_le_right _ _, fun r0 hr0 hle => ?_, fun r0 hr0 hle => ?_, fun hlt => ?_⟩
    · refine Nat.le_trans (Nat.min_le_left _ _) ?_
      refine (rv_le f).1 ?_
      rw [hform]
      obtain ⟨t0, k0, rfl, hk0, ht0⟩ := rung_split f r0
      have hf0 := rv_form f t0 k0 (by omega) ht0
      rw [hf0] at hle ⊢
      rcases Nat.lt_or_ge t0 t with h | h
      · -- finer: too small
        exfalso
        have h1 : mgv k0 (f.leastPlace + (t0 : Int)) < 2 ^ (f.leastPlace + (t0 : Int) + ((f.fractionBits + 1 : Nat) : Int)) := by
          rw [← mv_pow]; exact mv_lt.2 (by unfold Ieee.Format.binade at hk0; rw [Nat.pow_succ]; omega)
        have h2 : (2 : Rat) ^ (f.leastPlace + (t0 : Int) + ((f.fractionBits + 1 : Nat) : Int)) ≤ 2 ^ (p + (m.log2 : Int)) := zle _ _ (by omega)
        grind
      · have : f.leastPlace + (t0 : Int) = last + ((t0 - t : Nat) : Int) := by omega
        rw [this, ← mv_shift] at hle ⊢
        exact mv_le.2 (U _ hle)
    · refine Nat.le_min.2 ⟨?_, hr0⟩
      refine (rv_le f).1 ?_
      rw [hform]
      obtain ⟨t0, k0, rfl, hk0, ht0⟩ := rung_split f r0
      have hf0 := rv_form f t0 k0 (by omega) ht0
      rw [hf0] at hle ⊢
      rcases Nat.lt_or_ge t0 t with h | h
      · have h1 : mgv k0 (f.leastPlace + (t0 : Int)) < 2 ^ (f.leastPlace + (t0 : Int) + ((f.fractionBits + 1 : Nat) : Int)) := by
          rw [← mv_pow]; exact mv_lt.2 (by unfold Ieee.Format.binade at hk0; rw [Nat.pow_succ]; omega)
        have h2 : (2 : Rat) ^ (f.leastPlace + (t0 : Int) + ((f.fractionBits + 1 : Nat) : Int)) ≤ mgv f.binade last := by
          rw [hbin]; exact zle _ _ (by omega)
        have h3 : mgv f.binade last ≤ mgv c last := mv_le.2 (by rcases c1 with c1 | c1; omega; exact c1)
        grind
      · have : f.leastPlace + (t0 : Int) = last + ((t0 - t : Nat) : Int) := by omega
        rw [this, ← mv_shift] at hle ⊢
        exact mv_le.2 (V _ hle)
    · have hmin : min g f.infRung = g := by omega
      rw [hmin, hform]
      refine ⟨last - 1, ?_, ?_, ?_⟩
      · have h1 : mgv (2 * (c * 2 ^ d)) (last - (d : Int) - 1) ≤ mgv (2 * n + 2 ^ d) (last - (d : Int) - 1) := mv_le.2 e1
        rw [mv_add, mv_pow] at h1
        have a1 : mgv (2 * (c * 2 ^ d)) (last - (d : Int) - 1) = mgv c last := by
          rw [Nat.mul_comm 2]; have := mv_shift (c * 2 ^ d) (last - (d : Int) - 1) 1
          rw [Nat.pow_one] at this; rw [this, hT]; congr 1; omega
        have a2 : mgv (2 * n) (last - (d : Int) - 1) = mgv m p := by
          rw [Nat.mul_comm 2]; have := mv_shift n (last - (d : Int) - 1) 1
          rw [Nat.pow_one] at this; rw [this, hq]; congr 1; omega
        rw [a1, a2] at h1
        have a3 : last - (d : Int) - 1 + (d : Int) = last - 1 := by omega
        rw [a3] at h1; exact h1
      · have h1 : mgv (2 * n) (last - (d : Int) - 1) ≤ mgv (2 * (c * 2 ^ d) + 2 ^ d) (last - (d : Int) - 1) := mv_le.2 e2
        rw [mv_add, mv_pow] at h1
        have a1 : mgv (2 * (c * 2 ^ d)) (last - (d : Int) - 1) = mgv c last := by
          rw [Nat.mul_comm 2]; have := mv_shift (c * 2 ^ d) (last - (d : Int) - 1) 1
          rw [Nat.pow_one] at this; rw [this, hT]; congr 1; omega
        have a2 : mgv (2 * n) (last - (d : Int) - 1) = mgv m p := by
          rw [Nat.mul_comm 2]; have := mv_shift n (last - (d : Int) - 1) 1
          rw [Nat.pow_one] at this; rw [this, hq]; congr 1; omega
        rw [a1, a2] at h1
        have a3 : last - (d : Int) - 1 + (d : Int) = last - 1 := by omega
        rw [a3] at h1; exact h1
      · rcases Int.le_total (p + m.log2 - f.fractionBits) f.leastPlace with h | h
        · left; omega
        · right
          refine Rat.le_trans (zle _ _ ?_) hsz1
          omega

end Go.Sim
