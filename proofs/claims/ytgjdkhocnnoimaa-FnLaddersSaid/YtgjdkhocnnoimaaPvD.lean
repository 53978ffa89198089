/- Floats between floats: what sums, products, quotients of such lie between. Conditions: none. -/
import Ieee.Arith
import GoSem.Core.Float
import Derived.Laws.FloatBits
import Derived.Test.YtgjdkhocnnoimaaS5
import Derived.Test.YtgjdkhocnnoimaaPuD
import Derived.Test.YtgjdkhocnnoimaaPu9

section
namespace Go.Sim
open Go

theorem two_ne : (2 : Rat) ≠ 0 := by decide
theorem two_pos : (0 : Rat) < 2 := by decide
theorem zp_pos (e : Int) : (0 : Rat) < 2 ^ e := Rat.zpow_pos two_pos
theorem zp_add (a b : Int) : (2 : Rat) ^ (a + b) = 2 ^ a * 2 ^ b := Rat.zpow_add two_ne a b
theorem zp_nat (n : Nat) : (2 : Rat) ^ ((n : Nat) : Int) = ((2 ^ n : Nat) : Rat) := by
  rw [Rat.zpow_natCast]
  induction n with
  | zero => rfl
  | succ n ih => rw [Rat.pow_succ, ih, Nat.pow_succ, Rat.natCast_mul]; rfl

/-- The number 'm * 2 ^ e'. -/
def mgv (m : Nat) (e : Int) : Rat := (m : Rat) * 2 ^ e

theorem mv_nonneg (m : Nat) (e : Int) : 0 ≤ mgv m e := Rat.mul_nonneg Rat.natCast_nonneg (Rat.le_of_lt (zp_pos e))

theorem mv_shift (m : Nat) (e : Int) (n : Nat) : mgv (m * 2 ^ n) e = mgv m (e + n) := by
  unfold mgv
  rw [zp_add, zp_nat, Rat.natCast_mul, Rat.mul_assoc, Rat.mul_comm ((2 ^ n : Nat) : Rat)]

theorem mv_le {m n : Nat} {e : Int} : mgv m e ≤ mgv n e ↔ m ≤ n := by
  unfold mgv
  constructor
  · intro h; exact Rat.natCast_le_natCast.1 (Rat.le_of_mul_le_mul_right h (zp_pos e))
  · intro h; exact Rat.mul_le_mul_of_nonneg_right (Rat.natCast_le_natCast.2 h) (Rat.le_of_lt (zp_pos e))

theorem mv_lt {m n : Nat} {e : Int} : mgv m e < mgv n e ↔ m < n := by
  rw [← Rat.not_le, mv_le, Nat.not_le]

theorem mv_add (m n : Nat) (e : Int) : mgv (m + n) e = mgv m e + mgv n e := by
  unfold mgv; rw [Rat.natCast_add, Rat.add_mul]

/-! ### The values of the rungs -/

section
variable (f : Ieee.Format)

def rgv (r : Nat) : Rat := if r < f.binade then mgv r f.leastPlace else mgv (f.binade + r % f.binade) (f.leastPlace + ((r / f.binade - 1 : Nat) : Int))

theorem binade_pos : 0 < f.binade := Nat.two_pow_pos _

theorem rv_form (t kept : Nat) (h : kept ≤ 2 * f.binade) (g : t = 0 ∨ f.binade ≤ kept) : rgv f (t * f.binade + kept) = mgv kept (f.leastPlace + (t : Int)) := by
  have hb := binade_pos f
  unfold rgv
  rcases Nat.lt_or_ge kept f.binade with hk | hk
  · have h0 : t = 0 := by rcases g with g | g; exact g; omega
    subst h0
    simp [hk]
  · have hn : ¬ t * f.binade + kept < f.binade := by
      have := Nat.zero_le (t * f.binade); omega
    rw [if_neg hn]
    rcases Nat.lt_or_ge kept (2 * f.binade) with hk2 | hk2
    · have e1 : (t * f.binade + kept) % f.binade = kept - f.binade := by
        have : t * f.binade + kept = (kept - f.binade) + f.binade * (t + 1) := by rw [Nat.mul_add, Nat.mul_comm t]; omega
        rw [this, Nat.add_mul_mod_self_left, Nat.mod_eq_of_lt (by omega)]
      have e2 : (t * f.binade + kept) / f.binade = t + 1 := by
        have : t * f.binade + kept = (kept - f.binade) + f.binade * (t + 1) := by rw [Nat.mul_add, Nat.mul_comm t]; omega
        rw [this, Nat.add_mul_div_left _ _ hb, Nat.div_eq_of_lt (by omega)]; omega
      rw [e1, e2]
      congr 1
      omega
    · have hk3 : kept = 2 * f.binade := by omega
      subst hk3
      have e1 : (t * f.binade + 2 * f.binade) % f.binade = 0 := by
        rw [← Nat.add_mul]; exact Nat.mul_mod_left _ _
      have e2 : (t * f.binade + 2 * f.binade) / f.binade = t + 2 := by
        rw [← Nat.add_mul]; exact Nat.mul_div_cancel _ hb
      rw [e1, e2]
      have : mgv (2 * f.binade) (f.leastPlace + (t : Int)) = mgv f.binade (f.leastPlace + (t : Int) + (1 : Nat)) := by
        rw [Nat.mul_comm 2, ← mv_shift _ _ 1]
      rw [this]
      congr 1
      omega

/-- The place and the digits of a rung. -/
theorem rung_split (r : Nat) : ∃ t k, r = t * f.binade + k ∧ k < 2 * f.binade ∧ (t = 0 ∨ f.binade ≤ k) := by
  have hb := binade_pos f
  rcases Nat.lt_or_ge r f.binade with h | h
  · exact ⟨0, r, by omega, by omega, .inl rfl⟩
  · refine ⟨r / f.binade - 1, f.binade + r % f.binade, ?_, ?_, .inr (by omega)⟩
    · have h1 := Nat.div_add_mod r f.binade
      have h2 : 1 ≤ r / f.binade := (Nat.le_div_iff_mul_le hb).2 (by omega)
      have h3 : (r / f.binade - 1) * f.binade + f.binade = f.binade * (r / f.binade) := by
        rw [← Nat.succ_mul, Nat.mul_comm]; congr 1; omega
      omega
    · have := Nat.mod_lt r hb; omega

theorem rv_succ (r : Nat) : rgv f r < rgv f (r + 1) := by
  obtain ⟨t, k, rfl, hk, ht⟩ := rung_split f r
  rw [Nat.add_assoc, rv_form f t k (by omega) ht, rv_form f t (k + 1) (by omega) (by omega)]
  exact mv_lt.2 (by omega)

theorem rv_lt {r s : Nat} (h : r < s) : rgv f r < rgv f s := by
  induction s with
  | zero => omega
  | succ s ih =>
    rcases Nat.lt_or_ge r s with h' | h'
    · have := ih h'; have := rv_succ f s; grind
    · have : r = s := by omega
      subst this; exact rv_succ f r

theorem rv_le {r s : Nat} : rgv f r ≤ rgv f s ↔ r ≤ s := by
  constructor
  · intro h
    rcases Nat.lt_or_ge s r with h' | h'
    · have := rv_lt f h'; grind
    · exact h'
  · intro h
    rcases Nat.lt_or_ge r s with h' | h'
    · have := rv_lt f h'; grind
    · have : r = s := by omega
      subst this; exact Rat.le_refl

theorem rv_zero : rgv f 0 = 0 := by
  have := binade_pos f
  unfold rgv
  rw [if_pos this]
  unfold mgv; simp

theorem rv_nonneg (r : Nat) : 0 ≤ rgv f r := by
  have := (rv_le f (r := 0) (s := r)).2 (by omega)
  rw [rv_zero] at this; exact this
end

/-! ### To the nearest whole number -/

theorem cut_eq (neg : Bool) (n d : Nat) : ∃ c, Ieee.Toward.even.cut neg n d = c ∧ (∀ j, n ≤ j * 2 ^ d → c ≤ j) ∧ (∀ j, j * 2 ^ d ≤ n → j ≤ c) ∧ 2 * (c * 2 ^ d) ≤ 2 * n + 2 ^ d ∧ 2 * n ≤ 2 * (c * 2 ^ d) + 2 ^ d := by
  refine ⟨_, rfl, ?_⟩
  unfold Ieee.Toward.cut
  have hlog : n < 2 ^ (n.log2 + 1) := Nat.lt_log2_self
  rcases Nat.lt_or_ge (n.log2 + 2) d with hd | hd
  · -- all is dropped
    have hg : 1 <<< min d (n.log2 + 2) = 2 ^ (n.log2 + 2) := by rw [Nat.min_eq_right (by omega), Nat.one_shiftLeft]
    have h2 : (2 : Nat) ^ (n.log2 + 2) = 2 * 2 ^ (n.log2 + 1) := by rw [Nat.pow_succ, Nat.mul_comm]
    have hdiv : n / 2 ^ (n.log2 + 2) = 0 := Nat.div_eq_of_lt (by omega)
    have hmod : n % 2 ^ (n.log2 + 2) = n := Nat.mod_eq_of_lt (by omega)
    have hle : (2 : Nat) ^ (n.log2 + 2) ≤ 2 ^ d := Nat.pow_le_pow_right (by omega) (by omega)
    simp only [hg, hdiv, hmod]
    have hm : (decide (2 ^ (n.log2 + 2) < 2 * n) || (2 ^ (n.log2 + 2) == 2 * n && 0 % 2 == 1)) = false := by
      simp; omega
    simp only [hm]
    refine ⟨fun j _ => by simp, fun j hj => ?_, by simp, by simp; omega⟩
    rcases Nat.eq_zero_or_pos j with rfl | hj0
    · exact Nat.zero_le _
    · have : 2 ^ d ≤ j * 2 ^ d := Nat.le_mul_of_pos_left _ hj0
      omega
  · have hg : 1 <<< min d (n.log2 + 2) = 2 ^ d := by rw [Nat.min_eq_left (by omega), Nat.one_shiftLeft]
    simp only [hg]
    have hp : 0 < 2 ^ d := Nat.two_pow_pos _
    have hdm := Nat.div_add_mod n (2 ^ d)
    have hml := Nat.mod_lt n hp
    generalize 2 ^ d = g at *
    generalize hq : n / g = q at *
    generalize hr : n % g = r at *
    have hlow : ∀ j, j * g ≤ n → j ≤ q := fun j hj => by rw [← hq]; exact (Nat.le_div_iff_mul_le hp).2 hj
    have hup : ∀ j, n ≤ j * g → q ≤ j ∧ (r ≠ 0 → q < j) := by
      intro j hj
      constructor
      · rcases Nat.lt_or_ge j q with h | h
        · have : (j + 1) * g ≤ q * g := Nat.mul_le_mul_right g h
          rw [Nat.succ_mul, Nat.mul_comm q g] at this; omega
        · exact h
      · intro hr0
        rcases Nat.lt_or_ge q j with h | h
        · exact h
        · have : j * g ≤ q * g := Nat.mul_le_mul_right g h
          rw [Nat.mul_comm q g] at this; omega
    cases hm : (decide (g < 2 * r) || (g == 2 * r && q % 2 == 1)) with
    | false =>
      simp only [Bool.toNat_false, Nat.add_zero]
      simp at hm
      refine ⟨fun j hj => (hup j hj).1, hlow, ?_, ?_⟩
      · rw [Nat.mul_comm q g]; omega
      · rw [Nat.mul_comm q g]; omega
    | true =>
      simp only [Bool.toNat_true]
      simp at hm
      refine ⟨fun j hj => (hup j hj).2 (by omega), fun j hj => Nat.le_succ_of_le (hlow j hj), ?_, ?_⟩
      · have e : (q + 1) * g = g * q + g := by rw [Nat.succ_mul, Nat.mul_comm q g]
        rw [e]; omega
      · have e : (q + 1) * g = g * q + g := by rw [Nat.succ_mul, Nat.mul_comm q g]
        rw [e]; omega

/-! ### The nearest rung -/

/-- The rung that is written for 'm * 2 ^ p'. -/
def rungOf (f : Ieee.Format) (m : Nat) (p : Int) : Nat :=
  if m = 0 then 0 else
  let last := max (p + m.log2 - f.fractionBits) f.leastPlace
  min ((last - f.leastPlace).toNat * f.binade + Ieee.Toward.even.cut false (m <<< (p - last).toNat) (last - p).toNat) f.infRung

theorem nearest_word (f : Ieee.Format) (s : Bool) (m : Nat) (p : Int) : f.nearest s m p = f.word s (rungOf f m p) := by
  unfold Ieee.Format.nearest rungOf
  split
  · rfl
  · rfl

theorem log2_le {m : Nat} (h : m ≠ 0) : 2 ^ m.log2 ≤ m := Nat.log2_self_le h

structure RungSpec (f : Ieee.Format) (q : Rat) (r : Nat) : Prop where
  inf : r ≤ f.infRung
  up : ∀ r0, r0 ≤ f.infRung → q ≤ rgv f r0 → r ≤ r0
  lo : ∀ r0, r0 ≤ f.infRung → rgv f r0 ≤ q → r0 ≤ r
  err : r < f.infRung → ∃ e : Int, rgv f r ≤ q + 2 ^ e ∧ q ≤ rgv f r + 2 ^ e ∧ (e = f.leastPlace - 1 ∨ (2 : Rat) ^ (e + 1 + f.fractionBits) ≤ q)

theorem mv_pow (a : Nat) (e : Int) : mgv (2 ^ a) e = 2 ^ (e + (a : Int)) := by
  unfold mgv; rw [← zp_nat, Rat.mul_comm, ← zp_add]

theorem rungOf_spec (f : Ieee.Format) (m : Nat) (p : Int) : RungSpec f (mgv m p) (rungOf f m p) := by
  unfold rungOf
  split
  · rename_i h; subst h
    have h0 : mgv 0 p = 0 := by unfold mgv; simp
    rw [h0]
    refine ⟨Nat.zero_le _, fun _ _ _ => Nat.zero_le _, fun r0 _ h => ?_, fun _ => ⟨f.leastPlace - 1, ?_, ?_, .inl rfl⟩⟩
    · rw [← rv_zero f] at h; exact (rv_le f).1 h
    · rw [rv_zero]; have := zp_pos (f.leastPlace - 1); grind
    · rw [rv_zero]; have := zp_pos (f.leastPlace - 1); grind
  · rename_i hm
    have hb := binade_pos f
    generalize hl : max (p + m.log2 - f.fractionBits) f.leastPlace = last
    simp only
    obtain ⟨c, hc, hup, hlo, e1, e2⟩ := cut_eq false (m <<< (p - last).toNat) (last - p).toNat
    rw [hc]
    have hL : f.leastPlace ≤ last := by omega
    have hlast : last = f.leastPlace + ((last - f.leastPlace).toNat : Int) := by omega
    generalize ht : (last - f.leastPlace).toNat = t at *
    rw [Nat.shiftLeft_eq] at hup hlo e1 e2
    -- the exact number in units of 2 ^ (last - drop)
    generalize hd : (last - p).toNat = d at *
    have hq : mgv m p = mgv (m * 2 ^ (p - last).toNat) (last - (d : Int)) := by
      rw [mv_shift]; congr 1; omega
    have hT : ∀ j : Nat, mgv j last = mgv (j * 2 ^ d) (last - (d : Int)) := by
      intro j; rw [mv_shift]; congr 1; omega
    generalize hn : m * 2 ^ (p - last).toNat = n at *
    have U : ∀ j : Nat, mgv m p ≤ mgv j last → c ≤ j := fun j hj => hup j (by rw [hq, hT] at hj; exact mv_le.1 hj)
    have V : ∀ j : Nat, mgv j last ≤ mgv m p → j ≤ c := fun j hj => hlo j (by rw [hq, hT] at hj; exact mv_le.1 hj)
    -- the size of the number
    have hsz1 : (2 : Rat) ^ (p + (m.log2 : Int)) ≤ mgv m p := by
      rw [← mv_pow]; exact mv_le.2 (log2_le hm)
    have hsz2 : mgv m p < (2 : Rat) ^ (p + (m.log2 : Int) + 1) := by
      have : p + (m.log2 : Int) + 1 = p + ((m.log2 + 1 : Nat) : Int) := by omega
      rw [this, ← mv_pow]; exact mv_lt.2 Nat.lt_log2_self
    have hbin : ∀ e : Int, mgv f.binade e = 2 ^ (e + (f.fractionBits : Int)) := fun e => mv_pow _ _
    have zle : ∀ a b : Int, a ≤ b → (2 : Rat) ^ a ≤ 2 ^ b := by
      intro a b h
      have : b = a + ((b - a).toNat : Int) := by omega
      rw [this, ← mv_pow]
      have h1 : (2 : Rat) ^ a = mgv 1 a := by unfold mgv; simp
      rw [h1]; exact mv_le.2 (Nat.one_le_two_pow)
    have c2 : c ≤ 2 * f.binade := by
      refine U _ ?_
      have : mgv (2 * f.binade) last = 2 ^ (last + (f.fractionBits : Int) + 1) := by
        rw [Nat.mul_comm]
        have := mv_shift f.binade last 1
        rw [Nat.pow_one] at this
        rw [this, hbin]; congr 1; omega
      rw [this]
      refine Rat.le_trans (Rat.le_of_lt hsz2) (zle _ _ ?_)
      omega
    have c1 : t = 0 ∨ f.binade ≤ c := by
      rcases Nat.eq_zero_or_pos t with h | h
      · exact .inl h
      · right
        refine V _ ?_
        rw [hbin]
        refine Rat.le_trans (zle _ _ ?_) hsz1
        omega
    have hform := rv_form f t c c2 c1
    rw [← hlast] at hform
    generalize hg : t * f.binade + c = g at *
    refine ⟨Nat.min_le_right _ _, fun r0 hr0 hle => ?_, fun r0 hr0 hle => ?_, fun hlt => ?_⟩
    · refine Nat.le_trans (Nat.min_le_left _ _) ?_
      refine (rv_le f).1 ?_
      rw [hform]
      obtain ⟨t0, k0, rfl, hk0, ht0⟩ := rung_split f r0
      have hf0 := rv_form f t0 k0 (by omega) ht0
      rw [hf0] at hle ⊢
      rcases Nat.lt_or_ge t0 t with h | h
      · -- finer: too small
        exfalso
        have h1 : mgv k0 (f.leastPlace + (t0 : Int)) < 2 ^ (f.leastPlace + (t0 : Int) + ((f.fractionBits + 1 : Nat) : Int)) := by
          rw [← mv_pow]; exact mv_lt.2 (by unfold Ieee.Format.binade at hk0; rw [Nat.pow_succ]; omega)
        have h2 : (2 : Rat) ^ (f.leastPlace + (t0 : Int) + ((f.fractionBits + 1 : Nat) : Int)) ≤ 2 ^ (p + (m.log2 : Int)) := zle _ _ (by omega)
        grind
      · have : f.leastPlace + (t0 : Int) = last + ((t0 - t : Nat) : Int) := by omega
        rw [this, ← mv_shift] at hle ⊢
        exact mv_le.2 (U _ hle)
    · refine Nat.le_min.2 ⟨?_, hr0⟩
      refine (rv_le f).1 ?_
      rw [hform]
      obtain ⟨t0, k0, rfl, hk0, ht0⟩ := rung_split f r0
      have hf0 := rv_form f t0 k0 (by omega) ht0
      rw [hf0] at hle ⊢
      rcases Nat.lt_or_ge t0 t with h | h
      · have h1 : mgv k0 (f.leastPlace + (t0 : Int)) < 2 ^ (f.leastPlace + (t0 : Int) + ((f.fractionBits + 1 : Nat) : Int)) := by
          rw [← mv_pow]; exact mv_lt.2 (by unfold Ieee.Format.binade at hk0; rw [Nat.pow_succ]; omega)
        have h2 : (2 : Rat) ^ (f.leastPlace + (t0 : Int) + ((f.fractionBits + 1 : Nat) : Int)) ≤ mgv f.binade last := by
          rw [hbin]; exact zle _ _ (by omega)
        have h3 : mgv f.binade last ≤ mgv c last := mv_le.2 (by rcases c1 with c1 | c1; omega; exact c1)
        grind
      · have : f.leastPlace + (t0 : Int) = last + ((t0 - t : Nat) : Int) := by omega
        rw [this, ← mv_shift] at hle ⊢
        exact mv_le.2 (V _ hle)
    · have hmin : min g f.infRung = g := by omega
      rw [hmin, hform]
      refine ⟨last - 1, ?_, ?_, ?_⟩
      · have h1 : mgv (2 * (c * 2 ^ d)) (last - (d : Int) - 1) ≤ mgv (2 * n + 2 ^ d) (last - (d : Int) - 1) := mv_le.2 e1
        rw [mv_add, mv_pow] at h1
        have a1 : mgv (2 * (c * 2 ^ d)) (last - (d : Int) - 1) = mgv c last := by
          rw [Nat.mul_comm 2]; have := mv_shift (c * 2 ^ d) (last - (d : Int) - 1) 1
          rw [Nat.pow_one] at this; rw [this, hT]; congr 1; omega
        have a2 : mgv (2 * n) (last - (d : Int) - 1) = mgv m p := by
          rw [Nat.mul_comm 2]; have := mv_shift n (last - (d : Int) - 1) 1
          rw [Nat.pow_one] at this; rw [this, hq]; congr 1; omega
        rw [a1, a2] at h1
        have a3 : last - (d : Int) - 1 + (d : Int) = last - 1 := by omega
        rw [a3] at h1; exact h1
      · have h1 : mgv (2 * n) (last - (d : Int) - 1) ≤ mgv (2 * (c * 2 ^ d) + 2 ^ d) (last - (d : Int) - 1) := mv_le.2 e2
        rw [mv_add, mv_pow] at h1
        have a1 : mgv (2 * (c * 2 ^ d)) (last - (d : Int) - 1) = mgv c last := by
          rw [Nat.mul_comm 2]; have := mv_shift (c * 2 ^ d) (last - (d : Int) - 1) 1
          rw [Nat.pow_one] at this; rw [this, hT]; congr 1; omega
        have a2 : mgv (2 * n) (last - (d : Int) - 1) = mgv m p := by
          rw [Nat.mul_comm 2]; have := mv_shift n (last - (d : Int) - 1) 1
          rw [Nat.pow_one] at this; rw [this, hq]; congr 1; omega
        rw [a1, a2] at h1
        have a3 : last - (d : Int) - 1 + (d : Int) = last - 1 := by omega
        rw [a3] at h1; exact h1
      · rcases Int.le_total (p + m.log2 - f.fractionBits) f.leastPlace with h | h
        · left; omega
        · right
          refine Rat.le_trans (zle _ _ ?_) hsz1
          omega

end Go.Sim
end

section
namespace Go.Sim
open Go

def sg (s : Bool) : Rat := if s then -1 else 1

/-- A finite float. -/
def isFl (k : FloatKind) (x : Nat) : Prop := ∃ s m e, k.decode x = .number s m e

/-- What a finite float stands for. -/
def fv (k : FloatKind) (x : Nat) : Rat := match k.decode x with
  | .number s m e => sg s * mgv m e
  | _ => 0

theorem fv_num {k : FloatKind} {x : Nat} {s : Bool} {m : Nat} {e : Int} (h : k.decode x = .number s m e) : fv k x = sg s * mgv m e := by
  unfold fv; rw [h]

theorem word_mod (f : Ieee.Format) (s : Bool) {r : Nat} (h : r ≤ f.infRung) : f.word s r % f.signWeight = r ∧ (f.word s r / f.signWeight % 2 == 1) = s := by
  have hlt : r < f.signWeight := Nat.lt_of_le_of_lt h f.infRung_lt
  have hp : 0 < f.signWeight := by omega
  unfold Ieee.Format.word
  cases s with
  | true =>
    simp only [if_true]
    rw [Nat.add_mod_left, Nat.mod_eq_of_lt hlt, Nat.add_div_left _ hp, Nat.div_eq_of_lt hlt]
    exact ⟨rfl, rfl⟩
  | false =>
    simp only [Bool.false_eq_true, if_false]
    rw [Nat.mod_eq_of_lt hlt, Nat.div_eq_of_lt hlt]
    exact ⟨rfl, rfl⟩

theorem read_rung (f : Ieee.Format) (x : Nat) (h : x % f.signWeight < f.infRung) : ∃ m e, f.read x = .number (x / f.signWeight % 2 == 1) m e ∧ mgv m e = rgv f (x % f.signWeight) := by
  unfold Ieee.Format.read rgv
  simp only
  split
  · exact ⟨_, _, rfl, rfl⟩
  · exact ⟨_, _, rfl, rfl⟩

theorem read_word {f : Ieee.Format} {s : Bool} {r : Nat} (h : r < f.infRung) : ∃ m e, f.read (f.word s r) = .number s m e ∧ mgv m e = rgv f r := by
  obtain ⟨h1, h2⟩ := word_mod f s (Nat.le_of_lt h)
  obtain ⟨m, e, h3, h4⟩ := read_rung f (f.word s r) (by rw [h1]; exact h)
  rw [h2] at h3; rw [h1] at h4
  exact ⟨m, e, h3, h4⟩

theorem bin_inf (k : FloatKind) : k.format.binade < k.format.infRung := by cases k <;> decide

theorem read_inf (k : FloatKind) (s : Bool) : k.format.read (k.format.word s k.format.infRung) = .infinity s := by
  cases k <;> cases s <;> decide

theorem read_fin {k : FloatKind} {x : Nat} (h : isFl k x) : x % k.format.signWeight < k.format.infRung := by
  obtain ⟨s, m, e, h⟩ := h
  rcases Nat.lt_or_ge (x % k.format.signWeight) k.format.infRung with h' | h'
  · exact h'
  · have hb := bin_inf k
    exfalso
    unfold FloatKind.decode Ieee.Format.read at h
    simp only at h
    rw [if_neg (by omega), if_neg (by omega)] at h
    split at h <;> cases h

/-- A finite float is a sign and a rung. -/
theorem fin_rung {k : FloatKind} {x : Nat} (h : isFl k x) : ∃ s r, r < k.format.infRung ∧ fv k x = sg s * rgv k.format r := by
  obtain ⟨m, e, h1, h2⟩ := read_rung k.format x (read_fin h)
  exact ⟨_, _, read_fin h, by rw [fv_num h1, h2]⟩

theorem word_fin {k : FloatKind} {s : Bool} {r : Nat} (h : r < k.format.infRung) : isFl k (k.format.word s r) ∧ fv k (k.format.word s r) = sg s * rgv k.format r := by
  obtain ⟨m, e, h1, h2⟩ := read_word (s := s) h
  exact ⟨⟨_, _, _, h1⟩, by rw [fv_num h1, h2]⟩

theorem word_canon {k : FloatKind} {s : Bool} {r : Nat} (h : r ≤ k.format.infRung) : canon k (k.format.word s r) = k.format.word s r := by
  refine canon_of_not ?_
  show (k.format.read _).isNaN = false
  rcases Nat.lt_or_ge r k.format.infRung with h' | h'
  · obtain ⟨m, e, h1, _⟩ := read_word (s := s) h'
    rw [h1]; rfl
  · have : r = k.format.infRung := by omega
    subst this; rw [read_inf]; rfl

/-! ### Rounded numbers -/

/-- 'z' is the word that is written for the number 'q'. -/
def Rd (k : FloatKind) (q : Rat) (z : Nat) : Prop := ∃ (s : Bool) (r : Nat) (a : Rat), z = k.format.word s r ∧ 0 ≤ a ∧ q = sg s * a ∧ r ≤ k.format.infRung ∧
  (∀ r0, r0 ≤ k.format.infRung → a ≤ rgv k.format r0 → r ≤ r0) ∧ (∀ r0, r0 ≤ k.format.infRung → rgv k.format r0 ≤ a → r0 ≤ r) ∧
  (r < k.format.infRung → ∃ e : Int, rgv k.format r ≤ a + 2 ^ e ∧ a ≤ rgv k.format r + 2 ^ e ∧ (e = k.format.leastPlace ∨ (2 : Rat) ^ (e + k.format.fractionBits) ≤ a))

theorem Rd.of_spec {k : FloatKind} {s : Bool} {a : Rat} {r : Nat} (h : RungSpec k.format a r) (ha : 0 ≤ a) : Rd k (sg s * a) (k.format.word s r) := by
  refine ⟨s, r, a, rfl, ha, rfl, h.inf, h.up, h.lo, fun hr => ?_⟩
  obtain ⟨e, h1, h2, h3⟩ := h.err hr
  refine ⟨e + 1, ?_, ?_, ?_⟩
  · have : (2 : Rat) ^ (e + 1) = 2 ^ e * 2 := by rw [zp_add]; rfl
    have := zp_pos e; grind
  · have : (2 : Rat) ^ (e + 1) = 2 ^ e * 2 := by rw [zp_add]; rfl
    have := zp_pos e; grind
  · rcases h3 with h3 | h3
    · left; omega
    · right; exact h3

theorem nearest_Rd (k : FloatKind) (s : Bool) (m : Nat) (p : Int) : Rd k (sg s * mgv m p) (canon k (k.format.nearest s m p)) := by
  rw [nearest_word, word_canon (rungOf_spec _ _ _).inf]
  exact Rd.of_spec (rungOf_spec _ _ _) (mv_nonneg _ _)

theorem sg_cases (s : Bool) : (s = false ∧ sg s = 1) ∨ (s = true ∧ sg s = -1) := by cases s <;> simp [sg]

section
variable {k : FloatKind} {q : Rat} {z : Nat}

/-- A number that is not above a finite one gives a finite one. -/
theorem Rd.fin (h : Rd k q z) {w : Nat} (hw : isFl k w) (h1 : q ≤ fv k w) (h2 : -(fv k w) ≤ q) : isFl k z := by
  obtain ⟨s, r, a, rfl, ha, hq, _, hup, _, _⟩ := h
  obtain ⟨sw, rw_, hr, hv⟩ := fin_rung hw
  have h0 := rv_nonneg k.format rw_
  refine (word_fin (Nat.lt_of_le_of_lt (hup rw_ (Nat.le_of_lt hr) ?_) hr)).1
  rcases sg_cases s with ⟨_, e⟩ | ⟨_, e⟩ <;> rcases sg_cases sw with ⟨_, e'⟩ | ⟨_, e'⟩ <;> rw [e] at hq <;> rw [e'] at hv <;> grind

theorem Rd.hi (h : Rd k q z) (hz : isFl k z) {w : Nat} (hw : isFl k w) (h1 : q ≤ fv k w) : fv k z ≤ fv k w := by
  obtain ⟨s, r, a, rfl, ha, hq, hr, hup, hlo, _⟩ := h
  have hr' : r < k.format.infRung := by
    have := read_fin hz
    rw [(word_mod k.format s hr).1] at this; exact this
  rw [(word_fin hr').2]
  obtain ⟨sw, rw_, hrw, hv⟩ := fin_rung hw
  have h0 := rv_nonneg k.format rw_
  have h0' := rv_nonneg k.format r
  have u := hup rw_ (Nat.le_of_lt hrw)
  have v := hlo rw_ (Nat.le_of_lt hrw)
  have u' := fun g => (rv_le k.format).2 (u g)
  have v' := fun g => (rv_le k.format).2 (v g)
  rw [hv] at h1 ⊢
  rcases sg_cases s with ⟨_, e⟩ | ⟨_, e⟩ <;> rcases sg_cases sw with ⟨_, e'⟩ | ⟨_, e'⟩ <;> rw [e] at hq ⊢ <;> rw [e'] at h1 ⊢
  · have := u' (by grind); grind
  · have : a = 0 := by grind
    have := u' (by grind)
    have h3 : rgv k.format rw_ = 0 := by grind
    grind
  · grind
  · have := v' (by grind); grind

theorem Rd.lo (h : Rd k q z) (hz : isFl k z) {w : Nat} (hw : isFl k w) (h1 : fv k w ≤ q) : fv k w ≤ fv k z := by
  obtain ⟨s, r, a, rfl, ha, hq, hr, hup, hlo, _⟩ := h
  have hr' : r < k.format.infRung := by
    have := read_fin hz
    rw [(word_mod k.format s hr).1] at this; exact this
  rw [(word_fin hr').2]
  obtain ⟨sw, rw_, hrw, hv⟩ := fin_rung hw
  have h0 := rv_nonneg k.format rw_
  have h0' := rv_nonneg k.format r
  have u := hup rw_ (Nat.le_of_lt hrw)
  have v := hlo rw_ (Nat.le_of_lt hrw)
  have u' := fun g => (rv_le k.format).2 (u g)
  have v' := fun g => (rv_le k.format).2 (v g)
  rw [hv] at h1 ⊢
  rcases sg_cases s with ⟨_, e⟩ | ⟨_, e⟩ <;> rcases sg_cases sw with ⟨_, e'⟩ | ⟨_, e'⟩ <;> rw [e] at hq ⊢ <;> rw [e'] at h1 ⊢
  · have := v' (by grind); grind
  · grind
  · have : a = 0 := by grind
    have := u' (by grind)
    have h3 : rgv k.format rw_ = 0 := by grind
    grind
  · have := u' (by grind); grind

/-- How far the rounded number is from the number ('M': a bound of it). -/
theorem Rd.err (h : Rd k q z) (hz : isFl k z) {M : Rat} (h1 : q ≤ M) (h2 : -M ≤ q) :
    fv k z ≤ q + (M * 2 ^ (-(k.format.fractionBits : Int)) + 2 ^ k.format.leastPlace) ∧ q ≤ fv k z + (M * 2 ^ (-(k.format.fractionBits : Int)) + 2 ^ k.format.leastPlace) := by
  obtain ⟨s, r, a, rfl, ha, hq, hr, hup, hlo, herr⟩ := h
  have hr' : r < k.format.infRung := by
    have := read_fin hz
    rw [(word_mod k.format s hr).1] at this; exact this
  rw [(word_fin hr').2]
  obtain ⟨e, e1, e2, e3⟩ := herr hr'
  have aM : a ≤ M := by rcases sg_cases s with ⟨_, e⟩ | ⟨_, e⟩ <;> rw [e] at hq <;> grind
  have p1 := zp_pos (-(k.format.fractionBits : Int))
  have p2 := zp_pos k.format.leastPlace
  have hm : 0 ≤ M * 2 ^ (-(k.format.fractionBits : Int)) := Rat.mul_nonneg (by grind) (Rat.le_of_lt p1)
  have key : (2 : Rat) ^ e ≤ M * 2 ^ (-(k.format.fractionBits : Int)) + 2 ^ k.format.leastPlace := by
    rcases e3 with rfl | e3
    · grind
    · have : (2 : Rat) ^ e = 2 ^ (e + k.format.fractionBits) * 2 ^ (-(k.format.fractionBits : Int)) := by
        rw [← zp_add]; congr 1; omega
      have h3 : (2 : Rat) ^ (e + k.format.fractionBits) * 2 ^ (-(k.format.fractionBits : Int)) ≤ M * 2 ^ (-(k.format.fractionBits : Int)) :=
        Rat.mul_le_mul_of_nonneg_right (by grind) (Rat.le_of_lt p1)
      grind
  generalize M * 2 ^ (-(k.format.fractionBits : Int)) + 2 ^ k.format.leastPlace = E at *
  rcases sg_cases s with ⟨_, e⟩ | ⟨_, e⟩ <;> rw [e] at hq ⊢ <;> constructor <;> grind

/-- What the format has is written as it is. -/
theorem Rd.exact (h : Rd k q z) {w : Nat} (hw : isFl k w) (he : q = fv k w) : isFl k z ∧ fv k z = q := by
  obtain ⟨sw, rw_, hrw, hv⟩ := fin_rung hw
  obtain ⟨f1, f2⟩ := word_fin (k := k) (s := false) hrw
  have h0 := rv_nonneg k.format rw_
  have f2 : fv k (k.format.word false rw_) = rgv k.format rw_ := by rw [f2]; simp [sg]
  have hz : isFl k z := h.fin f1 (by rw [f2, he, hv]; rcases sg_cases sw with ⟨_, e⟩ | ⟨_, e⟩ <;> rw [e] <;> grind) (by rw [f2, he, hv]; rcases sg_cases sw with ⟨_, e⟩ | ⟨_, e⟩ <;> rw [e] <;> grind)
  refine ⟨hz, ?_⟩
  have a := h.hi hz hw (by grind)
  have b := h.lo hz hw (by grind)
  grind

end

/-! ### Which numbers a format has -/

theorem rep (f : Ieee.Format) (m : Nat) (e : Int) (hm : m ≤ 2 * f.binade) (he : f.leastPlace ≤ e) : ∃ r, rgv f r = mgv m e := by
  have hb := binade_pos f
  -- as many digits as the place lets in
  have key : ∀ (t m : Nat), m ≤ 2 * f.binade → ∃ r, rgv f r = mgv m (f.leastPlace + (t : Int)) := by
    intro t
    induction t with
    | zero => intro m hm; exact ⟨0 * f.binade + m, rv_form f 0 m hm (.inl rfl)⟩
    | succ t ih =>
      intro m hm
      rcases Nat.lt_or_ge m f.binade with h | h
      · obtain ⟨r, hr⟩ := ih (m * 2 ^ 1) (by omega)
        refine ⟨r, ?_⟩
        rw [hr, mv_shift]; congr 1; omega
      · exact ⟨_, rv_form f (t + 1) m hm (.inr h)⟩
  obtain ⟨r, hr⟩ := key (e - f.leastPlace).toNat m hm
  refine ⟨r, ?_⟩
  rw [hr]; congr 1; omega

/-- A number of few digits that is not too great is one of the format's. -/
theorem rep_fin {k : FloatKind} {m : Nat} {e : Int} (hm : m ≤ 2 * k.format.binade) (he : k.format.leastPlace ≤ e) {w : Nat} (hw : isFl k w) (h : mgv m e ≤ fv k w) (s : Bool) : ∃ x, isFl k x ∧ fv k x = sg s * mgv m e := by
  obtain ⟨r, hr⟩ := rep k.format m e hm he
  obtain ⟨sw, rw_, hrw, hv⟩ := fin_rung hw
  have h0 := rv_nonneg k.format rw_
  have : r ≤ rw_ := (rv_le k.format).1 (by rw [hr]; rcases sg_cases sw with ⟨_, e⟩ | ⟨_, e⟩ <;> rw [e] at hv <;> have := mv_nonneg m (e := ‹Int›) <;> grind)
  obtain ⟨a, b⟩ := word_fin (k := k) (s := s) (Nat.lt_of_le_of_lt this hrw)
  exact ⟨_, a, by rw [b, hr]⟩

/-! ### The operations -/

theorem signed_val (s : Bool) (m : Nat) (i b : Int) (h : b ≤ i) : ((Ieee.signed s m (i - b).toNat : Int) : Rat) * 2 ^ b = sg s * mgv m i := by
  unfold Ieee.signed
  rw [Nat.shiftLeft_eq]
  have : mgv (m * 2 ^ (i - b).toNat) b = mgv m i := by rw [mv_shift]; congr 1; omega
  cases s with
  | true =>
    simp only [if_true, sg]
    rw [Rat.intCast_neg, Rat.intCast_natCast, Rat.neg_mul, ← this]
    unfold mgv; grind
  | false =>
    simp only [Bool.false_eq_true, if_false, sg]
    rw [Rat.intCast_natCast, ← this]
    unfold mgv; grind

theorem total_val (t : Int) (z : Bool) (b : Int) : sg (if t = 0 then z else decide (t < 0)) * mgv t.natAbs b = (t : Rat) * 2 ^ b := by
  unfold mgv
  by_cases h : t = 0
  · subst h; simp
  · rw [if_neg h]
    by_cases h2 : t < 0
    · have e : t = -((t.natAbs : Nat) : Int) := by omega
      simp only [h2, decide_true, sg, if_true]
      generalize t.natAbs = n at *
      rw [e, Rat.intCast_neg, Rat.intCast_natCast]; grind
    · have e : t = ((t.natAbs : Nat) : Int) := by omega
      simp only [h2, decide_false, sg, Bool.false_eq_true, if_false]
      generalize t.natAbs = n at *
      rw [e, Rat.intCast_natCast]; grind

theorem sg_not (s : Bool) : sg (!s) = - sg s := by cases s <;> simp [sg]
theorem sg_xor (s t : Bool) : sg (s ^^ t) = sg s * sg t := by cases s <;> cases t <;> decide +kernel

theorem fop_some {op : BinOp} {k : FloatKind} {x y r : Nat} (h : floatBits op k x y = some r) : fop op k x y = canon k r := by
  unfold fop; rw [h]

theorem add_Rd {k : FloatKind} {x y : Nat} (hx : isFl k x) (hy : isFl k y) : Rd k (fv k x + fv k y) (fop .add k x y) := by
  obtain ⟨s, m, i, hx⟩ := hx
  obtain ⟨t, n, j, hy⟩ := hy
  have e : floatBits .add k x y = some (k.format.nearest (if Ieee.signed s m (i - min i j).toNat + Ieee.signed t n (j - min i j).toNat = 0 then s && t else decide (Ieee.signed s m (i - min i j).toNat + Ieee.signed t n (j - min i j).toNat < 0)) (Ieee.signed s m (i - min i j).toNat + Ieee.signed t n (j - min i j).toNat).natAbs (min i j)) := by
    have hx' : k.format.read x = .number s m i := hx
    have hy' : k.format.read y = .number t n j := hy
    simp only [floatBits, Ieee.Format.add, hx', hy', Ieee.Datum.sum, Option.map_some, Ieee.Format.write]
  rw [fop_some e, fv_num hx, fv_num hy, ← signed_val s m i (min i j) (Int.min_le_left _ _), ← signed_val t n j (min i j) (Int.min_le_right _ _), ← Rat.add_mul, ← Rat.intCast_add, ← total_val _ (s && t)]
  exact nearest_Rd k _ _ _

theorem sub_Rd {k : FloatKind} {x y : Nat} (hx : isFl k x) (hy : isFl k y) : Rd k (fv k x - fv k y) (fop .sub k x y) := by
  obtain ⟨s, m, i, hx⟩ := hx
  obtain ⟨t, n, j, hy⟩ := hy
  have e : floatBits .sub k x y = some (k.format.nearest (if Ieee.signed s m (i - min i j).toNat + Ieee.signed (!t) n (j - min i j).toNat = 0 then s && !t else decide (Ieee.signed s m (i - min i j).toNat + Ieee.signed (!t) n (j - min i j).toNat < 0)) (Ieee.signed s m (i - min i j).toNat + Ieee.signed (!t) n (j - min i j).toNat).natAbs (min i j)) := by
    have hx' : k.format.read x = .number s m i := hx
    have hy' : k.format.read y = .number t n j := hy
    simp only [floatBits, Ieee.Format.sub, hx', hy', Ieee.Datum.sum, Ieee.Datum.opposite, Option.map_some, Ieee.Format.write]
  have e2 : fv k x - fv k y = sg s * mgv m i + sg (!t) * mgv n j := by rw [fv_num hx, fv_num hy, sg_not]; grind
  rw [fop_some e, e2, ← signed_val s m i (min i j) (Int.min_le_left _ _), ← signed_val (!t) n j (min i j) (Int.min_le_right _ _), ← Rat.add_mul, ← Rat.intCast_add, ← total_val _ (s && !t)]
  exact nearest_Rd k _ _ _

theorem mv_mul (m n : Nat) (i j : Int) : mgv (m * n) (i + j) = mgv m i * mgv n j := by
  unfold mgv; rw [Rat.natCast_mul, zp_add]; grind

theorem mul_Rd {k : FloatKind} {x y : Nat} (hx : isFl k x) (hy : isFl k y) : Rd k (fv k x * fv k y) (fop .mul k x y) := by
  obtain ⟨s, m, i, hx⟩ := hx
  obtain ⟨t, n, j, hy⟩ := hy
  have e : floatBits .mul k x y = some (k.format.nearest (s ^^ t) (m * n) (i + j)) := by
    have hx' : k.format.read x = .number s m i := hx
    have hy' : k.format.read y = .number t n j := hy
    simp only [floatBits, Ieee.Format.mul, hx', hy', Ieee.Datum.product, Option.map_some, Ieee.Format.write]
  have e2 : fv k x * fv k y = sg (s ^^ t) * mgv (m * n) (i + j) := by rw [fv_num hx, fv_num hy, sg_xor, mv_mul]; grind
  rw [fop_some e, e2]
  exact nearest_Rd k _ _ _

end Go.Sim
end

section
namespace Go.Sim
open Go

theorem zp_le {a b : Int} (h : a ≤ b) : (2 : Rat) ^ a ≤ 2 ^ b := by
  have : b = a + ((b - a).toNat : Int) := by omega
  rw [this, ← mv_pow]
  have h1 : (2 : Rat) ^ a = mgv 1 a := by unfold mgv; simp
  rw [h1]; exact mv_le.2 (Nat.one_le_two_pow)

theorem mv_one (e : Int) : mgv 1 e = 2 ^ e := by unfold mgv; simp

/-! ### Quotients -/

theorem mul_div_le {a b c : Rat} (hb : 0 < b) : a ≤ c * b ↔ a * b⁻¹ ≤ c := by
  have hi : 0 < b⁻¹ := Rat.inv_pos.2 hb
  have e : b * b⁻¹ = 1 := Rat.mul_inv_cancel b (by grind)
  constructor
  · intro h
    have := Rat.mul_le_mul_of_nonneg_right h (Rat.le_of_lt hi)
    rw [Rat.mul_assoc, e, Rat.mul_one] at this; exact this
  · intro h
    have := Rat.mul_le_mul_of_nonneg_right h (Rat.le_of_lt hb)
    rw [Rat.mul_assoc, Rat.mul_comm b⁻¹ b, e, Rat.mul_one] at this; exact this

theorem le_mul_div {a b c : Rat} (hb : 0 < b) : c * b ≤ a ↔ c ≤ a * b⁻¹ := by
  have hi : 0 < b⁻¹ := Rat.inv_pos.2 hb
  have e : b * b⁻¹ = 1 := Rat.mul_inv_cancel b (by grind)
  constructor
  · intro h
    have := Rat.mul_le_mul_of_nonneg_right h (Rat.le_of_lt hi)
    rw [Rat.mul_assoc, e, Rat.mul_one] at this; exact this
  · intro h
    have := Rat.mul_le_mul_of_nonneg_right h (Rat.le_of_lt hb)
    rw [Rat.mul_assoc, Rat.mul_comm b⁻¹ b, e, Rat.mul_one] at this; exact this

/-- A quotient of whole numbers, cut with one digit that tells whether anything is left. -/
theorem sticky_Rd (k : FloatKind) (s : Bool) (D n : Nat) (g : Int) (hn : 0 < n) (hbig : 2 * k.format.binade * n ≤ D) :
    Rd k (sg s * (mgv D g * (n : Rat)⁻¹)) (canon k (k.format.nearest s (2 * (D / n) + (D % n != 0).toNat) (g - 1))) := by
  have hnr : (0 : Rat) < (n : Rat) := Rat.natCast_pos.2 hn
  have hdm := Nat.div_add_mod D n
  have hml := Nat.mod_lt D hn
  have hQ : 2 * k.format.binade ≤ D / n := (Nat.le_div_iff_mul_le hn).2 hbig
  generalize hq : D / n = Q at *
  generalize hr : D % n = R at *
  -- the exact quotient and 'J' units
  have U : ∀ J : Nat, mgv D g * (n : Rat)⁻¹ ≤ mgv J g → D ≤ J * n := by
    intro J h
    have := (mul_div_le hnr).2 h
    have e : mgv J g * (n : Rat) = mgv (J * n) g := by unfold mgv; rw [Rat.natCast_mul]; grind
    rw [e] at this; exact mv_le.1 this
  have U' : ∀ J : Nat, D ≤ J * n → mgv D g * (n : Rat)⁻¹ ≤ mgv J g := by
    intro J h
    refine (mul_div_le hnr).1 ?_
    have e : mgv J g * (n : Rat) = mgv (J * n) g := by unfold mgv; rw [Rat.natCast_mul]; grind
    rw [e]; exact mv_le.2 h
  have V : ∀ J : Nat, mgv J g ≤ mgv D g * (n : Rat)⁻¹ → J * n ≤ D := by
    intro J h
    have := (le_mul_div hnr).2 h
    have e : mgv J g * (n : Rat) = mgv (J * n) g := by unfold mgv; rw [Rat.natCast_mul]; grind
    rw [e] at this; exact mv_le.1 this
  have V' : ∀ J : Nat, J * n ≤ D → mgv J g ≤ mgv D g * (n : Rat)⁻¹ := by
    intro J h
    refine (le_mul_div hnr).1 ?_
    have e : mgv J g * (n : Rat) = mgv (J * n) g := by unfold mgv; rw [Rat.natCast_mul]; grind
    rw [e]; exact mv_le.2 h
  generalize hst : (R != 0).toNat = st
  have hst1 : st ≤ 1 := by subst hst; cases (R != 0) <;> simp
  have hst0 : R = 0 → st = 0 := by intro h; subst h; subst hst; rfl
  have hst2 : R ≠ 0 → st = 1 := by intro h; subst hst; simp [h]
  have hdbl : ∀ J : Nat, mgv J g = mgv (2 * J) (g - 1) := by
    intro J
    rw [Nat.mul_comm]
    have := mv_shift J (g - 1) 1
    rw [Nat.pow_one] at this
    rw [this]; congr 1; omega
  have hN1 : ∀ J : Nat, D ≤ J * n → 2 * Q + st ≤ 2 * J := by
    intro J hJ
    have h1 : Q ≤ J := by
      rcases Nat.lt_or_ge J Q with h | h
      · have : (J + 1) * n ≤ Q * n := Nat.mul_le_mul_right n h
        rw [Nat.succ_mul, Nat.mul_comm Q n] at this; omega
      · exact h
    by_cases h0 : R = 0
    · rw [hst0 h0]; omega
    · rw [hst2 h0]
      rcases Nat.lt_or_ge Q J with h | h
      · omega
      · have : J * n ≤ Q * n := Nat.mul_le_mul_right n h
        rw [Nat.mul_comm Q n] at this; omega
  have hN2 : ∀ J : Nat, J * n ≤ D → 2 * J ≤ 2 * Q + st := by
    intro J hJ
    have : J ≤ Q := by rw [← hq]; exact (Nat.le_div_iff_mul_le hn).2 hJ
    omega
  -- the great size of the quotient
  have hbinQ : mgv (2 * k.format.binade) g ≤ mgv D g * (n : Rat)⁻¹ := V' _ hbig
  have hbin : mgv (2 * k.format.binade) g = 2 ^ (g + 1 + (k.format.fractionBits : Int)) := by
    rw [hdbl]
    have : 2 * (2 * k.format.binade) = 2 ^ (k.format.fractionBits + 2) := by unfold Ieee.Format.binade; rw [Nat.pow_succ, Nat.pow_succ]; omega
    rw [this, mv_pow]; congr 1; omega
  have hd1 : mgv (2 * Q + st) (g - 1) ≤ mgv D g * (n : Rat)⁻¹ + 2 ^ (g - 1) := by
    rw [mv_add, ← hdbl]
    have h1 := V' Q (by rw [Nat.mul_comm]; omega)
    have h2 : mgv st (g - 1) ≤ mgv 1 (g - 1) := mv_le.2 hst1
    rw [mv_one] at h2; grind
  have hd2 : mgv D g * (n : Rat)⁻¹ ≤ mgv (2 * Q + st) (g - 1) + 2 ^ (g - 1) := by
    have h1 := U' (Q + 1) (by rw [Nat.succ_mul, Nat.mul_comm Q n]; omega)
    by_cases h0 : R = 0
    · have h2 := U' Q (by rw [Nat.mul_comm Q n]; omega)
      rw [hst0 h0, Nat.add_zero, ← hdbl]
      have := zp_pos (g - 1); grind
    · rw [hst2 h0]
      rw [hdbl (Q + 1)] at h1
      have e : 2 * (Q + 1) = 2 * Q + 1 + 1 := by omega
      rw [e, mv_add, mv_one] at h1; exact h1
  generalize hA : mgv D g * (n : Rat)⁻¹ = A at *
  have hA0 : 0 ≤ A := by
    have h1 : 0 ≤ mgv (2 * k.format.binade) g := mv_nonneg _ _
    grind
  have sp := rungOf_spec k.format (2 * Q + st) (g - 1)
  rw [nearest_word, word_canon sp.inf]
  refine ⟨s, _, A, rfl, hA0, rfl, sp.inf, fun r0 hr0 hle => ?_, fun r0 hr0 hle => ?_, fun hlt => ?_⟩
  · refine sp.up r0 hr0 ?_
    obtain ⟨t0, k0, rfl, hk0, ht0⟩ := rung_split k.format r0
    rw [rv_form k.format t0 k0 (by omega) ht0] at hle ⊢
    rcases Int.lt_or_le (k.format.leastPlace + (t0 : Int)) g with h | h
    · exfalso
      have h1 : mgv k0 (k.format.leastPlace + (t0 : Int)) < mgv (2 * k.format.binade) (k.format.leastPlace + (t0 : Int)) := mv_lt.2 hk0
      have h2 : mgv (2 * k.format.binade) (k.format.leastPlace + (t0 : Int)) ≤ mgv (2 * k.format.binade) g := Rat.mul_le_mul_of_nonneg_left (zp_le (Int.le_of_lt h)) Rat.natCast_nonneg
      grind
    · have e : k.format.leastPlace + (t0 : Int) = g + ((k.format.leastPlace + (t0 : Int) - g).toNat : Int) := by omega
      rw [e, ← mv_shift] at hle ⊢
      rw [hdbl]
      exact mv_le.2 (hN1 _ (U _ hle))
  · refine sp.lo r0 hr0 ?_
    obtain ⟨t0, k0, rfl, hk0, ht0⟩ := rung_split k.format r0
    rw [rv_form k.format t0 k0 (by omega) ht0] at hle ⊢
    rcases Int.lt_or_le (k.format.leastPlace + (t0 : Int)) g with h | h
    · have h1 : mgv k0 (k.format.leastPlace + (t0 : Int)) ≤ mgv (2 * k.format.binade) (k.format.leastPlace + (t0 : Int)) := mv_le.2 (by omega)
      have h2 : mgv (2 * k.format.binade) (k.format.leastPlace + (t0 : Int)) ≤ mgv (2 * k.format.binade) g := Rat.mul_le_mul_of_nonneg_left (zp_le (Int.le_of_lt h)) Rat.natCast_nonneg
      have h3 : mgv (2 * k.format.binade) g ≤ mgv (2 * Q + st) (g - 1) := by rw [hdbl]; exact mv_le.2 (by omega)
      grind
    · have e : k.format.leastPlace + (t0 : Int) = g + ((k.format.leastPlace + (t0 : Int) - g).toNat : Int) := by omega
      rw [e, ← mv_shift] at hle ⊢
      rw [hdbl]
      exact mv_le.2 (hN2 _ (V _ hle))
  · obtain ⟨e0, a1, a2, a3⟩ := sp.err hlt
    rcases Int.lt_or_le e0 (g - 1) with h | h
    · refine ⟨g, ?_, ?_, .inr ?_⟩
      · have h1 : (2 : Rat) ^ e0 ≤ 2 ^ (g - 1) := zp_le (by omega)
        have h2 : (2 : Rat) ^ g = 2 ^ (g - 1) * 2 := by
          have : g = g - 1 + 1 := by omega
          conv => lhs; rw [this, zp_add]
          rfl
        grind
      · have h1 : (2 : Rat) ^ e0 ≤ 2 ^ (g - 1) := zp_le (by omega)
        have h2 : (2 : Rat) ^ g = 2 ^ (g - 1) * 2 := by
          have : g = g - 1 + 1 := by omega
          conv => lhs; rw [this, zp_add]
          rfl
        grind
      · rw [hbin] at hbinQ
        exact Rat.le_trans (zp_le (by omega)) hbinQ
    · refine ⟨e0 + 1, ?_, ?_, ?_⟩
      · have h1 : (2 : Rat) ^ (g - 1) ≤ 2 ^ e0 := zp_le h
        have h2 : (2 : Rat) ^ (e0 + 1) = 2 ^ e0 * 2 := by rw [zp_add]; rfl
        grind
      · have h1 : (2 : Rat) ^ (g - 1) ≤ 2 ^ e0 := zp_le h
        have h2 : (2 : Rat) ^ (e0 + 1) = 2 ^ e0 * 2 := by rw [zp_add]; rfl
        grind
      · rcases a3 with a3 | a3
        · left; omega
        · right
          have e : e0 + 1 + (k.format.fractionBits : Int) = g + ((e0 + 1 + (k.format.fractionBits : Int) - g).toNat : Int) := by omega
          rw [e, ← mv_pow] at a3 ⊢
          generalize 2 ^ (e0 + 1 + (k.format.fractionBits : Int) - g).toNat = J at *
          rw [hdbl] at a3
          have h4 : 2 * J ≤ 2 * Q + st := mv_le.1 a3
          exact V' J (by
            have : J ≤ Q := by omega
            have := Nat.mul_le_mul_right n this
            rw [Nat.mul_comm Q n] at this; omega)

theorem quo_Rd {k : FloatKind} {x y : Nat} (hx : isFl k x) (hy : isFl k y) (h0 : fv k y ≠ 0) : Rd k (fv k x / fv k y) (fop .quo k x y) := by
  obtain ⟨s, m, i, hx⟩ := hx
  obtain ⟨t, n, j, hy⟩ := hy
  have hn : n ≠ 0 := by
    intro h; subst h
    rw [fv_num hy] at h0
    apply h0; unfold mgv; simp
  have hx' : k.format.read x = .number s m i := hx
  have hy' : k.format.read y = .number t n j := hy
  have hnp : 0 < n := by omega
  have hnr : (0 : Rat) < (n : Rat) := Rat.natCast_pos.2 hnp
  have e2 : ∀ more : Nat, fv k x / fv k y = sg (s ^^ t) * (mgv (m * 2 ^ more) (i - j - (more : Int)) * (n : Rat)⁻¹) := by
    intro more
    rw [fv_num hx, fv_num hy, sg_xor, mv_shift]
    have e3 : i - j - (more : Int) + (more : Int) = i + -j := by omega
    rw [e3]
    unfold mgv
    rw [zp_add, Rat.zpow_neg, Rat.div_def]
    have hj := zp_pos j
    have st : sg t * sg t = 1 := by cases t <;> decide +kernel
    have inv : (sg t * ((n : Rat) * 2 ^ j))⁻¹ = sg t * ((n : Rat)⁻¹ * (2 ^ j)⁻¹) := by
      refine Rat.inv_eq_of_mul_eq_one ?_
      have a1 : (n : Rat) * (n : Rat)⁻¹ = 1 := Rat.mul_inv_cancel _ (by grind)
      have a2 : (2 : Rat) ^ j * (2 ^ j)⁻¹ = 1 := Rat.mul_inv_cancel _ (by grind)
      generalize (n : Rat)⁻¹ = u at *
      generalize ((2 : Rat) ^ j)⁻¹ = v at *
      generalize (n : Rat) = a at *
      generalize (2 : Rat) ^ j = b at *
      generalize sg t = c at *
      have : c * (a * b) * (c * (u * v)) = (c * c) * (a * u) * (b * v) := by grind
      rw [this, st, a1, a2]; simp
    rw [inv]; grind
  by_cases hm : m = 0
  · subst hm
    have e : floatBits .quo k x y = some (k.format.nearest (s ^^ t) 0 (i - j - ((k.format.fractionBits + 2 + n.log2 - Nat.log2 0 : Nat) : Int) - 1)) := by
      simp only [floatBits, Ieee.Format.div, hx', hy', Ieee.Datum.quotient, if_neg hn, Option.map_some, Ieee.Format.write]
      simp [Nat.zero_shiftLeft]
    rw [fop_some e, e2 0]
    have h1 : mgv (0 * 2 ^ 0) (i - j - ((0 : Nat) : Int)) * (n : Rat)⁻¹ = mgv 0 (i - j - ((k.format.fractionBits + 2 + n.log2 - Nat.log2 0 : Nat) : Int) - 1) := by unfold mgv; simp
    rw [h1]
    exact nearest_Rd k _ _ _
  · generalize hmore : k.format.fractionBits + 2 + n.log2 - m.log2 = more
    have e : floatBits .quo k x y = some (k.format.nearest (s ^^ t) (2 * (m * 2 ^ more / n) + (m * 2 ^ more % n != 0).toNat) (i - j - (more : Int) - 1)) := by
      simp only [floatBits, Ieee.Format.div, hx', hy', Ieee.Datum.quotient, if_neg hn, Option.map_some, Ieee.Format.write, hmore, Nat.shiftLeft_eq]
    rw [fop_some e, e2 more]
    refine sticky_Rd k _ _ _ _ hnp ?_
    have h1 : 2 ^ m.log2 ≤ m := Nat.log2_self_le hm
    have h2 : n < 2 ^ (n.log2 + 1) := Nat.lt_log2_self
    have h3 : 2 * k.format.binade = 2 ^ (k.format.fractionBits + 1) := by unfold Ieee.Format.binade; rw [Nat.pow_succ]; omega
    rw [h3]
    calc 2 ^ (k.format.fractionBits + 1) * n ≤ 2 ^ (k.format.fractionBits + 1) * 2 ^ (n.log2 + 1) := Nat.mul_le_mul_left _ (Nat.le_of_lt h2)
      _ = 2 ^ (k.format.fractionBits + 1 + (n.log2 + 1)) := (Nat.pow_add ..).symm
      _ ≤ 2 ^ (m.log2 + more) := Nat.pow_le_pow_right (by omega) (by omega)
      _ = 2 ^ m.log2 * 2 ^ more := Nat.pow_add ..
      _ ≤ m * 2 ^ more := Nat.mul_le_mul_right _ h1

/-! ### Conversions -/

theorem fcv_down_Rd {x : Nat} (hx : isFl .f64 x) : Rd .f32 (fv .f64 x) (fcv .f64 .f32 x) := by
  obtain ⟨s, m, e, h⟩ := hx
  have : fcv .f64 .f32 x = canon .f32 (FloatKind.f32.format.nearest s m e) := by
    unfold fcv fconv; simp only [h]; rfl
  rw [this, fv_num h]
  exact nearest_Rd .f32 _ _ _

theorem fconvOk_fin {x : Nat} (hx : isFl .f64 x) (h : isFl .f32 (fcv .f64 .f32 x)) : fconvOk .f64 .f32 x := by
  obtain ⟨s, m, e, hd⟩ := hx
  have e1 : fcv .f64 .f32 x = FloatKind.encode .f32 (.number s m e) := by
    have : fcv .f64 .f32 x = canon .f32 (FloatKind.f32.format.nearest s m e) := by
      unfold fcv fconv; simp only [hd]; rfl
    rw [this, nearest_word, word_canon (rungOf_spec _ _ _).inf, ← nearest_word]; rfl
  rw [e1] at h
  obtain ⟨s', m', e', h⟩ := h
  unfold fconvOk
  simp only [hd]
  rw [h]; rfl

/-- The greatest float64. -/
theorem big64 : isFl .f64 9218868437227405311 := ⟨_, _, _, rfl⟩
theorem big64_v : rgv FloatKind.f32.format FloatKind.f32.format.infRung ≤ fv .f64 9218868437227405311 := by decide +kernel

theorem fcv_up {x : Nat} (hx : isFl .f32 x) : isFl .f64 (fcv .f32 .f64 x) ∧ fv .f64 (fcv .f32 .f64 x) = fv .f32 x := by
  have hR : Rd .f64 (fv .f32 x) (fcv .f32 .f64 x) := by
    obtain ⟨s, m, e, h⟩ := hx
    have : fcv .f32 .f64 x = canon .f64 (FloatKind.f64.format.nearest s m e) := by
      unfold fcv fconv; simp only [h]; rfl
    rw [this, fv_num h]
    exact nearest_Rd .f64 _ _ _
  obtain ⟨s, r, hr, hv⟩ := fin_rung hx
  obtain ⟨t, k0, e0, hk, ht⟩ := rung_split FloatKind.f32.format r
  have hf := rv_form FloatKind.f32.format t k0 (by omega) ht
  rw [← e0] at hf
  obtain ⟨w, hw, hwv⟩ := rep_fin (k := .f64) (m := k0) (e := FloatKind.f32.format.leastPlace + (t : Int)) (by
    have : 2 * FloatKind.f32.format.binade ≤ 2 * FloatKind.f64.format.binade := by decide
    omega) (by
    have : FloatKind.f64.format.leastPlace ≤ FloatKind.f32.format.leastPlace := by decide
    omega) big64 (by
    rw [← hf]
    exact Rat.le_trans ((rv_le _).2 (Nat.le_of_lt hr)) big64_v) s
  have := hR.exact hw (by rw [hwv, hv, hf])
  exact this

theorem nearest_int_Rd (k : FloatKind) (n : Int) : Rd k (n : Rat) (canon k (k.nearest n)) := by
  have : ((n : Int) : Rat) = sg (decide (n < 0)) * mgv n.natAbs 0 := by
    have h := total_val n false 0
    have z : (2 : Rat) ^ (0 : Int) = 1 := by simp
    rw [z, Rat.mul_one] at h
    rw [← h]
    by_cases h0 : n = 0
    · subst h0; rfl
    · rw [if_neg h0]
  rw [this]
  exact nearest_Rd k _ _ _

/-- A whole number of few digits is written as it is. -/
theorem int_exact {k : FloatKind} (n : Int) (h : n.natAbs ≤ 16777216) : isFl k (canon k (k.nearest n)) ∧ fv k (canon k (k.nearest n)) = n := by
  have hR := nearest_int_Rd k n
  have : ((n : Int) : Rat) = sg (decide (n < 0)) * mgv n.natAbs 0 := by
    have h := total_val n false 0
    have z : (2 : Rat) ^ (0 : Int) = 1 := by simp
    rw [z, Rat.mul_one] at h
    rw [← h]
    by_cases h0 : n = 0
    · subst h0; rfl
    · rw [if_neg h0]
  cases k with
  | f32 =>
    have hb : isFl .f32 2139095039 := ⟨_, _, _, rfl⟩
    have hbv : mgv 16777216 0 ≤ fv .f32 2139095039 := by decide +kernel
    obtain ⟨w, hw, hwv⟩ := rep_fin (k := .f32) (m := n.natAbs) (e := 0) (by have : 2 * FloatKind.f32.format.binade = 16777216 := by decide
                                                                            omega) (by decide) hb (Rat.le_trans (mv_le.2 h) hbv) (decide (n < 0))
    exact hR.exact hw (by rw [hwv, ← this])
  | f64 =>
    have hbv : mgv 16777216 0 ≤ fv .f64 9218868437227405311 := by decide +kernel
    obtain ⟨w, hw, hwv⟩ := rep_fin (k := .f64) (m := n.natAbs) (e := 0) (by have : 16777216 ≤ 2 * FloatKind.f64.format.binade := by decide
                                                                            omega) (by decide) big64 (Rat.le_trans (mv_le.2 h) hbv) (decide (n < 0))
    exact hR.exact hw (by rw [hwv, ← this])

/-! ### Comparisons -/

theorem order_val {k : FloatKind} {x y : Nat} (hx : isFl k x) (hy : isFl k y) : (k.format.order x y = some .lt ∧ fv k x < fv k y) ∨ (k.format.order x y = some .eq ∧ fv k x = fv k y) ∨ (k.format.order x y = some .gt ∧ fv k y < fv k x) := by
  obtain ⟨s, m, i, hx⟩ := hx
  obtain ⟨t, n, j, hy⟩ := hy
  have hx' : k.format.read x = .number s m i := hx
  have hy' : k.format.read y = .number t n j := hy
  have ho : k.format.order x y = some (compare (Ieee.signed s m (i - min i j).toNat) (Ieee.signed t n (j - min i j).toNat)) := by
    simp only [Ieee.Format.order, hx', hy', Ieee.Datum.order]
  rw [ho, fv_num hx, fv_num hy, ← signed_val s m i (min i j) (Int.min_le_left _ _), ← signed_val t n j (min i j) (Int.min_le_right _ _)]
  generalize Ieee.signed s m (i - min i j).toNat = a
  generalize Ieee.signed t n (j - min i j).toNat = b
  have hp := zp_pos (min i j)
  rcases Int.lt_trichotomy a b with h | h | h
  · exact .inl ⟨by rw [Int.compare_eq_lt.2 h], (Rat.mul_lt_mul_right hp).2 (Rat.intCast_lt_intCast.2 h)⟩
  · exact .inr (.inl ⟨by rw [Int.compare_eq_eq.2 h], by rw [h]⟩)
  · exact .inr (.inr ⟨by rw [Int.compare_eq_gt.2 h], (Rat.mul_lt_mul_right hp).2 (Rat.intCast_lt_intCast.2 h)⟩)

section
variable {k : FloatKind} {x y : Nat} (hx : isFl k x) (hy : isFl k y)
include hx hy
theorem lss_iff : fcmp .lss k x y = true ↔ fv k x < fv k y := by
  rcases order_val hx hy with ⟨h, g⟩ | ⟨h, g⟩ | ⟨h, g⟩ <;> simp [fcmp, h] <;> grind
theorem leq_iff : fcmp .leq k x y = true ↔ fv k x ≤ fv k y := by
  rcases order_val hx hy with ⟨h, g⟩ | ⟨h, g⟩ | ⟨h, g⟩ <;> simp [fcmp, h] <;> grind
theorem gtr_iff : fcmp .gtr k x y = true ↔ fv k y < fv k x := by
  rcases order_val hx hy with ⟨h, g⟩ | ⟨h, g⟩ | ⟨h, g⟩ <;> simp [fcmp, h] <;> grind
theorem geq_iff : fcmp .geq k x y = true ↔ fv k y ≤ fv k x := by
  rcases order_val hx hy with ⟨h, g⟩ | ⟨h, g⟩ | ⟨h, g⟩ <;> simp [fcmp, h] <;> grind
theorem eql_iff : fcmp .eql k x y = true ↔ fv k x = fv k y := by
  rcases order_val hx hy with ⟨h, g⟩ | ⟨h, g⟩ | ⟨h, g⟩ <;> simp [fcmp, h] <;> grind
end

theorem fin32_isF {x : Nat} : fin32 x = true ↔ isFl .f32 x := fin32_iff

/-! ### The other sign -/

end Go.Sim
end

section
namespace Go.Sim
open Go

/-- 'x' is finite and lies between the finite floats 'l' and 'h'. -/
structure Iv (k : FloatKind) (x l h : Nat) : Prop where
  fx : isFl k x
  fl : isFl k l
  fh : isFl k h
  lo : fv k l ≤ fv k x
  hi : fv k x ≤ fv k h

def finB (k : FloatKind) (x : Nat) : Bool := match k.decode x with
  | .number _ _ _ => true
  | _ => false

theorem finB_fl {k : FloatKind} {x : Nat} (h : finB k x = true) : isFl k x := by
  unfold finB at h
  split at h
  · rename_i s m e hd; exact ⟨s, m, e, hd⟩
  · cases h

theorem Iv.self {k : FloatKind} {x : Nat} (h : finB k x = true) : Iv k x x x := ⟨finB_fl h, finB_fl h, finB_fl h, Rat.le_refl, Rat.le_refl⟩

theorem Rd.iv {k : FloatKind} {q : Rat} {z l h : Nat} (r : Rd k q z) (fl : isFl k l) (fh : isFl k h) (h1 : fv k l ≤ q) (h2 : q ≤ fv k h) : Iv k z l h := by
  have hz : isFl k z := by
    obtain ⟨sl, rl, hrl, vl⟩ := fin_rung fl
    obtain ⟨sh, rh, hrh, vh⟩ := fin_rung fh
    have p1 := rv_nonneg k.format rl
    have p2 := rv_nonneg k.format rh
    rcases Nat.le_total rl rh with hle | hle
    · obtain ⟨f1, f2⟩ := word_fin (k := k) (s := false) hrh
      have e1 : fv k (k.format.word false rh) = rgv k.format rh := by rw [f2]; simp [sg]
      have := (rv_le k.format).2 hle
      refine r.fin f1 ?_ ?_
      · rw [e1]; rcases sg_cases sh with ⟨_, e⟩ | ⟨_, e⟩ <;> rw [e] at vh <;> grind
      · rw [e1]; rcases sg_cases sl with ⟨_, e⟩ | ⟨_, e⟩ <;> rw [e] at vl <;> grind
    · obtain ⟨f1, f2⟩ := word_fin (k := k) (s := false) hrl
      have e1 : fv k (k.format.word false rl) = rgv k.format rl := by rw [f2]; simp [sg]
      have := (rv_le k.format).2 hle
      refine r.fin f1 ?_ ?_
      · rw [e1]; rcases sg_cases sh with ⟨_, e⟩ | ⟨_, e⟩ <;> rw [e] at vh <;> grind
      · rw [e1]; rcases sg_cases sl with ⟨_, e⟩ | ⟨_, e⟩ <;> rw [e] at vl <;> grind
  exact ⟨hz, fl, fh, r.lo hz fl h1, r.hi hz fh h2⟩

section
variable {k : FloatKind} {x y a b c d : Nat}

def addB (k : FloatKind) (a b c d l h : Nat) : Bool := finB k l && finB k h && decide (fv k l ≤ fv k a + fv k c) && decide (fv k b + fv k d ≤ fv k h)

theorem Iv.add (hx : Iv k x a b) (hy : Iv k y c d) (l h : Nat) (hc : addB k a b c d l h = true) : Iv k (fop .add k x y) l h := by
  simp only [addB, Bool.and_eq_true, decide_eq_true_eq] at hc
  obtain ⟨⟨⟨h1, h2⟩, h3⟩, h4⟩ := hc
  have := hx.lo; have := hx.hi; have := hy.lo; have := hy.hi
  exact (add_Rd hx.fx hy.fx).iv (finB_fl h1) (finB_fl h2) (by grind) (by grind)

def subB (k : FloatKind) (a b c d l h : Nat) : Bool := finB k l && finB k h && decide (fv k l ≤ fv k a - fv k d) && decide (fv k b - fv k c ≤ fv k h)

theorem Iv.sub (hx : Iv k x a b) (hy : Iv k y c d) (l h : Nat) (hc : subB k a b c d l h = true) : Iv k (fop .sub k x y) l h := by
  simp only [subB, Bool.and_eq_true, decide_eq_true_eq] at hc
  obtain ⟨⟨⟨h1, h2⟩, h3⟩, h4⟩ := hc
  have := hx.lo; have := hx.hi; have := hy.lo; have := hy.hi
  exact (sub_Rd hx.fx hy.fx).iv (finB_fl h1) (finB_fl h2) (by grind) (by grind)

/-- A product lies between the corners'. -/
theorem mul_corners {x y a b c d l h : Rat} (xa : a ≤ x) (xb : x ≤ b) (yc : c ≤ y) (yd : y ≤ d) (l1 : l ≤ a * c) (l2 : l ≤ a * d) (l3 : l ≤ b * c) (l4 : l ≤ b * d) (h1 : a * c ≤ h) (h2 : a * d ≤ h) (h3 : b * c ≤ h) (h4 : b * d ≤ h) : l ≤ x * y ∧ x * y ≤ h := by
  -- first over 'y' at both ends of 'x'
  have seg : ∀ u : Rat, l ≤ u * c → l ≤ u * d → l ≤ u * y := by
    intro u p q
    rcases Rat.le_total (a := 0) (b := u) with hu | hu
    · have := Rat.mul_le_mul_of_nonneg_left yc hu; exact Rat.le_trans p this
    · have := Rat.mul_le_mul_of_nonneg_left yd (show 0 ≤ -u by grind)
      have e1 : -u * y = -(u * y) := by grind
      have e2 : -u * d = -(u * d) := by grind
      grind
  have seg' : ∀ u : Rat, u * c ≤ h → u * d ≤ h → u * y ≤ h := by
    intro u p q
    rcases Rat.le_total (a := 0) (b := u) with hu | hu
    · have := Rat.mul_le_mul_of_nonneg_left yd hu; exact Rat.le_trans this q
    · have := Rat.mul_le_mul_of_nonneg_left yc (show 0 ≤ -u by grind)
      have e1 : -u * y = -(u * y) := by grind
      have e2 : -u * c = -(u * c) := by grind
      grind
  have A := seg a l1 l2
  have B := seg b l3 l4
  have A' := seg' a h1 h2
  have B' := seg' b h3 h4
  rcases Rat.le_total (a := 0) (b := y) with hy | hy
  · have p := Rat.mul_le_mul_of_nonneg_right xa hy
    have q := Rat.mul_le_mul_of_nonneg_right xb hy
    exact ⟨Rat.le_trans A p, Rat.le_trans q B'⟩
  · have p := Rat.mul_le_mul_of_nonneg_right xa (show 0 ≤ -y by grind)
    have q := Rat.mul_le_mul_of_nonneg_right xb (show 0 ≤ -y by grind)
    have e1 : x * -y = -(x * y) := by grind
    have e2 : a * -y = -(a * y) := by grind
    have e3 : b * -y = -(b * y) := by grind
    constructor <;> grind

def mulB (k : FloatKind) (a b c d l h : Nat) : Bool := finB k l && finB k h &&
  decide (fv k l ≤ fv k a * fv k c) && decide (fv k l ≤ fv k a * fv k d) && decide (fv k l ≤ fv k b * fv k c) && decide (fv k l ≤ fv k b * fv k d) &&
  decide (fv k a * fv k c ≤ fv k h) && decide (fv k a * fv k d ≤ fv k h) && decide (fv k b * fv k c ≤ fv k h) && decide (fv k b * fv k d ≤ fv k h)

theorem Iv.mul (hx : Iv k x a b) (hy : Iv k y c d) (l h : Nat) (hc : mulB k a b c d l h = true) : Iv k (fop .mul k x y) l h := by
  simp only [mulB, Bool.and_eq_true, decide_eq_true_eq] at hc
  obtain ⟨⟨⟨⟨⟨⟨⟨⟨⟨f1, f2⟩, l1⟩, l2⟩, l3⟩, l4⟩, h1⟩, h2⟩, h3⟩, h4⟩ := hc
  obtain ⟨p, q⟩ := mul_corners hx.lo hx.hi hy.lo hy.hi l1 l2 l3 l4 h1 h2 h3 h4
  exact (mul_Rd hx.fx hy.fx).iv (finB_fl f1) (finB_fl f2) p q

/-- A square. -/
def sqB (k : FloatKind) (a b h : Nat) : Bool := finB k h && decide (fv k a * fv k a ≤ fv k h) && decide (fv k b * fv k b ≤ fv k h)

theorem zero_fl (k : FloatKind) : isFl k 0 ∧ fv k 0 = 0 := by
  cases k <;> exact ⟨⟨_, _, _, rfl⟩, by decide +kernel⟩

theorem sq_nonneg (u : Rat) : 0 ≤ u * u := by
  rcases Rat.le_total (a := 0) (b := u) with h | h
  · exact Rat.mul_nonneg h h
  · have := Rat.mul_nonneg (show 0 ≤ -u by grind) (show 0 ≤ -u by grind)
    have e : -u * -u = u * u := by grind
    grind

theorem Iv.sq (hx : Iv k x a b) (h : Nat) (hc : sqB k a b h = true) : Iv k (fop .mul k x x) 0 h := by
  simp only [sqB, Bool.and_eq_true, decide_eq_true_eq] at hc
  obtain ⟨⟨f2, h1⟩, h2⟩ := hc
  have lo := hx.lo; have hi := hx.hi
  refine (mul_Rd hx.fx hx.fx).iv (zero_fl k).1 (finB_fl f2) (by rw [(zero_fl k).2]; exact sq_nonneg _) ?_
  generalize fv k x = u at *
  generalize fv k a = p at *
  generalize fv k b = q at *
  rcases Rat.le_total (a := 0) (b := u) with hu | hu
  · have e1 := Rat.mul_le_mul_of_nonneg_left hi hu
    have e2 := Rat.mul_le_mul_of_nonneg_right hi (show 0 ≤ q by grind)
    grind
  · have e1 := Rat.mul_le_mul_of_nonneg_left (show -u ≤ -p by grind) (show 0 ≤ -u by grind)
    have e2 := Rat.mul_le_mul_of_nonneg_right (show -u ≤ -p by grind) (show 0 ≤ -p by grind)
    have e3 : -u * -u = u * u := by grind
    have e4 : -u * -p = u * p := by grind
    have e5 : -p * -p = p * p := by grind
    grind

def quoB (k : FloatKind) (a b c d l h : Nat) : Bool := finB k l && finB k h && decide (0 < fv k c) &&
  decide (fv k l * fv k c ≤ fv k a) && decide (fv k l * fv k d ≤ fv k a) && decide (fv k b ≤ fv k h * fv k c) && decide (fv k b ≤ fv k h * fv k d)

theorem Iv.quo (hx : Iv k x a b) (hy : Iv k y c d) (l h : Nat) (hc : quoB k a b c d l h = true) : Iv k (fop .quo k x y) l h := by
  simp only [quoB, Bool.and_eq_true, decide_eq_true_eq] at hc
  obtain ⟨⟨⟨⟨⟨⟨f1, f2⟩, cp⟩, l1⟩, l2⟩, h1⟩, h2⟩ := hc
  have yc := hy.lo; have yd := hy.hi; have xa := hx.lo; have xb := hx.hi
  have yp : 0 < fv k y := by grind
  have seg : fv k l * fv k y ≤ fv k x := by
    rcases Rat.le_total (a := 0) (b := fv k l) with hu | hu
    · have := Rat.mul_le_mul_of_nonneg_left yd hu; grind
    · have := Rat.mul_le_mul_of_nonneg_left yc (show 0 ≤ -fv k l by grind)
      have e1 : -fv k l * fv k y = -(fv k l * fv k y) := by grind
      have e2 : -fv k l * fv k c = -(fv k l * fv k c) := by grind
      grind
  have seg' : fv k x ≤ fv k h * fv k y := by
    rcases Rat.le_total (a := 0) (b := fv k h) with hu | hu
    · have := Rat.mul_le_mul_of_nonneg_left yc hu; grind
    · have := Rat.mul_le_mul_of_nonneg_left yd (show 0 ≤ -fv k h by grind)
      have e1 : -fv k h * fv k y = -(fv k h * fv k y) := by grind
      have e2 : -fv k h * fv k d = -(fv k h * fv k d) := by grind
      grind
  refine (quo_Rd hx.fx hy.fx (by grind)).iv (finB_fl f1) (finB_fl f2) ?_ ?_
  · rw [Rat.div_def]; exact (le_mul_div yp).1 seg
  · rw [Rat.div_def]; exact (mul_div_le yp).1 seg'
end

/-! ### Conversions -/

theorem Iv.up {x l h : Nat} (hx : Iv .f32 x l h) : Iv .f64 (fcv .f32 .f64 x) (fcv .f32 .f64 l) (fcv .f32 .f64 h) := by
  obtain ⟨a, b⟩ := fcv_up hx.fx
  obtain ⟨c, d⟩ := fcv_up hx.fl
  obtain ⟨e, f⟩ := fcv_up hx.fh
  exact ⟨a, c, e, by rw [b, d]; exact hx.lo, by rw [b, f]; exact hx.hi⟩

def downB (a b l h : Nat) : Bool := finB .f32 l && finB .f32 h && decide (fv .f32 l ≤ fv .f64 a) && decide (fv .f64 b ≤ fv .f32 h)

theorem Iv.down {x a b : Nat} (hx : Iv .f64 x a b) (l h : Nat) (hc : downB a b l h = true) : Iv .f32 (fcv .f64 .f32 x) l h ∧ fconvOk .f64 .f32 x := by
  simp only [downB, Bool.and_eq_true, decide_eq_true_eq] at hc
  obtain ⟨⟨⟨f1, f2⟩, l1⟩, h1⟩ := hc
  have h := (fcv_down_Rd hx.fx).iv (finB_fl f1) (finB_fl f2) (Rat.le_trans l1 hx.lo) (Rat.le_trans hx.hi h1)
  exact ⟨h, fconvOk_fin hx.fx h.fx⟩

theorem Iv.int (k : FloatKind) (n : Int) {a b : Int} (h1 : a ≤ n) (h2 : n ≤ b) (h3 : -16777216 ≤ a) (h4 : b ≤ 16777216) : Iv k (canon k (k.nearest n)) (canon k (k.nearest a)) (canon k (k.nearest b)) := by
  obtain ⟨x1, x2⟩ := int_exact (k := k) n (by omega)
  obtain ⟨y1, y2⟩ := int_exact (k := k) a (by omega)
  obtain ⟨z1, z2⟩ := int_exact (k := k) b (by omega)
  exact ⟨x1, y1, z1, by rw [x2, y2]; exact Rat.intCast_le_intCast.2 h1, by rw [x2, z2]; exact Rat.intCast_le_intCast.2 h2⟩

/-! ### Whole parts -/

end Go.Sim
end
