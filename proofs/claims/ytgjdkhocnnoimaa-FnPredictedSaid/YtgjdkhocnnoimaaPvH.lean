/- The numbers of the codes, the worst of codes. Conditions: none. -/
import Derived.Test.YtgjdkhocnnoimaaPvE
import Derived.Test.YtgjdkhocnnoimaaPu3

section
namespace Go.Sim
open Go

/-- A word that is no not-a-number is a sign and a rung. -/
theorem word_of_notN {k : FloatKind} {x : Nat} (hx : okW k x) (hn : isN k x = false) : ∃ s r, r ≤ k.format.infRung ∧ x = k.format.word s r := by
  have two : 2 ^ k.format.width = 2 * k.format.signWeight := by cases k <;> decide
  have hp : 0 < k.format.signWeight := by cases k <;> decide
  have hr : x % k.format.signWeight ≤ k.format.infRung := by
    rcases Nat.lt_or_ge k.format.infRung (x % k.format.signWeight) with h | h
    · exfalso
      have hb := bin_inf k
      unfold isN FloatKind.decode Ieee.Format.read at hn
      simp only at hn
      rw [if_neg (by omega), if_neg (by omega), if_neg (by omega)] at hn
      cases hn
    · exact h
  have hd := Nat.div_add_mod x k.format.signWeight
  have hq : x / k.format.signWeight < 2 := (Nat.div_lt_iff_lt_mul hp).2 (by unfold okW at hx; omega)
  generalize x / k.format.signWeight = q at hd hq
  rcases (by omega : q = 0 ∨ q = 1) with h | h
  · rw [h] at hd
    exact ⟨false, _, hr, by unfold Ieee.Format.word; simp; omega⟩
  · rw [h] at hd
    exact ⟨true, _, hr, by unfold Ieee.Format.word; simp; omega⟩

theorem rgv_pos {f : Ieee.Format} {r : Nat} (h : 0 < r) : 0 < rgv f r := by
  have := rv_lt f h; rw [rv_zero] at this; exact this

/-- A number that a rung has is written as that rung. -/
theorem Rd.rung {k : FloatKind} {q : Rat} {z : Nat} (h : Rd k q z) {r : Nat} (hr : r < k.format.infRung) (hp : 0 < r) (e : q = rgv k.format r) : z = k.format.word false r := by
  obtain ⟨s, t, a, rfl, ha, hq, ht, hup, hlo, _⟩ := h
  have := rgv_pos (f := k.format) hp
  rcases sg_cases s with ⟨rfl, es⟩ | ⟨rfl, es⟩ <;> rw [es] at hq
  · have e1 : a = rgv k.format r := by grind
    have := hup r (Nat.le_of_lt hr) (by rw [e1]; exact Rat.le_refl)
    have := hlo r (Nat.le_of_lt hr) (by rw [e1]; exact Rat.le_refl)
    have : t = r := by omega
    rw [this]
  · grind

/-! ### The code of a number -/

end Go.Sim
end

section
namespace Go.Sim
open Go

def ivB (k : FloatKind) (x l h : Nat) : Bool := finB k x && finB k l && finB k h && decide (fv k l ≤ fv k x) && decide (fv k x ≤ fv k h)

theorem Iv.of {k : FloatKind} {x l h : Nat} (hc : ivB k x l h = true) : Iv k x l h := by
  simp only [ivB, Bool.and_eq_true, decide_eq_true_eq] at hc
  exact ⟨finB_fl hc.1.1.1.1, finB_fl hc.1.1.1.2, finB_fl hc.1.1.2, hc.1.2, hc.2⟩

end Go.Sim
end

section
namespace Go.Sim
open Go

theorem w32_fop (op : BinOp) (x y : Nat) : w32 (fop op .f32 x y) := by
  unfold fop
  cases hb : floatBits op .f32 x y with
  | some r =>
    have := floatBits_wf hb
    simp [Lit.wf] at this
    exact w32_of this
  | none => exact ⟨by decide, by decide⟩

end Go.Sim
end
