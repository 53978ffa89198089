/- The sum with a zero ahead. Conditions: none. -/
import Derived.Test.YtgjdkhocnnoimaaPu9
namespace Go.Sim
open Go

theorem nearest_zero (s : Bool) (j : Int) : FloatKind.f32.format.write (.number s 0 j) = FloatKind.f32.format.word s 0 := by
  show Ieee.Format.nearest FloatKind.f32.format s 0 j = _
  unfold Ieee.Format.nearest
  rw [if_pos rfl]

theorem signed_eq (b : Bool) (m e : Nat) : Ieee.signed b m e = if b then -((m * 2 ^ e : Nat) : Int) else ((m * 2 ^ e : Nat) : Int) := by
  unfold Ieee.signed
  rw [Nat.shiftLeft_eq]

theorem signed_neg (b : Bool) (M : Nat) (h : 0 < M) : (if (0 : Int) + (if b then -(M : Int) else (M : Int)) = 0 then (false && b) else decide ((0 : Int) + (if b then -(M : Int) else (M : Int)) < 0)) = b := by
  cases b
  · rw [if_neg (by simp; omega)]; simp
  · rw [if_neg (by simp; omega)]; simp; omega

theorem signed_abs (b : Bool) (M : Nat) : ((0 : Int) + (if b then -(M : Int) else (M : Int))).natAbs = M := by
  cases b <;> simp

/-- Zero and a number: the number, but for the sign of zero. -/
theorem add_zero32 {x : Nat} (hx : x < 4294967296) (hc : isN .f32 x = true → x = cNaN .f32) :
    fop .add .f32 0 x = x ∨ (x = 2147483648 ∧ fop .add .f32 0 x = 0) := by
  cases hn : isN .f32 x with
  | true => left; rw [isN_fop_r 0 (Or.inl rfl) hn, hc hn]
  | false =>
  have e1 : FloatKind.f32.format.signWeight = 2147483648 := by decide
  have e2 : FloatKind.f32.format.binade = 8388608 := by decide
  have e3 : FloatKind.f32.format.infRung = 2139095040 := by decide
  have e4 : FloatKind.f32.format.leastPlace = -149 := by decide
  have e5 : FloatKind.f32.format.fractionBits = 23 := by decide
  have h0 : FloatKind.f32.format.read 0 = .number false 0 (-149) := by decide
  have hw : ∀ r, r = x % 2147483648 → FloatKind.f32.format.word (x / 2147483648 % 2 == 1) r = x := by
    intro r hr
    unfold Ieee.Format.word
    rw [e1]
    rcases (by omega : x / 2147483648 = 0 ∨ x / 2147483648 = 1) with q | q <;> rw [q] <;> simp <;> omega
  rcases read32_spec x hn with ⟨p0, p⟩ | ⟨m, e, p1, p2, p3, p4⟩
  · left
    have hd : FloatKind.f32.format.read x = .infinity (x / 2147483648 % 2 == 1) := p
    have key : floatBits .add .f32 0 x = some x := by
      simp only [floatBits, Ieee.Format.add, h0, hd, Ieee.Datum.sum, Option.map_some, Option.some.injEq]
      show FloatKind.f32.format.word _ FloatKind.f32.format.infRung = x
      rw [e3]; exact hw _ p0.symm
    unfold fop
    rw [key]
    exact canon_of_not hn
  · have hlt := read32_lt p4
    have hd : FloatKind.f32.format.read x = .number (x / 2147483648 % 2 == 1) m (-149 + (e : Int)) := p4
    by_cases hm : m = 0
    · subst hm
      have hz : x % 2147483648 = 0 := by
        rcases Nat.eq_zero_or_pos e with rfl | he
        · omega
        · have := p3 he; omega
      rcases (by omega : x = 0 ∨ x = 2147483648) with rfl | rfl
      · left; decide
      · right; exact ⟨rfl, by decide⟩
    · left
      have key : floatBits .add .f32 0 x = some x := by
        simp only [floatBits, Ieee.Format.add, h0, hd, Ieee.Datum.sum, Option.map_some, Option.some.injEq]
        have hb : min (-149 : Int) (-149 + (e : Int)) = -149 := by omega
        rw [hb]
        have ht : (-149 + (e : Int) - -149).toNat = e := by omega
        have ht0 : ((-149 : Int) - -149).toNat = 0 := by omega
        rw [ht, ht0]
        have hs0 : Ieee.signed false 0 0 = 0 := by decide
        rw [hs0]
        have hpos : 0 < m * 2 ^ e := Nat.mul_pos (by omega) (Nat.two_pow_pos e)
        rw [signed_eq, signed_neg _ _ hpos, signed_abs]
        show Ieee.Format.nearest FloatKind.f32.format (x / 2147483648 % 2 == 1) (m * 2 ^ e) (-149) = x
        unfold Ieee.Format.nearest
        have hm2 : m * 2 ^ e ≠ 0 := Nat.mul_ne_zero hm (Nat.ne_of_gt (Nat.two_pow_pos e))
        rw [if_neg hm2]
        have hl := log2_mul_pow hm e
        have hl2 : m.log2 ≤ 23 := by
          have := (Nat.log2_lt hm).2 (show m < 2 ^ 24 from p2); omega
        have hl3 : 0 < e → m.log2 = 23 := by
          intro he
          have := (Nat.le_log2 hm).2 (show 2 ^ 23 ≤ m from p3 he); omega
        have hlast : max (-149 + ((m * 2 ^ e).log2 : Int) - (FloatKind.f32.format.fractionBits : Int)) FloatKind.f32.format.leastPlace = -149 + (e : Int) := by
          rw [hl, e4, e5]
          rcases Nat.eq_zero_or_pos e with rfl | he
          · push_cast; omega
          · rw [hl3 he]; push_cast; omega
        simp only [hlast]
        simp only [e2, e3, e4]
        refine hw _ ?_
        have hcut : Ieee.Toward.even.cut (x / 2147483648 % 2 == 1) (m * 2 ^ e) e = m := cut_exact m e _
        have a1 : ((-149 : Int) - (-149 + (e : Int))).toNat = 0 := by omega
        have a2 : (-149 + (e : Int) - -149).toNat = e := by omega
        rw [a1, a2, Nat.shiftLeft_zero, hcut]
        have : min (e * 8388608 + m) 2139095040 = e * 8388608 + m := Nat.min_eq_left (by omega)
        rw [this]; omega
      unfold fop
      rw [key]
      exact canon_of_not hn

/-- Minus nought and nought ahead of a sum. -/
theorem add_negzero (x : Nat) : fop .add .f32 2147483648 x = fop .add .f32 0 x ∨ (fop .add .f32 2147483648 x = 2147483648 ∧ fop .add .f32 0 x = 0) := by
  have h0 : FloatKind.f32.format.read 0 = .number false 0 (-149) := by decide
  have h1 : FloatKind.f32.format.read 2147483648 = .number true 0 (-149) := by decide
  cases hd : FloatKind.f32.format.read x with
  | nan s f => left; simp only [fop, floatBits, Ieee.Format.add, h0, h1, hd, Ieee.Datum.sum]
  | infinity s => left; simp only [fop, floatBits, Ieee.Format.add, h0, h1, hd, Ieee.Datum.sum]
  | number s m e =>
    have z0 : ∀ k, Ieee.signed false 0 k = 0 := by intro k; simp [Ieee.signed]
    have z1 : ∀ k, Ieee.signed true 0 k = 0 := by intro k; simp [Ieee.signed]
    by_cases ht : (0 : Int) + Ieee.signed s m (e - min (-149 : Int) e).toNat = 0
    · have k0 : floatBits .add .f32 0 x = some 0 := by
        simp only [floatBits, Ieee.Format.add, h0, hd, Ieee.Datum.sum, Option.map_some, Option.some.injEq, z0, ht]
        exact nearest_zero false _
      have k1 : floatBits .add .f32 2147483648 x = some (if s then 2147483648 else 0) := by
        simp only [floatBits, Ieee.Format.add, h1, hd, Ieee.Datum.sum, Option.map_some, Option.some.injEq, z1, ht]
        cases s
        · exact nearest_zero false _
        · exact nearest_zero true _
      cases s with
      | false => left; simp only [fop, k0, k1]; rfl
      | true => right; simp only [fop, k0, k1]; decide
    · left
      have : floatBits .add .f32 2147483648 x = floatBits .add .f32 0 x := by
        simp only [floatBits, Ieee.Format.add, h0, h1, hd, Ieee.Datum.sum, z0, z1, if_neg ht]
      simp only [fop, this]

/-- Two sums, alike but for the sign of a zero. -/
def alike (a b : Nat) : Prop := a = b ∨ (a = 2147483648 ∧ b = 0)

theorem alike_add {a b : Nat} (h : alike a b) (c : Nat) : alike (fop .add .f32 a c) (fop .add .f32 b c) := by
  rcases h with rfl | ⟨rfl, rfl⟩
  · exact Or.inl rfl
  · exact add_negzero c

theorem alike_pos {a b : Nat} (h : alike a b) : fcmp .gtr .f32 a 0 = fcmp .gtr .f32 b 0 := by
  rcases h with rfl | ⟨rfl, rfl⟩
  · rfl
  · decide

theorem alike_eq {a b : Nat} (h : alike a b) (hp : fcmp .gtr .f32 b 0 = true) : a = b := by
  rcases h with rfl | ⟨rfl, rfl⟩
  · rfl
  · exact absurd hp (by decide)

theorem word_lt (s : Bool) (r : Nat) (h : r ≤ 2139095040) : FloatKind.f32.format.word s r < 4294967296 := by
  have e1 : FloatKind.f32.format.signWeight = 2147483648 := by decide
  unfold Ieee.Format.word
  rw [e1]
  split <;> omega

theorem nearest_lt (s : Bool) (m : Nat) (e : Int) : Ieee.Format.nearest FloatKind.f32.format s m e < 4294967296 := by
  have e3 : FloatKind.f32.format.infRung = 2139095040 := by decide
  unfold Ieee.Format.nearest
  split
  · exact word_lt _ _ (by omega)
  · simp only [e3]
    exact word_lt _ _ (Nat.min_le_right _ _)

theorem w32_mul (x y : Nat) : w32 (fop .mul .f32 x y) := by
  have e3 : FloatKind.f32.format.infRung = 2139095040 := by decide
  have key : ∀ r, floatBits .mul .f32 x y = some r → r < 4294967296 := by
    intro r hr
    simp only [floatBits, Ieee.Format.mul] at hr
    cases h1 : FloatKind.f32.format.read x <;> cases h2 : FloatKind.f32.format.read y <;> rw [h1, h2] at hr <;> simp only [Ieee.Datum.product, Option.map_some, Option.map_none, Option.some.injEq, reduceCtorEq] at hr
    · subst hr; exact nearest_lt _ _ _
    · split at hr
      · simp at hr
      · simp only [Option.map_some, Option.some.injEq] at hr
        subst hr; exact word_lt _ _ (by rw [e3]; exact Nat.le_refl _)
    · split at hr
      · simp at hr
      · simp only [Option.map_some, Option.some.injEq] at hr
        subst hr; exact word_lt _ _ (by rw [e3]; exact Nat.le_refl _)
    · subst hr; exact word_lt _ _ (by rw [e3]; exact Nat.le_refl _)
  unfold fop
  cases h : floatBits .mul .f32 x y with
  | none => exact ⟨by decide, by decide⟩
  | some r => exact w32_of (key r h)

/-- A sum that begins with nought. -/
theorem alike_start (x y : Nat) : alike (fop .mul .f32 x y) (fop .add .f32 0 (fop .mul .f32 x y)) := by
  have h := w32_mul x y
  rcases add_zero32 h.1 (fun n => by rw [w32_nan h n]; rfl) with q | ⟨q1, q2⟩
  · exact Or.inl q.symm
  · exact Or.inr ⟨q1, q2⟩

end Go.Sim
