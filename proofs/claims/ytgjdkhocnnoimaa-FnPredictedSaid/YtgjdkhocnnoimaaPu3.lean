/- When two float32 words stand for the same number. Conditions: none. -/
import Derived.Test.YtgjdkhocnnoimaaPu2
import Derived.Test.YtgjdkhocnnoimaaS22
namespace Go.Sim
open Go

/-- What a float32 word that is a number stands for. -/
theorem read32_spec (x : Nat) (hn : isN .f32 x = false) :
    (x % 2147483648 = 2139095040 ∧ FloatKind.decode .f32 x = .infinity (x / 2147483648 % 2 == 1)) ∨
    ∃ (m : Nat) (e : Nat), x % 2147483648 = m + e * 8388608 ∧ m < 16777216 ∧ (0 < e → 8388608 ≤ m) ∧ FloatKind.decode .f32 x = .number (x / 2147483648 % 2 == 1) m (-149 + (e : Int)) := by
  have hd : FloatKind.decode .f32 x = Ieee.Format.read FloatKind.f32.format x := rfl
  have h' : (Ieee.Format.read FloatKind.f32.format x).isNaN = false := hn
  rw [hd]
  have e1 : FloatKind.f32.format.signWeight = 2147483648 := by decide
  have e2 : FloatKind.f32.format.binade = 8388608 := by decide
  have e3 : FloatKind.f32.format.infRung = 2139095040 := by decide
  have e4 : FloatKind.f32.format.leastPlace = -149 := by decide
  unfold Ieee.Format.read at h' ⊢
  simp only [e1, e2, e3, e4] at h' ⊢
  split at h'
  · rename_i h
    right
    refine ⟨x % 2147483648, 0, by omega, by omega, by omega, ?_⟩
    rw [if_pos h]; simp
  · rename_i h
    split at h'
    · rename_i g
      right
      refine ⟨8388608 + x % 2147483648 % 8388608, x % 2147483648 / 8388608 - 1, ?_, ?_, ?_, ?_⟩
      · omega
      · omega
      · omega
      · rw [if_neg h, if_pos g]
    · rename_i g
      split at h'
      · rename_i k
        left
        refine ⟨k, ?_⟩
        rw [if_neg h, if_neg g, if_pos k]
      · simp [Ieee.Datum.isNaN] at h'

theorem shift_eq {m n a b : Nat} (hm : m < 16777216) (hn : n < 16777216) (_ha : 0 < a → 8388608 ≤ m) (hb : 0 < b → 8388608 ≤ n) (h : a ≤ b) (e : m = n * 2 ^ (b - a)) : m = n ∧ a = b := by
  rcases Nat.eq_or_lt_of_le h with rfl | h
  · simp at e; exact ⟨e, rfl⟩
  · exfalso
    have h1 : 8388608 ≤ n := hb (by omega)
    have h2 : 2 ^ 1 ≤ 2 ^ (b - a) := Nat.pow_le_pow_right (by omega) (by omega)
    have h3 : n * 2 ^ 1 ≤ n * 2 ^ (b - a) := Nat.mul_le_mul_left n h2
    omega

theorem signed_inj {s : Bool} {m n i j : Nat} (h : Ieee.signed s m i = Ieee.signed s n j) : m * 2 ^ i = n * 2 ^ j := by
  unfold Ieee.signed at h
  rw [Nat.shiftLeft_eq, Nat.shiftLeft_eq] at h
  cases s <;> simp at h <;> exact_mod_cast h

/-- Words that stand for equal numbers of one sign are the same. -/
theorem word_of_eql {x y : Nat} (hx : x < 4294967296) (hy : y < 4294967296) (nx : isN .f32 x = false) (ny : isN .f32 y = false) (h : fcmp .eql .f32 x y = true) (hs : (x / 2147483648 % 2 == 1) = (y / 2147483648 % 2 == 1)) : x = y := by
  have ho : (FloatKind.decode .f32 x).order (FloatKind.decode .f32 y) = some .eq := by
    have : (FloatKind.f32.format.order x y == some Ordering.eq) = true := h
    have t : FloatKind.f32.format.order x y = some Ordering.eq := by simpa using this
    exact t
  have hsg : x / 2147483648 = y / 2147483648 := by
    have a1 : x / 2147483648 < 2 := by omega
    have a2 : y / 2147483648 < 2 := by omega
    rw [Nat.mod_eq_of_lt a1, Nat.mod_eq_of_lt a2] at hs
    rcases (by omega : x / 2147483648 = 0 ∨ x / 2147483648 = 1) with p | p <;> rcases (by omega : y / 2147483648 = 0 ∨ y / 2147483648 = 1) with q | q <;> rw [p, q] at hs ⊢ <;> simp at hs
  have hr : x % 2147483648 = y % 2147483648 := by
    rcases read32_spec x nx with ⟨p1, p2⟩ | ⟨m, a, p1, p2, p3, p4⟩
    · rcases read32_spec y ny with ⟨q1, q2⟩ | ⟨n, b, q1, q2, q3, q4⟩
      · omega
      · rw [p2, q4] at ho
        simp only [Ieee.Datum.order] at ho
        split at ho <;> simp at ho
    · rcases read32_spec y ny with ⟨q1, q2⟩ | ⟨n, b, q1, q2, q3, q4⟩
      · rw [p4, q2] at ho
        simp only [Ieee.Datum.order] at ho
        split at ho <;> simp at ho
      · rw [p4, q4, hs] at ho
        simp only [Ieee.Datum.order, Option.some.injEq] at ho
        have := signed_inj (Std.LawfulEqOrd.eq_of_compare ho)
        rcases Nat.le_total a b with hab | hab
        · have e1 : (-149 + (a : Int) - min (-149 + (a : Int)) (-149 + (b : Int))).toNat = 0 := by omega
          have e2 : (-149 + (b : Int) - min (-149 + (a : Int)) (-149 + (b : Int))).toNat = b - a := by omega
          rw [e1, e2] at this
          obtain ⟨rfl, rfl⟩ := shift_eq p2 q2 p3 q3 hab (by simpa using this)
          omega
        · have e1 : (-149 + (a : Int) - min (-149 + (a : Int)) (-149 + (b : Int))).toNat = a - b := by omega
          have e2 : (-149 + (b : Int) - min (-149 + (a : Int)) (-149 + (b : Int))).toNat = 0 := by omega
          rw [e1, e2] at this
          obtain ⟨rfl, rfl⟩ := shift_eq q2 p2 q3 p3 hab (by simpa using this.symm)
          omega
  omega

/-- A canonical float32 word. -/
def w32 (x : Nat) : Prop := x < 4294967296 ∧ canon .f32 x = x

def sameN (x y : Nat) : Bool := x == y

def sameW (xs ys : List Nat) : Bool := (xs.length == ys.length) && allBelow (fun k => sameN (xs.getD k 0) (ys.getD k 0)) xs.length

theorem w32_zero : w32 0 := ⟨by decide, by decide⟩

theorem w32_get {xs : List Nat} (h : ∀ y ∈ xs, w32 y) (k : Nat) : w32 (xs.getD k 0) := by
  rcases Nat.lt_or_ge k xs.length with hk | hk
  · have : xs.getD k 0 = xs[k] := by simp [hk]
    rw [this]; exact h _ (List.getElem_mem hk)
  · have : xs.getD k 0 = 0 := by simp [List.getElem?_eq_none hk]
    rw [this]; exact w32_zero

theorem w32_of {b : Nat} (h : b < 4294967296) : w32 (canon .f32 b) := by
  refine ⟨?_, canon_canon _ _⟩
  unfold canon
  split
  · decide
  · exact h

theorem w32_nan {x : Nat} (h : w32 x) (n : isN .f32 x = true) : x = 2143289344 := by
  have := h.2
  rw [canon_of_nan n] at this
  exact this.symm

theorem order_nan {k : FloatKind} {x : Nat} (n : isN k x = true) (y : Nat) : k.format.order x y = none := by
  simp only [Ieee.Format.order]
  exact order_nan_l n _

theorem neq_nan {k : FloatKind} {x : Nat} (n : isN k x = true) : fcmp .neq k x x = true := by
  simp [fcmp, order_nan n]

theorem eql_self {k : FloatKind} {x : Nat} (n : isN k x = false) : fcmp .eql k x x = true := by
  simp [fcmp, order_self n]

theorem wrap_i64 (n : Int) : IntKind.wrap .i64 n = (if (true && decide (n % 18446744073709551616 ≥ 9223372036854775808)) = true then n % 18446744073709551616 - 18446744073709551616 else n % 18446744073709551616) := by
  rfl

/-- The sign stays where a float32 becomes a float64. -/
theorem sign_fcv {x : Nat} (_hx : x < 4294967296) (n : isN .f32 x = false) : decide (IntKind.wrap .i64 ((fcv .f32 .f64 x : Nat) : Int) < 0) = (x / 2147483648 % 2 == 1) := by
  have hs : ∃ r, r < 9223372036854775808 ∧ fcv .f32 .f64 x = (if (x / 2147483648 % 2 == 1) = true then 9223372036854775808 + r else r) := by
    have hc : fcv .f32 .f64 x = fconv .f32 .f64 x := by
      unfold fcv
      exact canon_of_not (by have := fcv_notN n; unfold fcv at this; rw [isN_canon] at this; exact this)
    rw [hc]
    rcases read32_spec x n with ⟨_, p⟩ | ⟨m, e, _, _, _, p⟩
    · refine ⟨9218868437227405312, by decide, ?_⟩
      unfold fconv
      simp only [p]
      rfl
    · refine ⟨?_, ?_, ?_⟩
      rotate_left 2
      · unfold fconv
        simp only [p]
        show Ieee.Format.nearest FloatKind.f64.format _ m _ = _
        unfold Ieee.Format.nearest
        dsimp only
        rw [← apply_ite (fun r => Ieee.Format.word FloatKind.f64.format (x / 2147483648 % 2 == 1) r)]
        rfl
      · split
        · decide
        · refine Nat.lt_of_le_of_lt (Nat.min_le_right _ _) (by decide)
  obtain ⟨r, hr, e⟩ := hs
  rw [e]
  cases (x / 2147483648 % 2 == 1) with
  | true =>
    simp only [if_true, decide_eq_true_eq]
    rw [wrap_i64, if_pos (by simp; omega)]
    omega
  | false =>
    simp only [Bool.false_eq_true, if_false, decide_eq_false_iff_not]
    rw [wrap_i64, if_neg (by simp; omega)]
    omega

end Go.Sim
