/- The exponential function of all codes is told by the language (checked one by one). Conditions: none. -/
import Derived.Test.YtgjdkhocnnoimaaPu5

section
namespace Go.Sim
open Go

theorem fop_of_none {op : BinOp} {k : FloatKind} {x y : Nat} (h : floatBits op k x y = none) : fop op k x y = cNaN k := by
  unfold fop; rw [h]

/-- Where a word stands for an infinity or for no number, it is not finite. -/
theorem fin32_inf {x : Nat} {s : Bool} (h : FloatKind.decode .f32 x = .infinity s) : fin32 x = false := by
  have h' : FloatKind.f32.format.read x = .infinity s := h
  unfold fin32
  rw [fop_of_none (by
    simp only [floatBits, Ieee.Format.sub, h', Ieee.Datum.opposite, Ieee.Datum.sum]
    cases s <;> rfl)]
  decide

theorem fin32_num {x : Nat} {s : Bool} {m : Nat} {e : Int} (h : FloatKind.decode .f32 x = .number s m e) : fin32 x = true := by
  have h' : FloatKind.f32.format.read x = .number s m e := h
  unfold fin32 fop
  have : floatBits .sub .f32 x x = some 0 := by
    simp only [floatBits, Ieee.Format.sub, h', Ieee.Datum.opposite, Ieee.Datum.sum]
    have ht : Ieee.signed s m (e - min e e).toNat + Ieee.signed (!s) m (e - min e e).toNat = 0 := by
      unfold Ieee.signed; cases s <;> simp <;> omega
    rw [ht]
    cases s <;> rfl
  rw [this]
  decide

theorem fin32_iff {x : Nat} : fin32 x = true ↔ ∃ s m e, FloatKind.decode .f32 x = .number s m e := by
  constructor
  · intro h
    cases hd : FloatKind.decode .f32 x with
    | number s m e => exact ⟨s, m, e, rfl⟩
    | infinity s => rw [fin32_inf hd] at h; cases h
    | nan s f => rw [fin32_nan (by unfold isN; rw [hd]; rfl)] at h; cases h
  · rintro ⟨s, m, e, h⟩; exact fin32_num h

end Go.Sim
end

section
namespace Go.Sim
open Go

/-- What a predictor makes of what comes in: 'k' numbers. -/
def makL (st : List Nat) (f : Nat → Nat) : Nat → List Nat
  | 0 => []
  | k + 1 => makL st f k ++ [fop .add .f32 (f k) (predAt st (makL st f k) k)]

theorem makL_len (st : List Nat) (f : Nat → Nat) : ∀ k, (makL st f k).length = k
  | 0 => rfl
  | k + 1 => by simp [makL, makL_len st f k]

theorem makL_congr {st : List Nat} {f g : Nat → Nat} {n : Nat} (h : ∀ k, k < n → f k = g k) : makL st f n = makL st g n := by
  induction n with
  | zero => rfl
  | succ n ih => simp only [makL]; rw [ih fun k hk => h k (by omega), h n (by omega)]

theorem allFin_append (xs : List Nat) (y : Nat) : allFin (xs ++ [y]) = (allFin xs && fin32 y) := by
  unfold allFin
  simp only [List.length_append, List.length_singleton, allBelow]
  congr 1
  · refine allBelow_congr fun k hk => ?_
    simp [List.getElem?_append_left hk]
  · simp

/-- A list, if all of its numbers are finite. -/
def makF (l : List Nat) : List Nat × Bool := if allFin l then (l, true) else ([], false)

theorem makF_le (l : List Nat) : (makF l).1.length ≤ l.length := by
  unfold makF; split <;> simp

/-! ### Times one -/

theorem cut_exact (n d : Nat) (neg : Bool) : Ieee.Toward.even.cut neg (n * 2 ^ d) d = n := by
  unfold Ieee.Toward.cut
  rcases Nat.eq_zero_or_pos n with rfl | hn
  · simp
  have hl : d ≤ (n * 2 ^ d).log2 := (Nat.le_log2 (by have := Nat.two_pow_pos d; exact Nat.ne_of_gt (Nat.mul_pos hn this))).2 (Nat.le_mul_of_pos_left _ hn)
  have hm : min d ((n * 2 ^ d).log2 + 2) = d := by omega
  simp only [hm, Nat.one_shiftLeft]
  rw [Nat.mul_div_cancel _ (Nat.two_pow_pos d), Nat.mul_mod_left]
  simp

theorem read32_lt {x : Nat} {s : Bool} {m : Nat} {e : Int} (h : FloatKind.decode .f32 x = .number s m e) : x % 2147483648 < 2139095040 := by
  have h' : Ieee.Format.read FloatKind.f32.format x = .number s m e := h
  have e1 : FloatKind.f32.format.signWeight = 2147483648 := by decide
  have e2 : FloatKind.f32.format.binade = 8388608 := by decide
  have e3 : FloatKind.f32.format.infRung = 2139095040 := by decide
  unfold Ieee.Format.read at h'
  simp only [e1, e2, e3] at h'
  split at h'
  · omega
  · split at h'
    · assumption
    · split at h' <;> simp at h'

theorem log2_mul_pow {m : Nat} (hm : m ≠ 0) (k : Nat) : (m * 2 ^ k).log2 = m.log2 + k := by
  have hp : m * 2 ^ k ≠ 0 := Nat.mul_ne_zero hm (Nat.ne_of_gt (Nat.two_pow_pos k))
  apply Nat.le_antisymm
  · have h1 : m < 2 ^ (m.log2 + 1) := Nat.lt_log2_self
    have : m * 2 ^ k < 2 ^ (m.log2 + k + 1) := by
      rw [show m.log2 + k + 1 = (m.log2 + 1) + k from by omega, Nat.pow_add]
      exact Nat.mul_lt_mul_of_pos_right h1 (Nat.two_pow_pos k)
    have := (Nat.log2_lt hp).2 this
    omega
  · refine (Nat.le_log2 hp).2 ?_
    rw [Nat.pow_add]
    exact Nat.mul_le_mul_right _ (Nat.log2_self_le hm)

/-- A float32 that is finite, times one, is itself. -/
theorem mul_one32 {x : Nat} (hx : x < 4294967296) (h : fin32 x = true) : fop .mul .f32 1065353216 x = x := by
  have hn := fin32_N h
  obtain ⟨s0, m0, p0, h0⟩ := fin32_iff.1 h
  rcases read32_spec x hn with ⟨_, p⟩ | ⟨m, e, p1, p2, p3, p4⟩
  · rw [p] at h0; cases h0
  have hlt := read32_lt p4
  have hd : FloatKind.f32.format.read x = .number (x / 2147483648 % 2 == 1) m (-149 + (e : Int)) := p4
  have h1 : FloatKind.f32.format.read 1065353216 = .number false 8388608 (-23) := by decide
  have key : floatBits .mul .f32 1065353216 x = some x := by
    simp only [floatBits, Ieee.Format.mul, h1, hd, Ieee.Datum.product, Option.map_some, Option.some.injEq]
    show Ieee.Format.nearest FloatKind.f32.format (false ^^ (x / 2147483648 % 2 == 1)) (8388608 * m) (-23 + (-149 + (e : Int))) = x
    have e1 : FloatKind.f32.format.signWeight = 2147483648 := by decide
    have e2 : FloatKind.f32.format.binade = 8388608 := by decide
    have e3 : FloatKind.f32.format.infRung = 2139095040 := by decide
    have e4 : FloatKind.f32.format.leastPlace = -149 := by decide
    have e5 : FloatKind.f32.format.fractionBits = 23 := by decide
    have hw : ∀ r, r = x % 2147483648 → FloatKind.f32.format.word (false ^^ (x / 2147483648 % 2 == 1)) r = x := by
      intro r hr
      unfold Ieee.Format.word
      rw [e1]
      rcases (by omega : x / 2147483648 = 0 ∨ x / 2147483648 = 1) with q | q <;> rw [q] <;> simp <;> omega
    unfold Ieee.Format.nearest
    by_cases hm : m = 0
    · subst hm
      rw [if_pos (by simp)]
      exact hw 0 (by omega)
    · rw [if_neg (by omega)]
      have hl : (8388608 * m).log2 = m.log2 + 23 := by
        rw [Nat.mul_comm, show 8388608 = 2 ^ 23 from rfl]; exact log2_mul_pow hm 23
      have hl2 : m.log2 ≤ 23 := by
        have := (Nat.log2_lt hm).2 (show m < 2 ^ 24 from p2); omega
      have hl3 : 0 < e → m.log2 = 23 := by
        intro he
        have := (Nat.le_log2 hm).2 (show 2 ^ 23 ≤ m from p3 he); omega
      have hlast : max (-23 + (-149 + (e : Int)) + ((8388608 * m).log2 : Int) - (FloatKind.f32.format.fractionBits : Int)) FloatKind.f32.format.leastPlace = -149 + (e : Int) := by
        rw [hl, e4, e5]
        rcases Nat.eq_zero_or_pos e with rfl | he
        · push_cast; omega
        · rw [hl3 he]; push_cast; omega
      simp only [hlast]
      simp only [e2, e3, e4]
      refine hw _ ?_
      have hc : Ieee.Toward.even.cut (false ^^ (x / 2147483648 % 2 == 1)) (m * 8388608) 23 = m := cut_exact m 23 _
      have a1 : (-23 + (-149 + (e : Int)) - (-149 + (e : Int))).toNat = 0 := by omega
      have a2 : (-149 + (e : Int) - (-23 + (-149 + (e : Int)))).toNat = 23 := by omega
      have a3 : (-149 + (e : Int) - -149).toNat = e := by omega
      rw [a1, a2, a3, Nat.shiftLeft_zero, Nat.mul_comm 8388608 m, hc]
      have : min (e * 8388608 + m) 2139095040 = e * 8388608 + m := Nat.min_eq_left (by omega)
      rw [this]; omega
  unfold fop
  rw [key]
  exact canon_of_not hn

end Go.Sim
end

section
namespace Go.Sim
open Go

def fconvOkB (x : Nat) : Bool := match FloatKind.decode .f64 x with
  | .number sg m e => !(FloatKind.decode .f32 (FloatKind.encode .f32 (.number sg m e))).isInfinity
  | _ => true

theorem fconvOk_of {x : Nat} (h : fconvOkB x = true) : fconvOk .f64 .f32 x := by
  unfold fconvOkB at h
  unfold fconvOk
  cases hd : FloatKind.decode .f64 x with
  | number s m e => rw [hd] at h; simpa using h
  | infinity s => trivial
  | nan s f => trivial

end Go.Sim
end

section
namespace Go.Sim
open Go

end Go.Sim
end
