/- Square roots of float32s are float32s again. Conditions: none. -/
import Derived.Test.YtgjdkhocnnoimaaS22
import Derived.Test.YtgjdkhocnnoimaaPvD
namespace Go.Sim
open Go

theorem rootFrom_sq (n : Nat) : ∀ (todo root : Nat), root * root ≤ n → Ieee.Datum.rootFrom n todo root * Ieee.Datum.rootFrom n todo root ≤ n
  | 0, root, h => h
  | todo + 1, root, h => by
    simp only [Ieee.Datum.rootFrom]
    split
    · rename_i h'; exact rootFrom_sq n todo _ h'
    · exact rootFrom_sq n todo _ h

theorem rat_sq_lt {u : Rat} (h0 : 0 ≤ u) (h : u * u < 340282366920938463463374607431768211456) : u < 18446744073709551616 := by
  rcases (Rat.le_total : (18446744073709551616 : Rat) ≤ u ∨ u ≤ 18446744073709551616) with h' | h'
  · have := Rat.mul_le_mul_of_nonneg_left h' h0
    have h2 := Rat.mul_le_mul_of_nonneg_right h' (show (0 : Rat) ≤ 18446744073709551616 by decide)
    grind
  · rcases Rat.le_iff_lt_or_eq.1 h' with h2 | h2
    · exact h2
    · subst h2; grind

theorem f32_lt {y : Nat} (h : isFl .f32 y) : fv .f32 y < 340282366920938463463374607431768211456 ∧ -340282366920938463463374607431768211456 < fv .f32 y := by
  obtain ⟨s, m, e, hd⟩ := h
  obtain ⟨h1, h2, h3⟩ := read32 y hd
  have hm : mgv m e < 340282366920938463463374607431768211456 := by
    have a : mgv m e < mgv (2 ^ 24) e := mv_lt.2 h1
    have b : mgv (2 ^ 24) e = 2 ^ (e + ((24 : Nat) : Int)) := mv_pow 24 e
    have c : (2 : Rat) ^ (e + ((24 : Nat) : Int)) ≤ 2 ^ (128 : Int) := zp_le (by omega)
    have d : (2 : Rat) ^ (128 : Int) = 340282366920938463463374607431768211456 := by decide +kernel
    grind
  have h0 := mv_nonneg m e
  rw [fv_num hd]
  rcases sg_cases s with ⟨_, hs⟩ | ⟨_, hs⟩ <;> rw [hs] <;> constructor <;> grind

/-- What a root's datum comes to. -/
theorem root_val (d m : Nat) (i : Int) (hm : m ≠ 0) (hv : mgv m i < 340282366920938463463374607431768211456) :
    ∃ (M : Nat) (p : Int), Ieee.Datum.root d (.number false m i) = some (.number false M p) ∧ mgv M p ≤ 36893488147419103232 := by
  simp only [Ieee.Datum.root, if_neg hm, Bool.false_eq_true, if_false]
  generalize hmore : 2 * d - m.log2 + ((i - ((2 * d - m.log2 : Nat) : Int)) % 2).toNat = more
  obtain ⟨E, hE⟩ : ∃ E : Int, i - (more : Int) = 2 * E := ⟨(i - (more : Int)) / 2, by omega⟩
  have hEe : (i - (more : Int)) / 2 - 1 = E - 1 := by omega
  rw [hEe]
  generalize hn : m <<< more = n
  generalize hw : Ieee.Datum.rootFrom n (n.log2 / 2 + 1) 0 = w
  have hsq : w * w ≤ n := by rw [← hw]; exact rootFrom_sq n _ 0 (Nat.zero_le _)
  refine ⟨_, _, rfl, ?_⟩
  have hnv : mgv n (2 * E) < 340282366920938463463374607431768211456 := by
    rw [← hn, Nat.shiftLeft_eq, mv_shift]
    have : 2 * E + (more : Int) = i := by omega
    rw [this]; exact hv
  have hu : mgv w E * mgv w E < 340282366920938463463374607431768211456 := by
    rw [← mv_mul]
    have e1 : E + E = 2 * E := by omega
    rw [e1]
    have := mv_le (e := 2 * E) |>.2 hsq
    grind
  have hul := rat_sq_lt (mv_nonneg w E) hu
  have hb : 2 * w + (w * w != n).toNat ≤ 2 * w + 1 := by
    cases (w * w != n) <;> simp
  rcases Nat.eq_zero_or_pos w with hw0 | hw0
  · subst hw0
    have hn0 : 1 ≤ n := by
      rw [← hn, Nat.shiftLeft_eq]
      exact Nat.mul_pos (Nat.pos_of_ne_zero hm) (Nat.two_pow_pos _)
    have h1 : mgv 1 (2 * E) < 340282366920938463463374607431768211456 := by
      have := mv_le (e := 2 * E) |>.2 hn0
      grind
    rw [mv_one] at h1
    have hE2 : 2 * E < 128 := by
      by_cases h : 2 * E < 128
      · exact h
      · have h2 : (2 : Rat) ^ (128 : Int) ≤ 2 ^ (2 * E) := zp_le (by omega)
        have d : (2 : Rat) ^ (128 : Int) = 340282366920938463463374607431768211456 := by decide +kernel
        grind
    have h3 : mgv (2 * 0 + (0 * 0 != n).toNat) (E - 1) ≤ mgv 1 (E - 1) := mv_le.2 (by omega)
    rw [mv_one] at h3
    have h4 : (2 : Rat) ^ (E - 1) ≤ 2 ^ (65 : Int) := zp_le (by omega)
    have d : (2 : Rat) ^ (65 : Int) = 36893488147419103232 := by decide +kernel
    grind
  · have h3 : mgv (2 * w + (w * w != n).toNat) (E - 1) ≤ mgv (w * 2 ^ 2) (E - 1) := mv_le.2 (by omega)
    rw [mv_shift] at h3
    have e1 : E - 1 + ((2 : Nat) : Int) = E + 1 := by omega
    rw [e1] at h3
    have e2 : mgv w (E + 1) = 2 * mgv w E := by
      unfold mgv
      rw [zp_add]
      have : (2 : Rat) ^ (1 : Int) = 2 := by decide +kernel
      rw [this]; grind
    rw [e2] at h3
    grind

theorem fconvOk_nan {x : Nat} (h : isN .f64 x = true) : fconvOk .f64 .f32 x := by
  unfold fconvOk
  unfold isN at h
  cases hd : FloatKind.f64.decode x with
  | number s m e => rw [hd] at h; cases h
  | infinity s => trivial
  | nan s f => trivial

theorem fconvOk_cNaN : fconvOk .f64 .f32 (cNaN .f64) := fconvOk_nan (by decide)

/-- The root of a float32, in float64, is one that float32 can tell. -/
theorem sqrt_conv (y : Nat) : fconvOk .f64 .f32 (sqrtW (fcv .f32 .f64 y)) := by
  unfold sqrtW Ieee.Format.sqrt
  cases hx : FloatKind.f64.format.read (fcv .f32 .f64 y) with
  | nan s f => exact fconvOk_cNaN
  | infinity s =>
    cases s with
    | true => exact fconvOk_cNaN
    | false => exact fconvOk_of (by decide)
  | number s m i =>
    have hfl : isFl .f64 (fcv .f32 .f64 y) := ⟨s, m, i, hx⟩
    -- 'y' is a number
    have hy : isFl .f32 y := by
      cases hd : FloatKind.f32.decode y with
      | number s' m' e' => exact ⟨s', m', e', hd⟩
      | infinity s' =>
        exfalso
        have : fcv .f32 .f64 y = canon .f64 (FloatKind.f64.encode (.infinity s')) := by unfold fcv fconv; simp only [hd]
        rw [this] at hx
        have hr : ∀ s', FloatKind.f64.format.read (canon .f64 (FloatKind.f64.encode (.infinity s'))) = .infinity s' := by decide
        rw [hr] at hx; cases hx
      | nan s' f' =>
        exfalso
        have : fcv .f32 .f64 y = canon .f64 (cNaN .f64) := by unfold fcv fconv; simp only [hd]
        have hr : (FloatKind.f64.format.read (canon .f64 (cNaN .f64))).isNaN = true := by decide
        rw [this] at hx; rw [hx] at hr; cases hr
    obtain ⟨_, hv⟩ := fcv_up hy
    obtain ⟨b1, b2⟩ := f32_lt hy
    rw [← hv, fv_num (k := .f64) hx] at b1 b2
    have hmv : mgv m i < 340282366920938463463374607431768211456 := by
      rcases sg_cases s with ⟨_, hs⟩ | ⟨_, hs⟩ <;> rw [hs] at b1 b2 <;> grind
    by_cases hm : m = 0
    · subst hm
      simp only [Ieee.Datum.root, if_true, Option.map_some]
      have hz : FloatKind.f64.format.write (.number s 0 i) = FloatKind.f64.format.word s 0 := by
        show FloatKind.f64.format.nearest s 0 i = _
        rw [nearest_word]
        congr 1
      show fconvOk .f64 .f32 (canon .f64 (FloatKind.f64.format.write (.number s 0 i)))
      rw [hz]
      cases s <;> exact fconvOk_of (by decide)
    · cases s with
      | true =>
        have : Ieee.Datum.root (FloatKind.f64.format.fractionBits + 2) (.number true m i) = none := by simp [Ieee.Datum.root, hm]
        rw [this]; exact fconvOk_cNaN
      | false =>
        obtain ⟨M, p, e1, e2⟩ := root_val (FloatKind.f64.format.fractionBits + 2) m i hm hmv
        rw [e1]
        show fconvOk .f64 .f32 (canon .f64 (FloatKind.f64.format.nearest false M p))
        have hR := nearest_Rd .f64 false M p
        have hs1 : sg false * mgv M p = mgv M p := by simp [sg]
        rw [hs1] at hR
        have h0 := mv_nonneg M p
        have hB : isFl .f64 4899916394579099648 := finB_fl (by decide)
        have hBv : fv .f64 4899916394579099648 = 36893488147419103232 := by decide +kernel
        have hfz := hR.fin hB (by rw [hBv]; exact e2) (by rw [hBv]; grind)
        have hhi := hR.hi hfz hB (by rw [hBv]; exact e2)
        have hZ : isFl .f64 0 := (zero_fl .f64).1
        have hlo := hR.lo hfz hZ (by rw [(zero_fl .f64).2]; exact h0)
        rw [(zero_fl .f64).2] at hlo
        rw [hBv] at hhi
        have hC : isFl .f32 1610612736 := finB_fl (by decide)
        have hCv : fv .f32 1610612736 = 36893488147419103232 := by decide +kernel
        exact fconvOk_fin hfz ((fcv_down_Rd hfz).fin hC (by rw [hCv]; exact hhi) (by rw [hCv]; grind))

end Go.Sim
