/- Absolute values of float32, there and back by float64. Conditions: none. -/
import Derived.Test.YtgjdkhocnnoimaaPvE
import Derived.Test.YtgjdkhocnnoimaaPu3
namespace Go.Sim
open Go

def mOf (f : Ieee.Format) (r : Nat) : Nat := if r < f.binade then r else f.binade + r % f.binade
def eOf (f : Ieee.Format) (r : Nat) : Int := if r < f.binade then f.leastPlace else f.leastPlace + (r / f.binade - 1 : Nat)

theorem read_word' {f : Ieee.Format} (s : Bool) {r : Nat} (h : r < f.infRung) : f.read (f.word s r) = .number s (mOf f r) (eOf f r) ∧ mgv (mOf f r) (eOf f r) = rgv f r := by
  obtain ⟨h1, h2⟩ := word_mod f s (Nat.le_of_lt h)
  unfold Ieee.Format.read mOf eOf rgv
  simp only [h1, h2]
  split
  · exact ⟨rfl, rfl⟩
  · exact ⟨rfl, rfl⟩

/-- A word that is no not-a-number is a sign and a rung. -/
theorem word_of_notN {k : FloatKind} {x : Nat} (hx : okW k x) (hn : isN k x = false) : ∃ s r, r ≤ k.format.infRung ∧ x = k.format.word s r := by
  have two : 2 ^ k.format.width = 2 * k.format.signWeight := by cases k <;> decide
  have hp : 0 < k.format.signWeight := by cases k <;> decide
  have hr : x % k.format.signWeight ≤ k.format.infRung := by
    rcases Nat.lt_or_ge k.format.infRung (x % k.format.signWeight) with h | h
    · exfalso
      have hb := bin_inf k
      unfold isN FloatKind.decode Ieee.Format.read at hn
      simp only at hn
      rw [if_neg (by omega), if_neg (by omega), if_neg (by omega)] at hn
      cases hn
    · exact h
  have hd := Nat.div_add_mod x k.format.signWeight
  have hq : x / k.format.signWeight < 2 := (Nat.div_lt_iff_lt_mul hp).2 (by unfold okW at hx; omega)
  generalize x / k.format.signWeight = q at hd hq
  rcases (by omega : q = 0 ∨ q = 1) with h | h
  · rw [h] at hd
    exact ⟨false, _, hr, by unfold Ieee.Format.word; simp; omega⟩
  · rw [h] at hd
    exact ⟨true, _, hr, by unfold Ieee.Format.word; simp; omega⟩

theorem rgv_pos {f : Ieee.Format} {r : Nat} (h : 0 < r) : 0 < rgv f r := by
  have := rv_lt f h; rw [rv_zero] at this; exact this

/-- A number that a rung has is written as that rung. -/
theorem Rd.rung {k : FloatKind} {q : Rat} {z : Nat} (h : Rd k q z) {r : Nat} (hr : r < k.format.infRung) (hp : 0 < r) (e : q = rgv k.format r) : z = k.format.word false r := by
  obtain ⟨s, t, a, rfl, ha, hq, ht, hup, hlo, _⟩ := h
  have := rgv_pos (f := k.format) hp
  rcases sg_cases s with ⟨rfl, es⟩ | ⟨rfl, es⟩ <;> rw [es] at hq
  · have e1 : a = rgv k.format r := by grind
    have := hup r (Nat.le_of_lt hr) (by rw [e1]; exact Rat.le_refl)
    have := hlo r (Nat.le_of_lt hr) (by rw [e1]; exact Rat.le_refl)
    have : t = r := by omega
    rw [this]
  · grind

theorem up_word (_s : Bool) {r : Nat} (h : r < FloatKind.f32.format.infRung) : ∃ R, R < FloatKind.f64.format.infRung ∧ (∀ s, fcv .f32 .f64 (FloatKind.f32.format.word s r) = FloatKind.f64.format.word s R) ∧ rgv FloatKind.f64.format R = rgv FloatKind.f32.format r := by
  have key : ∀ s, fcv .f32 .f64 (FloatKind.f32.format.word s r) = FloatKind.f64.format.word s (rungOf FloatKind.f64.format (mOf FloatKind.f32.format r) (eOf FloatKind.f32.format r)) := by
    intro s
    have : fcv .f32 .f64 (FloatKind.f32.format.word s r) = canon .f64 (FloatKind.f64.format.nearest s (mOf FloatKind.f32.format r) (eOf FloatKind.f32.format r)) := by
      unfold fcv fconv
      have h1 : FloatKind.f32.decode (FloatKind.f32.format.word s r) = .number s (mOf FloatKind.f32.format r) (eOf FloatKind.f32.format r) := (read_word' s h).1
      simp only [h1]; rfl
    rw [this, nearest_word, word_canon (rungOf_spec _ _ _).inf]
  have hf := (word_fin (k := .f32) (s := false) h).1
  obtain ⟨f1, f2⟩ := fcv_up hf
  rw [key false] at f1 f2
  have hR := read_fin f1
  have hle := (rungOf_spec FloatKind.f64.format (mOf FloatKind.f32.format r) (eOf FloatKind.f32.format r)).inf
  rw [(word_mod FloatKind.f64.format false hle).1] at hR
  refine ⟨_, hR, key, ?_⟩
  rw [(word_fin hR).2, (word_fin h).2] at f2
  simpa [sg] using f2

theorem down_word {R r : Nat} (hR : R < FloatKind.f64.format.infRung) (hr : r < FloatKind.f32.format.infRung) (e : rgv FloatKind.f64.format R = rgv FloatKind.f32.format r) :
    fcv .f64 .f32 (FloatKind.f64.format.word false R) = FloatKind.f32.format.word false r := by
  obtain ⟨f1, f2⟩ := word_fin (k := .f64) (s := false) hR
  have f3 : fv .f64 (FloatKind.f64.format.word false R) = rgv FloatKind.f32.format r := by rw [f2, e]; simp [sg]
  rcases Nat.eq_zero_or_pos r with h | h
  · subst h
    have : R = 0 := by
      rcases Nat.eq_zero_or_pos R with h | h
      · exact h
      · have := rgv_pos (f := FloatKind.f64.format) h
        rw [e, rv_zero] at this; grind
    subst this; decide
  · have hd := fcv_down_Rd f1
    rw [f3] at hd
    exact hd.rung hr h rfl

theorem andnot63 (y : Nat) (h : y < 18446744073709551616) : (Int.toNat (IntKind.wrap .u64 ((BitVec.ofInt (IntKind.bits .u64) ((y : Nat) : Int) &&& ~~~BitVec.ofInt (IntKind.bits .u64) (9223372036854775808 : Int)).toNat : Int))) = y % 9223372036854775808 := by
  have e1 : (BitVec.ofInt (IntKind.bits .u64) ((y : Nat) : Int) &&& ~~~BitVec.ofInt (IntKind.bits .u64) (9223372036854775808 : Int)).toNat = y % 9223372036854775808 := by
    rw [BitVec.toNat_and]
    have a : (BitVec.ofInt (IntKind.bits .u64) ((y : Nat) : Int)).toNat = y := by
      show (BitVec.ofInt 64 ((y : Nat) : Int)).toNat = y
      rw [BitVec.ofInt_natCast, BitVec.toNat_ofNat]
      exact Nat.mod_eq_of_lt h
    have b : (~~~BitVec.ofInt (IntKind.bits .u64) (9223372036854775808 : Int)).toNat = 2 ^ 63 - 1 := by decide
    rw [a, b, Nat.and_two_pow_sub_one_eq_mod]
  rw [e1]
  have hm : y % 9223372036854775808 < 9223372036854775808 := Nat.mod_lt _ (by omega)
  simp [IntKind.wrap, IntKind.signed, IntKind.bits]
  omega

/-- What 'float32(math.Abs(float64(x)))' gives. -/
def absI (x : Nat) : Nat := fcv .f64 .f32 (canon .f64 (Int.toNat (IntKind.wrap .u64 ((BitVec.ofInt (IntKind.bits .u64) (((fcv .f32 .f64 x) : Nat) : Int) &&& ~~~BitVec.ofInt (IntKind.bits .u64) (9223372036854775808 : Int)).toNat : Int))))

/-- The absolute value. -/
def absW (x : Nat) : Nat := x % 2147483648

theorem sw32 : FloatKind.f32.format.signWeight = 2147483648 := by decide
theorem sw64 : FloatKind.f64.format.signWeight = 9223372036854775808 := by decide

theorem word_lt64 (s : Bool) {R : Nat} (h : R ≤ FloatKind.f64.format.infRung) : FloatKind.f64.format.word s R < 18446744073709551616 :=
  FloatKind.f64.format.word_lt s (Nat.lt_of_le_of_lt h FloatKind.f64.format.infRung_lt)

theorem abs_both {x : Nat} (hx : w32 x) (hn : isN .f32 x = false) : absI x = absW x ∧ fconvOk .f64 .f32 (canon .f64 (Int.toNat (IntKind.wrap .u64 ((BitVec.ofInt (IntKind.bits .u64) (((fcv .f32 .f64 x) : Nat) : Int) &&& ~~~BitVec.ofInt (IntKind.bits .u64) (9223372036854775808 : Int)).toNat : Int)))) ∧
    (Int.toNat (IntKind.wrap .u64 ((BitVec.ofInt (IntKind.bits .u64) (((fcv .f32 .f64 x) : Nat) : Int) &&& ~~~BitVec.ofInt (IntKind.bits .u64) (9223372036854775808 : Int)).toNat : Int))) < 2 ^ 64 ∧
    (if fcmp .leq .f32 x 0 = true then fop .sub .f32 0 x else x) = absW x := by
  obtain ⟨s, r, hr, rfl⟩ := word_of_notN (k := .f32) hx.1 hn
  have hmod : absW (FloatKind.f32.format.word s r) = FloatKind.f32.format.word false r := by
    unfold absW
    rw [← sw32, (word_mod FloatKind.f32.format s hr).1]
    simp [Ieee.Format.word]
  rcases Nat.lt_or_ge r FloatKind.f32.format.infRung with h | h
  · obtain ⟨R, hR, hup, hv⟩ := up_word s h
    have hR' := Nat.le_of_lt hR
    unfold absI
    rw [hup, andnot63 _ (word_lt64 s hR'), ← sw64, (word_mod FloatKind.f64.format s hR').1]
    have hw : R = FloatKind.f64.format.word false R := by simp [Ieee.Format.word]
    have hc : canon .f64 R = FloatKind.f64.format.word false R := by
      conv => lhs; rw [hw]
      exact word_canon hR'
    rw [hc, hmod]
    have hd := down_word hR h hv
    refine ⟨hd, ?_, ?_, ?_⟩
    · refine fconvOk_fin (word_fin hR).1 ?_
      rw [hd]; exact (word_fin h).1
    · have := FloatKind.f64.format.infRung_lt
      have h64 : FloatKind.f64.format.signWeight < 2 ^ 64 := by decide
      omega
    · obtain ⟨f1, f2⟩ := word_fin (k := .f32) (s := s) h
      rcases Nat.eq_zero_or_pos r with h0 | h0
      · subst h0
        cases s <;> decide
      · have p := rgv_pos (f := FloatKind.f32.format) h0
        have z := zero_fl .f32
        cases s with
        | true =>
          have : fcmp .leq .f32 (FloatKind.f32.format.word true r) 0 = true := by
            rw [leq_iff f1 z.1, f2, z.2]; simp only [sg, if_true]; grind
          rw [if_pos this]
          have hs := sub_Rd z.1 f1
          refine hs.rung h h0 ?_
          rw [f2, z.2]; simp only [sg, if_true]; grind
        | false =>
          have : ¬ fcmp .leq .f32 (FloatKind.f32.format.word false r) 0 = true := by
            rw [leq_iff f1 z.1, f2, z.2]; simp only [sg, Bool.false_eq_true, if_false]; grind
          rw [if_neg this]
  · have : r = FloatKind.f32.format.infRung := by omega
    subst this
    rw [hmod]
    cases s <;> exact ⟨by decide, fconvOk_of (by decide), by decide, by decide⟩

theorem absW_fin {x : Nat} (hx : w32 x) (h : isFl .f32 x) : isFl .f32 (absW x) ∧ 0 ≤ fv .f32 (absW x) ∧ (fv .f32 (absW x) = fv .f32 x ∨ fv .f32 (absW x) = - fv .f32 x) := by
  obtain ⟨s, r, hr, rfl⟩ := word_of_notN (k := .f32) hx.1 (isF_notN h)
  have hr' : r < FloatKind.f32.format.infRung := by
    have := read_fin h; rw [(word_mod FloatKind.f32.format s hr).1] at this; exact this
  have hmod : absW (FloatKind.f32.format.word s r) = FloatKind.f32.format.word false r := by
    unfold absW
    rw [← sw32, (word_mod FloatKind.f32.format s hr).1]
    simp [Ieee.Format.word]
  rw [hmod]
  obtain ⟨a, b⟩ := word_fin (k := .f32) (s := false) hr'
  obtain ⟨_, d⟩ := word_fin (k := .f32) (s := s) hr'
  have p := rv_nonneg FloatKind.f32.format r
  rw [b, d]
  refine ⟨a, by simp [sg]; exact p, ?_⟩
  cases s
  · left; rfl
  · right; simp only [sg, Bool.false_eq_true, if_false, if_true]; grind

/-! ### The code of a number -/

/-- min(1, |x|) -/
def codeA (x : Nat) : Nat := fminmax false .f32 1065353216 (absW x)
def codeY (x : Nat) : Nat := fop .mul .f32 1123942400 (fop .quo .f32 (fcv .f64 .f32 (logW (fcv .f32 .f64 (fop .add .f32 1065353216 (fop .mul .f32 1132396544 (codeA x)))))) 1085370904)
/-- How far the code of 'x' is from 128. -/
@[irreducible] def codeK (x : Nat) : Int := Option.getD (f2i .f64 (wholeW .even (fcv .f32 .f64 (codeY x))) .i64) 0

theorem fmin_iv {k : FloatKind} {x y l h : Nat} (hx : Iv k x l h) (hy : isFl k y) (hl : fv k l ≤ fv k y) : Iv k (fminmax false k x y) l h := by
  unfold fminmax
  rcases order_val hx.fx hy with ⟨a, b⟩ | ⟨a, b⟩ | ⟨a, b⟩ <;> rw [a] <;> simp only [cond_false]
  · exact hx
  · split
    · exact hx
    · exact ⟨hy, hx.fl, hx.fh, hl, by have := hx.hi; grind⟩
  · exact ⟨hy, hx.fl, hx.fh, hl, by have := hx.hi; grind⟩

theorem codeA_iv {x : Nat} (hx : w32 x) (h : isFl .f32 x) : Iv .f32 (codeA x) 0 1065353216 := by
  obtain ⟨a, b, _⟩ := absW_fin hx h
  have h1 : Iv .f32 1065353216 0 1065353216 := (Iv.self (k := .f32) (x := 1065353216) (by decide +kernel)).weak _ _ (by decide +kernel)
  exact fmin_iv h1 a (by rw [(zero_fl .f32).2]; exact b)

theorem codeV_iv {x : Nat} (hx : w32 x) (h : isFl .f32 x) : Iv .f32 (fop .add .f32 1065353216 (fop .mul .f32 1132396544 (codeA x))) 1065353216 1132462080 := by
  have h0 := codeA_iv hx h
  have h1 : Iv .f32 (fop .mul .f32 1132396544 (codeA x)) 0 1132396544 := (Iv.self (k := .f32) (x := 1132396544) (by decide +kernel)).mul h0 _ _ (by decide +kernel)
  exact (Iv.self (k := .f32) (x := 1065353216) (by decide +kernel)).add h1 _ _ (by decide +kernel)

theorem codeV_up {x : Nat} (hx : w32 x) (h : isFl .f32 x) : Iv .f64 (fcv .f32 .f64 (fop .add .f32 1065353216 (fop .mul .f32 1132396544 (codeA x)))) 4607182418800017408 4643211215818981376 := by
  have := (codeV_iv hx h).up
  have e1 : fcv .f32 .f64 1065353216 = 4607182418800017408 := by decide
  have e2 : fcv .f32 .f64 1132462080 = 4643211215818981376 := by decide
  rw [e1, e2] at this; exact this

theorem codeL_iv {x : Nat} (hx : w32 x) (h : isFl .f32 x) : Iv .f32 (fcv .f64 .f32 (logW (fcv .f32 .f64 (fop .add .f32 1065353216 (fop .mul .f32 1132396544 (codeA x)))))) 0 1085370904 ∧ fconvOk .f64 .f32 (logW (fcv .f32 .f64 (fop .add .f32 1065353216 (fop .mul .f32 1132396544 (codeA x))))) :=
  (log_iv (codeV_up hx h)).down _ _ (by decide +kernel)

theorem codeY_iv {x : Nat} (hx : w32 x) (h : isFl .f32 x) : Iv .f32 (codeY x) 0 1123942400 := by
  have h1 := (codeL_iv hx h).1
  have h2 : Iv .f32 (fop .quo .f32 (fcv .f64 .f32 (logW (fcv .f32 .f64 (fop .add .f32 1065353216 (fop .mul .f32 1132396544 (codeA x)))))) 1085370904) 0 1065353216 := h1.quo (Iv.self (k := .f32) (x := 1085370904) (by decide +kernel)) _ _ (by decide +kernel)
  exact (Iv.self (k := .f32) (x := 1123942400) (by decide +kernel)).mul h2 _ _ (by decide +kernel)

theorem codeK_spec {x : Nat} (hx : w32 x) (h : isFl .f32 x) : (f2i .f64 (wholeW .even (fcv .f32 .f64 (codeY x))) .i64).isSome = true ∧ 0 ≤ codeK x ∧ codeK x ≤ 127 := by
  have h1 := (codeY_iv hx h).up
  have e0 : fcv .f32 .f64 0 = 0 := by decide
  have e1 : fcv .f32 .f64 1123942400 = canon .f64 (FloatKind.nearest .f64 ((127 : Nat) : Int)) := by decide
  rw [e0, e1] at h1
  obtain ⟨n, h2, h3⟩ := whole_even_int h1 (by omega)
  unfold codeK
  rw [h3]
  exact ⟨rfl, by simp, by simp; omega⟩

/-- The code. -/
def codeOfF (x : Nat) : Int := if fcmp .lss .f32 x 0 = true then 128 - codeK x else 128 + codeK x

theorem codeOfF_range {x : Nat} (hx : w32 x) (h : fin32 x = true) : 1 ≤ codeOfF x ∧ codeOfF x ≤ 255 := by
  have := codeK_spec hx (fin32_isF.1 h)
  unfold codeOfF; split <;> omega

theorem up256 {x : Nat} (hv : Iv .f32 x 1065353216 1132462080) : Iv .f64 (fcv .f32 .f64 x) 4607182418800017408 4643211215818981376 := by
  have := hv.up
  have e1 : fcv .f32 .f64 1065353216 = 4607182418800017408 := by decide
  have e2 : fcv .f32 .f64 1132462080 = 4643211215818981376 := by decide
  rw [e1, e2] at this; exact this

theorem wrapu64_lt (n : Int) : Int.toNat (IntKind.wrap .u64 n) < 2 ^ 64 := by
  simp [IntKind.wrap, IntKind.signed, IntKind.bits]; omega

theorem codeK_raw {x : Nat} (hx : w32 x) (h : fin32 x = true) : 0 ≤ Option.getD (f2i .f64 (wholeW .even (fcv .f32 .f64 (fop .mul .f32 1123942400 (fop .quo .f32 (fcv .f64 .f32 (logW (fcv .f32 .f64 (fop .add .f32 1065353216 (fop .mul .f32 1132396544 (fminmax false .f32 1065353216 (absW x))))))) 1085370904)))) .i64) 0 ∧
    Option.getD (f2i .f64 (wholeW .even (fcv .f32 .f64 (fop .mul .f32 1123942400 (fop .quo .f32 (fcv .f64 .f32 (logW (fcv .f32 .f64 (fop .add .f32 1065353216 (fop .mul .f32 1132396544 (fminmax false .f32 1065353216 (absW x))))))) 1085370904)))) .i64) 0 ≤ 127 := by
  have := (codeK_spec hx (fin32_isF.1 h)).2
  unfold codeK at this
  exact this

theorem codeK_eq (x : Nat) : codeK x = Option.getD (f2i .f64 (wholeW .even (fcv .f32 .f64 (fop .mul .f32 1123942400 (fop .quo .f32 (fcv .f64 .f32 (logW (fcv .f32 .f64 (fop .add .f32 1065353216 (fop .mul .f32 1132396544 (fminmax false .f32 1065353216 (absW x))))))) 1085370904)))) .i64) 0 := by
  unfold codeK; rfl

theorem codeOf_t {x : Nat} (h : fcmp .lss .f32 x 0 = true) : ((128 : Int) - (Option.getD (f2i .f64 (wholeW .even (fcv .f32 .f64 (fop .mul .f32 1123942400 (fop .quo .f32 (fcv .f64 .f32 (logW (fcv .f32 .f64 (fop .add .f32 1065353216 (fop .mul .f32 1132396544 (fminmax false .f32 1065353216 (absW x))))))) 1085370904)))) .i64) 0)) = codeOfF x := by
  unfold codeOfF; rw [if_pos h, codeK_eq]

theorem codeOf_f {x : Nat} (h : fcmp .lss .f32 x 0 = false) : ((128 : Int) + (Option.getD (f2i .f64 (wholeW .even (fcv .f32 .f64 (fop .mul .f32 1123942400 (fop .quo .f32 (fcv .f64 .f32 (logW (fcv .f32 .f64 (fop .add .f32 1065353216 (fop .mul .f32 1132396544 (fminmax false .f32 1065353216 (absW x))))))) 1085370904)))) .i64) 0)) = codeOfF x := by
  unfold codeOfF; rw [if_neg (by rw [h]; decide), codeK_eq]

theorem isSnd_get {xs : List Nat} (h : isSnd xs = true) {k : Nat} (hk : k < xs.length) : fin32 (xs.getD k 0) = true := by
  simp only [isSnd, Bool.and_eq_true] at h
  exact allBelow_true.1 h.2 k hk

end Go.Sim
