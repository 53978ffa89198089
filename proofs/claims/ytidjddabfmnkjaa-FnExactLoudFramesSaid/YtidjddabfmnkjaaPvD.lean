/- Floats between floats: what sums, products, quotients of such lie between. Conditions: none. -/
import Derived.Test.YtidjddabfmnkjaaPvC
namespace Go.Sim
open Go

/-- 'x' is finite and lies between the finite floats 'l' and 'h'. -/
structure Iv (k : FloatKind) (x l h : Nat) : Prop where
  fx : isFl k x
  fl : isFl k l
  fh : isFl k h
  lo : fv k l ≤ fv k x
  hi : fv k x ≤ fv k h

def finB (k : FloatKind) (x : Nat) : Bool := match k.decode x with
  | .number _ _ _ => true
  | _ => false

theorem finB_fl {k : FloatKind} {x : Nat} (h : finB k x = true) : isFl k x := by
  unfold finB at h
  split at h
  · rename_i s m e hd; exact ⟨s, m, e, hd⟩
  · cases h

theorem Iv.self {k : FloatKind} {x : Nat} (h : finB k x = true) : Iv k x x x := ⟨finB_fl h, finB_fl h, finB_fl h, Rat.le_refl, Rat.le_refl⟩

theorem Rd.iv {k : FloatKind} {q : Rat} {z l h : Nat} (r : Rd k q z) (fl : isFl k l) (fh : isFl k h) (h1 : fv k l ≤ q) (h2 : q ≤ fv k h) : Iv k z l h := by
  have hz : isFl k z := by
    obtain ⟨sl, rl, hrl, vl⟩ := fin_rung fl
    obtain ⟨sh, rh, hrh, vh⟩ := fin_rung fh
    have p1 := rv_nonneg k.format rl
    have p2 := rv_nonneg k.format rh
    rcases Nat.le_total rl rh with hle | hle
    · obtain ⟨f1, f2⟩ := word_fin (k := k) (s := false) hrh
      have e1 : fv k (k.format.word false rh) = rgv k.format rh := by rw [f2]; simp [sg]
      have := (rv_le k.format).2 hle
      refine r.fin f1 ?_ ?_
      · rw [e1]; rcases sg_cases sh with ⟨_, e⟩ | ⟨_, e⟩ <;> rw [e] at vh <;> grind
      · rw [e1]; rcases sg_cases sl with ⟨_, e⟩ | ⟨_, e⟩ <;> rw [e] at vl <;> grind
    · obtain ⟨f1, f2⟩ := word_fin (k := k) (s := false) hrl
      have e1 : fv k (k.format.word false rl) = rgv k.format rl := by rw [f2]; simp [sg]
      have := (rv_le k.format).2 hle
      refine r.fin f1 ?_ ?_
      · rw [e1]; rcases sg_cases sh with ⟨_, e⟩ | ⟨_, e⟩ <;> rw [e] at vh <;> grind
      · rw [e1]; rcases sg_cases sl with ⟨_, e⟩ | ⟨_, e⟩ <;> rw [e] at vl <;> grind
  exact ⟨hz, fl, fh, r.lo hz fl h1, r.hi hz fh h2⟩

section
variable {k : FloatKind} {x y a b c d : Nat}

theorem Iv.weak (hx : Iv k x a b) (l h : Nat) (hc : (finB k l && finB k h && decide (fv k l ≤ fv k a) && decide (fv k b ≤ fv k h)) = true) : Iv k x l h := by
  simp only [Bool.and_eq_true, decide_eq_true_eq] at hc
  obtain ⟨⟨⟨h1, h2⟩, h3⟩, h4⟩ := hc
  exact ⟨hx.fx, finB_fl h1, finB_fl h2, Rat.le_trans h3 hx.lo, Rat.le_trans hx.hi h4⟩

def addB (k : FloatKind) (a b c d l h : Nat) : Bool := finB k l && finB k h && decide (fv k l ≤ fv k a + fv k c) && decide (fv k b + fv k d ≤ fv k h)

theorem Iv.add (hx : Iv k x a b) (hy : Iv k y c d) (l h : Nat) (hc : addB k a b c d l h = true) : Iv k (fop .add k x y) l h := by
  simp only [addB, Bool.and_eq_true, decide_eq_true_eq] at hc
  obtain ⟨⟨⟨h1, h2⟩, h3⟩, h4⟩ := hc
  have := hx.lo; have := hx.hi; have := hy.lo; have := hy.hi
  exact (add_Rd hx.fx hy.fx).iv (finB_fl h1) (finB_fl h2) (by grind) (by grind)

def subB (k : FloatKind) (a b c d l h : Nat) : Bool := finB k l && finB k h && decide (fv k l ≤ fv k a - fv k d) && decide (fv k b - fv k c ≤ fv k h)

theorem Iv.sub (hx : Iv k x a b) (hy : Iv k y c d) (l h : Nat) (hc : subB k a b c d l h = true) : Iv k (fop .sub k x y) l h := by
  simp only [subB, Bool.and_eq_true, decide_eq_true_eq] at hc
  obtain ⟨⟨⟨h1, h2⟩, h3⟩, h4⟩ := hc
  have := hx.lo; have := hx.hi; have := hy.lo; have := hy.hi
  exact (sub_Rd hx.fx hy.fx).iv (finB_fl h1) (finB_fl h2) (by grind) (by grind)

/-- A product lies between the corners'. -/
theorem mul_corners {x y a b c d l h : Rat} (xa : a ≤ x) (xb : x ≤ b) (yc : c ≤ y) (yd : y ≤ d) (l1 : l ≤ a * c) (l2 : l ≤ a * d) (l3 : l ≤ b * c) (l4 : l ≤ b * d) (h1 : a * c ≤ h) (h2 : a * d ≤ h) (h3 : b * c ≤ h) (h4 : b * d ≤ h) : l ≤ x * y ∧ x * y ≤ h := by
  -- first over 'y' at both ends of 'x'
  have seg : ∀ u : Rat, l ≤ u * c → l ≤ u * d → l ≤ u * y := by
    intro u p q
    rcases Rat.le_total (a := 0) (b := u) with hu | hu
    · have := Rat.mul_le_mul_of_nonneg_left yc hu; exact Rat.le_trans p this
    · have := Rat.mul_le_mul_of_nonneg_left yd (show 0 ≤ -u by grind)
      have e1 : -u * y = -(u * y) := by grind
      have e2 : -u * d = -(u * d) := by grind
      grind
  have seg' : ∀ u : Rat, u * c ≤ h → u * d ≤ h → u * y ≤ h := by
    intro u p q
    rcases Rat.le_total (a := 0) (b := u) with hu | hu
    · have := Rat.mul_le_mul_of_nonneg_left yd hu; exact Rat.le_trans this q
    · have := Rat.mul_le_mul_of_nonneg_left yc (show 0 ≤ -u by grind)
      have e1 : -u * y = -(u * y) := by grind
      have e2 : -u * c = -(u * c) := by grind
      grind
  have A := seg a l1 l2
  have B := seg b l3 l4
  have A' := seg' a h1 h2
  have B' := seg' b h3 h4
  rcases Rat.le_total (a := 0) (b := y) with hy | hy
  · have p := Rat.mul_le_mul_of_nonneg_right xa hy
    have q := Rat.mul_le_mul_of_nonneg_right xb hy
    exact ⟨Rat.le_trans A p, Rat.le_trans q B'⟩
  · have p := Rat.mul_le_mul_of_nonneg_right xa (show 0 ≤ -y by grind)
    have q := Rat.mul_le_mul_of_nonneg_right xb (show 0 ≤ -y by grind)
    have e1 : x * -y = -(x * y) := by grind
    have e2 : a * -y = -(a * y) := by grind
    have e3 : b * -y = -(b * y) := by grind
    constructor <;> grind

def mulB (k : FloatKind) (a b c d l h : Nat) : Bool := finB k l && finB k h &&
  decide (fv k l ≤ fv k a * fv k c) && decide (fv k l ≤ fv k a * fv k d) && decide (fv k l ≤ fv k b * fv k c) && decide (fv k l ≤ fv k b * fv k d) &&
  decide (fv k a * fv k c ≤ fv k h) && decide (fv k a * fv k d ≤ fv k h) && decide (fv k b * fv k c ≤ fv k h) && decide (fv k b * fv k d ≤ fv k h)

theorem Iv.mul (hx : Iv k x a b) (hy : Iv k y c d) (l h : Nat) (hc : mulB k a b c d l h = true) : Iv k (fop .mul k x y) l h := by
  simp only [mulB, Bool.and_eq_true, decide_eq_true_eq] at hc
  obtain ⟨⟨⟨⟨⟨⟨⟨⟨⟨f1, f2⟩, l1⟩, l2⟩, l3⟩, l4⟩, h1⟩, h2⟩, h3⟩, h4⟩ := hc
  obtain ⟨p, q⟩ := mul_corners hx.lo hx.hi hy.lo hy.hi l1 l2 l3 l4 h1 h2 h3 h4
  exact (mul_Rd hx.fx hy.fx).iv (finB_fl f1) (finB_fl f2) p q

/-- A square. -/
def sqB (k : FloatKind) (a b h : Nat) : Bool := finB k h && decide (fv k a * fv k a ≤ fv k h) && decide (fv k b * fv k b ≤ fv k h)

theorem zero_fl (k : FloatKind) : isFl k 0 ∧ fv k 0 = 0 := by
  cases k <;> exact ⟨⟨_, _, _, rfl⟩, by decide +kernel⟩

theorem sq_nonneg (u : Rat) : 0 ≤ u * u := by
  rcases Rat.le_total (a := 0) (b := u) with h | h
  · exact Rat.mul_nonneg h h
  · have := Rat.mul_nonneg (show 0 ≤ -u by grind) (show 0 ≤ -u by grind)
    have e : -u * -u = u * u := by grind
    grind

theorem Iv.sq (hx : Iv k x a b) (h : Nat) (hc : sqB k a b h = true) : Iv k (fop .mul k x x) 0 h := by
  simp only [sqB, Bool.and_eq_true, decide_eq_true_eq] at hc
  obtain ⟨⟨f2, h1⟩, h2⟩ := hc
  have lo := hx.lo; have hi := hx.hi
  refine (mul_Rd hx.fx hx.fx).iv (zero_fl k).1 (finB_fl f2) (by rw [(zero_fl k).2]; exact sq_nonneg _) ?_
  generalize fv k x = u at *
  generalize fv k a = p at *
  generalize fv k b = q at *
  rcases Rat.le_total (a := 0) (b := u) with hu | hu
  · have e1 := Rat.mul_le_mul_of_nonneg_left hi hu
    have e2 := Rat.mul_le_mul_of_nonneg_right hi (show 0 ≤ q by grind)
    grind
  · have e1 := Rat.mul_le_mul_of_nonneg_left (show -u ≤ -p by grind) (show 0 ≤ -u by grind)
    have e2 := Rat.mul_le_mul_of_nonneg_right (show -u ≤ -p by grind) (show 0 ≤ -p by grind)
    have e3 : -u * -u = u * u := by grind
    have e4 : -u * -p = u * p := by grind
    have e5 : -p * -p = p * p := by grind
    grind

def quoB (k : FloatKind) (a b c d l h : Nat) : Bool := finB k l && finB k h && decide (0 < fv k c) &&
  decide (fv k l * fv k c ≤ fv k a) && decide (fv k l * fv k d ≤ fv k a) && decide (fv k b ≤ fv k h * fv k c) && decide (fv k b ≤ fv k h * fv k d)

theorem Iv.quo (hx : Iv k x a b) (hy : Iv k y c d) (l h : Nat) (hc : quoB k a b c d l h = true) : Iv k (fop .quo k x y) l h := by
  simp only [quoB, Bool.and_eq_true, decide_eq_true_eq] at hc
  obtain ⟨⟨⟨⟨⟨⟨f1, f2⟩, cp⟩, l1⟩, l2⟩, h1⟩, h2⟩ := hc
  have yc := hy.lo; have yd := hy.hi; have xa := hx.lo; have xb := hx.hi
  have yp : 0 < fv k y := by grind
  have seg : fv k l * fv k y ≤ fv k x := by
    rcases Rat.le_total (a := 0) (b := fv k l) with hu | hu
    · have := Rat.mul_le_mul_of_nonneg_left yd hu; grind
    · have := Rat.mul_le_mul_of_nonneg_left yc (show 0 ≤ -fv k l by grind)
      have e1 : -fv k l * fv k y = -(fv k l * fv k y) := by grind
      have e2 : -fv k l * fv k c = -(fv k l * fv k c) := by grind
      grind
  have seg' : fv k x ≤ fv k h * fv k y := by
    rcases Rat.le_total (a := 0) (b := fv k h) with hu | hu
    · have := Rat.mul_le_mul_of_nonneg_left yc hu; grind
    · have := Rat.mul_le_mul_of_nonneg_left yd (show 0 ≤ -fv k h by grind)
      have e1 : -fv k h * fv k y = -(fv k h * fv k y) := by grind
      have e2 : -fv k h * fv k d = -(fv k h * fv k d) := by grind
      grind
  refine (quo_Rd hx.fx hy.fx (by grind)).iv (finB_fl f1) (finB_fl f2) ?_ ?_
  · rw [Rat.div_def]; exact (le_mul_div yp).1 seg
  · rw [Rat.div_def]; exact (mul_div_le yp).1 seg'
end

/-! ### Conversions -/

theorem Iv.up {x l h : Nat} (hx : Iv .f32 x l h) : Iv .f64 (fcv .f32 .f64 x) (fcv .f32 .f64 l) (fcv .f32 .f64 h) := by
  obtain ⟨a, b⟩ := fcv_up hx.fx
  obtain ⟨c, d⟩ := fcv_up hx.fl
  obtain ⟨e, f⟩ := fcv_up hx.fh
  exact ⟨a, c, e, by rw [b, d]; exact hx.lo, by rw [b, f]; exact hx.hi⟩

def downB (a b l h : Nat) : Bool := finB .f32 l && finB .f32 h && decide (fv .f32 l ≤ fv .f64 a) && decide (fv .f64 b ≤ fv .f32 h)

theorem Iv.down {x a b : Nat} (hx : Iv .f64 x a b) (l h : Nat) (hc : downB a b l h = true) : Iv .f32 (fcv .f64 .f32 x) l h ∧ fconvOk .f64 .f32 x := by
  simp only [downB, Bool.and_eq_true, decide_eq_true_eq] at hc
  obtain ⟨⟨⟨f1, f2⟩, l1⟩, h1⟩ := hc
  have h := (fcv_down_Rd hx.fx).iv (finB_fl f1) (finB_fl f2) (Rat.le_trans l1 hx.lo) (Rat.le_trans hx.hi h1)
  exact ⟨h, fconvOk_fin hx.fx h.fx⟩

theorem Iv.int (k : FloatKind) (n : Int) {a b : Int} (h1 : a ≤ n) (h2 : n ≤ b) (h3 : -16777216 ≤ a) (h4 : b ≤ 16777216) : Iv k (canon k (k.nearest n)) (canon k (k.nearest a)) (canon k (k.nearest b)) := by
  obtain ⟨x1, x2⟩ := int_exact (k := k) n (by omega)
  obtain ⟨y1, y2⟩ := int_exact (k := k) a (by omega)
  obtain ⟨z1, z2⟩ := int_exact (k := k) b (by omega)
  exact ⟨x1, y1, z1, by rw [x2, y2]; exact Rat.intCast_le_intCast.2 h1, by rw [x2, z2]; exact Rat.intCast_le_intCast.2 h2⟩

/-! ### Whole parts -/

theorem cutz (neg : Bool) (n d : Nat) : Ieee.Toward.zero.cut neg n d = n / 2 ^ d := by
  unfold Ieee.Toward.cut
  simp only [Bool.toNat_false, Nat.add_zero]
  rcases Nat.lt_or_ge (n.log2 + 2) d with h | h
  · have hlog : n < 2 ^ (n.log2 + 1) := Nat.lt_log2_self
    rw [Nat.min_eq_right (by omega), Nat.one_shiftLeft]
    have h1 : (2 : Nat) ^ (n.log2 + 1) ≤ 2 ^ (n.log2 + 2) := Nat.pow_le_pow_right (by omega) (by omega)
    have h2 : (2 : Nat) ^ (n.log2 + 1) ≤ 2 ^ d := Nat.pow_le_pow_right (by omega) (by omega)
    rw [Nat.div_eq_of_lt (by omega), Nat.div_eq_of_lt (by omega)]
  · rw [Nat.min_eq_left (by omega), Nat.one_shiftLeft]

/-- The whole number below 'm * 2 ^ e'. -/
theorem floor_val (m : Nat) (e : Int) : mgv ((m <<< e.toNat) / 2 ^ (-e).toNat) 0 ≤ mgv m e ∧ mgv m e < mgv ((m <<< e.toNat) / 2 ^ (-e).toNat + 1) 0 := by
  rw [Nat.shiftLeft_eq]
  rcases Int.le_total 0 e with h | h
  · have e1 : (-e).toNat = 0 := by omega
    have e2 : mgv m e = mgv (m * 2 ^ e.toNat) 0 := by rw [mv_shift]; congr 1; omega
    rw [e1, Nat.pow_zero, Nat.div_one, e2]
    exact ⟨Rat.le_refl, mv_lt.2 (by omega)⟩
  · have e1 : e.toNat = 0 := by omega
    rw [e1, Nat.pow_zero, Nat.mul_one]
    generalize hd : (-e).toNat = d
    have hp : 0 < 2 ^ d := Nat.two_pow_pos _
    have e3 : ∀ j : Nat, mgv j 0 = mgv (j * 2 ^ d) e := by intro j; rw [mv_shift]; congr 1; omega
    rw [e3, e3]
    have := Nat.div_add_mod m (2 ^ d)
    have hm := Nat.mod_lt m hp
    constructor
    · exact mv_le.2 (Nat.div_mul_le_self _ _)
    · refine mv_lt.2 ?_
      rw [Nat.succ_mul, Nat.mul_comm]; omega

theorem mv_zero (n : Nat) : mgv n 0 = (n : Rat) := by unfold mgv; simp

/-- 'int64(x)' of a float that is not below nothing and not too great. -/
theorem f2i_val {k : FloatKind} {x : Nat} (hx : isFl k x) (h0 : 0 ≤ fv k x) {N : Nat} (hN : fv k x < (N : Rat)) (hb : N ≤ 9223372036854775807) : ∃ n : Nat, f2i k x .i64 = some (n : Int) ∧ (n : Rat) ≤ fv k x ∧ fv k x < ((n + 1 : Nat) : Rat) ∧ n < N := by
  obtain ⟨s, m, e, hd⟩ := hx
  obtain ⟨h1, h2⟩ := floor_val m e
  rw [mv_zero] at h1 h2
  have hv := fv_num hd
  have hm := mv_nonneg m e
  have key : fv k x = mgv m e ∧ Ieee.signed s ((m <<< e.toNat) / 2 ^ (-e).toNat) 0 = (((m <<< e.toNat) / 2 ^ (-e).toNat : Nat) : Int) := by
    cases s with
    | false => exact ⟨by rw [hv]; simp [sg], by simp [Ieee.signed]⟩
    | true =>
      have e0 : mgv m e = 0 := by rw [hv] at h0; simp only [sg, if_true] at h0; grind
      have n0 : (m <<< e.toNat) / 2 ^ (-e).toNat = 0 := by
        rcases Nat.eq_zero_or_pos ((m <<< e.toNat) / 2 ^ (-e).toNat) with h | h
        · exact h
        · have : (0 : Rat) < (((m <<< e.toNat) / 2 ^ (-e).toNat : Nat) : Rat) := Rat.natCast_pos.2 h
          grind
      refine ⟨by rw [hv, e0]; simp, ?_⟩
      rw [n0]; rfl
  generalize hn : (m <<< e.toNat) / 2 ^ (-e).toNat = n at *
  have hlt : n < N := Rat.natCast_lt_natCast.1 (by rw [key.1] at hN; grind)
  refine ⟨n, ?_, by rw [key.1]; exact h1, by rw [key.1]; exact h2, hlt⟩
  unfold f2i floatToIntVal
  rw [hd]
  have : (Ieee.Datum.number s m e).toInt .zero = some (n : Int) := by
    unfold Ieee.Datum.toInt Ieee.Datum.integral
    simp only [cutz, hn, key.2]
  rw [this]
  simp only
  rw [if_pos]
  constructor
  · have : (IntKind.min .i64 : Int) = -9223372036854775808 := by decide
    rw [this]; omega
  · have : (IntKind.max .i64 : Int) = 9223372036854775807 := by decide
    rw [this]; omega

end Go.Sim
