/- Quotients up to one, numbers cut down, places of stretched sounds. Conditions: none. -/
import Derived.Test.YtgjdkhocnnoimaaPvE
namespace Go.Sim
open Go

theorem quo_le_one {k : FloatKind} {a b : Int} (h0 : 0 ≤ a) (hab : a ≤ b) (hb : 0 < b) (hb2 : b ≤ 16777216) :
    isFl k (fop .quo k (canon k (k.nearest a)) (canon k (k.nearest b))) ∧ 0 ≤ fv k (fop .quo k (canon k (k.nearest a)) (canon k (k.nearest b))) ∧ fv k (fop .quo k (canon k (k.nearest a)) (canon k (k.nearest b))) ≤ 1 := by
  obtain ⟨a1, a2⟩ := int_exact (k := k) a (by omega)
  obtain ⟨b1, b2⟩ := int_exact (k := k) b (by omega)
  have hbr : (0 : Rat) < (b : Rat) := Rat.intCast_pos.2 hb
  have har : (0 : Rat) ≤ (a : Rat) := Rat.intCast_nonneg.2 h0
  have z := zero_fl k
  obtain ⟨o1, o2⟩ := int_exact (k := k) 1 (by decide)
  have hq := quo_Rd a1 b1 (by rw [b2]; grind)
  have := hq.iv z.1 o1 (by
    rw [z.2, a2, b2, Rat.div_def]
    exact (le_mul_div hbr).1 (by grind)) (by
    rw [o2, a2, b2, Rat.div_def]
    refine (mul_div_le hbr).1 ?_
    have : (a : Rat) ≤ (b : Rat) := Rat.intCast_le_intCast.2 hab
    have e : ((1 : Int) : Rat) = 1 := rfl
    grind)
  have l := this.lo; have h := this.hi
  rw [z.2] at l; rw [o2] at h
  exact ⟨this.fx, l, h⟩

/-- The place in a sound of 'n' numbers that number 'k' of 'c' is taken from. -/
def strP (n : Nat) (c : Int) (k : Nat) : Nat := fop .mul .f32 (fop .quo .f32 (canon .f32 (FloatKind.nearest .f32 ((k : Nat) : Int))) (canon .f32 (FloatKind.nearest .f32 (c - (1 : Int))))) (canon .f32 (FloatKind.nearest .f32 (((n : Nat) : Int) - (1 : Int))))

theorem strP_spec {n k : Nat} {c : Int} (hk : ((k : Nat) : Int) < c) (hc : 2 ≤ c) (hc2 : c ≤ 256) (hn : 2 ≤ n) (hn2 : n ≤ 256) :
    isFl .f32 (strP n c k) ∧ 0 ≤ fv .f32 (strP n c k) ∧ fv .f32 (strP n c k) ≤ ((((n : Nat) : Int) - 1 : Int) : Rat) := by
  obtain ⟨q1, q2, q3⟩ := quo_le_one (k := .f32) (a := ((k : Nat) : Int)) (b := c - 1) (by omega) (by omega) (by omega) (by omega)
  obtain ⟨m1, m2⟩ := int_exact (k := .f32) (((n : Nat) : Int) - 1) (by omega)
  have z := zero_fl .f32
  have hm : (0 : Rat) ≤ ((((n : Nat) : Int) - 1 : Int) : Rat) := Rat.intCast_nonneg.2 (by omega)
  have := (mul_Rd q1 m1).iv z.1 m1 (by rw [z.2, m2]; exact Rat.mul_nonneg q2 hm) (by
    rw [m2]
    have := Rat.mul_le_mul_of_nonneg_right q3 hm
    grind)
  have l := this.lo; have h := this.hi
  rw [z.2] at l; rw [m2] at h
  exact ⟨this.fx, l, h⟩

/-- 'int(math.Floor(float64(x)))' is 'int64(x)' for what is not below nothing. -/
theorem floor_conv {x : Nat} (h : isFl .f32 x) (h0 : 0 ≤ fv .f32 x) {N : Nat} (hN : fv .f32 x < (N : Rat)) (hb : N ≤ 16777216) : ∃ n : Nat, n < N ∧ f2i .f32 x .i64 = some (n : Int) ∧ f2i .f64 (wholeW .down (fcv .f32 .f64 x)) .i64 = some (n : Int) := by
  obtain ⟨n, a1, a2, a3, a4⟩ := f2i_val h h0 hN (by omega)
  refine ⟨n, a4, a1, ?_⟩
  obtain ⟨u1, u2⟩ := fcv_up h
  generalize fcv .f32 .f64 x = y at *
  obtain ⟨s, m, e, hd⟩ := u1
  have hv := fv_num hd
  have hm := mv_nonneg m e
  obtain ⟨f1, f2⟩ := floor_val m e
  rw [mv_zero] at f1 f2
  have hcut : ∀ s, mgv m e = 0 ∨ s = false → Ieee.Toward.down.cut s (m <<< e.toNat) (-e).toNat = (m <<< e.toNat) / 2 ^ (-e).toNat := by
    intro s hs
    have hz := cutz s (m <<< e.toNat) (-e).toNat
    rw [← hz]
    unfold Ieee.Toward.cut
    rcases hs with hs | hs
    · have m0 : m = 0 := by
        rcases Nat.eq_zero_or_pos m with h | h
        · exact h
        · have h2 : mgv 0 e < mgv m e := mv_lt.2 h
          have h3 : mgv 0 e = 0 := by unfold mgv; simp
          grind
      subst m0; simp
    · subst hs; simp
  have key : mgv m e = fv .f32 x ∧ (mgv m e = 0 ∨ s = false) := by
    rw [← u2, hv]
    rw [← u2, hv] at h0
    cases s with
    | false => exact ⟨by simp [sg], .inr rfl⟩
    | true =>
      simp only [sg, if_true] at h0 ⊢
      exact ⟨by grind, .inl (by grind)⟩
  have hc := hcut s key.2
  rw [key.1] at f1 f2
  have hn : (m <<< e.toNat) / 2 ^ (-e).toNat = n := by
    have b1 : ((m <<< e.toNat) / 2 ^ (-e).toNat) < n + 1 := Rat.natCast_lt_natCast.1 (by grind)
    have b2 : n < (m <<< e.toNat) / 2 ^ (-e).toNat + 1 := Rat.natCast_lt_natCast.1 (by grind)
    omega
  rw [hn] at hc
  have hw : Rd .f64 (sg s * mgv n 0) (wholeW .down y) := by
    have : wholeW .down y = canon .f64 (FloatKind.f64.format.nearest s n 0) := by
      unfold wholeW
      rw [hd]
      show canon .f64 (FloatKind.f64.format.write (.number s (Ieee.Toward.down.cut s (m <<< e.toNat) (-e).toNat) 0)) = _
      rw [hc]; rfl
    rw [this]
    exact nearest_Rd .f64 s n 0
  have hbv : mgv 16777216 0 ≤ fv .f64 9218868437227405311 := by decide +kernel
  obtain ⟨w, hw1, hw2⟩ := rep_fin (k := .f64) (m := n) (e := 0) (by have : 16777216 ≤ 2 * FloatKind.f64.format.binade := by decide
                                                                    omega) (by decide) big64 (Rat.le_trans (mv_le.2 (by omega)) hbv) s
  obtain ⟨x1, x2⟩ := hw.exact hw1 hw2.symm
  have v : fv .f64 (wholeW .down y) = (n : Rat) := by
    rw [x2, mv_zero]
    rcases key.2 with h | h
    · have : n = 0 := by
        rw [key.1] at h
        have : (n : Rat) ≤ 0 := by grind
        have := Rat.natCast_le_natCast.1 (show (n : Rat) ≤ ((0 : Nat) : Rat) by exact this)
        omega
      subst this
      have : ((0 : Nat) : Rat) = 0 := rfl
      grind
    · subst h; simp [sg]
  obtain ⟨j, j1, j2, j3, _⟩ := f2i_val x1 (by rw [v]; exact Rat.natCast_nonneg) (N := n + 1) (by rw [v]; exact Rat.natCast_lt_natCast.2 (by omega)) (by omega)
  rw [v] at j2 j3
  have := Rat.natCast_le_natCast.1 j2
  have := Rat.natCast_lt_natCast.1 j3
  have : j = n := by omega
  rw [j1, this]

def strI (n : Nat) (c : Int) (k : Nat) : Int := Option.getD (f2i .f32 (strP n c k) .i64) 0

theorem strI_spec {n k : Nat} {c : Int} (hk : ((k : Nat) : Int) < c) (hc : 2 ≤ c) (hc2 : c ≤ 256) (hn : 2 ≤ n) (hn2 : n ≤ 256) :
    (f2i .f32 (strP n c k) .i64).isSome = true ∧ (f2i .f64 (wholeW .down (fcv .f32 .f64 (strP n c k))) .i64).isSome = true ∧ Option.getD (f2i .f64 (wholeW .down (fcv .f32 .f64 (strP n c k))) .i64) 0 = strI n c k ∧ 0 ≤ strI n c k ∧ strI n c k ≤ ((n : Nat) : Int) - 1 := by
  obtain ⟨a, b, d⟩ := strP_spec hk hc hc2 hn hn2
  have hN : fv .f32 (strP n c k) < ((n : Nat) : Rat) := by
    have e : (((n : Nat) : Int) - 1 : Int) < ((n : Nat) : Int) := by omega
    have := Rat.intCast_lt_intCast.2 e
    rw [Rat.intCast_natCast] at this
    grind
  obtain ⟨m, h1, h2, h3⟩ := floor_conv a b hN (by omega)
  unfold strI
  rw [h2, h3]
  exact ⟨rfl, rfl, rfl, by simp, by simp; omega⟩

/-- The place below. -/
def strK (n : Nat) (c : Int) (k : Nat) : Int := if (((n : Nat) : Int) - (2 : Int)) < strI n c k then (((n : Nat) : Int) - (2 : Int)) else strI n c k

def strAt (xs : List Nat) (n : Nat) (c : Int) (k : Nat) : Nat :=
  fop .add .f32 (List.getD xs (strK n c k).toNat 0) (fop .mul .f32 (fop .sub .f32 (strP n c k) (canon .f32 (FloatKind.nearest .f32 (strK n c k)))) (fop .sub .f32 (List.getD xs ((strK n c k).toNat + 1) 0) (List.getD xs (strK n c k).toNat 0)))

def strL (xs : List Nat) (n : Nat) (c : Int) (m : Nat) : List Nat := (List.range m).map (strAt xs n c)

theorem strL_len (xs : List Nat) (n : Nat) (c : Int) (m : Nat) : (strL xs n c m).length = m := by simp [strL]

def stretchF (xs : List Nat) (c : Int) : List Nat × Bool :=
  if isSnd xs = true ∧ 2 ≤ xs.length ∧ 2 ≤ c ∧ c ≤ 256 then (if allFin (strL xs xs.length c (c).toNat) = true then (strL xs xs.length c (c).toNat, true) else ([], false)) else ([], false)

theorem stretchF_le (xs : List Nat) (c : Int) : (stretchF xs c).1.length ≤ 256 := by
  unfold stretchF; split
  · split
    · rw [strL_len]; omega
    · simp
  · simp

theorem stretch_t {xs L : List Nat} {c : Int} (h1 : isSnd xs = true) (h2 : 2 ≤ xs.length) (h3 : 2 ≤ c) (h4 : c ≤ 256) (hL : L = strL xs xs.length c (c).toNat) (hf : allFin L = true) : stretchF xs c = (L, true) := by
  subst hL; unfold stretchF; rw [if_pos ⟨h1, h2, h3, h4⟩, if_pos hf]

theorem stretch_f {xs L : List Nat} {c : Int} (h1 : isSnd xs = true) (h2 : 2 ≤ xs.length) (h3 : 2 ≤ c) (h4 : c ≤ 256) (hL : L = strL xs xs.length c (c).toNat) (hf : allFin L = false) : stretchF xs c = ([], false) := by
  subst hL; unfold stretchF; rw [if_pos ⟨h1, h2, h3, h4⟩, if_neg (by rw [hf]; decide)]

theorem stretch_n1 {xs : List Nat} {c : Int} (h1 : isSnd xs = false) : stretchF xs c = ([], false) := by
  unfold stretchF; rw [if_neg (by rw [h1]; simp)]

theorem stretch_n2 {xs : List Nat} {c : Int} (h1 : ¬ (2 ≤ xs.length ∧ 2 ≤ c ∧ c ≤ 256)) : stretchF xs c = ([], false) := by
  unfold stretchF; rw [if_neg (fun h => h1 h.2)]

end Go.Sim
