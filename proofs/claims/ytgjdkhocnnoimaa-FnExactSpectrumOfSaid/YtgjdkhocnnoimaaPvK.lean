/- Lists of complex numbers, spectra. Conditions: none. -/
import Derived.Test.YtgjdkhocnnoimaaPvJ
namespace Go.Sim
open Go

/-! ### Lists that the laws mark -/

def cmark (t : Int) : Nat × Nat := (fcv .f64 .f32 (canon .f64 (FloatKind.nearest .f64 t)), fcv .f64 .f32 4607182418800017408)

def markC (n : Nat) (t : Int) : List (Nat × Nat) := (List.range n).map fun i : Nat => cmark (t + (i : Int))

theorem markC_len (n : Nat) (t : Int) : (markC n t).length = n := by simp [markC]

theorem mark_allC (xs : List (Nat × Nat)) (n : Nat) (t : Int) (h : xs.length = n) (S : Nat → List (Nat × Nat)) (h0 : S 0 = xs) (hs : ∀ k, S (k + 1) = (S k).set k (cmark (t + ((k : Nat) : Int)))) : S n = markC n t :=
  set_all n _ S (by rw [h0]; exact h) hs

theorem conv_int {t : Int} (h1 : -16777216 ≤ t) (h2 : t ≤ 16777216) : fconvOk .f64 .f32 (canon .f64 (FloatKind.nearest .f64 t)) ∧ isN .f32 (fcv .f64 .f32 (canon .f64 (FloatKind.nearest .f64 t))) = false := by
  have := (Iv.int .f64 t h1 h2 (by omega) (by omega)).down 3414163456 1266679808 (by decide +kernel)
  exact ⟨this.2, this.1.notN⟩

theorem held_C1 {xs : List (Nat × Nat)} {n k : Nat} {t : Int} (h : xs = markC n t) (hk : k < n) (h1 : -16777216 ≤ t) (h2 : t + (n : Int) ≤ 16777216) :
    fcmp .eql .f32 (List.getD xs k (0, 0)).1 (fcv .f64 .f32 (canon .f64 (FloatKind.nearest .f64 (t + ((k : Nat) : Int))))) = true ∧ fcmp .eql .f32 (List.getD xs k (0, 0)).2 (fcv .f64 .f32 4607182418800017408) = true := by
  subst h
  have e : (markC n t).getD k (0, 0) = cmark (t + (k : Int)) := by simp [markC, hk]
  rw [e]
  exact ⟨eql_self (conv_int (by omega) (by omega)).2, by show fcmp .eql .f32 (fcv .f64 .f32 4607182418800017408) (fcv .f64 .f32 4607182418800017408) = true; decide⟩

/-- Complex numbers are the same. -/
def sameC (xs ys : List (Nat × Nat)) : Bool := (xs.length == ys.length) && allBelow (fun k => sameD (fcv .f32 .f64 (xs.getD k (0, 0)).1) (fcv .f32 .f64 (ys.getD k (0, 0)).1) && sameD (fcv .f32 .f64 (xs.getD k (0, 0)).2) (fcv .f32 .f64 (ys.getD k (0, 0)).2)) xs.length

theorem sameC_self (xs : List (Nat × Nat)) : sameC xs xs = true := by
  simp only [sameC, beq_self_eq_true, Bool.true_and]
  exact allBelow_true.2 fun k _ => by rw [sameD_self, sameD_self]; rfl

def allFinC (xs : List (Nat × Nat)) : Bool := allBelow (fun k => fin32 (xs.getD k (0, 0)).1 && fin32 (xs.getD k (0, 0)).2) xs.length

/-! ### Remainders -/

def rI (n c : Int) : Int := Int.tmod (Int.tmod n c + c) c
def specT (c : Int) (m k : Nat) : Int := Int.tmod (c - Int.tmod (((m : Nat) : Int) * ((k : Nat) : Int)) c) c

theorem rI_eq (c : Int) (m k : Nat) : rI ((0 - ((m : Nat) : Int)) * ((k : Nat) : Int)) c = specT c m k := by
  unfold rI specT
  have : (0 - ((m : Nat) : Int)) * ((k : Nat) : Int) = -(((m : Nat) : Int) * ((k : Nat) : Int)) := by rw [Int.zero_sub, Int.neg_mul]
  rw [this, Int.neg_tmod]
  congr 1
  omega

theorem tm_bounds {a c : Int} (h : 0 ≤ a) (hc : 1 ≤ c) : 0 ≤ Int.tmod a c ∧ Int.tmod a c < c := ⟨Int.tmod_nonneg c h, Int.tmod_lt_of_pos a (by omega)⟩

theorem tm_any {a c : Int} (hc : 1 ≤ c) : -c < Int.tmod a c ∧ Int.tmod a c < c := by
  refine ⟨?_, Int.tmod_lt_of_pos a (by omega)⟩
  have := Int.tmod_lt_of_pos (-a) (b := c) (by omega)
  rw [Int.neg_tmod] at this; omega

theorem specT_range {c : Int} (m k : Nat) (h1 : 1 ≤ c) : 0 ≤ specT c m k ∧ specT c m k < c := by
  unfold specT
  have hm : 0 ≤ ((m : Nat) : Int) * ((k : Nat) : Int) := Int.mul_nonneg (by omega) (by omega)
  have := tm_bounds hm h1
  exact tm_bounds (by omega) h1

theorem rI_range {n c : Int} (h1 : 1 ≤ c) : 0 ≤ rI n c ∧ rI n c < c := by
  unfold rI
  have := tm_any (a := n) h1
  exact tm_bounds (by omega) h1

theorem mul_in {a b : Int} (h1 : -1000 ≤ a) (h2 : a ≤ 1000) (h3 : -1000 ≤ b) (h4 : b ≤ 1000) : -1000000 ≤ a * b ∧ a * b ≤ 1000000 := by
  have h : (a * b).natAbs ≤ 1000 * 1000 := by rw [Int.natAbs_mul]; exact Nat.mul_le_mul (by omega) (by omega)
  omega

/-! ### Spectra -/

def phT (r c : Int) : Nat := fop .quo .f64 (canon .f64 (FloatKind.nearest .f64 r)) (canon .f64 (FloatKind.nearest .f64 c))

theorem phT_iv {r c : Int} (h0 : 0 ≤ r) (h1 : r < c) (h2 : c ≤ 64) : Iv .f64 (phT r c) 0 4647714815446351872 := by
  have a := Iv.int .f64 r (a := 0) (b := 64) (by omega) (by omega) (by omega) (by omega)
  have b := Iv.int .f64 c (a := 1) (b := 64) (by omega) (by omega) (by omega) (by omega)
  exact a.quo b _ _ (by decide +kernel)

def specS (xs : List Nat) (c : Int) (m : Nat) : Nat → Nat × Nat
  | 0 => (0, 0)
  | k + 1 => (fop .add .f32 (specS xs c m k).1 (fop .mul .f32 (phasW (phT (specT c m k) c)).1 (List.getD xs k 0)), fop .add .f32 (specS xs c m k).2 (fop .mul .f32 (phasW (phT (specT c m k) c)).2 (List.getD xs k 0)))

def specL (xs : List Nat) (c : Int) (n : Nat) : List (Nat × Nat) := (List.range n).map fun m => specS xs c m xs.length

theorem specL_len (xs : List Nat) (c : Int) (n : Nat) : (specL xs c n).length = n := by simp [specL]

def spectrumF (xs : List Nat) (c : Int) : List (Nat × Nat) × Bool :=
  if isSnd xs = true ∧ 1 ≤ c ∧ c ≤ 64 then (if allFinC (specL xs c (c).toNat) = true then (specL xs c (c).toNat, true) else ([], false)) else ([], false)

theorem spectrumF_le (xs : List Nat) (c : Int) : (spectrumF xs c).1.length ≤ 64 := by
  unfold spectrumF; split
  · split
    · rw [specL_len]; omega
    · simp
  · simp

theorem spectrum_t {xs : List Nat} {L : List (Nat × Nat)} {c : Int} (h1 : isSnd xs = true) (h3 : 1 ≤ c) (h4 : c ≤ 64) (hL : L = specL xs c (c).toNat) (hf : allFinC L = true) : spectrumF xs c = (L, true) := by
  subst hL; unfold spectrumF; rw [if_pos ⟨h1, h3, h4⟩, if_pos hf]
theorem spectrum_f {xs : List Nat} {c : Int} (h1 : isSnd xs = true) (h3 : 1 ≤ c) (h4 : c ≤ 64) (hf : allFinC (specL xs c (c).toNat) = false) : spectrumF xs c = ([], false) := by
  unfold spectrumF; rw [if_pos ⟨h1, h3, h4⟩, if_neg (by rw [hf]; decide)]
theorem spectrum_n1 {xs : List Nat} {c : Int} (h1 : isSnd xs = false) : spectrumF xs c = ([], false) := by
  unfold spectrumF; rw [if_neg (by rw [h1]; simp)]
theorem spectrum_n2 {xs : List Nat} {c : Int} (h1 : ¬ (1 ≤ c ∧ c ≤ 64)) : spectrumF xs c = ([], false) := by
  unfold spectrumF; rw [if_neg (fun h => h1 h.2)]

theorem specL_get (xs : List Nat) (c : Int) {n m : Nat} (h : m < n) : (specL xs c n).getD m (0, 0) = specS xs c m xs.length := by simp [specL, h]

theorem cplx_if (a b : Bool) : (if a = true then (if b = true then true else false) else false) = (a && b) := by cases a <;> cases b <;> rfl

theorem allFinC_specL (xs : List Nat) (c : Int) (n : Nat) : allFinC (specL xs c n) = allBelow (fun m => fin32 (specS xs c m xs.length).1 && fin32 (specS xs c m xs.length).2) n := by
  unfold allFinC
  rw [specL_len]
  exact allBelow_congr fun m hm => by rw [specL_get xs c hm]

end Go.Sim
