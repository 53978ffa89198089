/- Lists of complex numbers, spectra. Conditions: none. -/
import Derived.Test.YtgjdkhocnnoimaaPvI
import Derived.Test.YtgjdkhocnnoimaaPvR

section
namespace Go.Sim
open Go

/-! ### Phasors -/

def quart (f : Nat) : Nat → Nat
  | 0 => f
  | k + 1 => fop .sub .f64 (quart f k) 4598175219545276416

def quartN (f : Nat) : Nat := firstF (fun k => fcmp .geq .f64 (quart f k) 4598175219545276416) 5

theorem q_iv : Iv .f64 4598175219545276416 4598175219545276416 4598175219545276416 := Iv.self (by decide +kernel)

theorem quart_up {f : Nat} (h : Iv .f64 f 0 4607182418800017408) : Iv .f64 (quart f 4) 13830554455654793216 0 ∧ ∀ k, k ≤ 4 → Iv .f64 (quart f k) 13830554455654793216 4607182418800017408 := by
  have h0 : Iv .f64 (quart f 0) 0 4607182418800017408 := h
  have h1 : Iv .f64 (quart f 1) 13821547256400052224 4604930618986332160 := h0.sub q_iv _ _ (by decide +kernel)
  have h2 : Iv .f64 (quart f 2) 13826050856027422720 4602678819172646912 := h1.sub q_iv _ _ (by decide +kernel)
  have h3 : Iv .f64 (quart f 3) 13828302655841107968 4598175219545276416 := h2.sub q_iv _ _ (by decide +kernel)
  have h4 : Iv .f64 (quart f 4) 13830554455654793216 0 := h3.sub q_iv _ _ (by decide +kernel)
  refine ⟨h4, fun k hk => ?_⟩
  rcases (by omega : k = 0 ∨ k = 1 ∨ k = 2 ∨ k = 3 ∨ k = 4) with rfl | rfl | rfl | rfl | rfl
  · exact h0.weak _ _ (by decide +kernel)
  · exact h1.weak _ _ (by decide +kernel)
  · exact h2.weak _ _ (by decide +kernel)
  · exact h3.weak _ _ (by decide +kernel)
  · exact h4.weak _ _ (by decide +kernel)

theorem quart_ends {f : Nat} (h : Iv .f64 f 0 4607182418800017408) : allBelow (fun k => fcmp .geq .f64 (quart f k) 4598175219545276416) 5 = false :=
  allBelow_false (j := 4) (by omega) ((quart_up h).1.geq_f (by decide +kernel))

theorem quart_spec {f : Nat} (h : Iv .f64 f 0 4607182418800017408) : quartN f ≤ 4 ∧ Iv .f64 (quart f (quartN f)) 0 4598175219545276416 := by
  have he := quart_ends h
  have h1 : quartN f < 5 := firstF_lt he
  have h2 : fcmp .geq .f64 (quart f (quartN f)) 4598175219545276416 = false := firstF_false he
  have h3 : ∀ k, k < quartN f → fcmp .geq .f64 (quart f k) 4598175219545276416 = true := firstF_before he
  generalize quartN f = n at *
  have hn := (quart_up h).2 n (by omega)
  have z := zero_fl .f64
  have hhi : fv .f64 (quart f n) ≤ fv .f64 4598175219545276416 := by
    rw [Bool.eq_false_iff, ne_eq, geq_iff hn.fx q_iv.fx] at h2; grind
  have hlo : fv .f64 0 ≤ fv .f64 (quart f n) := by
    rcases Nat.eq_zero_or_pos n with h0 | h0
    · subst h0; exact h.lo
    · obtain ⟨m, rfl⟩ : ∃ m, n = m + 1 := ⟨n - 1, by omega⟩
      have hm := (quart_up h).2 m (by omega)
      have g := (geq_iff hm.fx q_iv.fx).1 (h3 m (by omega))
      have im : Iv .f64 (quart f m) 4598175219545276416 4607182418800017408 := ⟨hm.fx, q_iv.fx, hm.fh, g, hm.hi⟩
      exact (im.sub q_iv 0 4607182418800017408 (by decide +kernel)).lo
  exact ⟨by omega, hn.fx, z.1, q_iv.fx, hlo, hhi⟩

def phC (t : Nat) : Nat := sinW (fop .sub .f64 4598175219545276416 (quart (fracD t) (quartN (fracD t))))
def phS (t : Nat) : Nat := sinW (quart (fracD t) (quartN (fracD t)))

/-- A point of the unit circle. -/
@[irreducible] def phasW (t : Nat) : Nat × Nat :=
  if quartN (fracD t) = 1 then (fcv .f64 .f32 (fop .sub .f64 0 (phS t)), fcv .f64 .f32 (phC t))
  else if quartN (fracD t) = 2 then (fcv .f64 .f32 (fop .sub .f64 0 (phC t)), fcv .f64 .f32 (fop .sub .f64 0 (phS t)))
  else if quartN (fracD t) = 3 then (fcv .f64 .f32 (phS t), fcv .f64 .f32 (fop .sub .f64 0 (phC t)))
  else (fcv .f64 .f32 (phC t), fcv .f64 .f32 (phS t))

theorem ph_args {t : Nat} (h : Iv .f64 t 0 4647714815446351872) : Iv .f64 (quart (fracD t) (quartN (fracD t))) 0 4647714815446351872 ∧ Iv .f64 (fop .sub .f64 4598175219545276416 (quart (fracD t) (quartN (fracD t)))) 0 4647714815446351872 := by
  have hq := (quart_spec (frac_spec h).2).2
  exact ⟨hq.weak _ _ (by decide +kernel), q_iv.sub hq _ _ (by decide +kernel)⟩

theorem sin_sub0 {y : Nat} (h : Iv .f64 y 0 4647714815446351872) : Iv .f64 (fop .sub .f64 0 (sinW y)) 13835058055282163712 4611686018427387904 :=
  (Iv.self (k := .f64) (x := 0) (by decide +kernel)).sub (sin_iv h) _ _ (by decide +kernel)

theorem sin_sub0_down {y : Nat} (h : Iv .f64 y 0 4647714815446351872) : Iv .f32 (fcv .f64 .f32 (fop .sub .f64 0 (sinW y))) 3221225472 1073741824 ∧ fconvOk .f64 .f32 (fop .sub .f64 0 (sinW y)) := (sin_sub0 h).down _ _ (by decide +kernel)

end Go.Sim
end

section
namespace Go.Sim
open Go

/-! ### Lists that the laws mark -/

def allFinC (xs : List (Nat × Nat)) : Bool := allBelow (fun k => fin32 (xs.getD k (0, 0)).1 && fin32 (xs.getD k (0, 0)).2) xs.length

/-! ### Remainders -/

def rI (n c : Int) : Int := Int.tmod (Int.tmod n c + c) c
def specT (c : Int) (m k : Nat) : Int := Int.tmod (c - Int.tmod (((m : Nat) : Int) * ((k : Nat) : Int)) c) c

theorem rI_eq (c : Int) (m k : Nat) : rI ((0 - ((m : Nat) : Int)) * ((k : Nat) : Int)) c = specT c m k := by
  unfold rI specT
  have : (0 - ((m : Nat) : Int)) * ((k : Nat) : Int) = -(((m : Nat) : Int) * ((k : Nat) : Int)) := by rw [Int.zero_sub, Int.neg_mul]
  rw [this, Int.neg_tmod]
  congr 1
  omega

theorem tm_bounds {a c : Int} (h : 0 ≤ a) (hc : 1 ≤ c) : 0 ≤ Int.tmod a c ∧ Int.tmod a c < c := ⟨Int.tmod_nonneg c h, Int.tmod_lt_of_pos a (by omega)⟩

theorem tm_any {a c : Int} (hc : 1 ≤ c) : -c < Int.tmod a c ∧ Int.tmod a c < c := by
  refine ⟨?_, Int.tmod_lt_of_pos a (by omega)⟩
  have := Int.tmod_lt_of_pos (-a) (b := c) (by omega)
  rw [Int.neg_tmod] at this; omega

theorem rI_range {n c : Int} (h1 : 1 ≤ c) : 0 ≤ rI n c ∧ rI n c < c := by
  unfold rI
  have := tm_any (a := n) h1
  exact tm_bounds (by omega) h1

theorem mul_in {a b : Int} (h1 : -1000 ≤ a) (h2 : a ≤ 1000) (h3 : -1000 ≤ b) (h4 : b ≤ 1000) : -1000000 ≤ a * b ∧ a * b ≤ 1000000 := by
  have h : (a * b).natAbs ≤ 1000 * 1000 := by rw [Int.natAbs_mul]; exact Nat.mul_le_mul (by omega) (by omega)
  omega

/-! ### Spectra -/

def phT (r c : Int) : Nat := fop .quo .f64 (canon .f64 (FloatKind.nearest .f64 r)) (canon .f64 (FloatKind.nearest .f64 c))

theorem phT_iv {r c : Int} (h0 : 0 ≤ r) (h1 : r < c) (h2 : c ≤ 64) : Iv .f64 (phT r c) 0 4647714815446351872 := by
  have a := Iv.int .f64 r (a := 0) (b := 64) (by omega) (by omega) (by omega) (by omega)
  have b := Iv.int .f64 c (a := 1) (b := 64) (by omega) (by omega) (by omega) (by omega)
  exact a.quo b _ _ (by decide +kernel)

def specS (xs : List Nat) (c : Int) (m : Nat) : Nat → Nat × Nat
  | 0 => (0, 0)
  | k + 1 => (fop .add .f32 (specS xs c m k).1 (fop .mul .f32 (phasW (phT (specT c m k) c)).1 (List.getD xs k 0)), fop .add .f32 (specS xs c m k).2 (fop .mul .f32 (phasW (phT (specT c m k) c)).2 (List.getD xs k 0)))

def specL (xs : List Nat) (c : Int) (n : Nat) : List (Nat × Nat) := (List.range n).map fun m => specS xs c m xs.length

theorem specL_len (xs : List Nat) (c : Int) (n : Nat) : (specL xs c n).length = n := by simp [specL]

def spectrumF (xs : List Nat) (c : Int) : List (Nat × Nat) × Bool :=
  if isSnd xs = true ∧ 1 ≤ c ∧ c ≤ 64 then (if allFinC (specL xs c (c).toNat) = true then (specL xs c (c).toNat, true) else ([], false)) else ([], false)

theorem spectrum_t {xs : List Nat} {L : List (Nat × Nat)} {c : Int} (h1 : isSnd xs = true) (h3 : 1 ≤ c) (h4 : c ≤ 64) (hL : L = specL xs c (c).toNat) (hf : allFinC L = true) : spectrumF xs c = (L, true) := by
  subst hL; unfold spectrumF; rw [if_pos ⟨h1, h3, h4⟩, if_pos hf]
theorem spectrum_f {xs : List Nat} {c : Int} (h1 : isSnd xs = true) (h3 : 1 ≤ c) (h4 : c ≤ 64) (hf : allFinC (specL xs c (c).toNat) = false) : spectrumF xs c = ([], false) := by
  unfold spectrumF; rw [if_pos ⟨h1, h3, h4⟩, if_neg (by rw [hf]; decide)]
theorem spectrum_n1 {xs : List Nat} {c : Int} (h1 : isSnd xs = false) : spectrumF xs c = ([], false) := by
  unfold spectrumF; rw [if_neg (by rw [h1]; simp)]
theorem spectrum_n2 {xs : List Nat} {c : Int} (h1 : ¬ (1 ≤ c ∧ c ≤ 64)) : spectrumF xs c = ([], false) := by
  unfold spectrumF; rw [if_neg (fun h => h1 h.2)]

theorem specL_get (xs : List Nat) (c : Int) {n m : Nat} (h : m < n) : (specL xs c n).getD m (0, 0) = specS xs c m xs.length := by simp [specL, h]

theorem cplx_if (a b : Bool) : (if a = true then (if b = true then true else false) else false) = (a && b) := by cases a <;> cases b <;> rfl

theorem allFinC_specL (xs : List Nat) (c : Int) (n : Nat) : allFinC (specL xs c n) = allBelow (fun m => fin32 (specS xs c m xs.length).1 && fin32 (specS xs c m xs.length).2) n := by
  unfold allFinC
  rw [specL_len]
  exact allBelow_congr fun m hm => by rw [specL_get xs c hm]

end Go.Sim
end
