/- The logarithm between 1 and 256, absolute values, numbers made whole. Conditions: none. -/
import Derived.Test.YtgjdkhocnnoimaaPvD
import Derived.Test.YtgjdkhocnnoimaaS22
namespace Go.Sim
open Go

section
variable {k : FloatKind} {x a b : Nat}
def ltB (k : FloatKind) (b c : Nat) : Bool := finB k c && decide (fv k b < fv k c)
def leB (k : FloatKind) (b c : Nat) : Bool := finB k c && decide (fv k b ≤ fv k c)
def gtB (k : FloatKind) (c a : Nat) : Bool := finB k c && decide (fv k c < fv k a)
def geB (k : FloatKind) (c a : Nat) : Bool := finB k c && decide (fv k c ≤ fv k a)

theorem Iv.lss_t (h : Iv k x a b) {c : Nat} (hc : ltB k b c = true) : fcmp .lss k x c = true := by
  simp only [ltB, Bool.and_eq_true, decide_eq_true_eq] at hc
  rw [lss_iff h.fx (finB_fl hc.1)]; have := h.hi; grind
theorem Iv.lss_f (h : Iv k x a b) {c : Nat} (hc : geB k c a = true) : fcmp .lss k x c = false := by
  simp only [geB, Bool.and_eq_true, decide_eq_true_eq] at hc
  rw [Bool.eq_false_iff]; intro hh; rw [lss_iff h.fx (finB_fl hc.1)] at hh; have := h.lo; grind
theorem Iv.gtr_f (h : Iv k x a b) {c : Nat} (hc : leB k b c = true) : fcmp .gtr k x c = false := by
  simp only [leB, Bool.and_eq_true, decide_eq_true_eq] at hc
  rw [Bool.eq_false_iff]; intro hh; rw [gtr_iff h.fx (finB_fl hc.1)] at hh; have := h.hi; grind
theorem Iv.gtr_t (h : Iv k x a b) {c : Nat} (hc : gtB k c a = true) : fcmp .gtr k x c = true := by
  simp only [gtB, Bool.and_eq_true, decide_eq_true_eq] at hc
  rw [gtr_iff h.fx (finB_fl hc.1)]; have := h.lo; grind
theorem Iv.geq_t (h : Iv k x a b) {c : Nat} (hc : geB k c a = true) : fcmp .geq k x c = true := by
  simp only [geB, Bool.and_eq_true, decide_eq_true_eq] at hc
  rw [geq_iff h.fx (finB_fl hc.1)]; have := h.lo; grind
theorem Iv.geq_f (h : Iv k x a b) {c : Nat} (hc : ltB k b c = true) : fcmp .geq k x c = false := by
  simp only [ltB, Bool.and_eq_true, decide_eq_true_eq] at hc
  rw [Bool.eq_false_iff]; intro hh; rw [geq_iff h.fx (finB_fl hc.1)] at hh; have := h.hi; grind
theorem Iv.leq_f (h : Iv k x a b) {c : Nat} (hc : gtB k c a = true) : fcmp .leq k x c = false := by
  simp only [gtB, Bool.and_eq_true, decide_eq_true_eq] at hc
  rw [Bool.eq_false_iff]; intro hh; rw [leq_iff h.fx (finB_fl hc.1)] at hh; have := h.lo; grind
theorem Iv.eql_f (h : Iv k x a b) {c : Nat} (hc : (gtB k c a || ltB k b c) = true) : fcmp .eql k x c = false := by
  have := h.lo; have := h.hi
  simp only [gtB, ltB, Bool.or_eq_true, Bool.and_eq_true, decide_eq_true_eq] at hc
  rw [Bool.eq_false_iff]; intro hh
  rcases hc with hc | hc
  · rw [eql_iff h.fx (finB_fl hc.1)] at hh; grind
  · rw [eql_iff h.fx (finB_fl hc.1)] at hh; grind
theorem Iv.self_ne (h : Iv k x a b) : fcmp .neq k x x = false := neq_self (isF_notN h.fx)
theorem Iv.notN (h : Iv k x a b) : isN k x = false := isF_notN h.fx
theorem Iv.fin (h : Iv .f32 x a b) : fin32 x = true := fin32_isF.2 h.fx
end

/-! ### Halves -/

def halve (x : Nat) : Nat → Nat
  | 0 => x
  | k + 1 => fop .quo .f64 (halve x k) 4611686018427387904

def halveN (x : Nat) : Nat := firstF (fun k => fcmp .geq .f64 (halve x k) 4609434218613702656) 9

theorem two_iv : Iv .f64 4611686018427387904 4611686018427387904 4611686018427387904 := Iv.self (by decide +kernel)

theorem halve_up {x : Nat} (h : Iv .f64 x 4607182418800017408 4643211215818981376) : (∀ k, k ≤ 8 → Iv .f64 (halve x k) 0 4643211215818981376) ∧ Iv .f64 (halve x 8) 0 4607182418800017408 := by
  have h0 : Iv .f64 (halve x 0) 0 4643211215818981376 := h.weak _ _ (by decide +kernel)
  have h1 : Iv .f64 (halve x 1) 0 4638707616191610880 := h0.quo two_iv _ _ (by decide +kernel)
  have h2 : Iv .f64 (halve x 2) 0 4634204016564240384 := h1.quo two_iv _ _ (by decide +kernel)
  have h3 : Iv .f64 (halve x 3) 0 4629700416936869888 := h2.quo two_iv _ _ (by decide +kernel)
  have h4 : Iv .f64 (halve x 4) 0 4625196817309499392 := h3.quo two_iv _ _ (by decide +kernel)
  have h5 : Iv .f64 (halve x 5) 0 4620693217682128896 := h4.quo two_iv _ _ (by decide +kernel)
  have h6 : Iv .f64 (halve x 6) 0 4616189618054758400 := h5.quo two_iv _ _ (by decide +kernel)
  have h7 : Iv .f64 (halve x 7) 0 4611686018427387904 := h6.quo two_iv _ _ (by decide +kernel)
  have h8 : Iv .f64 (halve x 8) 0 4607182418800017408 := h7.quo two_iv _ _ (by decide +kernel)
  refine ⟨fun k hk => ?_, h8⟩
  have : k = 0 ∨ k = 1 ∨ k = 2 ∨ k = 3 ∨ k = 4 ∨ k = 5 ∨ k = 6 ∨ k = 7 ∨ k = 8 := by omega
  rcases this with rfl | rfl | rfl | rfl | rfl | rfl | rfl | rfl | rfl
  · exact h0
  · exact h1.weak _ _ (by decide +kernel)
  · exact h2.weak _ _ (by decide +kernel)
  · exact h3.weak _ _ (by decide +kernel)
  · exact h4.weak _ _ (by decide +kernel)
  · exact h5.weak _ _ (by decide +kernel)
  · exact h6.weak _ _ (by decide +kernel)
  · exact h7.weak _ _ (by decide +kernel)
  · exact h8.weak _ _ (by decide +kernel)

theorem fl15 : isFl .f64 4609434218613702656 := finB_fl (by decide +kernel)
theorem fl075 : isFl .f64 4604930618986332160 := finB_fl (by decide +kernel)

theorem halve_ends {x : Nat} (h : Iv .f64 x 4607182418800017408 4643211215818981376) : allBelow (fun k => fcmp .geq .f64 (halve x k) 4609434218613702656) 9 = false :=
  allBelow_false (j := 8) (by omega) ((halve_up h).2.geq_f (by decide +kernel))

theorem halve_spec {x : Nat} (h : Iv .f64 x 4607182418800017408 4643211215818981376) : halveN x ≤ 8 ∧ Iv .f64 (halve x (halveN x)) 4604930618986332160 4609434218613702656 ∧
    (halveN x = 0 → Iv .f64 (halve x (halveN x)) 4607182418800017408 4609434218613702656) ∧ (halveN x = 8 → Iv .f64 (halve x (halveN x)) 4604930618986332160 4607182418800017408) := by
  have he := halve_ends h
  have h1 : halveN x < 9 := firstF_lt he
  have h2 : fcmp .geq .f64 (halve x (halveN x)) 4609434218613702656 = false := firstF_false he
  have h3 : ∀ k, k < halveN x → fcmp .geq .f64 (halve x k) 4609434218613702656 = true := firstF_before he
  generalize halveN x = n at *
  have hn := (halve_up h).1 n (by omega)
  have hhi : fv .f64 (halve x n) ≤ fv .f64 4609434218613702656 := by
    rw [Bool.eq_false_iff, ne_eq, geq_iff hn.fx fl15] at h2; grind
  have hlo : fv .f64 4604930618986332160 ≤ fv .f64 (halve x n) := by
    rcases Nat.eq_zero_or_pos n with h0 | h0
    · subst h0
      have : fv .f64 4604930618986332160 ≤ fv .f64 4607182418800017408 := by decide +kernel
      exact Rat.le_trans this h.lo
    · obtain ⟨m, rfl⟩ : ∃ m, n = m + 1 := ⟨n - 1, by omega⟩
      have hm := (halve_up h).1 m (by omega)
      have g := (geq_iff hm.fx fl15).1 (h3 m (by omega))
      have im : Iv .f64 (halve x m) 4609434218613702656 4643211215818981376 := ⟨hm.fx, fl15, hm.fh, g, hm.hi⟩
      exact (im.quo two_iv 4604930618986332160 4643211215818981376 (by decide +kernel)).lo
  refine ⟨by omega, ⟨hn.fx, fl075, fl15, hlo, hhi⟩, fun h0 => ?_, fun h8 => ?_⟩
  · subst h0; exact ⟨hn.fx, h.fl, fl15, h.lo, hhi⟩
  · subst h8
    have h8 := (halve_up h).2
    exact ⟨hn.fx, fl075, h8.fh, hlo, h8.hi⟩

/-! ### The logarithm -/

def logQ (u : Nat) : Nat → Nat
  | 0 => 0
  | k + 1 => fop .add .f64 (fop .quo .f64 4607182418800017408 (canon .f64 (FloatKind.nearest .f64 ((25 : Int) + (-2 : Int) * ((k : Nat) : Int))))) (fop .mul .f64 u (logQ u k))

def logS (x : Nat) : Nat := fop .quo .f64 (fop .sub .f64 x 4607182418800017408) (fop .add .f64 x 4607182418800017408)

def logV (x e : Nat) : Nat := fop .add .f64 (fop .mul .f64 4611686018427387904 (fop .mul .f64 (logS x) (logQ (fop .mul .f64 (logS x) (logS x)) 13))) (fop .mul .f64 e 4604418534313441775)

/-- The logarithm of a float64 from 1 to 256. -/
@[irreducible] def logW (y : Nat) : Nat := logV (halve y (halveN y)) (canon .f64 (FloatKind.nearest .f64 ((halveN y : Nat) : Int)))

theorem one_iv : Iv .f64 4607182418800017408 4607182418800017408 4607182418800017408 := Iv.self (by decide +kernel)
theorem ln2_iv : Iv .f64 4604418534313441775 4604418534313441775 4604418534313441775 := Iv.self (by decide +kernel)

theorem logS_iv {x : Nat} (h : Iv .f64 x 4604930618986332160 4609434218613702656) : Iv .f64 (logS x) 13817944376698155827 4596734067664517857 := by
  have h1 : Iv .f64 (fop .sub .f64 x 4607182418800017408) 13821727400385147044 4602768891165194322 := h.sub one_iv _ _ (by decide +kernel)
  have h2 : Iv .f64 (fop .add .f64 x 4607182418800017408) 4610515082524271575 4612811918334230528 := h.add one_iv _ _ (by decide +kernel)
  -- closer: by the line
  have e1 := sub_Rd h.fx one_iv.fx
  have hx1 := h.lo; have hx2 := h.hi
  have r1 : fv .f64 (fop .sub .f64 x 4607182418800017408) ≤ fv .f64 4596734067664517857 * fv .f64 (fop .add .f64 x 4607182418800017408) := by
    have b1 := e1.err h1.fx (M := 1) (by have : fv .f64 4609434218613702656 - fv .f64 4607182418800017408 ≤ 1 := by decide +kernel
                                         grind) (by have : -1 ≤ fv .f64 4604930618986332160 - fv .f64 4607182418800017408 := by decide +kernel
                                                    grind)
    have b2 := (add_Rd h.fx one_iv.fx).err h2.fx (M := 3) (by have : fv .f64 4609434218613702656 + fv .f64 4607182418800017408 ≤ 3 := by decide +kernel
                                                              grind) (by have : -3 ≤ fv .f64 4604930618986332160 + fv .f64 4607182418800017408 := by decide +kernel
                                                                         grind)
    have c1 : (1 : Rat) * 2 ^ (-(FloatKind.f64.format.fractionBits : Int)) + 2 ^ FloatKind.f64.format.leastPlace ≤ 1 / 1000000 := by decide +kernel
    have c2 : (3 : Rat) * 2 ^ (-(FloatKind.f64.format.fractionBits : Int)) + 2 ^ FloatKind.f64.format.leastPlace ≤ 1 / 1000000 := by decide +kernel
    have v1 : fv .f64 4596734067664517857 ≤ 22 / 100 := by decide +kernel
    have v2 : 205 / 1000 ≤ fv .f64 4596734067664517857 := by decide +kernel
    have v3 : fv .f64 4607182418800017408 = 1 := by decide +kernel
    have v4 : fv .f64 4609434218613702656 = 3 / 2 := by decide +kernel
    have l := h2.lo
    have v5 : 174 / 100 ≤ fv .f64 4610515082524271575 + 1 / 1000000 := by decide +kernel
    have p := Rat.mul_le_mul_of_nonneg_right v2 (show 0 ≤ fv .f64 (fop .add .f64 x 4607182418800017408) by grind)
    grind
  have r2 : fv .f64 13817944376698155827 * fv .f64 (fop .add .f64 x 4607182418800017408) ≤ fv .f64 (fop .sub .f64 x 4607182418800017408) := by
    have b1 := e1.err h1.fx (M := 1) (by have : fv .f64 4609434218613702656 - fv .f64 4607182418800017408 ≤ 1 := by decide +kernel
                                         grind) (by have : -1 ≤ fv .f64 4604930618986332160 - fv .f64 4607182418800017408 := by decide +kernel
                                                    grind)
    have b2 := (add_Rd h.fx one_iv.fx).err h2.fx (M := 3) (by have : fv .f64 4609434218613702656 + fv .f64 4607182418800017408 ≤ 3 := by decide +kernel
                                                              grind) (by have : -3 ≤ fv .f64 4604930618986332160 + fv .f64 4607182418800017408 := by decide +kernel
                                                                         grind)
    have c1 : (1 : Rat) * 2 ^ (-(FloatKind.f64.format.fractionBits : Int)) + 2 ^ FloatKind.f64.format.leastPlace ≤ 1 / 1000000 := by decide +kernel
    have c2 : (3 : Rat) * 2 ^ (-(FloatKind.f64.format.fractionBits : Int)) + 2 ^ FloatKind.f64.format.leastPlace ≤ 1 / 1000000 := by decide +kernel
    have v2 : fv .f64 13817944376698155827 ≤ -(145 / 1000) := by decide +kernel
    have v3 : fv .f64 4607182418800017408 = 1 := by decide +kernel
    have v4 : fv .f64 4604930618986332160 = 3 / 4 := by decide +kernel
    have l := h2.lo
    have v5 : 174 / 100 ≤ fv .f64 4610515082524271575 + 1 / 1000000 := by decide +kernel
    have p := Rat.mul_le_mul_of_nonneg_right v2 (show 0 ≤ fv .f64 (fop .add .f64 x 4607182418800017408) by grind)
    grind
  have hp : 0 < fv .f64 (fop .add .f64 x 4607182418800017408) := by
    have l := h2.lo
    have v5 : 0 < fv .f64 4610515082524271575 := by decide +kernel
    grind
  refine (quo_Rd h1.fx h2.fx (by grind)).iv (finB_fl (by decide +kernel)) (finB_fl (by decide +kernel)) ?_ ?_
  · rw [Rat.div_def]; exact (le_mul_div hp).1 r2
  · rw [Rat.div_def]; exact (mul_div_le hp).1 r1

theorem logQ_iv {u : Nat} (h : Iv .f64 u 0 4587366580439587226) : ∀ k, k ≤ 13 → Iv .f64 (logQ u k) 0 4608308318706860032 := by
  intro k
  induction k with
  | zero => intro _; exact (Iv.self (k := .f64) (x := 0) (by decide +kernel)).weak _ _ (by decide +kernel)
  | succ k ih =>
    intro hk
    have h1 := ih (by omega)
    have h2 := Iv.int .f64 ((25 : Int) + (-2 : Int) * ((k : Nat) : Int)) (a := 1) (b := 25) (by omega) (by omega) (by omega) (by omega)
    have h3 : Iv .f64 (fop .quo .f64 4607182418800017408 (canon .f64 (FloatKind.nearest .f64 ((25 : Int) + (-2 : Int) * ((k : Nat) : Int))))) 0 4607182418800017408 := one_iv.quo h2 _ _ (by decide +kernel)
    have h4 : Iv .f64 (fop .mul .f64 u (logQ u k)) 0 4589708452245819884 := h.mul h1 _ _ (by decide +kernel)
    exact h3.add h4 _ _ (by decide +kernel)

theorem Iv.meet {k : FloatKind} {x a b c d : Nat} (h : Iv k x a b) (g : Iv k x c d) : Iv k x a d := ⟨h.fx, h.fl, g.fh, h.lo, g.hi⟩

theorem log_iv {y : Nat} (h : Iv .f64 y 4607182418800017408 4643211215818981376) : Iv .f64 (logW y) 0 4617929333195553263 := by
  obtain ⟨h1, h2, h3, h4⟩ := halve_spec h
  unfold logW logV
  generalize halveN y = n at *
  generalize halve y n = x at *
  have hs := logS_iv h2
  have hu : Iv .f64 (fop .mul .f64 (logS x) (logS x)) 0 4587366580439587226 := hs.sq _ (by decide +kernel)
  have hq := logQ_iv hu 13 (by omega)
  have hsq : Iv .f64 (fop .mul .f64 (logS x) (logQ (fop .mul .f64 (logS x) (logS x)) 13)) 13819745816549104026 4599075939470750515 := hs.mul hq _ _ (by decide +kernel)
  have h2sq : Iv .f64 (fop .mul .f64 4611686018427387904 (fop .mul .f64 (logS x) (logQ (fop .mul .f64 (logS x) (logS x)) 13))) 13824429560161569341 4603669611090668421 := two_iv.mul hsq _ _ (by decide +kernel)
  have three : n = 0 ∨ (1 ≤ n ∧ n ≤ 7) ∨ n = 8 := by omega
  rcases three with h0 | ⟨h5, h6⟩ | h8
  · have g := h3 h0
    have p1 : Iv .f64 (fop .sub .f64 x 4607182418800017408) 0 4602768891165194322 := g.sub one_iv _ _ (by decide +kernel)
    have p2 : Iv .f64 (fop .add .f64 x 4607182418800017408) 4610334938539176755 4613037098315599053 := g.add one_iv _ _ (by decide +kernel)
    have p3 : Iv .f64 (logS x) 0 4602678819172646912 := p1.quo p2 _ _ (by decide +kernel)
    have p4 : Iv .f64 (fop .mul .f64 (logS x) (logQ (fop .mul .f64 (logS x) (logS x)) 13)) 0 4599075939470750515 := (p3.meet hs).mul hq _ _ (by decide +kernel)
    have p5 : Iv .f64 (fop .mul .f64 4611686018427387904 (fop .mul .f64 (logS x) (logQ (fop .mul .f64 (logS x) (logS x)) 13))) 0 4603669611090668421 := two_iv.mul p4 _ _ (by decide +kernel)
    have e1 := Iv.int .f64 ((n : Nat) : Int) (a := 0) (b := 0) (by omega) (by omega) (by omega) (by omega)
    have e2 : Iv .f64 (fop .mul .f64 (canon .f64 (FloatKind.nearest .f64 ((n : Nat) : Int))) 4604418534313441775) 0 0 := e1.mul ln2_iv _ _ (by decide +kernel)
    exact p5.add e2 _ _ (by decide +kernel)
  · have e1 := Iv.int .f64 ((n : Nat) : Int) (a := 1) (b := 7) (by omega) (by omega) (by omega) (by omega)
    have e2 : Iv .f64 (fop .mul .f64 (canon .f64 (FloatKind.nearest .f64 ((n : Nat) : Int))) 4604418534313441775) 4604029899060858061 4617202927970916762 := e1.mul ln2_iv _ _ (by decide +kernel)
    exact h2sq.add e2 _ _ (by decide +kernel)
  · have g := h4 h8
    have p1 : Iv .f64 (fop .sub .f64 x 4607182418800017408) 13821727400385147044 0 := g.sub one_iv _ _ (by decide +kernel)
    have p2 : Iv .f64 (fop .add .f64 x 4607182418800017408) 4610334938539176755 4613037098315599053 := g.add one_iv _ _ (by decide +kernel)
    have p3 : Iv .f64 (logS x) 13826050856027422720 0 := p1.quo p2 _ _ (by decide +kernel)
    have p4 : Iv .f64 (fop .mul .f64 (logS x) (logQ (fop .mul .f64 (logS x) (logS x)) 13)) 13819745816549104026 0 := (hs.meet p3).mul hq _ _ (by decide +kernel)
    have p5 : Iv .f64 (fop .mul .f64 4611686018427387904 (fop .mul .f64 (logS x) (logQ (fop .mul .f64 (logS x) (logS x)) 13))) 13824429560161569341 0 := two_iv.mul p4 _ _ (by decide +kernel)
    have e1 := Iv.int .f64 ((n : Nat) : Int) (a := 8) (b := 8) (by omega) (by omega) (by omega) (by omega)
    have e2 : Iv .f64 (fop .mul .f64 (canon .f64 (FloatKind.nearest .f64 ((n : Nat) : Int))) 4604418534313441775) 4617878467915022336 4617929333195553263 := e1.mul ln2_iv _ _ (by decide +kernel)
    exact p5.add e2 _ _ (by decide +kernel)

/-! ### Numbers made whole -/

theorem whole_even {x N : Nat} (h : Iv .f64 x 0 (canon .f64 (FloatKind.nearest .f64 ((N : Nat) : Int)))) (hN : N ≤ 16777216) : ∃ n : Nat, n ≤ N ∧ isFl .f64 (wholeW .even x) ∧ fv .f64 (wholeW .even x) = ((n : Nat) : Rat) := by
  obtain ⟨s, m, e, hd⟩ := h.fx
  have hlo := h.lo; have hhi := h.hi
  rw [(zero_fl .f64).2] at hlo
  rw [(int_exact (k := .f64) ((N : Nat) : Int) (by omega)).2, Rat.intCast_natCast] at hhi
  have hv := fv_num hd
  have hm := mv_nonneg m e
  obtain ⟨c, hc, hup, _, _, _⟩ := cut_eq s (m <<< e.toNat) (-e).toNat
  -- the size
  have hmN : m ≠ 0 → mgv m e ≤ mgv N 0 := by
    intro hm0
    rw [mv_zero]
    rcases sg_cases s with ⟨_, e1⟩ | ⟨_, e1⟩ <;> rw [e1] at hv
    · grind
    · have : mgv m e = 0 := by grind
      rw [this]; exact Rat.natCast_nonneg
  have hcN : c ≤ N := by
    refine hup N ?_
    rw [Nat.shiftLeft_eq]
    by_cases hm0 : m = 0
    · subst hm0; simp
    · have := hmN hm0
      rcases Int.le_total 0 e with he | he
      · have e1 : (-e).toNat = 0 := by omega
        rw [e1, Nat.pow_zero, Nat.mul_one]
        have e2 : mgv m e = mgv (m * 2 ^ e.toNat) 0 := by rw [mv_shift]; congr 1; omega
        rw [e2] at this; exact mv_le.1 this
      · have e1 : e.toNat = 0 := by omega
        rw [e1, Nat.pow_zero, Nat.mul_one]
        have e3 : mgv N 0 = mgv (N * 2 ^ (-e).toNat) e := by rw [mv_shift]; congr 1; omega
        rw [e3] at this; exact mv_le.1 this
  have hz : Rd .f64 (sg s * mgv c 0) (wholeW .even x) := by
    have : wholeW .even x = canon .f64 (FloatKind.f64.format.nearest s c 0) := by
      unfold wholeW
      rw [hd]
      show canon .f64 (FloatKind.f64.format.write (.number s (Ieee.Toward.even.cut s (m <<< e.toNat) (-e).toNat) 0)) = _
      rw [hc]; rfl
    rw [this]
    exact nearest_Rd .f64 s c 0

  have hbv : mgv 16777216 0 ≤ fv .f64 9218868437227405311 := by decide +kernel
  obtain ⟨w, hw, hwv⟩ := rep_fin (k := .f64) (m := c) (e := 0) (by have : 16777216 ≤ 2 * FloatKind.f64.format.binade := by decide
                                                                   omega) (by decide) big64 (Rat.le_trans (mv_le.2 (by omega)) hbv) s
  have hx := hz.exact hw hwv.symm
  rcases sg_cases s with ⟨_, e1⟩ | ⟨_, e1⟩
  · refine ⟨c, hcN, hx.1, ?_⟩
    rw [hx.2, e1, mv_zero]; grind
  · -- a negative sign: nothing
    have m0 : mgv m e = 0 := by rw [e1] at hv; grind
    have : m = 0 := by
      rcases Nat.eq_zero_or_pos m with h | h
      · exact h
      · have h2 : mgv 0 e < mgv m e := mv_lt.2 h
        have h3 : mgv 0 e = 0 := by unfold mgv; simp
        grind
    subst this
    have c0 : c = 0 := by
      have := hup 0 (by simp)
      omega
    refine ⟨0, by omega, hx.1, ?_⟩
    rw [hx.2, c0]
    unfold mgv; simp

theorem whole_even_int {x N : Nat} (h : Iv .f64 x 0 (canon .f64 (FloatKind.nearest .f64 ((N : Nat) : Int)))) (hN : N ≤ 16777216) : ∃ n : Nat, n ≤ N ∧ f2i .f64 (wholeW .even x) .i64 = some (n : Int) := by
  have key : ∃ n : Nat, n ≤ N ∧ isFl .f64 (wholeW .even x) ∧ fv .f64 (wholeW .even x) = ((n : Nat) : Rat) :=
     whole_even h hN
  obtain ⟨n, h1, h2, h3⟩ := key
  obtain ⟨m, m1, m2, m3, _⟩ := f2i_val h2 (by rw [h3]; exact Rat.natCast_nonneg) (N := n + 1) (by rw [h3]; exact Rat.natCast_lt_natCast.2 (by omega)) (by omega)
  rw [h3] at m2 m3
  have := Rat.natCast_le_natCast.1 m2
  have := Rat.natCast_lt_natCast.1 m3
  have : m = n := by omega
  subst this
  exact ⟨m, h1, m1⟩

end Go.Sim
