/- Lists of complex numbers, spectra. Conditions: none. -/
import Derived.Test.YtgjdkhocnnoimaaPvI
import Derived.Test.YtgjdkhocnnoimaaPvR

section
namespace Go.Sim
open Go

/-! ### Phasors -/

def quart (f : Nat) : Nat → Nat
  | 0 => f
  | k + 1 => fop .sub .f64 (quart f k) 4598175219545276416

def quartN (f : Nat) : Nat := firstF (fun k => fcmp .geq .f64 (quart f k) 4598175219545276416) 5

theorem q_iv : Iv .f64 4598175219545276416 4598175219545276416 4598175219545276416 := Iv.self (by decide +kernel)

theorem quart_up {f : Nat} (h : Iv .f64 f 0 4607182418800017408) : Iv .f64 (quart f 4) 13830554455654793216 0 ∧ ∀ k, k ≤ 4 → Iv .f64 (quart f k) 13830554455654793216 4607182418800017408 := by
  have h0 : Iv .f64 (quart f 0) 0 4607182418800017408 := h
  have h1 : Iv .f64 (quart f 1) 13821547256400052224 4604930618986332160 := h0.sub q_iv _ _ (by decide +kernel)
  have h2 : Iv .f64 (quart f 2) 13826050856027422720 4602678819172646912 := h1.sub q_iv _ _ (by decide +kernel)
  have h3 : Iv .f64 (quart f 3) 13828302655841107968 4598175219545276416 := h2.sub q_iv _ _ (by decide +kernel)
  have h4 : Iv .f64 (quart f 4) 13830554455654793216 0 := h3.sub q_iv _ _ (by decide +kernel)
  refine ⟨h4, fun k hk => ?_⟩
  rcases (by omega : k = 0 ∨ k = 1 ∨ k = 2 ∨ k = 3 ∨ k = 4) with rfl | rfl | rfl | rfl | rfl
  · exact h0.weak _ _ (by decide +kernel)
  · exact h1.weak _ _ (by decide +kernel)
  · exact h2.weak _ _ (by decide +kernel)
  · exact h3.weak _ _ (by decide +kernel)
  · exact h4.weak _ _ (by decide +kernel)

theorem quart_ends {f : Nat} (h : Iv .f64 f 0 4607182418800017408) : allBelow (fun k => fcmp .geq .f64 (quart f k) 4598175219545276416) 5 = false :=
  allBelow_false (j := 4) (by omega) ((quart_up h).1.geq_f (by decide +kernel))

theorem quart_spec {f : Nat} (h : Iv .f64 f 0 4607182418800017408) : quartN f ≤ 4 ∧ Iv .f64 (quart f (quartN f)) 0 4598175219545276416 := by
  have he := quart_ends h
  have h1 : quartN f < 5 := firstF_lt he
  have h2 : fcmp .geq .f64 (quart f (quartN f)) 4598175219545276416 = false := firstF_false he
  have h3 : ∀ k, k < quartN f → fcmp .geq .f64 (quart f k) 4598175219545276416 = true := firstF_before he
  generalize quartN f = n at *
  have hn := (quart_up h).2 n (by omega)
  have z := zero_fl .f64
  have hhi : fv .f64 (quart f n) ≤ fv .f64 4598175219545276416 := by
    rw [Bool.eq_false_iff, ne_eq, geq_iff hn.fx q_iv.fx] at h2; grind
  have hlo : fv .f64 0 ≤ fv .f64 (quart f n) := by
    rcases Nat.eq_zero_or_pos n with h0 | h0
    · subst h0; exact h.lo
    · obtain ⟨m, rfl⟩ : ∃ m, n = m + 1 := ⟨n - 1, by omega⟩
      have hm := (quart_up h).2 m (by omega)
      have g := (geq_iff hm.fx q_iv.fx).1 (h3 m (by omega))
      have im : Iv .f64 (quart f m) 4598175219545276416 4607182418800017408 := ⟨hm.fx, q_iv.fx, hm.fh, g, hm.hi⟩
      exact (im.sub q_iv 0 4607182418800017408 (by decide +kernel)).lo
  exact ⟨by omega, hn.fx, z.1, q_iv.fx, hlo, hhi⟩

theorem sin_sub0 {y : Nat} (h : Iv .f64 y 0 4647714815446351872) : Iv .f64 (fop .sub .f64 0 (sinW y)) 13835058055282163712 4611686018427387904 :=
  (Iv.self (k := .f64) (x := 0) (by decide +kernel)).sub (sin_iv h) _ _ (by decide +kernel)

theorem sin_sub0_down {y : Nat} (h : Iv .f64 y 0 4647714815446351872) : Iv .f32 (fcv .f64 .f32 (fop .sub .f64 0 (sinW y))) 3221225472 1073741824 ∧ fconvOk .f64 .f32 (fop .sub .f64 0 (sinW y)) := (sin_sub0 h).down _ _ (by decide +kernel)

end Go.Sim
end

section
namespace Go.Sim
open Go

/-! ### Lists that the laws mark -/

/-! ### Remainders -/

/-! ### Spectra -/

end Go.Sim
end
