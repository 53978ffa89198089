/- The sine of a number of turns from 0 to 512. Conditions: none. -/
import Derived.Test.YtgjdkhocnnoimaaPvH
namespace Go.Sim
open Go

theorem self_sub {k : FloatKind} {x : Nat} (h : isFl k x) : fcmp .neq k (fop .sub k x x) 0 = false := by
  have z := zero_fl k
  have := (sub_Rd h h).exact z.1 (by rw [z.2]; grind)
  rw [fcmp_neq]
  have e : fcmp .eql k (fop .sub k x x) 0 = true := (eql_iff this.1 z.1).2 (by rw [this.2, z.2]; grind)
  rw [e]; rfl

/-- What is left of a number without its whole ones. -/
def fracD (y : Nat) : Nat := fop .sub .f64 y (canon .f64 (FloatKind.nearest .f64 (Option.getD (f2i .f64 y .i64) 0)))

def sinQ (k : Nat) : Int := (((2 : Int) * ((8 : Int) + (-1 : Int) * ((k : Nat) : Int))) * (((2 : Int) * ((8 : Int) + (-1 : Int) * ((k : Nat) : Int))) + (1 : Int)))

def sinP (u : Nat) : Nat → Nat
  | 0 => 4607182418800017408
  | k + 1 => fop .sub .f64 4607182418800017408 (fop .quo .f64 (fop .mul .f64 u (sinP u k)) (canon .f64 (FloatKind.nearest .f64 (sinQ k))))

def sinF2 (y : Nat) : Nat := if fcmp .geq .f64 (fracD y) 4602678819172646912 = true then fop .sub .f64 (fracD y) 4602678819172646912 else fracD y
def sinF3 (y : Nat) : Nat := if fcmp .gtr .f64 (sinF2 y) 4598175219545276416 = true then fop .sub .f64 4602678819172646912 (sinF2 y) else sinF2 y
def sinZ (y : Nat) : Nat := fop .mul .f64 (sinF3 y) 4618760256179416344
def sinR (y : Nat) : Nat := fop .mul .f64 (sinZ y) (sinP (fop .mul .f64 (sinZ y) (sinZ y)) 8)
/-- The sine. -/
@[irreducible] def sinW (y : Nat) : Nat := if fcmp .geq .f64 (fracD y) 4602678819172646912 = true then fneg .f64 (sinR y) else sinR y

theorem sinQ_range : ∀ k, k < 8 → 6 ≤ sinQ k ∧ sinQ k ≤ 272 := by decide
theorem half_iv : Iv .f64 4602678819172646912 4602678819172646912 4602678819172646912 := Iv.self (by decide +kernel)
theorem tau_iv : Iv .f64 4618760256179416344 4618760256179416344 4618760256179416344 := Iv.self (by decide +kernel)
theorem one64_iv : Iv .f64 4607182418800017408 4607182418800017408 4607182418800017408 := Iv.self (by decide +kernel)

theorem frac_spec {y : Nat} (h : Iv .f64 y 0 4647714815446351872) : (f2i .f64 y .i64).isSome = true ∧ Iv .f64 (fracD y) 0 4607182418800017408 := by
  have z := zero_fl .f64
  have l := h.lo; rw [z.2] at l
  have v : fv .f64 4647714815446351872 = 512 := by decide +kernel
  have hi := h.hi; rw [v] at hi
  have hN : fv .f64 y < ((513 : Nat) : Rat) := by
    have : ((513 : Nat) : Rat) = 513 := rfl
    grind
  obtain ⟨n, h1, h2, h3, h4⟩ := f2i_val h.fx l (N := 513) hN (by omega)
  rw [h1]
  refine ⟨rfl, ?_⟩
  unfold fracD
  rw [h1]
  simp only [Option.getD_some]
  obtain ⟨i1, i2⟩ := int_exact (k := .f64) ((n : Nat) : Int) (by omega)
  rw [Rat.intCast_natCast] at i2
  have v1 : fv .f64 4607182418800017408 = 1 := by decide +kernel
  refine (sub_Rd h.fx i1).iv z.1 (finB_fl (by decide +kernel)) ?_ ?_
  · rw [z.2, i2]; grind
  · rw [i2, v1]
    rw [Rat.natCast_add] at h3
    have e1 : ((1 : Nat) : Rat) = 1 := rfl
    grind

theorem sinP_iv {u : Nat} (h : Iv .f64 u 0 4613037098315599053) : ∀ k, k ≤ 8 → Iv .f64 (sinP u k) 0 4607182418800017408 := by
  intro k
  induction k with
  | zero => intro _; exact one64_iv.weak _ _ (by decide +kernel)
  | succ k ih =>
    intro hk
    have h1 := ih (by omega)
    have h2 : Iv .f64 (fop .mul .f64 u (sinP u k)) 0 4613037098315599053 := h.mul h1 _ _ (by decide +kernel)
    have hq := sinQ_range k (by omega)
    have h3 := Iv.int .f64 (sinQ k) (a := 6) (b := 272) hq.1 hq.2 (by omega) (by omega)
    have h4 : Iv .f64 (fop .quo .f64 (fop .mul .f64 u (sinP u k)) (canon .f64 (FloatKind.nearest .f64 (sinQ k)))) 0 4601778099247172813 := h2.quo h3 _ _ (by decide +kernel)
    exact one64_iv.sub h4 _ _ (by decide +kernel)

theorem sinF2_iv {y : Nat} (h : Iv .f64 y 0 4647714815446351872) : Iv .f64 (sinF2 y) 0 4602678819172646912 := by
  have hf := (frac_spec h).2
  unfold sinF2
  have v : fv .f64 4602678819172646912 = 1 / 2 := by decide +kernel
  split
  · rename_i ht
    rw [geq_iff hf.fx half_iv.fx] at ht
    have : Iv .f64 (fracD y) 4602678819172646912 4607182418800017408 := ⟨hf.fx, half_iv.fx, hf.fh, ht, hf.hi⟩
    exact this.sub half_iv _ _ (by decide +kernel)
  · rename_i ht
    rw [geq_iff hf.fx half_iv.fx] at ht
    exact ⟨hf.fx, hf.fl, half_iv.fx, hf.lo, by grind⟩

theorem sinF3_iv {y : Nat} (h : Iv .f64 y 0 4647714815446351872) : Iv .f64 (sinF3 y) 0 4598175219545276416 := by
  have hf := sinF2_iv h
  unfold sinF3
  have q : Iv .f64 4598175219545276416 4598175219545276416 4598175219545276416 := Iv.self (by decide +kernel)
  split
  · rename_i ht
    rw [gtr_iff hf.fx q.fx] at ht
    have : Iv .f64 (sinF2 y) 4598175219545276416 4602678819172646912 := ⟨hf.fx, q.fx, hf.fh, Rat.le_of_lt ht, hf.hi⟩
    exact half_iv.sub this _ _ (by decide +kernel)
  · rename_i ht
    rw [gtr_iff hf.fx q.fx] at ht
    exact ⟨hf.fx, hf.fl, q.fx, hf.lo, by grind⟩

theorem sinR_iv {y : Nat} (h : Iv .f64 y 0 4647714815446351872) : Iv .f64 (sinR y) 0 4611686018427387904 := by
  have h3 := sinF3_iv h
  have hz : Iv .f64 (sinZ y) 0 4609884578576439706 := h3.mul tau_iv _ _ (by decide +kernel)
  have hu : Iv .f64 (fop .mul .f64 (sinZ y) (sinZ y)) 0 4613037098315599053 := hz.mul hz _ _ (by decide +kernel)
  exact hz.mul (sinP_iv hu 8 (by omega)) _ _ (by decide +kernel)

/-- The other sign of a float of either kind. -/
theorem fneg_fl {k : FloatKind} {x : Nat} (hx : okW k x) (h : isFl k x) : isFl k (fneg k x) ∧ fv k (fneg k x) = - fv k x := by
  have hn := isF_notN h
  obtain ⟨s, r, hr, rfl⟩ := word_of_notN hx hn
  have hr' : r < k.format.infRung := by
    have := read_fin h; rw [(word_mod k.format s hr).1] at this; exact this
  have e : fneg k (k.format.word s r) = k.format.word (!s) r := by
    unfold fneg; rw [hn, neg_word hr]; rfl
  rw [e]
  obtain ⟨a, b⟩ := word_fin (k := k) (s := !s) hr'
  obtain ⟨_, d⟩ := word_fin (k := k) (s := s) hr'
  exact ⟨a, by rw [b, d, sg_not]; grind⟩

theorem okW_fop (op : BinOp) (k : FloatKind) (x y : Nat) : okW k (fop op k x y) := by
  unfold fop
  have cn : okW k (cNaN k) := by cases k <;> (show _ < _; decide)
  cases hb : floatBits op k x y with
  | some r =>
    have := floatBits_wf hb
    have hr : okW k r := by cases k <;> (simp [Lit.wf] at this; exact this)
    show okW k (if isN k r = true then cNaN k else r)
    by_cases h : isN k r = true
    · rw [if_pos h]; exact cn
    · rw [if_neg h]; exact hr
  | none => exact cn

theorem sin_iv {y : Nat} (h : Iv .f64 y 0 4647714815446351872) : Iv .f64 (sinW y) 13835058055282163712 4611686018427387904 := by
  have hr := sinR_iv h
  unfold sinW
  split
  · obtain ⟨a, b⟩ := fneg_fl (k := .f64) (x := sinR y) (okW_fop ..) hr.fx
    have lo := hr.lo; have hi := hr.hi
    rw [(zero_fl .f64).2] at lo
    have v2 : fv .f64 4611686018427387904 = 2 := by decide +kernel
    have v3 : fv .f64 13835058055282163712 = -2 := by decide +kernel
    exact ⟨a, finB_fl (by decide +kernel), hr.fh, by show fv .f64 13835058055282163712 ≤ fv .f64 (fneg .f64 (sinR y)); rw [b, v3]; grind, by show fv .f64 (fneg .f64 (sinR y)) ≤ _; rw [b, v2]; grind⟩
  · exact hr.weak _ _ (by decide +kernel)

/-! ### As the programs compute it -/

theorem sin_tt {y p : Nat} (h1 : fcmp .geq .f64 (fracD y) 4602678819172646912 = true) (h2 : fcmp .gtr .f64 (fop .sub .f64 (fracD y) 4602678819172646912) 4598175219545276416 = true)
    (hp : p = sinP (fop .mul .f64 (fop .mul .f64 (fop .sub .f64 4602678819172646912 (fop .sub .f64 (fracD y) 4602678819172646912)) 4618760256179416344) (fop .mul .f64 (fop .sub .f64 4602678819172646912 (fop .sub .f64 (fracD y) 4602678819172646912)) 4618760256179416344)) 8) :
    fneg .f64 (fop .mul .f64 (fop .mul .f64 (fop .sub .f64 4602678819172646912 (fop .sub .f64 (fracD y) 4602678819172646912)) 4618760256179416344) p) = sinW y := by
  unfold sinW sinR sinZ sinF3 sinF2; rw [hp]; simp only [h1, h2, if_true]
theorem sin_tf {y p : Nat} (h1 : fcmp .geq .f64 (fracD y) 4602678819172646912 = true) (h2 : fcmp .gtr .f64 (fop .sub .f64 (fracD y) 4602678819172646912) 4598175219545276416 = false)
    (hp : p = sinP (fop .mul .f64 (fop .mul .f64 (fop .sub .f64 (fracD y) 4602678819172646912) 4618760256179416344) (fop .mul .f64 (fop .sub .f64 (fracD y) 4602678819172646912) 4618760256179416344)) 8) :
    fneg .f64 (fop .mul .f64 (fop .mul .f64 (fop .sub .f64 (fracD y) 4602678819172646912) 4618760256179416344) p) = sinW y := by
  unfold sinW sinR sinZ sinF3 sinF2; rw [hp]; simp only [h1, h2, if_true, if_false, Bool.false_eq_true]
theorem sin_ft {y p : Nat} (h1 : fcmp .geq .f64 (fracD y) 4602678819172646912 = false) (h2 : fcmp .gtr .f64 (fracD y) 4598175219545276416 = true)
    (hp : p = sinP (fop .mul .f64 (fop .mul .f64 (fop .sub .f64 4602678819172646912 (fracD y)) 4618760256179416344) (fop .mul .f64 (fop .sub .f64 4602678819172646912 (fracD y)) 4618760256179416344)) 8) :
    fop .mul .f64 (fop .mul .f64 (fop .sub .f64 4602678819172646912 (fracD y)) 4618760256179416344) p = sinW y := by
  unfold sinW sinR sinZ sinF3 sinF2; rw [hp]; simp only [h1, h2, if_true, if_false, Bool.false_eq_true]
theorem sin_ff {y p : Nat} (h1 : fcmp .geq .f64 (fracD y) 4602678819172646912 = false) (h2 : fcmp .gtr .f64 (fracD y) 4598175219545276416 = false)
    (hp : p = sinP (fop .mul .f64 (fop .mul .f64 (fracD y) 4618760256179416344) (fop .mul .f64 (fracD y) 4618760256179416344)) 8) :
    fop .mul .f64 (fop .mul .f64 (fracD y) 4618760256179416344) p = sinW y := by
  unfold sinW sinR sinZ sinF3 sinF2; rw [hp]; simp only [h1, h2, if_false, Bool.false_eq_true]

def sinC : Nat → Nat
  | 0 => 4620693217682128896
  | k + 1 => fop .sub .f64 (sinC k) 4607182418800017408

theorem sinC_tab : ∀ k, k < 8 → fop .mul .f64 (fop .mul .f64 4611686018427387904 (sinC k)) (fop .add .f64 (fop .mul .f64 4611686018427387904 (sinC k)) 4607182418800017408) = canon .f64 (FloatKind.nearest .f64 (sinQ k)) := by decide +kernel

theorem sin_SC (u : Nat) (S C : Nat → Nat) (c0 : C 0 = 4620693217682128896) (cs : ∀ k, C (k + 1) = fop .sub .f64 (C k) 4607182418800017408) (h0 : S 0 = 4607182418800017408)
    (hs : ∀ k, S (k + 1) = fop .sub .f64 4607182418800017408 (fop .quo .f64 (fop .mul .f64 u (S k)) (fop .mul .f64 (fop .mul .f64 4611686018427387904 (C k)) (fop .add .f64 (fop .mul .f64 4611686018427387904 (C k)) 4607182418800017408)))) : S 8 = sinP u 8 := by
  have hc : ∀ k, C k = sinC k := by
    intro k
    induction k with
    | zero => exact c0
    | succ k ih => rw [cs, ih]; rfl
  have key : ∀ k, k ≤ 8 → S k = sinP u k := by
    intro k
    induction k with
    | zero => intro _; exact h0
    | succ k ih => intro hk; rw [hs, ih (by omega), hc, sinC_tab k (by omega)]; rfl
  exact key 8 (Nat.le_refl _)

theorem sin_down {y : Nat} (h : Iv .f64 y 0 4647714815446351872) : Iv .f32 (fcv .f64 .f32 (sinW y)) 3221225472 1073741824 ∧ fconvOk .f64 .f32 (sinW y) := (sin_iv h).down _ _ (by decide +kernel)

end Go.Sim
