/- Solved lags as a chain, ladders as lattices. Conditions: none. -/

import Derived.Test.YtgjdkhocnnoimaaProg
import Derived.KernelRfl
import Derived.Test.YtgjdkhocnnoimaaQGpb
import Derived.Test.YtgjdkhocnnoimaaQGla
import Derived.Test.YtgjdkhocnnoimaaPwJ

set_option linter.unusedSimpArgs false

set_option linter.unusedVariables false

namespace Go.Sim

open Go Go.Proofs

/-! ### The steps of each order, nearly solved -/

section
variable {x : Nat → Rat} (hx : ∀ n, 12 ≤ n → x n = 0) {xs : List Nat} {n : Nat} (hL : ∀ j, j ≤ n → isFl .f32 (xs.getD j 0) ∧ fv .f32 (xs.getD j 0) = lagR x j) (hR : ∀ j, lagR x j ≤ 53 ∧ -53 ≤ lagR x j) (h9 : 9 ≤ x 0 * x 0)
include hx hL hR h9

theorem chain_at (N : Nat) (hn : n ≤ 6) : Chain x (fun m k => fv .f64 ((ev_solve_L1_S xs N m).2.2.getD k 0)) (fun m => fv .f64 (ev_solve_L1_S xs N m).1) n ∧ ∀ m, m < n → (ev_solve_L1_S xs N (m + 1)).2.2.getD m 0 = (ev_solve_L1_S xs N (m + 1)).2.1.getD m 0 := by
  have hR' : ∀ j, lagR x j ≤ 64 ∧ -64 ≤ lagR x j := fun j => by
    have := hR j
    exact ⟨by grind, by grind⟩
  have S := fun m hm => (solve_at hx hL hR' (by grind) N hn m hm).1
  have P6 : ∀ m, m ≤ n → P2 m ≤ 64 := fun m hm => by
    have := P2_mono (i := m) (j := 6) (by omega)
    have e : P2 6 = 64 := by decide +kernel
    rw [e] at this; exact this
  have lo : ∀ m, m ≤ n → 899 / 100 ≤ fv .f64 (ev_solve_L1_S xs N m).1 := fun m hm => by
    obtain ⟨_, a, b⟩ := lev_e hx (S m hm).ok (by grind) (by omega) (P2_ge m) (P6 m hm)
    have g := en_ge (x := x) (fun k => fv .f64 ((ev_solve_L1_S xs N m).2.2.getD k 0)) m
    grind
  have hi : ∀ m, m ≤ n → fv .f64 (ev_solve_L1_S xs N m).1 ≤ 53 := fun m hm => by
    have := (S m hm).ok.he
    have := (hR 0).1
    grind
  -- the rung of a step
  have rung : ∀ m, m < n → ∃ r, (ev_solve_L1_S xs N (m + 1)).2.1.getD m 0 = r ∧ (ev_solve_L1_S xs N (m + 1)).2.2.getD m 0 = r ∧ (ev_solve_L1_S xs N (m + 1)).1 = fop .mul .f64 (ev_solve_L1_S xs N m).1 (fop .sub .f64 4607182418800017408 (fop .mul .f64 r r)) ∧
      ∀ k, k < m → (ev_solve_L1_S xs N (m + 1)).2.2.getD k 0 = fop .sub .f64 ((ev_solve_L1_S xs N m).2.2.getD k 0) (fop .mul .f64 r ((ev_solve_L1_S xs N m).2.2.getD (m - (k + 1)) 0)) := fun m hm => by
    have hs : ev_solve_L1_S xs N (m + 1) = ev_solve_L1_step xs N m (ev_solve_L1_S xs N m) := rfl
    have ll := (S m (by omega)).ll
    rw [hs]
    generalize ev_solve_L1_S xs N m = s at *
    have l3 := set_some (f := fun k3 => fop .sub .f64 (List.getD s.2.2 k3 0) (fop .mul .f64 (fop .quo .f64 (ev_solve_L2_S xs N m s m) s.1) (List.getD s.2.2 (m - (k3 + 1)) 0))) (ev_solve_L3_S xs N m s) (fun _ => rfl) m
    have l0 : (ev_solve_L3_S xs N m s 0).length = 1 + m := by simp [ev_solve_L3_S]
    rw [l0] at l3
    obtain ⟨l3, g3⟩ := l3
    refine ⟨fop .quo .f64 (ev_solve_L2_S xs N m s m) s.1, ?_, ?_, rfl, fun k hk => ?_⟩
    · show (s.2.1 ++ [fop .quo .f64 (ev_solve_L2_S xs N m s m) s.1]).getD m 0 = _
      rw [List.getD_eq_getElem?_getD, List.getElem?_append_right (by rw [ll]; exact Nat.le_refl _), ll]; simp
    · show (List.set (ev_solve_L3_S xs N m s m) m _).getD m 0 = _
      rw [getD_set_self _ _ _ (by omega)]
    · show (List.set (ev_solve_L3_S xs N m s m) m _).getD k 0 = _
      rw [getD_set_ne _ _ _ _ (by omega), g3 k hk (by omega)]
  have rf : ∀ m, m < n → isFl .f64 ((ev_solve_L1_S xs N (m + 1)).2.1.getD m 0) ∧ fv .f64 ((ev_solve_L1_S xs N (m + 1)).2.1.getD m 0) ≤ 1 ∧ -1 ≤ fv .f64 ((ev_solve_L1_S xs N (m + 1)).2.1.getD m 0) := fun m hm => (S (m + 1) (by omega)).lf m (by omega)
  have more : ∀ m, m < n → fv .f64 (ev_solve_L1_S xs N (m + 1)).1 ≤ fv .f64 (ev_solve_L1_S xs N m).1 ∧ nr (19 / 20) (fv .f64 ((ev_solve_L1_S xs N (m + 1)).2.2.getD m 0)) 0 := fun m hm => by
    obtain ⟨r, a, b, c, _⟩ := rung m hm
    obtain ⟨f1, f2, f3⟩ := rf m hm
    rw [a] at f1 f2 f3
    have l := lo (m + 1) (by omega)
    rw [b]
    exact lev_more (S m (by omega)).ok.fe f1 (by have := lo m (by omega); grind) (by have := hi m (by omega); grind) f2 f3 c (by grind)
  have bin : ∀ m, m ≤ n → ∀ k, k < m → nr ((bn m k : Rat) + (P2 m - 1) * (1 / 1000000000000)) (fv .f64 ((ev_solve_L1_S xs N m).2.2.getD k 0)) 0 := by
    intro m
    induction m with
    | zero => intro _ k hk; omega
    | succ m ih =>
      intro hm k hk
      obtain ⟨r, a, b, _, d⟩ := rung m (by omega)
      obtain ⟨f1, f2, f3⟩ := rf m (by omega)
      rw [a] at f1 f2 f3
      have ps := P2_succ m
      have pg := P2_ge m
      have p6 := P6 m (by omega)
      rcases Nat.lt_or_ge k m with g | g
      · rw [d k g]
        have tab : ∀ m, m < 6 → ∀ k, k < m → (bn m k : Rat) ≤ 10 := by decide +kernel
        have t1 := tab m (by omega) k g
        have t2 := tab m (by omega) (m - 1 - k) (by omega)
        have n1 := natR_nonneg (bn m k)
        have n2 := natR_nonneg (bn m (m - 1 - k))
        have x1 := ih (by omega) k g
        have x2 := ih (by omega) (m - 1 - k) (by omega)
        rw [show m - (k + 1) = m - 1 - k by omega]
        have q := lev_bin ((S m (by omega)).ok.fs k g) ((S m (by omega)).ok.fs (m - 1 - k) (by omega)) f1 f2 f3 (by grind) (by grind) (by grind) (by grind) x1 x2
        have e : (bn (m + 1) k : Rat) = (bn m k : Rat) + (bn m (m - 1 - k) : Rat) := by
          have : bn (m + 1) k = bn m k + bn m (m - 1 - k) := by simp only [bn]; rw [if_pos g]
          rw [this, Rat.natCast_add]
        rw [e]
        exact q.mono (by grind)
      · have hk' : k = m := by omega
        subst hk'
        have e : (bn (k + 1) k : Rat) = 1 := by
          have : bn (k + 1) k = 1 := by simp only [bn]; rw [if_neg (by omega)]
          rw [this]; rfl
        rw [b, e]
        exact nr_of (by grind) (by grind)
  have bin' : ∀ m, m ≤ n → ∀ k, k < m → nr ((bn m k : Rat) + 1 / 100000000) (fv .f64 ((ev_solve_L1_S xs N m).2.2.getD k 0)) 0 := fun m hm k hk => (bin m hm k hk).mono (by have := P6 m hm; grind)
  exact ⟨{ b := bin', s := fun m hm t h h0 ht => bin_sum (by omega) (bin' m hm) t h h0 ht
           z := fun m hm i hi => ((S m hm).ok.I.n i hi).mono (by have := P6 m hm; grind)
           o := fun m hm => ((S m hm).ok.I.o).mono (by have := P6 m hm; grind)
           lo := lo, hi := hi, mono := fun m hm => (more m hm).1, r := fun m hm => (more m hm).2 }, fun m hm => by obtain ⟨r, a, b, _⟩ := rung m hm; rw [a, b]⟩
end

/-! ### What a ladder leaves, in floats -/

def lE : Nat → Rat
  | 0 => 0
  | m + 1 => 3 / 2 * lE m + 80 / 8388608
theorem lE_tab : ∀ m, m < 7 → 0 ≤ lE m ∧ lE m ≤ 1 / 4000 := by decide +kernel

section
variable {x r : Nat → Rat} (hx : ∀ n, x n ≤ 2 ∧ -2 ≤ x n) (hr : ∀ k, r k ≤ 1 / 2 ∧ -(1 / 2) ≤ r k) {rs : List Nat} {n : Nat} (hn : rs.length = n) (h6 : n ≤ 6) (hrs : ∀ k, k < n → isFl .f32 (rs.getD k 0) ∧ fv .f32 (rs.getD k 0) = r k)
include hx hr hn h6 hrs

theorem lat_float {N xw : Nat} (fx : isFl .f32 xw) (vx : fv .f32 xw = x N) {ks : List Nat} (kl : ks.length = n) (hk : ∀ j, j < n → isFl .f32 (ks.getD j 0) ∧ nr (lE j) (fv .f32 (ks.getD j 0)) (ubR x (aR r j) j N)) :
    ∀ m, m ≤ n → isFl .f32 (latS rs ks xw m).1 ∧ nr (lE m) (fv .f32 (latS rs ks xw m).1) (resR x (aR r m) m N) ∧ isFl .f32 (latS rs ks xw m).2.1 ∧ nr (lE m) (fv .f32 (latS rs ks xw m).2.1) (uR x (aR r m) m N) ∧
      (latS rs ks xw m).2.2.length = n ∧ (∀ j, j < m → isFl .f32 ((latS rs ks xw m).2.2.getD j 0) ∧ nr (lE j) (fv .f32 ((latS rs ks xw m).2.2.getD j 0)) (uR x (aR r j) j N)) ∧ ∀ j, m ≤ j → (latS rs ks xw m).2.2.getD j 0 = ks.getD j 0 := by
  intro m
  induction m with
  | zero =>
    intro _
    have e1 : resR x (aR r 0) 0 N = x N := by unfold resR; simp only [sumR]; grind
    have e2 : uR x (aR r 0) 0 N = x N := by
      have : sh x 0 N = x N := by unfold sh; rw [if_pos (by omega)]; rfl
      unfold uR; simp only [sumR]; rw [this]; grind
    simp only [latS, lE]
    rw [e1, e2, vx]
    exact ⟨fx, nr.self _, fx, nr.self _, kl, fun j hj => by omega, fun j _ => trivial⟩
  | succ m ih =>
    intro hm
    obtain ⟨f1, f2, u1, u2, l1, l2, l3⟩ := ih (by omega)
    obtain ⟨b1, b2⟩ := hk m (by omega)
    obtain ⟨c1, c2⟩ := hrs m (by omega)
    have ebm := l3 m (Nat.le_refl m)
    obtain ⟨g1, g2⟩ := gB_tab m (by omega)
    obtain ⟨q1, q2⟩ := lE_tab m (by omega)
    obtain ⟨B1, B2, B3⟩ := lat_bd hx hr m (by omega) N
    have hrm := hr m
    have ef : resR x (aR r (m + 1)) (m + 1) N = resR x (aR r m) m N - r m * ubR x (aR r m) m N := lat_f x (aR r m) (r m) m N
    have eu : uR x (aR r (m + 1)) (m + 1) N = ubR x (aR r m) m N - r m * resR x (aR r m) m N := lat_u x (aR r m) (r m) m N
    simp only [latS, lE]
    rw [ebm, ef, eu]
    generalize (latS rs ks xw m).1 = F at *
    generalize ks.getD m 0 = Kb at *
    generalize resR x (aR r m) m N = Rf at *
    generalize ubR x (aR r m) m N = Ub at *
    obtain ⟨B1a, B1b⟩ := nr_abs B1
    obtain ⟨B3a, B3b⟩ := nr_abs B3
    have one : ∀ (F G : Nat) (f g : Rat), isFl .f32 F → isFl .f32 G → nr (lE m) (fv .f32 F) f → nr (lE m) (fv .f32 G) g → f ≤ gB m → -gB m ≤ f → g ≤ gB m → -gB m ≤ g → isFl .f32 (fop .sub .f32 F (fop .mul .f32 (rs.getD m 0) G)) ∧ nr (3 / 2 * lE m + 80 / 8388608) (fv .f32 (fop .sub .f32 F (fop .mul .f32 (rs.getD m 0) G))) (f - r m * g) := fun F G f g fF fG nF nG f1 f2 g1' g2' => by
      have nG' := nr_mulC nG hrm.1 hrm.2
      have pr := mul_Rd c1 fG
      rw [c2] at pr
      have pg := mul_bd hrm.1 hrm.2 g1' g2'
      obtain ⟨n1, n2⟩ := nG'
      obtain ⟨m1, m2⟩ := nF
      obtain ⟨p1, p2, p3⟩ := rnd32 pr (B := 16) (by grind) (by grind) (by grind) (by grind)
      obtain ⟨s1, s2, s3⟩ := rnd32 (sub_Rd fF p1) (B := 64) (by grind) (by grind) (by grind) (by grind)
      exact ⟨s1, by grind, by grind⟩
    obtain ⟨a1, a2⟩ := one F Kb Rf Ub f1 b1 f2 b2 B1a B1b B3a B3b
    obtain ⟨d1, d2⟩ := one Kb F Ub Rf b1 f1 b2 f2 B3a B3b B1a B1b
    refine ⟨a1, a2, d1, d2, by rw [List.length_set]; exact l1, fun j hj => ?_, fun j hj => ?_⟩
    · rcases (show j = m ∨ j < m by omega) with rfl | h
      · rw [getD_set_self _ _ _ (by omega)]; exact ⟨u1, u2⟩
      · rw [getD_set_ne _ _ _ _ (by omega)]; exact l2 j h
    · rw [getD_set_ne _ _ _ _ (by omega)]; exact l3 j (by omega)

theorem lat_one {N xw : Nat} (fx : isFl .f32 xw) (vx : fv .f32 xw = x N) {ks : List Nat} (kl : ks.length = n) (hk : ∀ j, j < n → isFl .f32 (ks.getD j 0) ∧ nr (lE j) (fv .f32 (ks.getD j 0)) (ubR x (aR r j) j N)) :
    isFl .f32 (ladV rs ks xw) ∧ nr (lE n) (fv .f32 (ladV rs ks xw)) (resR x (aR r n) n N) ∧ (ladK rs ks xw).length = n ∧ ∀ j, j < n → isFl .f32 ((ladK rs ks xw).getD j 0) ∧ nr (lE j) (fv .f32 ((ladK rs ks xw).getD j 0)) (ubR x (aR r j) j (N + 1)) := by
  have L := lat_float hx hr hn h6 hrs fx vx kl hk
  have B : latB rs ks xw rs.length = true := allBelow_true.2 fun m hm => fin32_isF.2 (L (m + 1) (by omega)).2.2.1
  obtain ⟨a1, a2, _, _, a5, a6, _⟩ := L n (Nat.le_refl n)
  unfold ladV ladK
  rw [if_pos B, if_pos B, hn]
  exact ⟨a1, a2, a5, fun j hj => by rw [ub_succ]; exact a6 j hj⟩
end

end Go.Sim
