/- Sounds that are drawn: their best predictors. Conditions: none. -/

import Derived.Test.YtgjdkhocnnoimaaProg
import Derived.KernelRfl
import Derived.Test.YtgjdkhocnnoimaaPGpb
import Derived.Test.YtgjdkhocnnoimaaPGso
import Derived.Test.YtgjdkhocnnoimaaPGda

set_option linter.unusedSimpArgs false

set_option linter.unusedVariables false

namespace Go.Sim

open Go Go.Proofs

/-! ### Predictors of lags -/

section
variable {x : Nat → Rat} (hx : ∀ n, 12 ≤ n → x n = 0) {xs : List Nat} {n : Nat} (hl : xs.length = n + 1) (h1 : 1 ≤ n) (h6 : n ≤ 6) (hL : ∀ j, j ≤ n → isFl .f32 (xs.getD j 0) ∧ fv .f32 (xs.getD j 0) = lagR x j) (hR : ∀ j, lagR x j ≤ 64 ∧ -64 ≤ lagR x j) (h4 : 4 ≤ x 0 * x 0)
include hx hl h1 h6 hL hR h4

theorem solve_ok : ∃ lad st e, solveF xs = (lad, st, e, true) ∧ SolveAt x (e, lad, st) n := by
  obtain ⟨S, G⟩ := solve_at hx hL hR h4 (n + 1) h6 n (Nat.le_refl n)
  refine ⟨_, _, _, ?_, S⟩
  unfold solveF
  rw [hl, if_pos (by omega), if_pos (by omega), if_pos (allFin_at fun k hk => (hL k (by omega)).1), show n + 1 - 1 = n by omega, if_pos (allBelow_true.2 fun k hk => G k hk)]

omit hl hL hR h4 hx h1 h6 in
theorem nar_list (ys : List Nat) : narF ys = (List.range ys.length).map fun k => fcv .f64 .f32 (ys.getD k 0) :=
  set_all _ _ (ev_narrowed_L1_S ys ys.length) (by simp [ev_narrowed_L1_S]) (fun _ => rfl)

omit hx hl h1 h6 hL hR h4 in
theorem down64 {y : Nat} (hy : isFl .f64 y) {B : Rat} (hB : 1 ≤ B) (hB2 : B ≤ 4294967296) (a : fv .f64 y ≤ B) (b : -B ≤ fv .f64 y) : isFl .f32 (fcv .f64 .f32 y) ∧ nr (B * (1 / 8388608)) (fv .f32 (fcv .f64 .f32 y)) (fv .f64 y) ∧ fconvOk .f64 .f32 y := by
  obtain ⟨f, g⟩ := rnd32 (fcv_down_Rd hy) hB hB2 a b
  exact ⟨f, g, fconvOk_fin hy f⟩

/-- The best predictor of lags, narrowed. -/
structure BestOk (x a : Nat → Rat) (bs : List Nat) (g n : Nat) : Prop where
  l : bs.length = n
  h : ∀ k, k < n → isFl .f32 (bs.getD k 0) ∧ nr (P2 n * (1 / 8388608)) (fv .f32 (bs.getD k 0)) (a k) ∧ a k ≤ P2 n ∧ -P2 n ≤ a k
  j : enJ x a n ≤ lagR x 0 + 1 / 100000
  gf : isFl .f32 g
  g0 : 0 ≤ fv .f32 g
  g1 : fv .f32 g ≤ 10
  gs : fv .f32 g * fv .f32 g ≤ lagR x 0 * (1001 / 1000) - 1 / 2000

structure SolOk (L : List Nat) : Prop where
  o : (solveF L).2.2.2 = true
  l : fcmp .lss .f64 (solveF L).2.2.1 0 = false
  n1 : 1 ≤ List.length (narF (solveF L).2.1)
  n2 : List.length (narF (solveF L).2.1) ≤ 16
  f : allFin (narF (solveF L).2.1) = true
  q : fin32 (fcv .f64 .f32 (sqrtW (solveF L).2.2.1)) = true
  q0 : fcmp .geq .f32 (fcv .f64 .f32 (sqrtW (solveF L).2.2.1)) 0 = true

theorem pred_of : SolOk xs ∧ (∀ k, fconvOk .f64 .f32 (List.getD (solveF xs).2.1 k 0)) ∧ fconvOk .f64 .f32 (sqrtW (solveF xs).2.2.1) ∧ (∀ k, fconvOk .f64 .f32 (List.getD (solveF xs).1 k 0)) ∧
    ∃ a bs g, predOfF xs = (bs, g, true) ∧ BestOk x a bs g n := by
  obtain ⟨lad, st, e, hs, S⟩ := solve_ok hx hl h1 h6 hL hR h4
  have P1 := P2_ge n
  have P6 : P2 n ≤ 64 := by
    have := P2_mono (i := n) (j := 6) (by omega)
    have e : P2 6 = 64 := by decide +kernel
    rw [e] at this; exact this
  have R0 := (hR 0).1
  obtain ⟨e3, eJ⟩ := lev_e hx S.ok h4 h6 P1 P6
  have he := S.ok.he
  have hfe := S.ok.fe
  obtain ⟨s1, s2, s3, s4⟩ := sqrt_near hfe e3 (by grind)
  have hd := fun k (hk : k < n) => down64 (S.ok.fs k hk) (B := P2 n) P1 (by grind) (by have := (S.ok.I.b k hk).1; grind) (by have := (S.ok.I.b k hk).2; grind)
  have out : ∀ (ys : List Nat) (m : Nat), ys.length = m → (∀ k, k < m → fconvOk .f64 .f32 (ys.getD k 0)) → ∀ k, fconvOk .f64 .f32 (ys.getD k 0) := fun ys m hm h k => by
    rcases Nat.lt_or_ge k m with g | g
    · exact h k g
    · have : ys.getD k 0 = 0 := by simp [hm, g]
      rw [this]; exact fconvOk_of (by decide)
  obtain ⟨g1, g2, g3⟩ := down64 s1 (B := 9) (by grind) (by grind) s3 (by grind)
  have zf := zero_fl .f32
  have g0 : 0 ≤ fv .f32 (fcv .f64 .f32 (sqrtW e)) := by
    have := (fcv_down_Rd s1).lo g1 zf.1 (by rw [zf.2]; exact s2)
    rw [zf.2] at this; exact this
  have hN := nar_list st
  have sl : st.length = n := S.sl
  have ll : lad.length = n := S.ll
  rw [sl] at hN
  have hf : allFin (narF st) = true := by rw [hN]; exact allFin_range fun k hk => (hd k hk).1
  have lN : (narF st).length = n := by rw [hN]; simp
  have zlt : fcmp .lss .f64 e 0 = false := by
    rw [Bool.eq_false_iff, ne_eq, lss_iff hfe (zero_fl .f64).1, (zero_fl .f64).2]; grind
  refine ⟨⟨by rw [hs], by rw [hs]; exact zlt, by rw [hs]; show 1 ≤ (narF st).length; omega, by rw [hs]; show (narF st).length ≤ 16; omega, by rw [hs]; exact hf, by rw [hs]; exact fin32_isF.2 g1, by rw [hs]; show fcmp .geq .f32 (fcv .f64 .f32 (sqrtW e)) 0 = true; rw [geq_iff g1 zf.1, zf.2]; exact g0⟩, by rw [hs]; exact out st n sl fun k hk => (hd k hk).2.2, by rw [hs]; exact g3, by rw [hs]; exact out lad n ll fun k hk => (down64 (S.lf k hk).1 (B := 1) (by grind) (by grind) (S.lf k hk).2.1 (S.lf k hk).2.2).2.2, fun k => fv .f64 (st.getD k 0), narF st, fcv .f64 .f32 (sqrtW e), ?_, ⟨lN, fun k hk => ?_, ?_, g1, g0, ?_, ?_⟩⟩
  · unfold predOfF
    rw [hs]
  · rw [hN, rangeD hk]
    obtain ⟨a1, a2, _⟩ := hd k hk
    have b := S.ok.I.b k hk
    exact ⟨a1, a2, by grind, by grind⟩
  · obtain ⟨j1, j2⟩ := eJ
    grind
  · obtain ⟨k1, k2⟩ := g2
    grind
  · obtain ⟨k1, k2⟩ := g2
    generalize fv .f32 (fcv .f64 .f32 (sqrtW e)) = z at *
    generalize fv .f64 (sqrtW e) = w at *
    have hz : z ≤ w + 1 / 500000 := by grind
    have q1 := Rat.mul_le_mul_of_nonneg_left hz g0
    have q2 := Rat.mul_le_mul_of_nonneg_right hz s2
    grind
end

/-! ### What a best predictor leaves -/

theorem term_le {f : Nat → Rat} {n m : Nat} (h : ∀ j, j < n → 0 ≤ f j) (hm : m < n) : f m ≤ sumR f n := by
  obtain ⟨d, rfl⟩ : ∃ d, n = m + (d + 1) := ⟨n - m - 1, by omega⟩
  rw [sumR_split, sumR_head]
  have a := sumR_nonneg (f := f) m fun j hj => h j (by omega)
  have b := sumR_nonneg (f := fun k => f (m + (k + 1))) d fun j hj => h _ (by omega)
  rw [Nat.add_zero]; grind

theorem two_sq (r d : Rat) : (r + d) * (r + d) ≤ 101 / 100 * (r * r) + 101 * (d * d) := by
  have := sq_nonneg (1 / 10 * r - 10 * d)
  grind

section
variable {vs : List Int} (hv : inB 8 vs) (hl : vs.length = 12) {a : Nat → Rat} {bs : List Nat} {g n : Nat} (h1 : 1 ≤ n) (h4 : n ≤ 4) (B : BestOk (xv vs) a bs g n) (h0 : xv vs 0 = 2)
include hv hl h1 h4 B h0

omit hl h0 in
theorem best_res (m : Nat) : isFl .f32 (fop .sub .f32 (List.getD (vs.map tW) m 0) (predAt bs (vs.map tW) m)) ∧ nr (1 / 5000) (fv .f32 (fop .sub .f32 (List.getD (vs.map tW) m 0) (predAt bs (vs.map tW) m))) (resR (xv vs) a n m) := by
  have P1 := P2_ge n
  have P4 : P2 n ≤ 16 := by
    have := P2_mono (i := n) (j := 4) (by omega)
    have e : P2 4 = 16 := by decide +kernel
    rw [e] at this; exact this
  have hc4 : ((min bs.length m : Nat) : Rat) ≤ 4 := natR_le (b := 4) (by have := B.l; omega)
  have hc0 := natR_nonneg (min bs.length m)
  have tb : ∀ j, j < min bs.length m → a j * xv vs (m - (j + 1)) ≤ 32 ∧ -32 ≤ a j * xv vs (m - (j + 1)) := fun j hj => by
    obtain ⟨_, _, a3, a4⟩ := B.h j (by have := B.l; omega)
    obtain ⟨_, _, _, x4, x5⟩ := xv_at hv (m - (j + 1))
    have := mul_bd (a := a j) (A := 16) (Rat.le_trans a3 P4) (by grind) x4 x5
    exact ⟨by grind, by grind⟩
  have hM : ∀ j, j ≤ min bs.length m → sumR (fun j => a j * xv vs (m - (j + 1))) j ≤ 128 ∧ -128 ≤ sumR (fun j => a j * xv vs (m - (j + 1))) j := fun j hj => by
    have s := sumR_small (e := 32) j fun k hk => (show nr 32 (a k * xv vs (m - (k + 1))) 0 from ⟨by have := (tb k (by omega)).1; grind, by have := (tb k (by omega)).2; grind⟩)
    have j4 : (j : Rat) ≤ 4 := natR_le (b := 4) (by have := B.l; omega)
    obtain ⟨s1, s2⟩ := s
    exact ⟨by grind, by grind⟩
  have hp := fsum (k := .f32) (U := 1 / 8388608) (fun h => fun {B} => rnd32 h) (f := fun j => fop .mul .f32 (List.getD bs j 0) (List.getD (vs.map tW) (m - (j + 1)) 0)) (t := fun j => a j * xv vs (m - (j + 1))) (fun j => predV bs (vs.map tW) m j) rfl (fun _ => rfl) (n := min bs.length m) (e := 96 / 8388608) (M := 128) (B := 256) (fun j hj => by
    obtain ⟨b1, b2, b3, b4⟩ := B.h j (by have := B.l; omega)
    obtain ⟨x1, x2, _, x4, x5⟩ := xv_at hv (m - (j + 1))
    have bn := b2.mono (f := 16 / 8388608) (by grind)
    have r := mul_Rd b1 x1
    rw [x2] at r
    have nb := nr_mulC bn x4 (show -2 ≤ xv vs (m - (j + 1)) from x5)
    have t := tb j hj
    obtain ⟨n1, n2⟩ := nb
    obtain ⟨f1, f2, f3⟩ := rnd32 r (B := 64) (by grind) (by grind) (by grind) (by grind)
    exact ⟨f1, ⟨by grind, by grind⟩⟩) hM (by grind) (by grind) (by grind) (by grind) (by grind) (min bs.length m) (Nat.le_refl _)
  obtain ⟨p1, p2⟩ := hp
  have p2 := p2.mono (f := 1408 / 8388608) (by grind)
  obtain ⟨x1, x2, _, x4, x5⟩ := xv_at hv m
  have e : resR (xv vs) a n m = xv vs m - sumR (fun j => a j * xv vs (m - (j + 1))) (min bs.length m) := by unfold resR; rw [res_min, B.l]
  have hm := hM _ (Nat.le_refl _)
  have r := sub_Rd x1 p1
  rw [x2] at r
  obtain ⟨q1, q2⟩ := p2
  obtain ⟨f1, f2, f3⟩ := rnd32 r (B := 256) (by grind) (by grind) (by grind) (by grind)
  rw [e]
  exact ⟨f1, ⟨by unfold predAt; grind, by unfold predAt; grind⟩⟩

omit hl h1 h4 h0 in
theorem best_small (m : Nat) (hm : m < 12) : resR (xv vs) a n m ≤ 7 ∧ -7 ≤ resR (xv vs) a n m := by
  have t := term_le (f := fun n_ => resR (xv vs) a n n_ * resR (xv vs) a n n_) (n := 12) (m := m) (fun j _ => sq_nonneg _) hm
  have p := en_part (x := xv vs) a n
  have j := B.j
  have l := lag_bd hv 0
  have h49 : resR (xv vs) a n m * resR (xv vs) a n m ≤ 7 * 7 := by
    grind
  rcases Rat.le_total (a := 0) (b := resR (xv vs) a n m) with h | h
  · have := sq_le_of h (show (0 : Rat) < 7 by grind) h49
    exact ⟨this, by grind⟩
  · have := sq_le_of (u := -(resR (xv vs) a n m)) (by grind) (show (0 : Rat) < 7 by grind) (by grind)
    exact ⟨by grind, by grind⟩

theorem gain_ok : fconvOk .f64 .f32 (en64 (residueF bs g (vs.map tW)).1 (residueF bs g (vs.map tW)).1.length) ∧ (gainF bs g (vs.map tW)).2 = true ∧ fcmp .lss .f64 (fcv .f32 .f64 (gainF bs g (vs.map tW)).1) 4606732058837280358 = false := by
  have L : (vs.map tW).length = 12 := by rw [List.length_map, hl]
  have R := residue_ok (st := bs) (g := g) (xs := vs.map tW) (snd_tW hv (by omega)) (fun k _ => (best_res hv h1 h4 B k).1)
  rw [L] at R
  generalize hr : (List.range 12).map (fun k => fop .sub .f32 (List.getD (vs.map tW) k 0) (predAt bs (vs.map tW) k)) = rs at *
  have rl : rs.length = 12 := by rw [← hr]; simp
  have rk : ∀ k, k < 12 → isFl .f32 (rs.getD k 0) ∧ nr (1 / 5000) (fv .f32 (rs.getD k 0)) (resR (xv vs) a n k) ∧ fv .f32 (rs.getD k 0) ≤ 8 ∧ -8 ≤ fv .f32 (rs.getD k 0) := fun k hk => by
    rw [← hr, rangeD hk]
    obtain ⟨a1, a2⟩ := best_res hv h1 h4 B k
    have s := best_small hv B k hk
    have b1 := a2.1
    have b2 := a2.2
    exact ⟨a1, a2, by grind, by grind⟩
  have sqb : ∀ k, k < 12 → fv .f32 (rs.getD k 0) * fv .f32 (rs.getD k 0) ≤ 64 ∧ 0 ≤ fv .f32 (rs.getD k 0) * fv .f32 (rs.getD k 0) := fun k hk => by
    obtain ⟨_, _, c, d⟩ := rk k hk
    have := mul_bd c d c d
    exact ⟨by grind, sq_nonneg _⟩
  have hM : ∀ j, j ≤ 12 → sumR (fun k => fv .f32 (rs.getD k 0) * fv .f32 (rs.getD k 0)) j ≤ 768 ∧ -768 ≤ sumR (fun k => fv .f32 (rs.getD k 0) * fv .f32 (rs.getD k 0)) j := fun j hj => by
    have s := sumR_small (e := 64) j fun k hk => (show nr 64 (fv .f32 (rs.getD k 0) * fv .f32 (rs.getD k 0)) 0 from ⟨by have := (sqb k (by omega)).1; grind, by have := (sqb k (by omega)).2; grind⟩)
    have j4 : (j : Rat) ≤ 12 := natR_le (b := 12) hj
    obtain ⟨s1, s2⟩ := s
    exact ⟨by grind, by grind⟩
  have c12 : ((12 : Nat) : Rat) = 12 := rfl
  have hp := fsum (k := .f64) (U := 1 / 4503599627370496) (fun h => fun {B} => rnd64 h) (f := fun j => fop .mul .f64 (fcv .f32 .f64 (List.getD rs j 0)) (fcv .f32 .f64 (List.getD rs j 0))) (t := fun k => fv .f32 (rs.getD k 0) * fv .f32 (rs.getD k 0)) (fun j => en64 rs j) rfl (fun _ => rfl) (n := 12) (e := 64 / 4503599627370496) (M := 768) (B := 1024) (fun j hj => by
    obtain ⟨b1, _, _, _⟩ := rk j hj
    obtain ⟨u1, u2⟩ := fcv_up b1
    have r := mul_Rd u1 u1
    rw [u2] at r
    have s := sqb j hj
    obtain ⟨f1, f2⟩ := rnd64 r (B := 64) (by grind) (by grind) (by grind) (by grind)
    exact ⟨f1, f2.mono (by grind)⟩) hM (by grind) (by grind) (by grind) (by grind) (by rw [c12]; grind) 12 (Nat.le_refl _)
  rw [c12] at hp
  obtain ⟨p1, p2, p3⟩ := hp
  have hm := hM 12 (Nat.le_refl _)
  -- the energy of what is left
  have upper : sumR (fun k => fv .f32 (rs.getD k 0) * fv .f32 (rs.getD k 0)) 12 ≤ 101 / 100 * (lagR (xv vs) 0 + 1 / 100000) + 1 / 10000 := by
    have t := sumR_le (s := fun k => fv .f32 (rs.getD k 0) * fv .f32 (rs.getD k 0)) (t := fun k => 101 / 100 * (resR (xv vs) a n k * resR (xv vs) a n k) + 101 / 25000000) 12 fun k hk => by
      obtain ⟨_, ⟨n1, n2⟩, _, _⟩ := rk k hk
      have q := two_sq (resR (xv vs) a n k) (fv .f32 (rs.getD k 0) - resR (xv vs) a n k)
      have d := mul_bd (a := fv .f32 (rs.getD k 0) - resR (xv vs) a n k) (A := 1 / 5000) (by grind) (by grind) (b := fv .f32 (rs.getD k 0) - resR (xv vs) a n k) (B := 1 / 5000) (by grind) (by grind)
      rw [show resR (xv vs) a n k + (fv .f32 (rs.getD k 0) - resR (xv vs) a n k) = fv .f32 (rs.getD k 0) by grind] at q
      grind
    rw [sumR_add, sumR_mul, sumR_const, c12] at t
    have p := en_part (x := xv vs) a n
    have j := B.j
    grind
  have lower : 39 / 10 ≤ sumR (fun k => fv .f32 (rs.getD k 0) * fv .f32 (rs.getD k 0)) 12 := by
    have t := term_le (f := fun k => fv .f32 (rs.getD k 0) * fv .f32 (rs.getD k 0)) (n := 12) (m := 0) (fun j _ => sq_nonneg _) (by omega)
    obtain ⟨_, ⟨n1, n2⟩, _, _⟩ := rk 0 (by omega)
    have r0 : resR (xv vs) a n 0 = 2 := by
      unfold resR
      rw [sumR_zero n fun k _ => by
        have : sh (xv vs) (k + 1) 0 = 0 := by unfold sh; rw [if_neg (by omega)]
        rw [this]; grind, h0]
      grind
    rw [r0] at n1 n2
    generalize fv .f32 (rs.getD 0 0) = z at *
    have z0 : 199 / 100 ≤ z := by grind
    have q1 := Rat.mul_le_mul_of_nonneg_left z0 (show 0 ≤ z by grind)
    grind
  generalize sumR (fun k => fv .f32 (rs.getD k 0) * fv .f32 (rs.getD k 0)) 12 = T at *
  obtain ⟨w1, w2, w3⟩ := down64 p1 (B := 1024) (by grind) (by grind) (by grind) (by grind)
  obtain ⟨w2, w4⟩ := w2
  obtain ⟨o1, o2, _⟩ := lag_word hv 0 (Nat.zero_le 12)
  rw [Nat.sub_zero] at o1 o2
  have own : energyF (vs.map tW) = fcv .f64 .f32 (lag64 (vs.map tW) 0 12) := by unfold energyF; rw [L, en64_eq, lag_en]
  have lft : energyF rs = fcv .f64 .f32 (en64 rs 12) := by unfold energyF; rw [rl, en64_eq]
  have lb := lag_bd hv 0
  have l4 : 4 ≤ lagR (xv vs) 0 := by
    have e := en_ge (x := xv vs) a n
    have t : lagR (xv vs) 0 = sumR (fun i => xv vs (0 + i) * xv vs i) 12 := lag_eq (by omega)
    have tt := term_le (f := fun i => xv vs (0 + i) * xv vs i) (n := 12) (m := 0) (fun j _ => by rw [Nat.zero_add]; exact sq_nonneg _) (by omega)
    rw [t]
    simp only [Nat.zero_add] at tt ⊢
    rw [h0] at tt; grind
  generalize fcv .f64 .f32 (lag64 (vs.map tW) 0 12) = ow at *
  generalize fcv .f64 .f32 (en64 rs 12) = lw at *
  have hne : fv .f32 lw ≠ 0 := by grind
  have rq := quo_Rd o1 w1 hne
  rw [o2] at rq
  have qd : lagR (xv vs) 0 / fv .f32 lw * fv .f32 lw = lagR (xv vs) 0 := Rat.div_mul_cancel hne
  have q1 : lagR (xv vs) 0 / fv .f32 lw ≤ 16 := by
    rw [Rat.div_def]; exact (mul_div_le (show 0 < fv .f32 lw by grind)).1 (by grind)
  have q2 : 98 / 100 ≤ lagR (xv vs) 0 / fv .f32 lw := by
    rw [Rat.div_def]; exact (le_mul_div (show 0 < fv .f32 lw by grind)).1 (by grind)
  obtain ⟨f1, f2, f3⟩ := rnd32 rq (B := 16) (by grind) (by grind) q1 (by grind)
  have hg : gainF bs g (vs.map tW) = (fop .quo .f32 ow lw, true) := by
    have fin : allFin [energyF (vs.map tW), energyF rs] = true := by
      rw [own, lft]
      show ((true && fin32 ow) && fin32 lw) = true
      rw [fin32_isF.2 o1, fin32_isF.2 w1]; rfl
    unfold gainF
    rw [R]
    show (if true = true then if allFin [energyF (vs.map tW), energyF rs] = true then _ else _ else _) = _
    rw [if_pos rfl, if_pos fin, own, lft, fin32_isF.2 f1]; rfl
  rw [R, hg]
  refine ⟨by show fconvOk .f64 .f32 (en64 rs rs.length); rw [rl]; exact w3, rfl, ?_⟩
  obtain ⟨u1, u2⟩ := fcv_up f1
  have c95 : isFl .f64 4606732058837280358 ∧ fv .f64 4606732058837280358 ≤ 96 / 100 := ⟨finB_fl (by decide +kernel), by decide +kernel⟩
  rw [Bool.eq_false_iff, ne_eq, lss_iff u1 c95.1, u2]
  grind

omit hl h1 h4 h0 in
theorem gain_sq {w : Nat} (fw : isFl .f32 w) (vw : fv .f32 w = lagR (xv vs) 0) : fcmp .gtr .f64 (fop .mul .f64 (fcv .f32 .f64 g) (fcv .f32 .f64 g)) (fop .mul .f64 (fcv .f32 .f64 w) 4607186922399644778) = false := by
  obtain ⟨u1, u2⟩ := fcv_up B.gf
  obtain ⟨w1, w2⟩ := fcv_up fw
  have c : isFl .f64 4607186922399644778 ∧ 1001 / 1000 - 1 / 100000000 ≤ fv .f64 4607186922399644778 ∧ fv .f64 4607186922399644778 ≤ 1001 / 1000 + 1 / 100000000 := ⟨finB_fl (by decide +kernel), by decide +kernel, by decide +kernel⟩
  have lb := lag_bd hv 0
  have b1 := B.g1
  have b0 := B.g0
  have bs_ := B.gs
  have r1 := mul_Rd u1 u1
  rw [u2] at r1
  have s0 := sq_nonneg (fv .f32 g)
  obtain ⟨f1, f2, f3⟩ := rnd64 r1 (B := 100) (by grind) (by grind) (by grind) (by grind)
  have r2 := mul_Rd w1 c.1
  rw [w2, vw] at r2
  have l0 : 0 ≤ lagR (xv vs) 0 := by grind
  have m1 := Rat.mul_le_mul_of_nonneg_left c.2.1 l0
  have m2 := Rat.mul_le_mul_of_nonneg_left c.2.2 l0
  obtain ⟨e1, e2, e3⟩ := rnd64 r2 (B := 100) (by grind) (by grind) (by grind) (by grind)
  rw [Bool.eq_false_iff, ne_eq, gtr_iff f1 e1]
  grind
end

end Go.Sim
