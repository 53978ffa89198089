/- The law FnLadders: what it asks holds. Conditions: none. -/
import Derived.Test.YtgjdkhocnnoimaaProg
import Derived.KernelRfl
import Derived.Test.YtgjdkhocnnoimaaQGlf
import Derived.Test.YtgjdkhocnnoimaaQGso
import Derived.Test.YtgjdkhocnnoimaaQGsu
import Derived.Test.YtgjdkhocnnoimaaQGla

section
set_option linter.unusedSimpArgs false

set_option linter.unusedVariables false

namespace Go.Sim

open Go Go.Proofs

/-! ### Areas, ladders that are mixed -/

theorem q2_tab : ∀ j, j < 20 → (finB .f32 ((127 - j) * 8388608) && decide (fv .f32 ((127 - j) * 8388608) * P2 j = 1)) = true := by decide +kernel

theorem lo32 {q : Rat} {z j : Nat} (h : Rd .f32 q z) (hz : isFl .f32 z) (hj : j < 20) (b : 1 ≤ q * P2 j) : 1 ≤ fv .f32 z * P2 j := by
  have t := q2_tab j hj
  simp only [Bool.and_eq_true, decide_eq_true_eq] at t
  have p := P2_pos j
  have l := h.lo hz (finB_fl t.1) (Rat.le_of_mul_le_mul_right (by rw [t.2]; exact b) p)
  have := Rat.mul_le_mul_of_nonneg_right l (Rat.le_of_lt p)
  rw [t.2] at this; exact this

theorem areas_ok {rs : List Nat} {r : Nat → Rat} {n : Nat} (hl : rs.length = n) (h6 : n ≤ 6) (hr : ∀ k, k < n → isFl .f32 (rs.getD k 0) ∧ fv .f32 (rs.getD k 0) = r k ∧ gr 3 (r k) ∧ r k ≤ 1 / 2 ∧ -(1 / 2) ≤ r k) :
    ∃ L, areasFromF rs 1073741824 = (L, true) ∧ L.length = n + 1 ∧ L.getD 0 0 = 1073741824 := by
  have one : isFl .f32 1065353216 ∧ fv .f32 1065353216 = 1 := ⟨finB_fl (by decide +kernel), by decide +kernel⟩
  have two : isFl .f32 1073741824 ∧ fv .f32 1073741824 = 2 := ⟨finB_fl (by decide +kernel), by decide +kernel⟩
  have key : ∀ k, k ≤ n → (ev_impl_AreasFrom_L1_S rs n 1073741824 k).length = k + 1 ∧ (ev_impl_AreasFrom_L1_S rs n 1073741824 k).getD 0 0 = 1073741824 ∧
      ∀ j, j ≤ k → isFl .f32 ((ev_impl_AreasFrom_L1_S rs n 1073741824 k).getD j 0) ∧ 1 ≤ fv .f32 ((ev_impl_AreasFrom_L1_S rs n 1073741824 k).getD j 0) * P2 (2 * j) ∧ fv .f32 ((ev_impl_AreasFrom_L1_S rs n 1073741824 k).getD j 0) ≤ P2 (2 * j + 1) := by
    intro k
    induction k with
    | zero =>
      intro _
      refine ⟨rfl, rfl, fun j hj => ?_⟩
      have : j = 0 := by omega
      subst this
      show isFl .f32 1073741824 ∧ 1 ≤ fv .f32 1073741824 * P2 (2 * 0) ∧ fv .f32 1073741824 ≤ P2 (2 * 0 + 1)
      have p0 : P2 (2 * 0) = 1 := by decide +kernel
      have p1 : P2 (2 * 0 + 1) = 2 := by decide +kernel
      rw [two.2, p0, p1]
      exact ⟨two.1, by grind, by grind⟩
    | succ k ih =>
      intro hk
      obtain ⟨i1, i2, i3⟩ := ih (by omega)
      have hs : ev_impl_AreasFrom_L1_S rs n 1073741824 (k + 1) = ev_impl_AreasFrom_L1_S rs n 1073741824 k ++ [(fop .mul .f32 (List.getD (ev_impl_AreasFrom_L1_S rs n 1073741824 k) k 0) (fop .quo .f32 (fop .sub .f32 1065353216 (List.getD rs k 0)) (fop .add .f32 1065353216 (List.getD rs k 0))))] := rfl
      rw [hs]
      obtain ⟨a1, a2, a3⟩ := i3 k (Nat.le_refl k)
      generalize ev_impl_AreasFrom_L1_S rs n 1073741824 k = S at *
      have left : ∀ j, j < k + 1 → ∀ y : Nat, (S ++ [y]).getD j 0 = S.getD j 0 := fun j hj y => by
        rw [List.getD_eq_getElem?_getD, List.getElem?_append_left (by omega), ← List.getD_eq_getElem?_getD]
      have right : ∀ y : Nat, (S ++ [y]).getD (k + 1) 0 = y := fun y => by
        rw [List.getD_eq_getElem?_getD, List.getElem?_append_right (by omega), i1]; simp
      obtain ⟨r1, r2, r3, r4, r5⟩ := hr k (by omega)
      have g1 : gr 0 (1 : Rat) := gr_int 1
      have n0 := sub_Rd one.1 r1
      rw [one.2, r2] at n0
      obtain ⟨n1, n2⟩ := ex20 n0 ((g1.up (by omega)).sub (r3.up (by omega))) (by grind) (by grind)
      have d0 := add_Rd one.1 r1
      rw [one.2, r2] at d0
      obtain ⟨d1, d2⟩ := ex20 d0 ((g1.up (by omega)).add (r3.up (by omega))) (by grind) (by grind)
      have hne : fv .f32 (fop .add .f32 1065353216 (rs.getD k 0)) ≠ 0 := by rw [d2]; grind
      have q0 := quo_Rd n1 d1 hne
      rw [n2, d2] at q0
      have qd : (1 - r k) / (1 + r k) * (1 + r k) = 1 - r k := Rat.div_mul_cancel (by grind)
      have dp : 0 < 1 + r k := by grind
      have qlo : 1 / 4 ≤ (1 - r k) / (1 + r k) := Rat.le_of_mul_le_mul_right (by rw [qd]; grind) dp
      have qhi : (1 - r k) / (1 + r k) ≤ 4 := Rat.le_of_mul_le_mul_right (by rw [qd]; grind) dp
      generalize (1 - r k) / (1 + r k) = q at *
      have p2 : P2 2 = 4 := by decide +kernel
      obtain ⟨q1, q2, q3⟩ := lim32 q0 (j := 2) (by omega) (by rw [p2]; exact qhi) (by rw [p2]; grind)
      have q4 := lo32 q0 q1 (j := 2) (by omega) (by rw [p2]; grind)
      rw [p2] at q2 q4
      generalize fop .quo .f32 (fop .sub .f32 1065353216 (rs.getD k 0)) (fop .add .f32 1065353216 (rs.getD k 0)) = Qw at *
      have m0 := mul_Rd a1 q1
      have Pk := P2_pos (2 * k)
      have e1 : P2 (2 * (k + 1)) = 4 * P2 (2 * k) := by
        rw [show 2 * (k + 1) = 2 * k + 1 + 1 by omega, P2_succ, P2_succ]; grind
      have e2 : P2 (2 * (k + 1) + 1) = 4 * P2 (2 * k + 1) := by
        rw [show 2 * (k + 1) + 1 = 2 * k + 1 + 1 + 1 by omega, P2_succ, P2_succ]; grind
      have apos : 0 < fv .f32 (S.getD k 0) := by
        rcases Rat.le_total (a := fv .f32 (S.getD k 0)) (b := 0) with h | h
        · have := Rat.mul_le_mul_of_nonneg_right h (Rat.le_of_lt Pk)
          grind
        · rcases (show fv .f32 (S.getD k 0) = 0 ∨ fv .f32 (S.getD k 0) ≠ 0 from Decidable.em _) with h' | h'
          · rw [h'] at a2; grind
          · grind
      have up := Rat.mul_le_mul_of_nonneg_left q2 (Rat.le_of_lt apos)
      have dn := Rat.mul_le_mul_of_nonneg_left (show 1 / 4 ≤ fv .f32 Qw by grind) (Rat.le_of_lt apos)
      have dn2 := Rat.mul_le_mul_of_nonneg_right dn (Rat.le_of_lt Pk)
      obtain ⟨m1, m2, m3⟩ := lim32 m0 (j := 2 * (k + 1) + 1) (by omega) (by rw [e2]; grind) (by rw [e2]; have := P2_pos (2 * k + 1); grind)
      have m4 := lo32 m0 m1 (j := 2 * (k + 1)) (by omega) (by rw [e1]; grind)
      refine ⟨by rw [List.length_append, i1]; rfl, by rw [left 0 (by omega)]; exact i2, fun j hj => ?_⟩
      rcases (show j = k + 1 ∨ j < k + 1 by omega) with rfl | h
      · rw [right]; exact ⟨m1, m4, m2⟩
      · rw [left j h]; exact i3 j (by omega)
  obtain ⟨k1, k2, k3⟩ := key n (Nat.le_refl n)
  refine ⟨_, ?_, k1, k2⟩
  unfold areasFromF
  rw [hl, if_pos, if_pos]
  · refine allBelow_true.2 fun j hj => ?_
    obtain ⟨a, b, _⟩ := k3 j (by omega)
    have z := zero_fl .f32
    have nle : fcmp .leq .f32 ((ev_impl_AreasFrom_L1_S rs n 1073741824 n).getD j 0) 0 = false := by
      rw [Bool.eq_false_iff, ne_eq, leq_iff a z.1, z.2]
      intro h
      have := Rat.mul_le_mul_of_nonneg_right h (Rat.le_of_lt (P2_pos (2 * j)))
      grind
    unfold ev_impl_AreasFrom_L2_good
    rw [if_pos (fin32_isF.2 a), if_neg (by rw [nle]; decide)]
  · refine allBelow_true.2 fun j hj => ?_
    obtain ⟨r1, r2, _, r4, r5⟩ := hr j hj
    unfold ev_impl_AreasFrom_L1_good
    rw [if_pos (isStp_of r1 (by rw [r2]; grind) (by rw [r2]; grind))]

theorem mix_ok {ws : List Int} (hw : inB 4 ws) {n : Nat} (hl : ws.length = n) : (mixLadF (ws.map eW) 1056964608).2 = true ∧ (mixLadF (ws.map eW) 1056964608).1.length = n := by
  have lw : (ws.map eW).length = n := by rw [List.length_map, hl]
  have half : isFl .f32 1056964608 ∧ fv .f32 1056964608 = 1 / 2 := ⟨finB_fl (by decide +kernel), by decide +kernel⟩
  have l := set_all n (fun k => fop .add .f32 (List.getD (ws.map eW) k 0) (fop .mul .f32 1056964608 (fop .sub .f32 (List.getD (ws.map eW) k 0) (List.getD (ws.map eW) k 0)))) (ev_MixL_L1_S (ws.map eW) n 1056964608) (by simp [ev_MixL_L1_S]) (fun _ => rfl)
  have s : allStp (ev_MixL_L1_S (ws.map eW) n 1056964608 n) = true := by
    rw [l]
    refine allBelow_true.2 fun k hk => ?_
    have hk : k < n := by simpa using hk
    rw [rangeD hk]
    obtain ⟨r1, r2, r3, r4, r5⟩ := rv_at hw k
    have d0 := sub_Rd r1 r1
    rw [show fv .f32 ((ws.map eW).getD k 0) - fv .f32 ((ws.map eW).getD k 0) = 0 by grind] at d0
    obtain ⟨d1, d2⟩ := ex20 d0 (gr_zero _) (by grind) (by grind)
    have m0 := mul_Rd half.1 d1
    rw [d2, Rat.mul_zero] at m0
    obtain ⟨m1, m2⟩ := ex20 m0 (gr_zero _) (by grind) (by grind)
    have a0 := add_Rd r1 m1
    rw [m2, r2, Rat.add_zero] at a0
    obtain ⟨a1, a2⟩ := ex20 a0 (r3.up (by omega)) (by grind) (by grind)
    exact isStp_of a1 (by rw [a2]; grind) (by rw [a2]; grind)
  unfold mixLadF
  rw [lw, if_pos s]
  exact ⟨rfl, by show (ev_MixL_L1_S (ws.map eW) n 1056964608 n).length = n; rw [l]; simp⟩

/-! ### The ladder of lags, and that of their best predictor -/

section
variable {x : Nat → Rat} (hx : ∀ n, 12 ≤ n → x n = 0) {xs : List Nat} {n : Nat} (hl : xs.length = n + 1) (h1 : 1 ≤ n) (h6 : n ≤ 6) (hL : ∀ j, j ≤ n → isFl .f32 (xs.getD j 0) ∧ fv .f32 (xs.getD j 0) = lagR x j) (hR : ∀ j, lagR x j ≤ 53 ∧ -53 ≤ lagR x j) (h9 : 9 ≤ x 0 * x 0)
include hx hl h1 h6 hL hR h9

structure LdBest (xs : List Nat) (n : Nat) : Prop where
  o : (solveF xs).2.2.2 = true
  l : fcmp .lss .f64 (solveF xs).2.2.1 0 = false
  n1 : List.length (narF (solveF xs).2.1) = n
  f : allFin (narF (solveF xs).2.1) = true
  q : fin32 (fcv .f64 .f32 (sqrtW (solveF xs).2.2.1)) = true
  q0 : fcmp .geq .f32 (fcv .f64 .f32 (sqrtW (solveF xs).2.2.1)) 0 = true
  z1 : ∀ k, fconvOk .f64 .f32 (List.getD (solveF xs).2.1 k 0)
  z2 : fconvOk .f64 .f32 (sqrtW (solveF xs).2.2.1)
  z3 : ∀ k, fconvOk .f64 .f32 (List.getD (solveF xs).1 k 0)
  l1 : List.length (narF (solveF xs).1) = n
  ls : allStp (narF (solveF xs).1) = true
  d : ∀ g, (downF (narF (solveF xs).2.1) g).2 = true ∧ List.length (downF (narF (solveF xs).2.1) g).1 = n ∧ ∀ k, k < n → fcmp .gtr .f64 (gapR (fcv .f32 .f64 (List.getD (downF (narF (solveF xs).2.1) g).1 k 0)) (fcv .f32 .f64 (List.getD (narF (solveF xs).1) k 0))) 4587366580439587226 = false
  c1 : ∀ k, k < n → fcmp .leq .f32 (List.getD (narF (solveF xs).1) k 0) 3212836864 = false
  c2 : ∀ k, k < n → fcmp .geq .f32 (List.getD (narF (solveF xs).1) k 0) 1065353216 = false

omit hx hl h1 h6 hL hR h9 in
theorem nar_list (ys : List Nat) : narF ys = (List.range ys.length).map fun k => fcv .f64 .f32 (ys.getD k 0) := by
  unfold narF
  exact set_all _ _ (ev_narrowed_L1_S ys ys.length) (by simp [ev_narrowed_L1_S]) (fun _ => rfl)

omit hx hl h1 h6 hL hR h9 in
theorem down64 {y : Nat} (hy : isFl .f64 y) {B : Rat} (hB : 1 ≤ B) (hB2 : B ≤ 4294967296) (a : fv .f64 y ≤ B) (b : -B ≤ fv .f64 y) : isFl .f32 (fcv .f64 .f32 y) ∧ nr (B * (1 / 8388608)) (fv .f32 (fcv .f64 .f32 y)) (fv .f64 y) ∧ fconvOk .f64 .f32 y := by
  obtain ⟨f, g⟩ := rnd32 (fcv_down_Rd hy) hB hB2 a b
  exact ⟨f, g, fconvOk_fin hy f⟩

omit hx hl h1 h6 hL hR h9 in
theorem lad_pre (N m : Nat) (hll : ∀ k, k ≤ n → (ev_solve_L1_S xs N k).2.1.length = k) : ∀ j, m + 1 + j ≤ n → (ev_solve_L1_S xs N (m + 1 + j)).2.1.getD m 0 = (ev_solve_L1_S xs N (m + 1)).2.1.getD m 0
  | 0, _ => rfl
  | j + 1, h => by
    have i := lad_pre N m hll j (by omega)
    have l := hll (m + 1 + j) (by omega)
    rw [← i]
    have hs : (ev_solve_L1_S xs N (m + 1 + j + 1)).2.1 = (ev_solve_L1_S xs N (m + 1 + j)).2.1 ++ [(fop .quo .f64 (ev_solve_L2_S xs N (m + 1 + j) (ev_solve_L1_S xs N (m + 1 + j)) (m + 1 + j)) (ev_solve_L1_S xs N (m + 1 + j)).1)] := rfl
    show (ev_solve_L1_S xs N (m + 1 + j + 1)).2.1.getD m 0 = _
    rw [hs, List.getD_eq_getElem?_getD, List.getElem?_append_left (by omega), ← List.getD_eq_getElem?_getD]

theorem ld_best : LdBest xs n := by
  have hR' : ∀ j, lagR x j ≤ 64 ∧ -64 ≤ lagR x j := fun j => by
    have := hR j
    exact ⟨by grind, by grind⟩
  have SG := fun m hm => solve_at hx hL hR' (by grind) (n + 1) h6 m hm
  obtain ⟨C, hA⟩ := chain_at hx hL hR h9 (n + 1) h6
  have S := (SG n (Nat.le_refl n)).1
  have G := (SG n (Nat.le_refl n)).2
  have hs : solveF xs = ((ev_solve_L1_S xs (n + 1) n).2.1, (ev_solve_L1_S xs (n + 1) n).2.2, (ev_solve_L1_S xs (n + 1) n).1, true) := by
    unfold solveF
    rw [hl, if_pos (by omega), if_pos (by omega), if_pos (allFin_at fun k hk => (hL k (by omega)).1), show n + 1 - 1 = n by omega, if_pos (allBelow_true.2 fun k hk => G k hk)]
  have pre : ∀ m, m < n → (ev_solve_L1_S xs (n + 1) n).2.1.getD m 0 = (ev_solve_L1_S xs (n + 1) (m + 1)).2.2.getD m 0 := fun m hm => by
    have p := lad_pre (xs := xs) (n := n) (n + 1) m (fun k hk => (SG k hk).1.ll) (n - (m + 1)) (by omega)
    rw [show m + 1 + (n - (m + 1)) = n by omega] at p
    rw [p, hA m hm]
  have Cr := C.r
  have Clo := C.lo n (Nat.le_refl n)
  have Chi := C.hi n (Nat.le_refl n)
  have Cb := C.b n (Nat.le_refl n)
  have Cz := C.z n (Nat.le_refl n)
  have bnd : ∀ k, k < n → fv .f64 ((ev_solve_L1_S xs (n + 1) n).2.2.getD k 0) ≤ 21 ∧ -21 ≤ fv .f64 ((ev_solve_L1_S xs (n + 1) n).2.2.getD k 0) := fun k hk => by
    have t := bn_tab n (by omega) k hk
    have b20 : ∀ m, m < 7 → bx m ≤ 20 := by decide +kernel
    have u := b20 n (by omega)
    obtain ⟨a1, a2⟩ := nr_abs (Cb k hk)
    exact ⟨by grind, by grind⟩
  have hd := fun k (hk : k < n) => down64 (S.ok.fs k hk) (B := 21) (by grind) (by grind) (bnd k hk).1 (bnd k hk).2
  have out : ∀ (ys : List Nat) (m : Nat), ys.length = m → (∀ k, k < m → fconvOk .f64 .f32 (ys.getD k 0)) → ∀ k, fconvOk .f64 .f32 (ys.getD k 0) := fun ys m hm h k => by
    rcases Nat.lt_or_ge k m with g | g
    · exact h k g
    · have : ys.getD k 0 = 0 := by simp [hm, g]
      rw [this]; exact fconvOk_of (by decide)
  obtain ⟨s1, s2, s3, _⟩ := sqrt_near S.ok.fe (by grind) (by grind)
  obtain ⟨g1, _, g3⟩ := down64 s1 (B := 9) (by grind) (by grind) s3 (by grind)
  have zf := zero_fl .f32
  have g0 : 0 ≤ fv .f32 (fcv .f64 .f32 (sqrtW (ev_solve_L1_S xs (n + 1) n).1)) := by
    have := (fcv_down_Rd s1).lo g1 zf.1 (by rw [zf.2]; exact s2)
    rw [zf.2] at this; exact this
  have lad : ∀ m, m < n → isFl .f64 ((ev_solve_L1_S xs (n + 1) n).2.1.getD m 0) ∧ nr (19 / 20) (fv .f64 ((ev_solve_L1_S xs (n + 1) n).2.1.getD m 0)) 0 := fun m hm => by
    refine ⟨(S.lf m hm).1, ?_⟩
    rw [pre m hm]; exact Cr m hm
  have hdl := fun m (hm : m < n) => down64 (lad m hm).1 (B := 1) (by grind) (by grind) (by have := (nr_abs (lad m hm).2).1; grind) (by have := (nr_abs (lad m hm).2).2; grind)
  have hN := nar_list (ev_solve_L1_S xs (n + 1) n).2.2
  have hO := nar_list (ev_solve_L1_S xs (n + 1) n).2.1
  rw [S.sl] at hN
  rw [S.ll] at hO
  have own : ∀ m, m < n → isFl .f32 ((narF (ev_solve_L1_S xs (n + 1) n).2.1).getD m 0) ∧ nr (1 / 8388608) (fv .f32 ((narF (ev_solve_L1_S xs (n + 1) n).2.1).getD m 0)) (fv .f64 ((ev_solve_L1_S xs (n + 1) (m + 1)).2.2.getD m 0)) ∧ nr (96 / 100) (fv .f32 ((narF (ev_solve_L1_S xs (n + 1) n).2.1).getD m 0)) 0 := fun m hm => by
    rw [hO, rangeD hm, ← pre m hm]
    obtain ⟨a, b, _⟩ := hdl m hm
    obtain ⟨c1, c2⟩ := nr_abs (lad m hm).2
    obtain ⟨b1, b2⟩ := b
    exact ⟨a, ⟨by grind, by grind⟩, nr_of (by grind) (by grind)⟩
  -- the narrowed steps
  have low : Low x (fun m => fv .f64 (ev_solve_L1_S xs (n + 1) m).1) (fun k => (narF (ev_solve_L1_S xs (n + 1) n).2.2).getD k 0) n := by
    have val : ∀ k, k < n → (narF (ev_solve_L1_S xs (n + 1) n).2.2).getD k 0 = fcv .f64 .f32 ((ev_solve_L1_S xs (n + 1) n).2.2.getD k 0) := fun k hk => by rw [hN, rangeD hk]
    refine ⟨fun k hk => by rw [val k hk]; exact (hd k hk).1, fun i hi => ?_⟩
    have e1 : nrm x (fun k => fv .f32 ((narF (ev_solve_L1_S xs (n + 1) n).2.2).getD k 0)) n (i + 1) = nrm x (fun k => fv .f64 ((ev_solve_L1_S xs (n + 1) n).2.2.getD k 0)) n (i + 1) - sumR (fun k => (fv .f32 ((narF (ev_solve_L1_S xs (n + 1) n).2.2).getD k 0) - fv .f64 ((ev_solve_L1_S xs (n + 1) n).2.2.getD k 0)) * lagR x (ab (i + 1) (k + 1))) n := by
      rw [← nrm_add]; exact nrm_congr x (fun k _ => by grind) _
    have s := sumR_small (e := 21 * (1 / 8388608) * 53) n fun k hk => (show nr (21 * (1 / 8388608) * 53) ((fv .f32 ((narF (ev_solve_L1_S xs (n + 1) n).2.2).getD k 0) - fv .f64 ((ev_solve_L1_S xs (n + 1) n).2.2.getD k 0)) * lagR x (ab (i + 1) (k + 1))) 0 from by
      rw [val k hk]
      obtain ⟨_, ⟨q1, q2⟩, _⟩ := hd k hk
      have r := hR (ab (i + 1) (k + 1))
      have p := mul_bd (a := fv .f32 (fcv .f64 .f32 ((ev_solve_L1_S xs (n + 1) n).2.2.getD k 0)) - fv .f64 ((ev_solve_L1_S xs (n + 1) n).2.2.getD k 0)) (A := 21 * (1 / 8388608)) (by grind) (by grind) r.1 r.2
      exact nr_of (by grind) (by grind))
    have sgm : ∀ m, m < 7 → 1 / 10000 ≤ sgT m := by decide +kernel
    have sg1 := Rat.mul_le_mul_of_nonneg_right (sgm n (by omega)) (show 0 ≤ fv .f64 (ev_solve_L1_S xs (n + 1) n).1 by grind)
    have n6 : (n : Rat) ≤ 6 := natR_le (b := 6) h6
    rw [e1]
    obtain ⟨z1, z2⟩ := nr_abs (Cz i hi)
    obtain ⟨s1, s2⟩ := nr_abs s
    exact nr_of (by grind) (by grind)
  have lN : (narF (ev_solve_L1_S xs (n + 1) n).2.2).length = n := by rw [hN]; simp
  have lO : (narF (ev_solve_L1_S xs (n + 1) n).2.1).length = n := by rw [hO]; simp
  have one : isFl .f32 1065353216 ∧ fv .f32 1065353216 = 1 := ⟨finB_fl (by decide +kernel), by decide +kernel⟩
  have mone : isFl .f32 3212836864 ∧ fv .f32 3212836864 = -1 := ⟨finB_fl (by decide +kernel), by decide +kernel⟩
  have c05 : isFl .f64 4587366580439587226 ∧ 49 / 1000 ≤ fv .f64 4587366580439587226 := ⟨finB_fl (by decide +kernel), by decide +kernel⟩
  have zlt : fcmp .lss .f64 (ev_solve_L1_S xs (n + 1) n).1 0 = false := by
    rw [Bool.eq_false_iff, ne_eq, lss_iff S.ok.fe (zero_fl .f64).1, (zero_fl .f64).2]; grind
  have D : ∀ g, ∃ L, downF (narF (ev_solve_L1_S xs (n + 1) n).2.2) g = (L, true) ∧ L.length = n ∧ ∀ m, m < n → ∃ b : Nat → Nat, Low x (fun m => fv .f64 (ev_solve_L1_S xs (n + 1) m).1) b (m + 1) ∧ L.getD m 0 = b m := fun g => by
    refine down_ok (Q := fun m b => Low x (fun m => fv .f64 (ev_solve_L1_S xs (n + 1) m).1) b m) lN low (fun m b _ q => q.f) (fun m b hm q => ?_) (fun m b c hm q h => ?_)
    · obtain ⟨l1, l2⟩ := nr_abs ((near_bd C (m := m + 1) (by omega) (by omega) q.n).2 m rfl)
      obtain ⟨r1, r2⟩ := nr_abs (Cr m hm)
      exact isStp_of (q.f m (by omega)) (by grind) (by grind)
    · rcases Nat.eq_zero_or_pos m with rfl | hp
      · exact ⟨fun k hk => by omega, fun i hi => by omega⟩
      · exact low_step C (by omega) (by omega) hp hR q h
  refine { o := by rw [hs], l := by rw [hs]; exact zlt, n1 := by rw [hs]; exact lN, f := by rw [hs]; show allFin (narF (ev_solve_L1_S xs (n + 1) n).2.2) = true; exact allFin_at fun k hk => low.f k (by rw [lN] at hk; exact hk), q := by rw [hs]; exact fin32_isF.2 g1, q0 := by rw [hs]; show fcmp .geq .f32 (fcv .f64 .f32 (sqrtW (ev_solve_L1_S xs (n + 1) n).1)) 0 = true; rw [geq_iff g1 zf.1, zf.2]; exact g0
           z1 := by rw [hs]; exact out _ n S.sl fun k hk => (hd k hk).2.2, z2 := by rw [hs]; exact g3, z3 := by rw [hs]; exact out _ n S.ll fun k hk => (hdl k hk).2.2, l1 := by rw [hs]; exact lO, ls := ?_, d := fun g => ?_, c1 := fun k hk => ?_, c2 := fun k hk => ?_ }
  · rw [hs]
    show allStp (narF (ev_solve_L1_S xs (n + 1) n).2.1) = true
    refine allBelow_true.2 fun k hk => ?_
    obtain ⟨o1, _, o3⟩ := own k (by rw [lO] at hk; exact hk)
    obtain ⟨a1, a2⟩ := nr_abs o3
    exact isStp_of o1 (by grind) (by grind)
  · obtain ⟨L, dL, lL, gL⟩ := D g
    rw [hs]
    show (downF (narF (ev_solve_L1_S xs (n + 1) n).2.2) g).2 = true ∧ List.length (downF (narF (ev_solve_L1_S xs (n + 1) n).2.2) g).1 = n ∧ ∀ k, k < n → fcmp .gtr .f64 (gapR (fcv .f32 .f64 (List.getD (downF (narF (ev_solve_L1_S xs (n + 1) n).2.2) g).1 k 0)) (fcv .f32 .f64 (List.getD (narF (ev_solve_L1_S xs (n + 1) n).2.1) k 0))) 4587366580439587226 = false
    rw [dL]
    refine ⟨rfl, lL, fun k hk => ?_⟩
    show fcmp .gtr .f64 (gapR (fcv .f32 .f64 (List.getD L k 0)) _) _ = false
    obtain ⟨b, q, e⟩ := gL k hk
    rw [e]
    obtain ⟨l1, l2⟩ := nr_abs ((near_bd C (m := k + 1) (by omega) (by omega) q.n).2 k rfl)
    obtain ⟨o1, ⟨o2, o3⟩, _⟩ := own k hk
    obtain ⟨u1, u2⟩ := fcv_up (q.f k (by omega))
    obtain ⟨v1, v2⟩ := fcv_up o1
    exact gap_small u1 v1 (E := 1 / 40) (by grind) (by rw [u2, v2]; exact ⟨by grind, by grind⟩) c05.1 (by grind)
  · rw [hs]
    obtain ⟨o1, _, o3⟩ := own k hk
    obtain ⟨a1, a2⟩ := nr_abs o3
    show fcmp .leq .f32 ((narF (ev_solve_L1_S xs (n + 1) n).2.1).getD k 0) _ = false
    rw [Bool.eq_false_iff, ne_eq, leq_iff o1 mone.1, mone.2]; grind
  · rw [hs]
    obtain ⟨o1, _, o3⟩ := own k hk
    obtain ⟨a1, a2⟩ := nr_abs o3
    show fcmp .geq .f32 ((narF (ev_solve_L1_S xs (n + 1) n).2.1).getD k 0) _ = false
    rw [Bool.eq_false_iff, ne_eq, geq_iff o1 one.1, one.2]; grind
end

end Go.Sim
end

section
set_option linter.unusedSimpArgs false

set_option linter.unusedVariables false

namespace Go.Sim

open Go Go.Proofs

/-! ### What the law asks -/

structure LdOk (X P : List Nat) (G : Nat) (L : List Nat) (N : Int) : Prop where
  d : (stepDownF P G).2 = true
  dl : ((List.length (stepDownF P G).1 : Nat) : Int) = N
  g1 : ∀ k : Nat, (k : Int) < N → fcmp .gtr .f64 (gapR (fcv .f32 .f64 (List.getD (stepDownF P G).1 k 0)) (fcv .f32 .f64 (List.getD L k 0))) 4562254508917369340 = false
  r : (residueF P G X).2 = true
  rl : ((List.length (residueF P G X).1 : Nat) : Int) = 12
  q : (ladResF L X).2 = true
  ql : ((List.length (ladResF L X).1 : Nat) : Int) = 12
  g2 : ∀ k, k < 12 → fcmp .gtr .f64 (gapR (fcv .f32 .f64 (List.getD (residueF P G X).1 k 0)) (fcv .f32 .f64 (List.getD (ladResF L X).1 k 0))) 4562254508917369340 = false
  a : (areasOfF P G 1073741824).2 = true
  al : ((List.length (areasOfF P G 1073741824).1 : Nat) : Int) = N + 1
  a0 : fcmp .neq .f32 (List.getD (areasOfF P G 1073741824).1 0 0) 1073741824 = false
  m : (mixLadF L 1056964608).2 = true
  ml : ((List.length (mixLadF L 1056964608).1 : Nat) : Int) = N
  vf : allFin P = true
  vg : fin32 G = true
  vg0 : fcmp .geq .f32 G 0 = true
  sx : isSnd X = true
  us : allStp L = true

structure LdZ (Y L : List Nat) (lok : Bool) (N : Int) : Prop where
  l : lok = true
  lc : ∀ k, fconvOk .f64 .f32 (lag64 Y k (Y.length - k))
  sy : isSnd Y = true
  ll : ((L.length : Nat) : Int) = N + 1
  so : (solveF L).2.2.2 = true
  sl : fcmp .lss .f64 (solveF L).2.2.1 0 = false
  n1 : ((List.length (narF (solveF L).2.1) : Nat) : Int) = N
  f : allFin (narF (solveF L).2.1) = true
  q : fin32 (fcv .f64 .f32 (sqrtW (solveF L).2.2.1)) = true
  q0 : fcmp .geq .f32 (fcv .f64 .f32 (sqrtW (solveF L).2.2.1)) 0 = true
  z1 : ∀ k, fconvOk .f64 .f32 (List.getD (solveF L).2.1 k 0)
  z2 : fconvOk .f64 .f32 (sqrtW (solveF L).2.2.1)
  z3 : ∀ k, fconvOk .f64 .f32 (List.getD (solveF L).1 k 0)
  l1 : ((List.length (narF (solveF L).1) : Nat) : Int) = N
  ls : allStp (narF (solveF L).1) = true
  o : (ladOfF L).2 = true
  ol : ((List.length (ladOfF L).1 : Nat) : Int) = N
  p : (predOfF L).2.2 = true
  pl : ((List.length (predOfF L).1 : Nat) : Int) = N
  zf : allFin (predOfF L).1 = true
  zg : fin32 (predOfF L).2.1 = true
  zg0 : fcmp .geq .f32 (predOfF L).2.1 0 = true
  d : (stepDownF (predOfF L).1 (predOfF L).2.1).2 = true
  dl : ((List.length (stepDownF (predOfF L).1 (predOfF L).2.1).1 : Nat) : Int) = N
  c1 : ∀ k : Nat, (k : Int) < N → fcmp .leq .f32 (List.getD (ladOfF L).1 k 0) 3212836864 = false
  c2 : ∀ k : Nat, (k : Int) < N → fcmp .geq .f32 (List.getD (ladOfF L).1 k 0) 1065353216 = false
  c3 : ∀ k : Nat, (k : Int) < N → fcmp .gtr .f64 (gapR (fcv .f32 .f64 (List.getD (stepDownF (predOfF L).1 (predOfF L).2.1).1 k 0)) (fcv .f32 .f64 (List.getD (ladOfF L).1 k 0))) 4587366580439587226 = false

theorem ld_main {ws vs : List Int} {n : Nat} (hw : inB 4 ws) (hwl : ws.length = n) (h1 : 1 ≤ n) (h6 : n ≤ 6) (hv : inB 8 vs) (hl : vs.length = 12) : ∃ st, stepUpF (ws.map eW) 1065353216 = (st, 1065353216, true) ∧ st.length = n ∧ LdOk (vs.map tW) st 1065353216 (ws.map eW) (n : Int) := by
  have hg : fin32 1065353216 = true := by decide +kernel
  have hg0 : fcmp .geq .f32 1065353216 0 = true := by decide +kernel
  obtain ⟨st, hS, P, _⟩ := stepup_ok hw hwl h6 (g := 1065353216)
  refine ⟨st, hS, P.l, ?_⟩
  have lv : (vs.map tW).length = 12 := by rw [List.length_map, hl]
  have hf : allFin st = true := allFin_at fun k hk => (P.h k hk).1
  have hr := fun k => rv_at hw k
  -- the ladder again
  obtain ⟨D, dD, lD, gD⟩ := down_ok (g := 1065353216) (Q := fun m b => ∀ k, k < m → isFl .f32 (b k) ∧ fv .f32 (b k) = aR (rqv ws) m k) P.l (fun k hk => by
      obtain ⟨a, b, _⟩ := P.h k (by rw [P.l]; exact hk)
      exact ⟨a, b⟩) (fun m b _ q k hk => (q k hk).1) (fun m b hm q => by
      obtain ⟨a, e⟩ := q m (by omega)
      have er : aR (rqv ws) (m + 1) m = rqv ws m := by simp only [aR, upR]; rw [if_neg (by omega)]
      rw [er] at e
      obtain ⟨_, _, _, r4, r5⟩ := hr m
      exact isStp_of a (by rw [e]; grind) (by rw [e]; grind)) (fun m b c hm q h k hk => by
      rw [h k hk]
      exact down_exact (fun k => (hr k).2.2.1) (fun k => (hr k).2.2.2) (by omega) q hk)
  have vD : ∀ k, k < n → isFl .f32 (D.getD k 0) ∧ fv .f32 (D.getD k 0) = rqv ws k := fun k hk => by
    obtain ⟨b, q, e⟩ := gD k hk
    obtain ⟨a, v⟩ := q k (by omega)
    have er : aR (rqv ws) (k + 1) k = rqv ws k := by simp only [aR, upR]; rw [if_neg (by omega)]
    rw [e, v, er]; exact ⟨a, rfl⟩
  have rn := fun k => res_near P h6 hv k
  have R := residue_ok (st := st) (g := 1065353216) (xs := vs.map tW) (snd_tW hv (by omega)) (fun k _ => (rn k).1)
  rw [lv] at R
  generalize hA : (List.range 12).map (fun k => fop .sub .f32 (List.getD (vs.map tW) k 0) (predAt st (vs.map tW) k)) = A at *
  have lA : A.length = 12 := by rw [← hA]; simp
  obtain ⟨Q, hQ, lQ, gQ⟩ := ladRes_near hw hv hwl h1 h6 hl
  obtain ⟨Ar, hAr, lAr, gAr⟩ := areas_ok (rs := D) (r := rqv ws) lD h6 (fun k hk => ⟨(vD k hk).1, (vD k hk).2, (hr k).2.2.1, (hr k).2.2.2⟩)
  obtain ⟨m1, m2⟩ := mix_ok hw hwl
  have c3 : isFl .f64 4562254508917369340 ∧ 9 / 10000 ≤ fv .f64 4562254508917369340 := ⟨finB_fl (by decide +kernel), by decide +kernel⟩
  have SD : stepDownF st 1065353216 = (D, true) := by unfold stepDownF; rw [dD]
  have AO : areasOfF st 1065353216 1073741824 = (Ar, true) := by
    unfold areasOfF
    rw [dD, hAr]; rfl
  exact {
    d := by rw [SD], dl := by rw [SD]; show ((D.length : Nat) : Int) = _; rw [lD]
    g1 := fun k hk => by
      rw [SD]
      obtain ⟨a, b⟩ := vD k (by omega)
      obtain ⟨r1, r2, _⟩ := hr k
      obtain ⟨u1, u2⟩ := fcv_up a
      obtain ⟨v1, v2⟩ := fcv_up r1
      exact gap_small u1 v1 (E := 0) (by grind) (by rw [u2, v2, b, r2]; exact nr.self _) c3.1 (by grind)
    r := by rw [R], rl := by rw [R]; show ((A.length : Nat) : Int) = 12; rw [lA]; rfl
    q := by rw [hQ], ql := by rw [hQ]; show ((Q.length : Nat) : Int) = 12; rw [lQ]; rfl
    g2 := fun k hk => by
      rw [R, hQ]
      have a : isFl .f32 (A.getD k 0) ∧ nr (1 / 10000) (fv .f32 (A.getD k 0)) (resR (xv vs) (aR (rqv ws) n) n k) := by rw [← hA, rangeD hk]; exact rn k
      obtain ⟨b1, b2⟩ := gQ k hk
      obtain ⟨u1, u2⟩ := fcv_up a.1
      obtain ⟨v1, v2⟩ := fcv_up b1
      obtain ⟨a1, a2⟩ := a.2
      obtain ⟨b3, b4⟩ := b2
      exact gap_small u1 v1 (E := 1 / 2000) (by grind) (by rw [u2, v2]; exact ⟨by grind, by grind⟩) c3.1 (by grind)
    a := by rw [AO], al := by rw [AO]; show ((Ar.length : Nat) : Int) = _; rw [lAr]; rfl
    a0 := by rw [AO]; show fcmp .neq .f32 (List.getD Ar 0 0) _ = false; rw [gAr]; decide +kernel
    m := m1, ml := by rw [m2]
    vf := hf, vg := hg, vg0 := hg0, sx := snd_tW hv (by omega), us := ladder_stp hw }

/-! ### Lags of a sound that begins with 3 -/

theorem ind_sum (k : Nat) : ∀ n, sumR (fun j => if j + 1 = k then (2 : Rat) else 0) n ≤ (if n < k then 0 else 2)
  | 0 => by simp only [sumR]; split <;> grind
  | n + 1 => by
    have h := ind_sum k n
    simp only [sumR]
    by_cases g : n + 1 = k
    · rw [if_pos g, if_neg (by omega)]
      rw [if_pos (by omega)] at h
      grind
    · rw [if_neg g]
      by_cases g2 : n + 1 < k
      · rw [if_pos g2]
        rw [if_pos (by omega)] at h
        grind
      · rw [if_neg g2]
        by_cases g3 : n < k
        · omega
        · rw [if_neg g3] at h; grind

theorem lag53 {x : Nat → Rat} (h0 : x 0 = 3) (h : ∀ n, 1 ≤ n → x n ≤ 2 ∧ -2 ≤ x n) (k : Nat) : lagR x k ≤ 53 ∧ -53 ≤ lagR x k := by
  unfold lagR
  rw [sumR_head (fun n => x n * sh x k n) 11]
  have t : nr (sumR (fun j => 4 + (if j + 1 = k then (2 : Rat) else 0)) 11) (sumR (fun j => x (j + 1) * sh x k (j + 1)) 11) (sumR (fun _ => 0) 11) := sumR_nr 11 fun j _ => by
    have a := h (j + 1) (by omega)
    by_cases g : j + 1 = k
    · have e : sh x k (j + 1) = 3 := by unfold sh; rw [if_pos (by omega), show j + 1 - k = 0 by omega, h0]
      rw [if_pos g, e]
      exact nr_of (by grind) (by grind)
    · rw [if_neg g]
      have e : sh x k (j + 1) ≤ 2 ∧ -2 ≤ sh x k (j + 1) := by
        unfold sh
        split
        · exact h _ (by omega)
        · exact ⟨by grind, by grind⟩
      have := mul_bd a.1 a.2 e.1 e.2
      exact nr_of (by grind) (by grind)
  rw [sumR_add, sumR_const, sumR_const] at t
  have i := ind_sum k 11
  have c : ((11 : Nat) : Rat) = 11 := rfl
  rw [c] at t
  obtain ⟨t1, t2⟩ := t
  have z : (x 0 * sh x k 0 = 9 ∧ k = 0) ∨ (x 0 * sh x k 0 = 0) := by
    rcases Nat.eq_zero_or_pos k with rfl | hp
    · left
      have : sh x 0 0 = x 0 := by unfold sh; rw [if_pos (by omega)]
      rw [this, h0]; exact ⟨by grind, rfl⟩
    · right
      have : sh x k 0 = 0 := by unfold sh; rw [if_neg (by omega)]
      rw [this]; grind
  rcases z with ⟨z1, rfl⟩ | z1
  · have e : sumR (fun j => if j + 1 = 0 then (2 : Rat) else 0) 11 = 0 := sumR_zero 11 fun j _ => by rw [if_neg (by omega)]
    rw [e] at t1 t2
    rw [z1]; exact ⟨by grind, by grind⟩
  · have i2 : sumR (fun j => if j + 1 = k then (2 : Rat) else 0) 11 ≤ 2 := by
      split at i <;> grind
    rw [z1]; exact ⟨by grind, by grind⟩

theorem ld_z {vs : List Int} {n : Nat} (h1 : 1 ≤ n) (h6 : n ≤ 6) (hv : inB 12 vs) (hl : vs.length = 12) (h0 : xv vs 0 = 3) (hx2 : ∀ n, 1 ≤ n → xv vs n ≤ 2 ∧ -2 ≤ xv vs n) : LdZ (vs.map tW) (lagsF (vs.map tW) (n : Int)).1 (lagsF (vs.map tW) (n : Int)).2 (n : Int) := by
  rw [lags_ok hv hl h6]
  show LdZ (vs.map tW) ((List.range (n + 1)).map (fun k => fcv .f64 .f32 (lag64 (vs.map tW) k (12 - k)))) true (n : Int)
  generalize hL : (List.range (n + 1)).map (fun k => fcv .f64 .f32 (lag64 (vs.map tW) k (12 - k))) = L
  have lL : L.length = n + 1 := by rw [← hL]; simp
  have gL : ∀ j, j ≤ n → isFl .f32 (L.getD j 0) ∧ fv .f32 (L.getD j 0) = lagR (xv vs) j := fun j hj => by
    rw [← hL, rangeD (by omega)]
    obtain ⟨a, b, _⟩ := lag_word hv j (by omega)
    exact ⟨a, b⟩
  have B := ld_best (xv_out hl) lL h1 h6 gL (fun j => lag53 h0 hx2 j) (by rw [h0]; grind)
  have p : predOfF L = (narF (solveF L).2.1, fcv .f64 .f32 (sqrtW (solveF L).2.2.1), true) := by unfold predOfF; rfl
  have o : ladOfF L = (narF (solveF L).1, true) := by unfold ladOfF; rfl
  have sd : ∀ P G, stepDownF P G = ((downF P G).1, (downF P G).2) := fun P G => by unfold stepDownF; rfl
  obtain ⟨d1, d2, d3⟩ := B.d (fcv .f64 .f32 (sqrtW (solveF L).2.2.1))
  exact { l := rfl, lc := lag_conv hv hl, sy := snd3_tW hv (by omega), ll := by rw [lL]; rfl, so := B.o, sl := B.l, n1 := by rw [B.n1], f := B.f, q := B.q, q0 := B.q0, z1 := B.z1, z2 := B.z2, z3 := B.z3, l1 := by rw [B.l1], ls := B.ls
          o := by rw [o], ol := by rw [o]; show ((List.length (narF (solveF L).1) : Nat) : Int) = _; rw [B.l1], p := by rw [p], pl := by rw [p]; show ((List.length (narF (solveF L).2.1) : Nat) : Int) = _; rw [B.n1], zf := by rw [p]; exact B.f, zg := by rw [p]; exact B.q, zg0 := by rw [p]; exact B.q0
          d := by rw [p, sd]; exact d1, dl := by rw [p, sd]; show ((List.length (downF (narF (solveF L).2.1) (fcv .f64 .f32 (sqrtW (solveF L).2.2.1))).1 : Nat) : Int) = _; rw [d2], c1 := fun k hk => by rw [o]; exact B.c1 k (by omega), c2 := fun k hk => by rw [o]; exact B.c2 k (by omega), c3 := fun k hk => by rw [o, p, sd]; exact d3 k (by omega) }

theorem set_three (vs : List Int) : List.set (vs.map tW) 0 1077936128 = (vs.set 0 12).map tW := by
  have : tW 12 = 1077936128 := by decide +kernel
  rw [List.map_set, this]

abbrev ldL (c m : List Int) : List Nat := r8LadF c ((1 : Int) + (atR m (40 : Int) (6 : Int)))
abbrev ldP (c m : List Int) : List Nat × Nat × Bool := stepUpF (ldL c m) 1065353216
abbrev ldX (m : List Int) : List Nat := r8SoundF m (12 : Int)
abbrev ldY (m : List Int) : List Nat := List.set (ldX m) 0 1077936128
abbrev ldG (m : List Int) : List Nat × Bool := lagsF (ldY m) ((1 : Int) + (atR m (40 : Int) (6 : Int)))
abbrev ldD (c m : List Int) : List Nat × Bool := stepDownF (ldP c m).1 (ldP c m).2.1
abbrev ldR (c m : List Int) : List Nat × Bool := residueF (ldP c m).1 (ldP c m).2.1 (ldX m)
abbrev ldQ (c m : List Int) : List Nat × Bool := ladResF (ldL c m) (ldX m)
abbrev ldA (c m : List Int) : List Nat × Bool := areasOfF (ldP c m).1 (ldP c m).2.1 1073741824
abbrev ldM (c m : List Int) : List Nat × Bool := mixLadF (ldL c m) 1056964608

structure LdLaw (c m : List Int) : Prop where
  p : (ldP c m).2.2 = true
  pl : ((List.length (ldP c m).1 : Nat) : Int) = (1 : Int) + (atR m (40 : Int) (6 : Int))
  ll : ((List.length (ldL c m) : Nat) : Int) = (1 : Int) + (atR m (40 : Int) (6 : Int))
  xl : ((List.length (ldX m) : Nat) : Int) = 12
  mm : LdOk (ldX m) (ldP c m).1 (ldP c m).2.1 (ldL c m) ((1 : Int) + (atR m (40 : Int) (6 : Int)))
  z : LdZ (ldY m) (ldG m).1 (ldG m).2 ((1 : Int) + (atR m (40 : Int) (6 : Int)))

theorem ld_law {c m : List Int} (hb : bytesOk c) (hm : bytesOk m) : LdLaw c m := by
  have r0 := atR_range hm (i := 40) (n := 6) (by omega)
  obtain ⟨ws, wl, we, wb⟩ := r8_ladder hb ((1 : Int) + (atR m (40 : Int) (6 : Int)))
  obtain ⟨vs, vl, ve, vb⟩ := r8_sound hm (12 : Int)
  obtain ⟨n, hn⟩ := Int.eq_ofNat_of_zero_le (show 0 ≤ (1 : Int) + (atR m (40 : Int) (6 : Int)) by omega)
  have hl : vs.length = 12 := vl
  have hwl : ws.length = n := by rw [wl, hn]; rfl
  obtain ⟨st, hS, sl, M⟩ := ld_main wb hwl (by omega) (by omega) vb hl
  have v2 : inB 12 (vs.set 0 12) := fun v hv => by
    rcases List.mem_or_eq_of_mem_set hv with h | h
    · have := vb v h; omega
    · subst h; omega
  have x0 : xv (vs.set 0 12) 0 = 3 := by
    have : (vs.set 0 12).getD 0 0 = 12 := by
      rw [List.getD_eq_getElem?_getD, List.getElem?_set_self (by omega)]; rfl
    unfold xv; rw [this]; decide +kernel
  have x2 : ∀ k, 1 ≤ k → xv (vs.set 0 12) k ≤ 2 ∧ -2 ≤ xv (vs.set 0 12) k := fun k hk => by
    have : (vs.set 0 12).getD k 0 = vs.getD k 0 := by
      rw [List.getD_eq_getElem?_getD, List.getElem?_set_ne (by omega), ← List.getD_eq_getElem?_getD]
    have e : xv (vs.set 0 12) k = xv vs k := by unfold xv; rw [this]
    rw [e]; exact (xv_at vb k).2.2.2
  have Z := ld_z (n := n) (by omega) (by omega) v2 (by rw [List.length_set]; exact hl) x0 x2
  have e1 : ldX m = vs.map tW := ve
  have e0 : ldL c m = ws.map eW := we
  have e2 : ldP c m = (st, 1065353216, true) := by show stepUpF (r8LadF c _) _ = _; rw [we]; exact hS
  have e3 : ldY m = (vs.set 0 12).map tW := by show List.set (r8SoundF m 12) 0 _ = _; rw [ve]; exact set_three vs
  have e4 : ldG m = lagsF ((vs.set 0 12).map tW) (n : Int) := by show lagsF (ldY m) _ = _; rw [e3, hn]
  exact ⟨by rw [e2], by rw [e2, hn]; show ((st.length : Nat) : Int) = _; rw [sl], by rw [e0, hn, List.length_map, hwl], by rw [e1, List.length_map, hl]; rfl, by rw [e1, e0, e2, hn]; exact M, by rw [e3, e4, hn]; exact Z⟩

end Go.Sim
end
