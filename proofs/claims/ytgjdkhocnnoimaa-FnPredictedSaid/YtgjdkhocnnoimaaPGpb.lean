/- Sounds that are drawn: their lags, and what solves them. Conditions: none. -/

import Derived.Test.YtgjdkhocnnoimaaProg
import Derived.KernelRfl
import Derived.Test.YtgjdkhocnnoimaaPGpa
import Derived.Test.YtgjdkhocnnoimaaPGlv
import Derived.Test.YtgjdkhocnnoimaaPGen

set_option linter.unusedSimpArgs false

set_option linter.unusedVariables false

namespace Go.Sim

open Go Go.Proofs

/-! ### Lags, exactly -/

theorem xv_out {vs : List Int} (hl : vs.length = 12) : ∀ n, 12 ≤ n → xv vs n = 0 := fun n hn => by
  have : vs.getD n 0 = 0 := by simp [hl, hn]
  unfold xv; rw [this]; exact Rat.zero_mul _

theorem ex4 {q : Rat} {z : Nat} (h : Rd .f32 q z) (g : gr 4 q) (b1 : q ≤ 4096) (b2 : -4096 ≤ q) : isFl .f32 z ∧ fv .f32 z = q := by
  have p : P2 4 = 16 := by decide +kernel
  have c : ((16777216 : Nat) : Rat) = 16777216 := rfl
  exact ex_gr (B := 16777216) h (by decide) g big32.1 (by decide) (by rw [big32.2, c]; grind) (by rw [p, c]; grind) (by rw [p, c]; grind)

section
variable {vs : List Int} (hv : inB 8 vs) (hl : vs.length = 12)
include hv

theorem xx_at (i j : Nat) : gr 4 (xv vs i * xv vs j) ∧ xv vs i * xv vs j ≤ 4 ∧ -4 ≤ xv vs i * xv vs j := by
  obtain ⟨_, _, a3, a4, a5⟩ := xv_at hv i
  obtain ⟨_, _, b3, b4, b5⟩ := xv_at hv j
  have p := mul_bd a4 a5 b4 b5
  exact ⟨a3.mul b3, by grind, by grind⟩

theorem lag64_exact (k : Nat) : ∀ j, j ≤ 12 → isFl .f64 (lag64 (vs.map tW) k j) ∧ fv .f64 (lag64 (vs.map tW) k j) = sumR (fun i => xv vs (k + i) * xv vs i) j ∧ gr 4 (sumR (fun i => xv vs (k + i) * xv vs i) j) ∧ sumR (fun i => xv vs (k + i) * xv vs i) j ≤ (j : Rat) * 4 ∧ -((j : Rat) * 4) ≤ sumR (fun i => xv vs (k + i) * xv vs i) j := by
  intro j
  induction j with
  | zero =>
    intro _
    have z := zero_fl .f64
    have z0 : ((0 : Nat) : Rat) = 0 := rfl
    simp only [lag64, sumR]
    rw [z0]
    exact ⟨z.1, z.2, gr_zero _, by grind, by grind⟩
  | succ j ih =>
    intro hj
    obtain ⟨i1, i2, i3, i4, i5⟩ := ih (by omega)
    obtain ⟨a1, a2, _⟩ := xv_at hv (k + j)
    obtain ⟨b1, b2, _⟩ := xv_at hv j
    obtain ⟨u1, u2⟩ := fcv_up a1
    obtain ⟨w1, w2⟩ := fcv_up b1
    obtain ⟨g, p1, p2⟩ := xx_at hv (k + j) j
    have j11 : (j : Rat) ≤ 11 := natR_le (b := 11) (by omega)
    have r1 := mul_Rd u1 w1
    rw [u2, w2, a2, b2] at r1
    obtain ⟨f1, v1⟩ := ex64 r1 (g.up (by omega)) (by grind) (by grind)
    have r2 := add_Rd i1 f1
    rw [i2, v1] at r2
    obtain ⟨f2, v2⟩ := ex64 r2 ((i3.add g).up (by omega)) (by grind) (by grind)
    simp only [lag64, sumR]
    rw [natR_succ]
    exact ⟨f2, v2, i3.add g, by grind, by grind⟩

omit hv in
theorem lag_eq {x : Nat → Rat} {k : Nat} (hk : k ≤ 12) : lagR x k = sumR (fun i => x (k + i) * x i) (12 - k) := by
  unfold lagR
  obtain ⟨d, hd⟩ : ∃ d, 12 = k + d := ⟨12 - k, by omega⟩
  rw [show 12 - k = d by omega, hd, sumR_split, sumR_zero (f := fun n => x n * sh x k n) k (fun j hj => by
    have : sh x k j = 0 := by unfold sh; rw [if_neg (by omega)]
    rw [this]; grind), sumR_congr (t := fun i => x (k + i) * x i) d (fun i _ => by unfold sh; rw [if_pos (by omega), show k + i - k = i by omega])]
  grind

theorem lag_bd (k : Nat) : lagR (xv vs) k ≤ 48 ∧ -48 ≤ lagR (xv vs) k := by
  have h : nr (((12 : Nat) : Rat) * 4) (lagR (xv vs) k) 0 := sumR_small 12 fun n _ => by
    unfold sh
    split
    · obtain ⟨_, a, b⟩ := xx_at hv n (n - k)
      exact ⟨by grind, by grind⟩
    · exact ⟨by grind, by grind⟩
  have c : ((12 : Nat) : Rat) = 12 := rfl
  rw [c] at h
  exact ⟨by have := h.1; grind, by have := h.2; grind⟩

theorem lag_word (k : Nat) (hk : k ≤ 12) : isFl .f32 (fcv .f64 .f32 (lag64 (vs.map tW) k (12 - k))) ∧ fv .f32 (fcv .f64 .f32 (lag64 (vs.map tW) k (12 - k))) = lagR (xv vs) k ∧ fconvOk .f64 .f32 (lag64 (vs.map tW) k (12 - k)) := by
  obtain ⟨a1, a2, a3, _⟩ := lag64_exact hv k (12 - k) (by omega)
  have b := lag_bd hv k
  rw [← lag_eq hk] at a2 a3
  have r := fcv_down_Rd a1
  rw [a2] at r
  obtain ⟨f, w⟩ := ex4 r a3 (by grind) (by grind)
  exact ⟨f, w, fconvOk_fin a1 f⟩

include hl
theorem lag_conv (k : Nat) : fconvOk .f64 .f32 (lag64 (vs.map tW) k ((vs.map tW).length - k)) := by
  rw [List.length_map, hl]
  rcases Nat.le_total k 12 with h | h
  · exact (lag_word hv k h).2.2
  · have : 12 - k = 0 := by omega
    rw [this]
    show fconvOk .f64 .f32 0
    exact fconvOk_of (by decide)

theorem lags_ok {n : Nat} (h6 : n ≤ 6) : lagsF (vs.map tW) (n : Int) = ((List.range (n + 1)).map (fun k => fcv .f64 .f32 (lag64 (vs.map tW) k (12 - k))), true) := by
  have L : (vs.map tW).length = 12 := by rw [List.length_map, hl]
  have hS : ev_Lags_L1_S (vs.map tW) 12 (n : Int) (n + 1) = (List.range (n + 1)).map (fun k => fcv .f64 .f32 (lag64 (vs.map tW) k (12 - k))) := by
    rw [set_all (n + 1) (fun k => fcv .f64 .f32 (ev_Lags_L2_S (vs.map tW) 12 (n : Int) k [] (12 - k))) (ev_Lags_L1_S (vs.map tW) 12 (n : Int)) (by simp [ev_Lags_L1_S]) (fun k => by
      show List.set _ k _ = List.set _ k _
      rw [lag64_of (vs.map tW) k (ev_Lags_L2_S (vs.map tW) 12 (n : Int) k _) rfl (fun _ => rfl), lag64_of (vs.map tW) k (ev_Lags_L2_S (vs.map tW) 12 (n : Int) k []) rfl (fun _ => rfl)])]
    refine List.map_congr_left fun k _ => ?_
    rw [lag64_of (vs.map tW) k (ev_Lags_L2_S (vs.map tW) 12 (n : Int) k []) rfl (fun _ => rfl)]
  unfold lagsF
  rw [L, Int.toNat_natCast, hS, if_pos (allFin_range fun k hk => (lag_word hv k (by omega)).1)]

omit hv hl in
theorem lag_en (xs : List Nat) : ∀ j, lag64 xs 0 j = en64 xs j
  | 0 => rfl
  | j + 1 => by simp only [lag64, en64, lag_en xs j, Nat.zero_add]

theorem en_conv : fconvOk .f64 .f32 (en64 (vs.map tW) (vs.map tW).length) := by
  have := lag_conv hv hl 0
  rw [lag_en, Nat.sub_zero] at this; exact this

theorem energy_ok : energySF (vs.map tW) = (fcv .f64 .f32 (lag64 (vs.map tW) 0 12), true) := by
  have L : (vs.map tW).length = 12 := by rw [List.length_map, hl]
  have e : energyF (vs.map tW) = fcv .f64 .f32 (lag64 (vs.map tW) 0 12) := by
    unfold energyF; rw [L, en64_eq, lag_en]
  have f : isFl .f32 (fcv .f64 .f32 (lag64 (vs.map tW) 0 12)) := (lag_word hv 0 (Nat.zero_le 12)).1
  have f := fin32_isF.2 f
  have hs := snd_tW hv (show vs.length ≤ 256 by omega)
  unfold energySF
  rw [if_pos hs, e]
  generalize fcv .f64 .f32 (lag64 (vs.map tW) 0 12) = w at *
  rw [f]; rfl
end

/-! ### The lags are solved -/

theorem set_some {f : Nat → Nat} (S : Nat → List Nat) (hs : ∀ k, S (k + 1) = (S k).set k (f k)) : ∀ m, (S m).length = (S 0).length ∧ ∀ k, k < m → k < (S 0).length → (S m).getD k 0 = f k := by
  intro m
  induction m with
  | zero => exact ⟨rfl, fun k hk => by omega⟩
  | succ m ih =>
    obtain ⟨i1, i2⟩ := ih
    rw [hs]
    refine ⟨by rw [List.length_set, i1], fun k hk hl => ?_⟩
    rcases Nat.lt_or_ge k m with g | g
    · rw [List.getD_eq_getElem?_getD, List.getElem?_set_ne (by omega), ← List.getD_eq_getElem?_getD]; exact i2 k g hl
    · have : k = m := by omega
      subst this
      rw [List.getD_eq_getElem?_getD, List.getElem?_set_self (by rw [i1]; exact hl)]; rfl

theorem getD_set_self (xs : List Nat) (k v : Nat) (h : k < xs.length) : (xs.set k v).getD k 0 = v := by
  rw [List.getD_eq_getElem?_getD, List.getElem?_set_self h]; rfl
theorem getD_set_ne (xs : List Nat) (k j v : Nat) (h : k ≠ j) : (xs.set k v).getD j 0 = xs.getD j 0 := by
  rw [List.getD_eq_getElem?_getD, List.getElem?_set_ne h, ← List.getD_eq_getElem?_getD]

def allFl (xs : List Nat) : Prop := ∀ k, k < xs.length → isFl .f64 (xs.getD k 0)
theorem allFl_app {xs ys : List Nat} (h : allFl xs) (g : allFl ys) : allFl (xs ++ ys) := by
  intro k hk
  rw [List.length_append] at hk
  rcases Nat.lt_or_ge k xs.length with h' | h'
  · rw [List.getD_eq_getElem?_getD, List.getElem?_append_left h', ← List.getD_eq_getElem?_getD]; exact h k h'
  · rw [List.getD_eq_getElem?_getD, List.getElem?_append_right h', ← List.getD_eq_getElem?_getD]; exact g _ (by omega)

structure SolveAt (x : Nat → Rat) (s : Nat × List Nat × List Nat) (m : Nat) : Prop where
  ll : s.2.1.length = m
  sl : s.2.2.length = m
  lf : ∀ k, k < m → isFl .f64 (s.2.1.getD k 0) ∧ fv .f64 (s.2.1.getD k 0) ≤ 1 ∧ -1 ≤ fv .f64 (s.2.1.getD k 0)
  ok : LevOk x (fun k => s.2.2.getD k 0) m s.1 (lagR x 0) (P2 m)

section
variable {x : Nat → Rat} (hx : ∀ n, 12 ≤ n → x n = 0) {xs : List Nat} {n : Nat} (hL : ∀ j, j ≤ n → isFl .f32 (xs.getD j 0) ∧ fv .f32 (xs.getD j 0) = lagR x j) (hR : ∀ j, lagR x j ≤ 64 ∧ -64 ≤ lagR x j) (h4 : 4 ≤ x 0 * x 0)
include hx hL hR h4

theorem solve_at (N : Nat) (hn : n ≤ 6) : ∀ m, m ≤ n → SolveAt x (ev_solve_L1_S xs N m) m ∧ ∀ k, k < m → ev_solve_L1_good xs N k (ev_solve_L1_S xs N k) = true := by
  intro m
  induction m with
  | zero =>
    intro _
    obtain ⟨a, b⟩ := hL 0 (by omega)
    obtain ⟨u, v⟩ := fcv_up a
    have p0 : P2 0 = 1 := by decide +kernel
    refine ⟨⟨rfl, rfl, fun k hk => by omega, ⟨fun k hk => by omega, u, by rw [show (ev_solve_L1_S xs N 0).1 = fcv .f32 .f64 (List.getD xs 0 0) from rfl, v, b]; exact Rat.le_refl, ⟨fun k hk => by omega, fun i hi => by omega, ?_⟩⟩⟩, fun k hk => by omega⟩
    rw [show (ev_solve_L1_S xs N 0).1 = fcv .f32 .f64 (List.getD xs 0 0) from rfl, v, b, p0]
    unfold nrm; simp only [sumR]
    exact ⟨by grind, by grind⟩
  | succ m ih =>
    intro hm
    obtain ⟨S, G⟩ := ih (by omega)
    have hs : ev_solve_L1_S xs N (m + 1) = ev_solve_L1_step xs N m (ev_solve_L1_S xs N m) := rfl
    rw [hs]
    have P1 := P2_ge m
    have P5 : P2 m ≤ 32 := by
      have := P2_mono (i := m) (j := 5) (by omega)
      have e : P2 5 = 32 := by decide +kernel
      rw [e] at this; exact this
    have R0 := (hR 0).1
    have E3 := (lev_e hx S.ok h4 (by omega) P1 (by grind)).1
    generalize hse : ev_solve_L1_S xs N m = s at *
    have l3 := set_some (f := fun k3 => fop .sub .f64 (List.getD s.2.2 k3 0) (fop .mul .f64 (fop .quo .f64 (ev_solve_L2_S xs N m s m) s.1) (List.getD s.2.2 (m - (k3 + 1)) 0))) (ev_solve_L3_S xs N m s) (fun _ => rfl) m
    have l0 : (ev_solve_L3_S xs N m s 0).length = 1 + m := by simp [ev_solve_L3_S]
    rw [l0] at l3
    obtain ⟨l3, g3⟩ := l3
    obtain ⟨q1, r1, r2, r3, ok⟩ := lev_step hx (L := fun j => xs.getD j 0) (m := m) (fun j hj => hL j (by omega)) hR h4 (by omega) R0 P1 P5 S.ok (ev_solve_L2_S xs N m s) rfl (fun _ => rfl) rfl rfl
      (st' := fun k => (List.set (ev_solve_L3_S xs N m s m) m (fop .quo .f64 (ev_solve_L2_S xs N m s m) s.1)).getD k 0) (fun k hk => by
        show (List.set _ m _).getD k 0 = _
        rw [getD_set_ne _ _ _ _ (by omega), g3 k hk (by omega)]) (by
        show (List.set _ m _).getD m 0 = _
        rw [getD_set_self _ _ _ (by omega)])
    rw [← P2_succ] at ok
    refine ⟨⟨by simp [ev_solve_L1_step, S.ll], by simp [ev_solve_L1_step, l3]; omega, fun k hk => ?_, ok⟩, fun k hk => ?_⟩
    · show isFl .f64 ((s.2.1 ++ [_]).getD k 0) ∧ _ ∧ _
      show isFl .f64 ((s.2.1 ++ [fop .quo .f64 (ev_solve_L2_S xs N m s m) s.1]).getD k 0) ∧ fv .f64 ((s.2.1 ++ [fop .quo .f64 (ev_solve_L2_S xs N m s m) s.1]).getD k 0) ≤ 1 ∧ -1 ≤ fv .f64 ((s.2.1 ++ [fop .quo .f64 (ev_solve_L2_S xs N m s m) s.1]).getD k 0)
      rcases Nat.lt_or_ge k m with g | g
      · have e : (s.2.1 ++ [fop .quo .f64 (ev_solve_L2_S xs N m s m) s.1]).getD k 0 = s.2.1.getD k 0 := by
          rw [List.getD_eq_getElem?_getD, List.getElem?_append_left (by rw [S.ll]; exact g), ← List.getD_eq_getElem?_getD]
        rw [e]; exact S.lf k g
      · have e : (s.2.1 ++ [fop .quo .f64 (ev_solve_L2_S xs N m s m) s.1]).getD k 0 = fop .quo .f64 (ev_solve_L2_S xs N m s m) s.1 := by
          have : k = m := by omega
          subst this
          rw [List.getD_eq_getElem?_getD, List.getElem?_append_right (by rw [S.ll]; exact Nat.le_refl _), S.ll]; simp
        rw [e]; exact ⟨r1, r2, r3⟩
    · rcases Nat.lt_or_ge k m with g | g
      · exact G k g
      · have e : k = m := by omega
        subst e
        rw [hse]
        have c1 : fcmp .gtr .f64 s.1 0 = true := by
          rw [gtr_iff S.ok.fe (zero_fl .f64).1, (zero_fl .f64).2]; grind
        have lS : (List.set (ev_solve_L3_S xs N k s k) k (fop .quo .f64 (ev_solve_L2_S xs N k s k) s.1)).length = 1 + k := by rw [List.length_set, l3]
        have c2 := allFl_app (xs := List.set (ev_solve_L3_S xs N k s k) k (fop .quo .f64 (ev_solve_L2_S xs N k s k) s.1)) (fun j hj => ok.fs j (by omega)) (ys := [(ev_solve_L2_S xs N k s k), (fop .mul .f64 s.1 (fop .sub .f64 4607182418800017408 (fop .mul .f64 (fop .quo .f64 (ev_solve_L2_S xs N k s k) s.1) (fop .quo .f64 (ev_solve_L2_S xs N k s k) s.1))))]) (fun j hj => by
          simp only [List.length_cons, List.length_nil] at hj
          rcases (show j = 0 ∨ j = 1 by omega) with rfl | rfl
          · exact q1
          · exact ok.fe)
        unfold ev_solve_L1_good
        rw [if_pos c1, if_pos]
        refine allBelow_true.2 fun j hj => ?_
        rw [self_sub (c2 j (by rw [List.length_append, lS]; simp only [List.length_cons, List.length_nil]; omega))]; rfl
end

end Go.Sim
