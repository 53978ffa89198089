/- Steps down and residues of what is drawn. Conditions: none. -/

import Derived.Test.YtgjdkhocnnoimaaProg
import Derived.KernelRfl
import Derived.Test.YtgjdkhocnnoimaaQGle
import Derived.Test.YtgjdkhocnnoimaaQGsd
import Derived.Test.YtgjdkhocnnoimaaQGre
import Derived.Test.YtgjdkhocnnoimaaQGr8

set_option linter.unusedSimpArgs false

set_option linter.unusedVariables false

namespace Go.Sim

open Go Go.Proofs

/-! ### Steps down, one after the other -/

section
variable {st : List Nat} {n g : Nat} (hl : st.length = n) {Q : Nat → (Nat → Nat) → Prop} (top : Q n (fun k => st.getD k 0)) (fin : ∀ m b, m ≤ n → Q m b → ∀ k, k < m → isFl .f32 (b k)) (stp : ∀ m b, m < n → Q (m + 1) b → isStp (b m) = true)
  (down : ∀ m (b c : Nat → Nat), m < n → Q (m + 1) b → (∀ k, k < m → c k = fop .quo .f32 (fop .add .f32 (b k) (fop .mul .f32 (b m) (b (m - 1 - k)))) (fop .sub .f32 1065353216 (fop .mul .f32 (b m) (b m)))) → Q m c)
include hl top fin stp down

theorem down_steps : ∀ k, k ≤ n → (ev_stepDown_L1_S st n g k).1.length = n - k ∧ Q (n - k) (fun j => (ev_stepDown_L1_S st n g k).1.getD j 0) ∧ (ev_stepDown_L1_S st n g k).2.length = n ∧
    (∀ m, n - k ≤ m → m < n → ∃ b, Q (m + 1) b ∧ (ev_stepDown_L1_S st n g k).2.getD m 0 = b m) ∧ ∀ j, j < k → ev_stepDown_L1_good st n g j (ev_stepDown_L1_S st n g j) = true := by
  intro k
  induction k with
  | zero => intro _; exact ⟨hl, top, by simp [ev_stepDown_L1_S], fun m h1 h2 => by omega, fun j hj => by omega⟩
  | succ k ih =>
    intro hk
    obtain ⟨i1, i2, i3, i4, i5⟩ := ih (by omega)
    have hs : ev_stepDown_L1_S st n g (k + 1) = ev_stepDown_L1_step st n g k (ev_stepDown_L1_S st n g k) := rfl
    rw [hs]
    generalize hse : ev_stepDown_L1_S st n g k = s at *
    obtain ⟨m, hm⟩ : ∃ m, n - k = m + 1 := ⟨n - k - 1, by omega⟩
    have e1 : n - (k + 1) = m := by omega
    rw [hm] at i1 i2
    have l2 := set_all m (fun k2 => fop .quo .f32 (fop .add .f32 (List.getD s.1 k2 0) (fop .mul .f32 (List.getD s.1 (n - (k + 1)) 0) (List.getD s.1 (n - (k + k2 + 2)) 0))) (fop .sub .f32 1065353216 (fop .mul .f32 (List.getD s.1 (n - (k + 1)) 0) (List.getD s.1 (n - (k + 1)) 0)))) (ev_stepDown_L2_S st n g k s) (by simp [ev_stepDown_L2_S, e1]) (fun _ => rfl)
    have q := down m _ (fun j => (ev_stepDown_L2_S st n g k s m).getD j 0) (by omega) i2 (fun j hj => by
      show (ev_stepDown_L2_S st n g k s m).getD j 0 = _
      rw [l2, rangeD hj, e1, show n - (k + j + 2) = m - 1 - j by omega])
    have lS := stp m _ (by omega) i2
    have fS : allFin (ev_stepDown_L2_S st n g k s m) = true := by
      have ll : (ev_stepDown_L2_S st n g k s m).length = m := by rw [l2]; simp
      exact allFin_at fun j hj => fin m _ (by omega) q j (by omega)
    refine ⟨?_, ?_, ?_, fun m' h1 h2 => ?_, fun j hj => ?_⟩
    · show (ev_stepDown_L2_S st n g k s (n - (k + 1))).length = _
      rw [e1, l2]; simp
    · show Q (n - (k + 1)) (fun j => (ev_stepDown_L2_S st n g k s (n - (k + 1))).getD j 0)
      rw [e1]; exact q
    · show (List.set s.2 (n - (k + 1)) _).length = n
      rw [List.length_set]; exact i3
    · show ∃ b, Q (m' + 1) b ∧ (List.set s.2 (n - (k + 1)) (List.getD s.1 (n - (k + 1)) 0)).getD m' 0 = b m'
      rw [e1]
      rcases (show m' = m ∨ m < m' by omega) with rfl | h
      · exact ⟨_, i2, by rw [getD_set_self _ _ _ (by omega)]⟩
      · obtain ⟨b, b1, b2⟩ := i4 m' (by omega) h2
        exact ⟨b, b1, by rw [getD_set_ne _ _ _ _ (by omega)]; exact b2⟩
    · rcases (show j < k ∨ j = k by omega) with h | rfl
      · exact i5 j h
      · rw [hse]
        unfold ev_stepDown_L1_good
        rw [e1, if_pos lS, if_pos fS]

theorem down_ok : ∃ L, downF st g = (L, true) ∧ L.length = n ∧ ∀ m, m < n → ∃ b, Q (m + 1) b ∧ L.getD m 0 = b m := by
  obtain ⟨_, _, i3, i4, i5⟩ := down_steps (g := g) hl top fin stp down n (Nat.le_refl n)
  refine ⟨(ev_stepDown_L1_S st n g n).2, ?_, i3, fun m hm => i4 m (by omega) hm⟩
  unfold downF
  rw [hl, if_pos (allBelow_true.2 fun j hj => i5 j hj)]
end

theorem isStp_of {x : Nat} (hx : isFl .f32 x) (h1 : fv .f32 x < 1) (h2 : -1 < fv .f32 x) : isStp x = true := by
  have one : isFl .f32 1065353216 ∧ fv .f32 1065353216 = 1 := ⟨finB_fl (by decide +kernel), by decide +kernel⟩
  have mone : isFl .f32 3212836864 ∧ fv .f32 3212836864 = -1 := ⟨finB_fl (by decide +kernel), by decide +kernel⟩
  unfold isStp
  rw [(gtr_iff hx mone.1).2 (by rw [mone.2]; exact h2), (lss_iff hx one.1).2 (by rw [one.2]; exact h1)]; rfl

theorem ex21 {q : Rat} {z : Nat} (h : Rd .f32 q z) (g : gr 21 q) (b1 : q ≤ 8) (b2 : -8 ≤ q) : isFl .f32 z ∧ fv .f32 z = q := by
  have p : P2 21 = 2097152 := by decide +kernel
  have c : ((16777216 : Nat) : Rat) = 16777216 := rfl
  exact ex_gr (B := 16777216) h (by decide) g big32.1 (by decide) (by rw [big32.2, c]; grind) (by rw [p, c]; grind) (by rw [p, c]; grind)

/-- Stepping down what was stepped up gives the ladder, exactly. -/
theorem down_exact {r : Nat → Rat} (hg : ∀ k, gr 3 (r k)) (hb : ∀ k, r k ≤ 1 / 2 ∧ -(1 / 2) ≤ r k) {m : Nat} (hm : m ≤ 5) {b : Nat → Nat} (fb : ∀ k, k < m + 1 → isFl .f32 (b k) ∧ fv .f32 (b k) = aR r (m + 1) k) {k : Nat} (hk : k < m) :
    isFl .f32 (fop .quo .f32 (fop .add .f32 (b k) (fop .mul .f32 (b m) (b (m - 1 - k)))) (fop .sub .f32 1065353216 (fop .mul .f32 (b m) (b m)))) ∧ fv .f32 (fop .quo .f32 (fop .add .f32 (b k) (fop .mul .f32 (b m) (b (m - 1 - k)))) (fop .sub .f32 1065353216 (fop .mul .f32 (b m) (b m)))) = aR r m k := by
  have one : isFl .f32 1065353216 ∧ fv .f32 1065353216 = 1 := ⟨finB_fl (by decide +kernel), by decide +kernel⟩
  obtain ⟨k1, k2⟩ := fb k (by omega)
  obtain ⟨l1, l2⟩ := fb (m - 1 - k) (by omega)
  obtain ⟨r1, r2⟩ := fb m (by omega)
  have er : aR r (m + 1) m = r m := by simp only [aR, upR]; rw [if_neg (by omega)]
  have ek : aR r (m + 1) k = aR r m k - r m * aR r m (m - 1 - k) := by simp only [aR, upR]; rw [if_pos hk]
  have el : aR r (m + 1) (m - 1 - k) = aR r m (m - 1 - k) - r m * aR r m k := by
    simp only [aR, upR]; rw [if_pos (by omega), show m - 1 - (m - 1 - k) = k by omega]
  rw [er] at r2
  have gk := aR_gr hg (m + 1) k
  have gl := aR_gr hg (m + 1) (m - 1 - k)
  have bk := aR_bd hb (m + 1) k
  have bl := aR_bd hb (m + 1) (m - 1 - k)
  have c4 := cB_le (m + 1) (by omega)
  have p := mul_bd (hb m).1 (hb m).2 bl.1 bl.2
  have gp := (hg m).mul gl
  have rd1 := mul_Rd r1 l1
  rw [r2, l2] at rd1
  obtain ⟨p1, p2⟩ := ex21 rd1 (gp.up (by omega)) (by grind) (by grind)
  have rd2 := add_Rd k1 p1
  rw [k2, p2] at rd2
  obtain ⟨s1, s2⟩ := ex21 rd2 ((gk.up (by omega)).add (gp.up (by omega))) (by grind) (by grind)
  have rr := mul_bd (hb m).1 (hb m).2 (hb m).1 (hb m).2
  have grr := (hg m).mul (hg m)
  have rd3 := mul_Rd r1 r1
  rw [r2] at rd3
  obtain ⟨q1, q2⟩ := ex21 rd3 (grr.up (by omega)) (by grind) (by grind)
  have rd4 := sub_Rd one.1 q1
  rw [one.2, q2] at rd4
  have g1 : gr 0 (1 : Rat) := gr_int 1
  obtain ⟨v1, v2⟩ := ex21 rd4 ((g1.up (by omega)).sub (grr.up (by omega))) (by grind) (by grind)
  have hne : fv .f32 (fop .sub .f32 1065353216 (fop .mul .f32 (b m) (b m))) ≠ 0 := by rw [v2]; grind
  have rd5 := quo_Rd s1 v1 hne
  have num : aR r (m + 1) k + r m * aR r (m + 1) (m - 1 - k) = aR r m k * (1 - r m * r m) := by rw [ek, el]; grind
  rw [s2, v2, num] at rd5
  have dv : aR r m k * (1 - r m * r m) / (1 - r m * r m) = aR r m k := by
    rw [Rat.div_def, Rat.mul_assoc, Rat.mul_inv_cancel _ (by grind), Rat.mul_one]
  rw [dv] at rd5
  have bm := aR_bd hb m k
  have cm := cB_le m (by omega)
  exact ex20 rd5 ((aR_gr hg m k).up (by omega)) (by grind) (by grind)

theorem gap_small {x y c : Nat} (hx : isFl .f64 x) (hy : isFl .f64 y) {E : Rat} (hE : E ≤ 1) (h : nr E (fv .f64 x) (fv .f64 y)) (hc : isFl .f64 c) (h0 : E + 1 / 1000000000 ≤ fv .f64 c) : fcmp .gtr .f64 (gapR x y) c = false := by
  obtain ⟨h1, h2⟩ := h
  obtain ⟨a1, a2, a3⟩ := rnd64 (sub_Rd hx hy) (B := 1) (by grind) (by grind) (by grind) (by grind)
  obtain ⟨b1, b2, b3⟩ := rnd64 (sub_Rd hy hx) (B := 1) (by grind) (by grind) (by grind) (by grind)
  have key : isFl .f64 (gapR x y) ∧ fv .f64 (gapR x y) ≤ E + 1 / 1000000000 := by
    unfold gapR fminmax
    rcases order_val a1 b1 with ⟨e, g⟩ | ⟨e, g⟩ | ⟨e, g⟩ <;> rw [e] <;> simp only [cond_true]
    · exact ⟨b1, by grind⟩
    · split
      · exact ⟨b1, by grind⟩
      · exact ⟨a1, by grind⟩
    · exact ⟨a1, by grind⟩
  rw [Bool.eq_false_iff, ne_eq, gtr_iff key.1 hc]; grind

/-! ### Residues, nearly -/

section
variable {st : List Nat} {a : Nat → Rat} {n : Nat} (P : PredOk st a n) (h6 : n ≤ 6) {vs : List Int} (hv : inB 8 vs)
include P h6 hv

theorem res_near (m : Nat) : isFl .f32 (fop .sub .f32 (List.getD (vs.map tW) m 0) (predAt st (vs.map tW) m)) ∧ nr (1 / 10000) (fv .f32 (fop .sub .f32 (List.getD (vs.map tW) m 0) (predAt st (vs.map tW) m))) (resR (xv vs) a n m) := by
  have hl := P.l
  have hc6 : ((min st.length m : Nat) : Rat) ≤ 6 := natR_le (b := 6) (by omega)
  have hc0 := natR_nonneg (min st.length m)
  have c4 := cB_le n (by omega)
  have tb : ∀ j, j < min st.length m → a j * xv vs (m - (j + 1)) ≤ 8 ∧ -8 ≤ a j * xv vs (m - (j + 1)) := fun j hj => by
    obtain ⟨_, _, _, a3, a4⟩ := P.h j (by omega)
    obtain ⟨_, _, _, x4, x5⟩ := xv_at hv (m - (j + 1))
    have := mul_bd (a := a j) (A := 4) (by grind) (by grind) x4 x5
    exact ⟨by grind, by grind⟩
  have hM : ∀ j, j ≤ min st.length m → sumR (fun j => a j * xv vs (m - (j + 1))) j ≤ 48 ∧ -48 ≤ sumR (fun j => a j * xv vs (m - (j + 1))) j := fun j hj => by
    have s := sumR_small (e := 8) j fun k hk => (show nr 8 (a k * xv vs (m - (k + 1))) 0 from nr_of (tb k (by omega)).1 (by have := (tb k (by omega)).2; grind))
    have j4 : (j : Rat) ≤ 6 := natR_le (b := 6) (by omega)
    obtain ⟨s1, s2⟩ := s
    exact ⟨by grind, by grind⟩
  have hp := fsum (k := .f32) (U := 1 / 8388608) (fun h => fun {B} => rnd32 h) (f := fun j => fop .mul .f32 (List.getD st j 0) (List.getD (vs.map tW) (m - (j + 1)) 0)) (t := fun j => a j * xv vs (m - (j + 1))) (fun j => predV st (vs.map tW) m j) rfl (fun _ => rfl) (n := min st.length m) (e := 8 / 8388608) (M := 48) (B := 64) (fun j hj => by
    obtain ⟨b1, b2, _⟩ := P.h j (by omega)
    obtain ⟨x1, x2, _⟩ := xv_at hv (m - (j + 1))
    have r := mul_Rd b1 x1
    rw [b2, x2] at r
    have t := tb j hj
    obtain ⟨f1, f2⟩ := rnd32 r (B := 8) (by grind) (by grind) t.1 t.2
    exact ⟨f1, f2.mono (by grind)⟩) hM (by grind) (by grind) (by grind) (by grind) (by grind) (min st.length m) (Nat.le_refl _)
  obtain ⟨p1, p2⟩ := hp
  have p2 := p2.mono (f := 432 / 8388608) (by grind)
  obtain ⟨x1, x2, _, x4, x5⟩ := xv_at hv m
  have e : resR (xv vs) a n m = xv vs m - sumR (fun j => a j * xv vs (m - (j + 1))) (min st.length m) := by unfold resR; rw [res_min, hl]
  have hm := hM _ (Nat.le_refl _)
  have r := sub_Rd x1 p1
  rw [x2] at r
  obtain ⟨q1, q2⟩ := p2
  obtain ⟨f1, f2, f3⟩ := rnd32 r (B := 64) (by grind) (by grind) (by grind) (by grind)
  rw [e]
  exact ⟨f1, ⟨by unfold predAt; grind, by unfold predAt; grind⟩⟩
end

/-! ### What a ladder leaves of a sound -/

theorem ladRes_near {ws vs : List Int} (hw : inB 4 ws) (hv : inB 8 vs) {n : Nat} (hl : ws.length = n) (h1 : 1 ≤ n) (h6 : n ≤ 6) (h12 : vs.length = 12) :
    ∃ L, ladResF (ws.map eW) (vs.map tW) = (L, true) ∧ L.length = 12 ∧ ∀ k, k < 12 → isFl .f32 (L.getD k 0) ∧ nr (1 / 4000) (fv .f32 (L.getD k 0)) (resR (xv vs) (aR (rqv ws) n) n k) := by
  have lw : (ws.map eW).length = n := by rw [List.length_map, hl]
  have lv : (vs.map tW).length = 12 := by rw [List.length_map, h12]
  have hx : ∀ n, xv vs n ≤ 2 ∧ -2 ≤ xv vs n := fun n => ⟨(xv_at hv n).2.2.2.1, (xv_at hv n).2.2.2.2⟩
  have hr : ∀ k, rqv ws k ≤ 1 / 2 ∧ -(1 / 2) ≤ rqv ws k := fun k => ⟨(rv_at hw k).2.2.2.1, (rv_at hw k).2.2.2.2⟩
  have key : ∀ k, k ≤ 12 → (ev_changedL_L1_S (vs.map tW) 12 (ws.map eW) n (List.replicate n 0) n k).1.length = n ∧
      (∀ j, j < n → isFl .f32 ((ev_changedL_L1_S (vs.map tW) 12 (ws.map eW) n (List.replicate n 0) n k).1.getD j 0) ∧ nr (lE j) (fv .f32 ((ev_changedL_L1_S (vs.map tW) 12 (ws.map eW) n (List.replicate n 0) n k).1.getD j 0)) (ubR (xv vs) (aR (rqv ws) j) j k)) ∧
      (ev_changedL_L1_S (vs.map tW) 12 (ws.map eW) n (List.replicate n 0) n k).2.length = 12 ∧ ∀ i, i < k → isFl .f32 ((ev_changedL_L1_S (vs.map tW) 12 (ws.map eW) n (List.replicate n 0) n k).2.getD i 0) ∧ nr (lE n) (fv .f32 ((ev_changedL_L1_S (vs.map tW) 12 (ws.map eW) n (List.replicate n 0) n k).2.getD i 0)) (resR (xv vs) (aR (rqv ws) n) n i) := by
    intro k
    induction k with
    | zero =>
      intro _
      have z := zero_fl .f32
      refine ⟨by simp [ev_changedL_L1_S], fun j hj => ?_, by simp [ev_changedL_L1_S], fun i hi => by omega⟩
      have e : (ev_changedL_L1_S (vs.map tW) 12 (ws.map eW) n (List.replicate n 0) n 0).1.getD j 0 = 0 := by
        show (List.replicate n 0).getD j 0 = 0
        simp [hj]
      have q := (lE_tab j (by omega)).1
      rw [e, z.2, ub_zero]
      exact ⟨z.1, by grind, by grind⟩
    | succ k ih =>
      intro hk
      obtain ⟨i1, i2, i3, i4⟩ := ih (by omega)
      have hs : ev_changedL_L1_S (vs.map tW) 12 (ws.map eW) n (List.replicate n 0) n (k + 1) = (ladK (ws.map eW) (ev_changedL_L1_S (vs.map tW) 12 (ws.map eW) n (List.replicate n 0) n k).1 (List.getD (vs.map tW) k 0), List.set (ev_changedL_L1_S (vs.map tW) 12 (ws.map eW) n (List.replicate n 0) n k).2 k (ladV (ws.map eW) (ev_changedL_L1_S (vs.map tW) 12 (ws.map eW) n (List.replicate n 0) n k).1 (List.getD (vs.map tW) k 0))) := rfl
      rw [hs]
      generalize ev_changedL_L1_S (vs.map tW) 12 (ws.map eW) n (List.replicate n 0) n k = s at *
      obtain ⟨x1, x2, _⟩ := xv_at hv k
      obtain ⟨o1, o2, o3, o4⟩ := lat_one hx hr lw h6 (fun j _ => ⟨(rv_at hw j).1, (rv_at hw j).2.1⟩) x1 x2 i1 i2
      refine ⟨o3, o4, by show (List.set s.2 k _).length = 12; rw [List.length_set]; exact i3, fun i hi => ?_⟩
      show isFl .f32 ((List.set s.2 k _).getD i 0) ∧ nr (lE n) (fv .f32 ((List.set s.2 k _).getD i 0)) _
      rcases (show i = k ∨ i < k by omega) with rfl | h
      · rw [getD_set_self _ _ _ (by omega)]; exact ⟨o1, o2⟩
      · rw [getD_set_ne _ _ _ _ (by omega)]; exact i4 i h
  obtain ⟨_, _, k3, k4⟩ := key 12 (Nat.le_refl 12)
  have q := (lE_tab n (by omega)).2
  refine ⟨_, ?_, k3, fun k hk => ⟨(k4 k hk).1, (k4 k hk).2.mono q⟩⟩
  have f := allFin_at fun k hk => (k4 k (by omega)).1
  unfold ladResF changedL
  rw [lw, lv, List.length_replicate, if_pos h1, if_pos (show n ≤ 16 by omega), if_pos (ladder_stp hw), if_pos (snd_tW hv (by omega)), if_pos f]

end Go.Sim
