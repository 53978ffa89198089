/- What the law FnPredicted says of sounds that are drawn. Conditions: none. -/

import Derived.Test.YtgjdkhocnnoimaaProg
import Derived.KernelRfl
import Derived.Test.YtgjdkhocnnoimaaPGpc
import Derived.Test.YtgjdkhocnnoimaaPGda
import Derived.Test.YtgjdkhocnnoimaaPGrp
import Derived.Test.YtgjdkhocnnoimaaPvH
import Derived.Test.YtgjdkhocnnoimaaPvN

set_option linter.unusedSimpArgs false

set_option linter.unusedVariables false

namespace Go.Sim

open Go Go.Proofs

/-! ### Predictors that are damped, and how they answer -/

theorem mul_comm32 {x y : Nat} (hx : isFl .f32 x) (hy : isFl .f32 y) : fop .mul .f32 x y = fop .mul .f32 y x := by
  obtain ⟨s, m, e, h1⟩ := hx
  obtain ⟨t, n, f, h2⟩ := hy
  have h1 : FloatKind.f32.format.read x = .number s m e := h1
  have h2 : FloatKind.f32.format.read y = .number t n f := h2
  have : floatBits .mul .f32 x y = floatBits .mul .f32 y x := by
    simp only [floatBits, Ieee.Format.mul, h1, h2, Ieee.Datum.product]
    rw [Bool.xor_comm s t, Nat.mul_comm m n, Int.add_comm e f]
  unfold fop; rw [this]

theorem zero_word {z : Nat} (hz : isFl .f32 z) (h : fv .f32 z = 0) (hw : z < 4294967296) : z = 0 ∨ z = 2147483648 := by
  obtain ⟨s, r, hr, rfl⟩ := word_of_notN (k := .f32) hw (isF_notN hz)
  have hr' : r < FloatKind.f32.format.infRung := by
    have := read_fin hz; rw [(word_mod FloatKind.f32.format s hr).1] at this; exact this
  rw [(word_fin hr').2] at h
  have : r = 0 := by
    rcases Nat.eq_zero_or_pos r with h0 | h0
    · exact h0
    · have := rgv_pos (f := FloatKind.f32.format) h0
      cases s <;> simp [sg] at h <;> grind
  subst this
  cases s
  · exact .inl (by decide)
  · exact .inr (by decide)

theorem fop_lt (op : BinOp) (x y : Nat) : fop op .f32 x y < 4294967296 := (w32_fop op x y).1

section
variable {st : List Nat} {n g : Nat}

theorem damp_in (keep k : Nat) (s : List Nat) : ∀ j, (ev_Damp_L2_S st n g keep k s j).length = s.length ∧ (∀ i, i ≠ k → (ev_Damp_L2_S st n g keep k s j).getD i 0 = s.getD i 0) := by
  intro j
  induction j with
  | zero => exact ⟨rfl, fun i _ => rfl⟩
  | succ j ih =>
    obtain ⟨a, b⟩ := ih
    show (List.set _ k _).length = _ ∧ ∀ i, i ≠ k → (List.set _ k _).getD i 0 = _
    exact ⟨by rw [List.length_set, a], fun i hi => by rw [getD_set_ne _ _ _ _ (fun h => hi h.symm)]; exact b i hi⟩

theorem damp_one (k : Nat) (s : List Nat) (hk : k < s.length) (hf : isFl .f32 (s.getD k 0)) (hw : s.getD k 0 < 4294967296) : ∀ j, (ev_Damp_L2_S st n g 1065353216 k s j).getD k 0 = s.getD k 0 := by
  intro j
  induction j with
  | zero => rfl
  | succ j ih =>
    show (List.set (ev_Damp_L2_S st n g 1065353216 k s j) k (fop .mul .f32 (List.getD (ev_Damp_L2_S st n g 1065353216 k s j) k 0) 1065353216)).getD k 0 = _
    rw [getD_set_self _ _ _ (by rw [(damp_in _ k s j).1]; exact hk), ih, mul_comm32 hf (finB_fl (by decide +kernel)), mul_one32 hw (fin32_isF.2 hf)]

theorem damp_zero (k : Nat) (s : List Nat) (hk : k < s.length) (hf : isFl .f32 (s.getD k 0)) : ∀ j, isFl .f32 ((ev_Damp_L2_S st n g 0 k s (j + 1)).getD k 0) ∧ fv .f32 ((ev_Damp_L2_S st n g 0 k s (j + 1)).getD k 0) = 0 ∧ (ev_Damp_L2_S st n g 0 k s (j + 1)).getD k 0 < 4294967296 := by
  have z := zero_fl .f32
  have one : ∀ s' : List Nat, s'.length = s.length → isFl .f32 (s'.getD k 0) → isFl .f32 ((List.set s' k (fop .mul .f32 (List.getD s' k 0) 0)).getD k 0) ∧ fv .f32 ((List.set s' k (fop .mul .f32 (List.getD s' k 0) 0)).getD k 0) = 0 ∧ (List.set s' k (fop .mul .f32 (List.getD s' k 0) 0)).getD k 0 < 4294967296 := fun s' hl hf' => by
    rw [getD_set_self _ _ _ (by rw [hl]; exact hk)]
    have r := mul_Rd hf' z.1
    rw [z.2, Rat.mul_zero] at r
    obtain ⟨a, b⟩ := ex20 r (gr_zero _) (by grind) (by grind)
    exact ⟨a, b, fop_lt _ _ _⟩
  intro j
  induction j with
  | zero => exact one s rfl hf
  | succ j ih => exact one _ (damp_in _ k s (j + 1)).1 ih.1

theorem damp_zeros (hs : ∀ k, k < st.length → isFl .f32 (st.getD k 0)) : ∀ m, m ≤ st.length → (ev_Damp_L1_S st n g 0 m).length = st.length ∧ ∀ k, k < st.length → isFl .f32 ((ev_Damp_L1_S st n g 0 m).getD k 0) ∧ (k < m → fv .f32 ((ev_Damp_L1_S st n g 0 m).getD k 0) = 0 ∧ (ev_Damp_L1_S st n g 0 m).getD k 0 < 4294967296) := by
  intro m
  induction m with
  | zero => intro _; exact ⟨rfl, fun k hk => ⟨hs k hk, fun h => by omega⟩⟩
  | succ m ih =>
    intro hm
    obtain ⟨i1, i2⟩ := ih (by omega)
    show (ev_Damp_L2_S st n g 0 m (ev_Damp_L1_S st n g 0 m) (m + 1)).length = _ ∧ ∀ k, k < st.length → isFl .f32 ((ev_Damp_L2_S st n g 0 m (ev_Damp_L1_S st n g 0 m) (m + 1)).getD k 0) ∧ (k < m + 1 → fv .f32 ((ev_Damp_L2_S st n g 0 m (ev_Damp_L1_S st n g 0 m) (m + 1)).getD k 0) = 0 ∧ (ev_Damp_L2_S st n g 0 m (ev_Damp_L1_S st n g 0 m) (m + 1)).getD k 0 < 4294967296)
    generalize ev_Damp_L1_S st n g 0 m = s at *
    obtain ⟨d1, d2⟩ := damp_in (st := st) (n := n) (g := g) 0 m s (m + 1)
    refine ⟨by rw [d1, i1], fun k hk => ?_⟩
    rcases (show k = m ∨ k ≠ m by omega) with rfl | h
    · obtain ⟨z1, z2, z3⟩ := damp_zero (st := st) (n := n) (g := g) k s (by omega) (i2 k hk).1 k
      exact ⟨z1, fun _ => ⟨z2, z3⟩⟩
    · rw [d2 k h]
      exact ⟨(i2 k hk).1, fun hk' => (i2 k hk).2 (by omega)⟩

theorem damp_ones (hs : ∀ k, k < st.length → isFl .f32 (st.getD k 0) ∧ st.getD k 0 < 4294967296) : ∀ m, m ≤ st.length → (ev_Damp_L1_S st n g 1065353216 m).length = st.length ∧ ∀ k, k < st.length → (ev_Damp_L1_S st n g 1065353216 m).getD k 0 = st.getD k 0 := by
  intro m
  induction m with
  | zero => intro _; exact ⟨rfl, fun k _ => rfl⟩
  | succ m ih =>
    intro hm
    obtain ⟨i1, i2⟩ := ih (by omega)
    show (ev_Damp_L2_S st n g 1065353216 m (ev_Damp_L1_S st n g 1065353216 m) (m + 1)).length = _ ∧ ∀ k, k < st.length → (ev_Damp_L2_S st n g 1065353216 m (ev_Damp_L1_S st n g 1065353216 m) (m + 1)).getD k 0 = st.getD k 0
    generalize ev_Damp_L1_S st n g 1065353216 m = s at *
    obtain ⟨d1, d2⟩ := damp_in (st := st) (n := n) (g := g) 1065353216 m s (m + 1)
    refine ⟨by rw [d1, i1], fun k hk => ?_⟩
    rcases (show k = m ∨ k ≠ m by omega) with rfl | h
    · rw [damp_one k s (by omega) (by rw [i2 k hk]; exact (hs k hk).1) (by rw [i2 k hk]; exact (hs k hk).2), i2 k hk]
    · rw [d2 k h, i2 k hk]

theorem list_getD_ext {xs ys : List Nat} (hl : xs.length = ys.length) (h : ∀ k, k < ys.length → xs.getD k 0 = ys.getD k 0) : xs = ys := by
  refine List.ext_getElem hl fun k h1 h2 => ?_
  have := h k h2
  simpa [h1, h2] using this

theorem damp_ok (hs : ∀ k, k < st.length → isFl .f32 (st.getD k 0) ∧ st.getD k 0 < 4294967296) :
    dampF st g 1065353216 = (st, g, true) ∧ ∃ zs, dampF st g 0 = (zs, g, true) ∧ zs.length = st.length ∧ ∀ k, k < st.length → zs.getD k 0 = 0 ∨ zs.getD k 0 = 2147483648 := by
  have hf : allFin st = true := allFin_at fun k hk => (hs k hk).1
  obtain ⟨o1, o2⟩ := damp_ones (n := st.length) (g := g) hs st.length (Nat.le_refl _)
  have oe : ev_Damp_L1_S st st.length g 1065353216 st.length = st := list_getD_ext o1 o2
  obtain ⟨z1, z2⟩ := damp_zeros (n := st.length) (g := g) (fun k hk => (hs k hk).1) st.length (Nat.le_refl _)
  have zf : allFin (ev_Damp_L1_S st st.length g 0 st.length) = true := allFin_at fun k hk => (z2 k (by omega)).1
  constructor
  · unfold dampF
    rw [oe, if_pos hf]
  · refine ⟨ev_Damp_L1_S st st.length g 0 st.length, ?_, z1, fun k hk => ?_⟩
    · unfold dampF
      rw [if_pos zf]
    · obtain ⟨a, b⟩ := z2 k hk
      obtain ⟨c, d⟩ := b hk
      exact zero_word a c d
end

theorem ph_tab : ((List.range 33).all fun t => (List.range 4).all fun k => ptOkB (phA (fop .quo .f32 (cvI (t : Int)) 1115684864) k) && fin32 (fop .quo .f32 (cvI (t : Int)) 1115684864)) = true := by decide +kernel

theorem phasF_fl {f : Nat} (h : Iv .f64 f 0 4607182418800017408) : isFl .f32 (phasF f).1 ∧ isFl .f32 (phasF f).2 := by
  obtain ⟨q1, q2⟩ := qd_args h
  have c := (sin_down q2).1.fx
  have s := (sin_down q1).1.fx
  have nc := (sin_sub0_down q2).1.fx
  have ns := (sin_sub0_down q1).1.fx
  unfold phasF phCf phSf
  split
  · exact ⟨ns, c⟩
  · split
    · exact ⟨nc, ns⟩
    · split
      · exact ⟨s, nc⟩
      · exact ⟨c, s⟩

theorem mul_zero_word {p z : Nat} (hp : isFl .f32 p) (hz : z = 0 ∨ z = 2147483648) : fop .mul .f32 p (fneg .f32 z) = 0 ∨ fop .mul .f32 p (fneg .f32 z) = 2147483648 := by
  have f : isFl .f32 (fneg .f32 z) ∧ fv .f32 (fneg .f32 z) = 0 := by
    rcases hz with rfl | rfl
    · exact ⟨finB_fl (by decide +kernel), by decide +kernel⟩
    · exact ⟨finB_fl (by decide +kernel), by decide +kernel⟩
  have r := mul_Rd hp f.1
  rw [f.2, Rat.mul_zero] at r
  obtain ⟨a, b⟩ := ex20 r (gr_zero _) (by grind) (by grind)
  exact zero_word a b (fop_lt _ _ _)

theorem resp_zero {zs : List Nat} {turn : Nat} (hz : ∀ k, k < zs.length → zs.getD k 0 = 0 ∨ zs.getD k 0 = 2147483648) (hp : ∀ k, k < zs.length → PtOk (phA turn k)) : ∀ k, k ≤ zs.length → respS zs turn k = (1065353216, 0) := by
  intro k
  induction k with
  | zero => intro _; rfl
  | succ k ih =>
    intro hk
    have i := ih (by omega)
    have P := hp k (by omega)
    have Z := hz k (by omega)
    have add1 : ∀ w, w = 0 ∨ w = 2147483648 → fop .add .f32 1065353216 w = 1065353216 ∧ fop .add .f32 0 w = 0 := fun w hw => by
      rcases hw with rfl | rfl
      · exact ⟨by decide +kernel, by decide +kernel⟩
      · exact ⟨by decide +kernel, by decide +kernel⟩
    simp only [respS]
    rw [i]
    split
    · rename_i h
      obtain ⟨f1, f2⟩ := phasF_fl (P.neg h).1
      rw [(add1 _ (mul_zero_word f1 Z)).1, (add1 _ (mul_zero_word f2 Z)).2]
    · rename_i h
      obtain ⟨f1, f2⟩ := phasF_fl (P.pos (by simpa using h)).1
      rw [(add1 _ (mul_zero_word f1 Z)).1, (add1 _ (mul_zero_word f2 Z)).2]

/-! ### What the law asks -/

structure PdOk (X P : List Nat) (G : Nat) (N turn : Nat) : Prop where
  r : (residueF P G X).2 = true
  rl : (((List.length (residueF P G X).1) : Nat) : Int) = 12
  b : (againF P G (residueF P G X).1).2 = true
  bl : (((List.length (againF P G (residueF P G X).1).1) : Nat) : Int) = 12
  d : (driveF P G X).2 = true
  dl : (((List.length (driveF P G X).1) : Nat) : Int) = 12
  h : (scaleSF X 1056964608).2 = true
  s : (againF P G (scaleSF X 1056964608).1).2 = true
  sl : (((List.length (againF P G (scaleSF X 1056964608).1).1) : Nat) : Int) = 12
  t : ∀ k, k < 12 → (predictAtF P G X k).2 = true
  g1 : ∀ k, k < 12 → fcmp .gtr .f64 (gapR (fcv .f32 .f64 (List.getD (againF P G (residueF P G X).1).1 k 0)) (fcv .f32 .f64 (List.getD X k 0))) 4576918229304087675 = false
  g2 : ∀ k, k < 12 → fcmp .neq .f32 (List.getD (driveF P G X).1 k 0) (List.getD (againF P G (scaleSF X 1056964608).1).1 k 0) = false
  g3 : ∀ k, k < 12 → fcmp .gtr .f64 (gapR (fop .add .f64 (fcv .f32 .f64 (List.getD (residueF P G X).1 k 0)) (fcv .f32 .f64 (predictAtF P G X k).1)) (fcv .f32 .f64 (List.getD X k 0))) 4562254508917369340 = false
  q : (dampF P G 0).2.2 = true
  hv : ∀ k, k < List.length (dampF P G 0).1 → PtOk (phA turn k)
  h0 : fconvOk .f64 .f32 (respQ (dampF P G 0).2.1 (respS (dampF P G 0).1 turn (dampF P G 0).1.length)).1
  h1 : fconvOk .f64 .f32 (respQ (dampF P G 0).2.1 (respS (dampF P G 0).1 turn (dampF P G 0).1.length)).2
  f : (respF (dampF P G 0).1 (dampF P G 0).2.1 turn).2.2 = true
  k : (dampF P G 1065353216).2.2 = true
  ac : fconvOk .f64 .f32 (sqrtW (poW (fop .sub .f32 (respF (dampF P G 0).1 (dampF P G 0).2.1 turn).1 1056964608) (fop .sub .f32 (respF (dampF P G 0).1 (dampF P G 0).2.1 turn).2.1 0)))
  a : fcmp .lss .f64 (fcv .f32 .f64 (fcv .f64 .f32 (sqrtW (poW (fop .sub .f32 (respF (dampF P G 0).1 (dampF P G 0).2.1 turn).1 1056964608) (fop .sub .f32 (respF (dampF P G 0).1 (dampF P G 0).2.1 turn).2.1 0))))) 4562254508917369340 = true
  w1 : ∀ y ∈ (dampF P G 1065353216).1, w32 y
  w2 : w32 (dampF P G 1065353216).2.1
  w3 : ∀ y ∈ P, w32 y
  w4 : w32 G
  e1 : sameW (dampF P G 1065353216).1 P = true
  e2 : sameN (dampF P G 1065353216).2.1 G = true
  ql : List.length (dampF P G 0).1 ≤ 16
  kl : List.length (dampF P G 1065353216).1 ≤ 16
  hl : List.length (scaleSF X 1056964608).1 ≤ 16
  sx : isSnd X = true
  sr : isSnd (residueF P G X).1 = true
  sh : isSnd (scaleSF X 1056964608).1 = true
  vf : allFin P = true
  vg : fin32 G = true
  vg0 : fcmp .geq .f32 G 0 = true
  qf : allFin (dampF P G 0).1 = true
  qg : fin32 (dampF P G 0).2.1 = true
  qg0 : fcmp .geq .f32 (dampF P G 0).2.1 0 = true
  ql1 : 1 ≤ List.length (dampF P G 0).1
  ht : fin32 turn = true
  q2 : fin32 (respS (dampF P G 0).1 turn (dampF P G 0).1.length).1 = true
  q3 : fin32 (respS (dampF P G 0).1 turn (dampF P G 0).1.length).2 = true
  q4 : fin32 (fcv .f64 .f32 (respQ (dampF P G 0).2.1 (respS (dampF P G 0).1 turn (dampF P G 0).1.length)).1) = true
  q5 : fin32 (fcv .f64 .f32 (respQ (dampF P G 0).2.1 (respS (dampF P G 0).1 turn (dampF P G 0).1.length)).2) = true

structure PdZ (Y L : List Nat) (lok : Bool) : Prop where
  z1 : ∀ k, fconvOk .f64 .f32 (List.getD (solveF L).2.1 k 0)
  z2 : fconvOk .f64 .f32 (sqrtW (solveF L).2.2.1)
  z : (predOfF L).2.2 = true
  gc : fconvOk .f64 .f32 (en64 (residueF (predOfF L).1 (predOfF L).2.1 Y).1 (List.length (residueF (predOfF L).1 (predOfF L).2.1 Y).1))
  gn : (gainF (predOfF L).1 (predOfF L).2.1 Y).2 = true
  gl : fcmp .lss .f64 (fcv .f32 .f64 (gainF (predOfF L).1 (predOfF L).2.1 Y).1) 4606732058837280358 = false
  gs : fcmp .gtr .f64 (fop .mul .f64 (fcv .f32 .f64 (predOfF L).2.1) (fcv .f32 .f64 (predOfF L).2.1)) (fop .mul .f64 (fcv .f32 .f64 (energySF Y).1) 4607186922399644778) = false
  l : lok = true
  lc : ∀ k, fconvOk .f64 .f32 (lag64 Y k (Y.length - k))
  ec : fconvOk .f64 .f32 (en64 Y (List.length Y))
  e : (energySF Y).2 = true
  ne : fcmp .neq .f32 (List.getD L 0 0) (energySF Y).1 = false
  ll : 1 ≤ L.length ∧ L.length ≤ 17
  zl : (predOfF L).1.length ≤ 16
  zl1 : 1 ≤ (predOfF L).1.length
  sy : isSnd Y = true
  so : SolOk L
  zf : allFin (predOfF L).1 = true
  zg : fin32 (predOfF L).2.1 = true
  zg0 : fcmp .geq .f32 (predOfF L).2.1 0 = true

theorem gap_zero {x y c : Nat} (hx : isFl .f64 x) (hy : isFl .f64 y) (h : fv .f64 x = fv .f64 y) (hc : isFl .f64 c) (h0 : 0 ≤ fv .f64 c) : fcmp .gtr .f64 (gapR x y) c = false := by
  have r1 := sub_Rd hx hy
  have r2 := sub_Rd hy hx
  rw [show fv .f64 x - fv .f64 y = 0 by grind] at r1
  rw [show fv .f64 y - fv .f64 x = 0 by grind] at r2
  obtain ⟨a1, a2⟩ := ex64 r1 (gr_zero _) (by grind) (by grind)
  obtain ⟨b1, b2⟩ := ex64 r2 (gr_zero _) (by grind) (by grind)
  have key : ∀ u v : Nat, isFl .f64 u → isFl .f64 v → fv .f64 u = 0 → fv .f64 v = 0 → isFl .f64 (fminmax true .f64 u v) ∧ fv .f64 (fminmax true .f64 u v) = 0 := fun u v fu fv_ e1 e2 => by
    unfold fminmax
    rcases order_val fu fv_ with ⟨e, g⟩ | ⟨e, g⟩ | ⟨e, g⟩ <;> rw [e] <;> simp only [cond_true]
    · exact ⟨fv_, e2⟩
    · split
      · exact ⟨fv_, e2⟩
      · exact ⟨fu, e1⟩
    · exact ⟨fu, e1⟩
  obtain ⟨c1, c2⟩ := key _ _ a1 b1 a2 b2
  unfold gapR
  rw [Bool.eq_false_iff, ne_eq, gtr_iff c1 hc, c2]; grind

theorem half_list (xs : List Nat) (b : Nat) : ev_changedS_L1_S xs xs.length b xs.length = (List.range xs.length).map fun k => fop .mul .f32 (List.getD xs k 0) b :=
  set_all _ _ (ev_changedS_L1_S xs xs.length b) (by simp [ev_changedS_L1_S]) (fun _ => rfl)

theorem made_ok {st : List Nat} {f : Nat → Nat} (h : ∀ k, k < 12 → isFl .f32 ((makL st f 12).getD k 0)) : makF (makL st f 12) = (makL st f 12, true) := by
  unfold makF
  rw [if_pos (allFin_at fun k hk => h k (by rw [makL_len] at hk; exact hk))]

section
variable {ws vs : List Int} {n t : Nat} (hw : inB 4 ws) (hwl : ws.length = n) (h1 : 1 ≤ n) (h4 : n ≤ 4) (hv : inB 8 vs) (hl : vs.length = 12) (ht : t ≤ 32)
include hw hwl h1 h4 hv hl ht

theorem pd_main : ∃ st, stepUpF (ws.map eW) 1056964608 = (st, 1056964608, true) ∧ st.length = n ∧ PdOk (vs.map tW) st 1056964608 n (fop .quo .f32 (cvI (t : Int)) 1115684864) := by
  have hg : fin32 1056964608 = true := by decide +kernel
  have hg0 : fcmp .geq .f32 1056964608 0 = true := by decide +kernel
  obtain ⟨st, hS, P, hw32⟩ := stepup_ok hw hwl (show n ≤ 6 by omega) (g := 1056964608)
  refine ⟨st, hS, P.l, ?_⟩
  have L : (vs.map tW).length = 12 := by rw [List.length_map, hl]
  have sl := P.l
  have hst : ∀ k, k < st.length → isFl .f32 (st.getD k 0) := fun k hk => (P.h k hk).1
  have hlt : ∀ k, k < st.length → st.getD k 0 < 4294967296 := fun k hk => by
    have e : st.getD k 0 = st[k] := by simp [hk]
    rw [e]; exact (hw32 _ (List.getElem_mem hk)).1
  have hf : allFin st = true := allFin_at hst
  have hsnd := snd_tW hv (show vs.length ≤ 256 by omega)
  have s1 : 1 ≤ st.length := by omega
  have s16 : st.length ≤ 16 := by omega
  have s4 : st.length ≤ 4 := by omega
  have rs := fun k => rs_exact P h4 hv k
  have R := residue_ok (g := 1056964608) hsnd (fun k _ => (rs k).1)
  rw [L] at R
  generalize hA : (List.range 12).map (fun k => fop .sub .f32 (List.getD (vs.map tW) k 0) (predAt st (vs.map tW) k)) = A at *
  have lA : A.length = 12 := by rw [← hA]; simp
  have gA : ∀ k, k < 12 → isFl .f32 (A.getD k 0) ∧ fv .f32 (A.getD k 0) = resR (xv vs) (aR (rqv ws) n) n k ∧ A.getD k 0 < 4294967296 := fun k hk => by
    rw [← hA, rangeD hk]; exact ⟨(rs k).1, (rs k).2.1, fop_lt _ _ _⟩
  have sndA : isSnd A = true := by
    simp only [isSnd, Bool.and_eq_true, decide_eq_true_eq]
    exact ⟨by omega, allFin_at fun k hk => (gA k (by omega)).1⟩
  -- made again
  have fA : ∀ k, k < 12 → isFl .f32 (fop .mul .f32 1065353216 (List.getD A k 0)) ∧ fv .f32 (fop .mul .f32 1065353216 (List.getD A k 0)) = resR (xv vs) (aR (rqv ws) n) n k := fun k hk => by
    obtain ⟨a, b, c⟩ := gA k hk
    rw [mul_one32 c (fin32_isF.2 a)]; exact ⟨a, b⟩
  have mk := mk_exact P h4 hv fA 12 (Nat.le_refl _)
  have mB := made_ok (st := st) (f := fun k => fop .mul .f32 1065353216 (List.getD A k 0)) fun k hk => (mk k hk).1
  have Bk : againF st 1056964608 A = (makL st (fun k => fop .mul .f32 1065353216 (List.getD A k 0)) 12, true) := by
    unfold againF
    rw [lA, mB]
  -- driven
  have half : ∀ k, k < 12 → fop .mul .f32 1056964608 (List.getD (vs.map tW) k 0) = fop .mul .f32 (List.getD (vs.map tW) k 0) 1056964608 ∧ isFl .f32 (fop .mul .f32 (List.getD (vs.map tW) k 0) 1056964608) ∧ fv .f32 (fop .mul .f32 (List.getD (vs.map tW) k 0) 1056964608) ≤ 2 ∧ -2 ≤ fv .f32 (fop .mul .f32 (List.getD (vs.map tW) k 0) 1056964608) := fun k _ => by
    have r := inB_at hv (by omega) k
    obtain ⟨_, _, q3, q4, q5⟩ := quarter r.1 r.2
    obtain ⟨c, d⟩ := int_bd r
    have e8 : ((8 : Int) : Rat) = 8 := rfl
    rw [e8] at c d
    rw [tW_get]
    exact ⟨q3, q4, by rw [q5]; grind, by rw [q5]; grind⟩
  have Hs : scaleSF (vs.map tW) 1056964608 = ((List.range 12).map (fun k => fop .mul .f32 (List.getD (vs.map tW) k 0) 1056964608), true) := by
    unfold scaleSF changedS
    rw [if_pos hg, if_pos hsnd, half_list, L, if_pos (allFin_range fun k hk => (half k hk).2.1)]
  generalize hH : (List.range 12).map (fun k => fop .mul .f32 (List.getD (vs.map tW) k 0) 1056964608) = H at *
  have lH : H.length = 12 := by rw [← hH]; simp
  have gH : ∀ k, k < 12 → H.getD k 0 = fop .mul .f32 (List.getD (vs.map tW) k 0) 1056964608 := fun k hk => by rw [← hH, rangeD hk]
  have sndH : isSnd H = true := by
    simp only [isSnd, Bool.and_eq_true, decide_eq_true_eq]
    exact ⟨by omega, allFin_at fun k hk => by rw [gH k (by omega)]; exact (half k (by omega)).2.1⟩
  have two : ∀ k, k < st.length → isFl .f32 (st.getD k 0) ∧ fv .f32 (st.getD k 0) ≤ 2 ∧ -2 ≤ fv .f32 (st.getD k 0) := fun k hk => by
    obtain ⟨p1, p2, _, p4, p5⟩ := P.h k hk
    have c := cB_le4 n (by omega)
    exact ⟨p1, by rw [p2]; grind, by rw [p2]; grind⟩
  have fD : ∀ k, k < 12 → isFl .f32 (fop .mul .f32 1056964608 (List.getD (vs.map tW) k 0)) ∧ fv .f32 (fop .mul .f32 1056964608 (List.getD (vs.map tW) k 0)) ≤ 2 ∧ -2 ≤ fv .f32 (fop .mul .f32 1056964608 (List.getD (vs.map tW) k 0)) := fun k hk => by
    obtain ⟨a, b, c, d⟩ := half k hk
    rw [a]; exact ⟨b, c, d⟩
  have mD := made_lim s4 two fD 12 (Nat.le_refl _)
  have mDF := made_ok (st := st) (f := fun k => fop .mul .f32 1056964608 (List.getD (vs.map tW) k 0)) fun k hk => (mD k hk).1
  have Dk : driveF st 1056964608 (vs.map tW) = (makL st (fun k => fop .mul .f32 1056964608 (List.getD (vs.map tW) k 0)) 12, true) := by
    unfold driveF
    rw [L, mDF]
  have eqm : makL st (fun k => fop .mul .f32 1065353216 (List.getD H k 0)) 12 = makL st (fun k => fop .mul .f32 1056964608 (List.getD (vs.map tW) k 0)) 12 := makL_congr fun k hk => by
    obtain ⟨a, b, _⟩ := half k hk
    rw [gH k hk, mul_one32 (fop_lt _ _ _) (fin32_isF.2 b), a]
  have Sk : againF st 1056964608 H = (makL st (fun k => fop .mul .f32 1056964608 (List.getD (vs.map tW) k 0)) 12, true) := by
    unfold againF
    rw [lH, eqm, mDF]
  have Pk : ∀ k, k < 12 → predictAtF st 1056964608 (vs.map tW) k = (predAt st (vs.map tW) k, true) ∧ isFl .f32 (predAt st (vs.map tW) k) ∧ fv .f32 (predAt st (vs.map tW) k) = xv vs k - resR (xv vs) (aR (rqv ws) n) n k := fun k hk => by
    obtain ⟨p1, p2, _⟩ := pa_exact P h4 hv (vs.map tW) k (fun j _ => ⟨(xv_at hv j).1, (xv_at hv j).2.1⟩)
    refine ⟨?_, p1, p2⟩
    have f := fin32_isF.2 p1
    unfold predictAtF
    generalize predAt st (vs.map tW) k = w at *
    simp only [f, if_true]
  -- damped
  obtain ⟨K, zs, Z, zl, zz⟩ := damp_ok (g := 1056964608) (fun k hk => ⟨hst k hk, hlt k hk⟩)
  have tab : ∀ k, k < 4 → ptOkB (phA (fop .quo .f32 (cvI (t : Int)) 1115684864) k) = true ∧ fin32 (fop .quo .f32 (cvI (t : Int)) 1115684864) = true := fun k hk => by
    have := all_r (all_r ph_tab (k := t) (by omega)) (k := k) hk
    simp only [Bool.and_eq_true] at this
    exact this
  have hph : ∀ k, k < zs.length → PtOk (phA (fop .quo .f32 (cvI (t : Int)) 1115684864) k) := fun k hk => ptOk_of (tab k (by omega)).1
  have resp := resp_zero (turn := fop .quo .f32 (cvI (t : Int)) 1115684864) (fun k hk => zz k (by omega)) hph zs.length (Nat.le_refl _)
  have ht0 := (tab 0 (by omega)).2
  generalize fop .quo .f32 (cvI (t : Int)) 1115684864 = turn at *
  have zfin : allFin zs = true := allFin_at fun k hk => by
    rcases zz k (by omega) with h | h
    · rw [h]; exact finB_fl (by decide +kernel)
    · rw [h]; exact finB_fl (by decide +kernel)
  have rq := resp_of zs turn (ev_Resp_L1_S zs zs.length 1056964608 turn) rfl (fun _ => rfl) zs.length
  rw [resp] at rq
  have F : respF zs 1056964608 turn = ((fcv .f64 .f32 (respQ 1056964608 (1065353216, 0)).1), (fcv .f64 .f32 (respQ 1056964608 (1065353216, 0)).2), true) := by
    unfold respF
    generalize hq : ev_Resp_L1_S zs zs.length 1056964608 turn zs.length = q
    rw [hq] at rq
    generalize ((1065353216, 0) : Nat × Nat) = p at *
    subst rq
    rfl
  have w32G : w32 1056964608 := ⟨by decide, by decide⟩
  have c2 : isFl .f64 4576918229304087675 ∧ 0 ≤ fv .f64 4576918229304087675 := ⟨finB_fl (by decide +kernel), by decide +kernel⟩
  have c3 : isFl .f64 4562254508917369340 ∧ 0 ≤ fv .f64 4562254508917369340 := ⟨finB_fl (by decide +kernel), by decide +kernel⟩
  exact {
    r := by rw [R], rl := by rw [R]; show ((A.length : Nat) : Int) = 12; rw [lA]; rfl
    b := by rw [R]; show (againF st 1056964608 A).2 = true; rw [Bk]
    bl := by rw [R]; show (((againF st 1056964608 A).1.length : Nat) : Int) = 12; rw [Bk]; show (((makL _ _ 12).length : Nat) : Int) = 12; rw [makL_len]; rfl
    d := by rw [Dk], dl := by rw [Dk]; show (((makL _ _ 12).length : Nat) : Int) = 12; rw [makL_len]; rfl
    h := by rw [Hs]
    s := by rw [Hs]; show (againF st 1056964608 H).2 = true; rw [Sk]
    sl := by rw [Hs]; show (((againF st 1056964608 H).1.length : Nat) : Int) = 12; rw [Sk]; show (((makL _ _ 12).length : Nat) : Int) = 12; rw [makL_len]; rfl
    t := fun k hk => by rw [(Pk k hk).1]
    g1 := fun k hk => by
      rw [R]
      show fcmp .gtr .f64 (gapR (fcv .f32 .f64 (List.getD (againF st 1056964608 A).1 k 0)) _) _ = false
      rw [Bk]
      obtain ⟨a, b⟩ := mk k hk
      obtain ⟨x1, x2, _⟩ := xv_at hv k
      obtain ⟨u1, u2⟩ := fcv_up a
      obtain ⟨v1, v2⟩ := fcv_up x1
      exact gap_zero u1 v1 (by rw [u2, v2, b, x2]) c2.1 c2.2
    g2 := fun k hk => by
      rw [Hs]
      show fcmp .neq .f32 _ (List.getD (againF st 1056964608 H).1 k 0) = false
      rw [Dk, Sk]
      exact neq_self (isF_notN (mD k hk).1)
    g3 := fun k hk => by
      obtain ⟨p0, p1, p2⟩ := Pk k hk
      obtain ⟨a1, a2, _⟩ := gA k hk
      rw [R, p0]
      obtain ⟨x1, x2, x3, x4, x5⟩ := xv_at hv k
      obtain ⟨u1, u2⟩ := fcv_up a1
      obtain ⟨v1, v2⟩ := fcv_up p1
      obtain ⟨y1, y2⟩ := fcv_up x1
      have ad := add_Rd u1 v1
      rw [u2, v2, a2, p2, show resR (xv vs) (aR (rqv ws) n) n k + (xv vs k - resR (xv vs) (aR (rqv ws) n) n k) = xv vs k by grind] at ad
      obtain ⟨f1, f2⟩ := ex64 ad (x3.up (by omega)) (by grind) (by grind)
      exact gap_zero f1 y1 (by rw [f2, y2, x2]) c3.1 c3.2
    q := by rw [Z]
    hv := by rw [Z]; exact hph
    h0 := by
      rw [Z]
      show fconvOk .f64 .f32 (respQ 1056964608 (respS zs turn zs.length)).1
      rw [resp]; exact fconvOk_of (by decide +kernel)
    h1 := by
      rw [Z]
      show fconvOk .f64 .f32 (respQ 1056964608 (respS zs turn zs.length)).2
      rw [resp]; exact fconvOk_of (by decide +kernel)
    f := by rw [Z]; show (respF zs 1056964608 turn).2.2 = true; rw [F]
    k := by rw [K]
    ac := by
      rw [Z]
      show fconvOk .f64 .f32 (sqrtW (poW (fop .sub .f32 (respF zs 1056964608 turn).1 1056964608) (fop .sub .f32 (respF zs 1056964608 turn).2.1 0)))
      rw [F]; exact fconvOk_of (by decide +kernel)
    a := by
      rw [Z]
      show fcmp .lss .f64 (fcv .f32 .f64 (fcv .f64 .f32 (sqrtW (poW (fop .sub .f32 (respF zs 1056964608 turn).1 1056964608) (fop .sub .f32 (respF zs 1056964608 turn).2.1 0))))) _ = true
      rw [F]; decide +kernel
    w1 := by rw [K]; exact hw32
    w2 := by rw [K]; exact w32G
    w3 := hw32
    w4 := w32G
    e1 := by rw [K]; exact sameW_self _
    e2 := by rw [K]; show sameN 1056964608 1056964608 = true; unfold sameN; decide
    ql := by rw [Z]; show zs.length ≤ 16; omega
    kl := by rw [K]; exact s16
    hl := by rw [Hs]; show H.length ≤ 16; omega
    sx := hsnd, sr := by rw [R]; exact sndA, sh := by rw [Hs]; exact sndH, vf := hf, vg := hg, vg0 := hg0
    qf := by rw [Z]; exact zfin, qg := by rw [Z]; exact hg, qg0 := by rw [Z]; exact hg0, ql1 := by rw [Z]; show 1 ≤ zs.length; omega, ht := ht0
    q2 := by rw [Z]; show fin32 (respS zs turn zs.length).1 = true; rw [resp]; decide +kernel
    q3 := by rw [Z]; show fin32 (respS zs turn zs.length).2 = true; rw [resp]; decide +kernel
    q4 := by rw [Z]; show fin32 (fcv .f64 .f32 (respQ 1056964608 (respS zs turn zs.length)).1) = true; rw [resp]; decide +kernel
    q5 := by rw [Z]; show fin32 (fcv .f64 .f32 (respQ 1056964608 (respS zs turn zs.length)).2) = true; rw [resp]; decide +kernel }
end

theorem pd_z {vs : List Int} {n : Nat} (h1 : 1 ≤ n) (h4 : n ≤ 4) (hv : inB 8 vs) (hl : vs.length = 12) (h0 : xv vs 0 = 2) : PdZ (vs.map tW) (lagsF (vs.map tW) (n : Int)).1 (lagsF (vs.map tW) (n : Int)).2 := by
  rw [lags_ok hv hl (show n ≤ 6 by omega)]
  show PdZ (vs.map tW) ((List.range (n + 1)).map (fun k => fcv .f64 .f32 (lag64 (vs.map tW) k (12 - k)))) true
  generalize hL : (List.range (n + 1)).map (fun k => fcv .f64 .f32 (lag64 (vs.map tW) k (12 - k))) = L
  have lL : L.length = n + 1 := by rw [← hL]; simp
  have gL : ∀ j, j ≤ n → isFl .f32 (L.getD j 0) ∧ fv .f32 (L.getD j 0) = lagR (xv vs) j := fun j hj => by
    rw [← hL, rangeD (by omega)]
    obtain ⟨a, b, _⟩ := lag_word hv j (by omega)
    exact ⟨a, b⟩
  have hR : ∀ j, lagR (xv vs) j ≤ 64 ∧ -64 ≤ lagR (xv vs) j := fun j => by
    have := lag_bd hv j
    exact ⟨by grind, by grind⟩
  obtain ⟨so, z1, z2, _, a, bs, g, hp, B⟩ := pred_of (xv_out hl) lL h1 (by omega) gL hR (by rw [h0]; grind)
  obtain ⟨q1, q2, q3⟩ := gain_ok hv hl h1 h4 B h0
  have E := energy_ok hv hl
  have e0 : L.getD 0 0 = fcv .f64 .f32 (lag64 (vs.map tW) 0 12) := by rw [← hL, rangeD (by omega)]
  have g0 := gL 0 (by omega)
  rw [e0] at g0
  generalize fcv .f64 .f32 (lag64 (vs.map tW) 0 12) = ew at E e0 g0
  exact {
    z1 := z1, z2 := z2, z := by rw [hp], gc := by rw [hp]; exact q1, gn := by rw [hp]; exact q2, gl := by rw [hp]; exact q3
    gs := by rw [hp, E]; exact gain_sq hv B g0.1 g0.2
    l := rfl, lc := lag_conv hv hl, ec := en_conv hv hl, e := by rw [E]
    ne := by rw [E, e0]; exact neq_self (isF_notN g0.1)
    ll := by constructor <;> omega
    zl := by rw [hp]; show bs.length ≤ 16; rw [B.l]; omega
    zl1 := by rw [hp]; show 1 ≤ bs.length; rw [B.l]; exact h1
    sy := snd_tW hv (by omega), so := so
    zf := by rw [hp]; exact allFin_at fun k hk => (B.h k (by rw [B.l] at hk; exact hk)).1
    zg := by rw [hp]; exact fin32_isF.2 B.gf
    zg0 := by rw [hp]; show fcmp .geq .f32 g 0 = true; rw [geq_iff B.gf (zero_fl .f32).1, (zero_fl .f32).2]; exact B.g0 }

theorem set_two (vs : List Int) : List.set (vs.map tW) 0 1073741824 = (vs.set 0 8).map tW := by
  have : tW 8 = 1073741824 := by decide +kernel
  rw [List.map_set, this]

abbrev pdL (c m : List Int) : List Nat := r8LadF c ((1 : Int) + (atR m (40 : Int) (4 : Int)))
abbrev pdP (c m : List Int) : List Nat × Nat × Bool := stepUpF (pdL c m) 1056964608
abbrev pdX (m : List Int) : List Nat := r8SoundF m (12 : Int)
abbrev pdY (m : List Int) : List Nat := List.set (pdX m) 0 1073741824
abbrev pdG (m : List Int) : List Nat × Bool := lagsF (pdY m) ((1 : Int) + (atR m (40 : Int) (4 : Int)))
abbrev pdT (m : List Int) : Nat := fop .quo .f32 (canon .f32 (FloatKind.nearest .f32 (atR m (41 : Int) (33 : Int)))) 1115684864

structure PdLaw (c m : List Int) : Prop where
  p : (pdP c m).2.2 = true
  us : allStp (pdL c m) = true
  pl : 1 ≤ List.length (pdP c m).1 ∧ List.length (pdP c m).1 ≤ 4
  xl : ((List.length (pdX m) : Nat) : Int) = 12
  ll : ((List.length (pdL c m) : Nat) : Int) = (1 : Int) + (atR m (40 : Int) (4 : Int))
  mm : PdOk (pdX m) (pdP c m).1 (pdP c m).2.1 ((1 : Int) + (atR m (40 : Int) (4 : Int))).toNat (pdT m)
  z : PdZ (pdY m) (pdG m).1 (pdG m).2

theorem pd_law {c m : List Int} (hb : bytesOk c) (hm : bytesOk m) : PdLaw c m := by
  have r0 := atR_range hm (i := 40) (n := 4) (by omega)
  have r1 := atR_range hm (i := 41) (n := 33) (by omega)
  obtain ⟨ws, wl, we, wb⟩ := r8_ladder hb ((1 : Int) + (atR m (40 : Int) (4 : Int)))
  obtain ⟨vs, vl, ve, vb⟩ := r8_sound hm (12 : Int)
  obtain ⟨n, hn⟩ := Int.eq_ofNat_of_zero_le (show 0 ≤ (1 : Int) + (atR m (40 : Int) (4 : Int)) by omega)
  obtain ⟨t, ht⟩ := Int.eq_ofNat_of_zero_le r1.1
  have hl : vs.length = 12 := vl
  have hwl : ws.length = n := by rw [wl, hn]; rfl
  obtain ⟨st, hS, sl, M⟩ := pd_main wb hwl (by omega) (by omega) vb hl (show t ≤ 32 by omega)
  have v2 : inB 8 (vs.set 0 8) := fun v hv => by
    rcases List.mem_or_eq_of_mem_set hv with h | h
    · exact vb v h
    · subst h; omega
  have x2 : xv (vs.set 0 8) 0 = 2 := by
    have : (vs.set 0 8).getD 0 0 = 8 := by
      rw [List.getD_eq_getElem?_getD, List.getElem?_set_self (by omega)]; rfl
    unfold xv; rw [this]; decide +kernel
  have Z := pd_z (n := n) (by omega) (by omega) v2 (by rw [List.length_set]; exact hl) x2
  have e1 : pdX m = vs.map tW := ve
  have e2 : pdP c m = (st, 1056964608, true) := by show stepUpF (r8LadF c _) _ = _; rw [we]; exact hS
  have e3 : pdY m = (vs.set 0 8).map tW := by show List.set (r8SoundF m 12) 0 _ = _; rw [ve]; exact set_two vs
  have e4 : pdG m = lagsF ((vs.set 0 8).map tW) (n : Int) := by show lagsF (pdY m) _ = _; rw [e3, hn]
  have e5 : pdT m = fop .quo .f32 (cvI (t : Int)) 1115684864 := by show fop .quo .f32 (canon .f32 (FloatKind.nearest .f32 (atR m 41 33))) _ = _; rw [ht]; rfl
  exact ⟨by rw [e2], by show allStp (r8LadF c _) = true; rw [we]; exact ladder_stp wb, by rw [e2]; show 1 ≤ st.length ∧ st.length ≤ 4; omega, by rw [e1, List.length_map, hl]; rfl, by show ((List.length (r8LadF c _) : Nat) : Int) = _; rw [we, List.length_map, hwl, hn], by rw [e1, e2, e5, hn]; exact M, by rw [e3, e4]; exact Z⟩

abbrev pdR (c m : List Int) : List Nat × Bool := residueF (pdP c m).1 (pdP c m).2.1 (pdX m)
abbrev pdB (c m : List Int) : List Nat × Bool := againF (pdP c m).1 (pdP c m).2.1 (pdR c m).1
abbrev pdD (c m : List Int) : List Nat × Bool := driveF (pdP c m).1 (pdP c m).2.1 (pdX m)
abbrev pdH (m : List Int) : List Nat × Bool := scaleSF (pdX m) 1056964608
abbrev pdS (c m : List Int) : List Nat × Bool := againF (pdP c m).1 (pdP c m).2.1 (pdH m).1
abbrev pdQ (c m : List Int) : List Nat × Nat × Bool := dampF (pdP c m).1 (pdP c m).2.1 0
abbrev pdF (c m : List Int) : Nat × Nat × Bool := respF (pdQ c m).1 (pdQ c m).2.1 (pdT m)
abbrev pdK (c m : List Int) : List Nat × Nat × Bool := dampF (pdP c m).1 (pdP c m).2.1 1065353216

end Go.Sim
