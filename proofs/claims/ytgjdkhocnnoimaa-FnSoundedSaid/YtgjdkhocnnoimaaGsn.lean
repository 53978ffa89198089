/- What the law FnSounded says of sounds that are drawn. Conditions: none. -/

import Derived.Test.YtgjdkhocnnoimaaProg
import Derived.KernelRfl
import Derived.Test.YtgjdkhocnnoimaaGsd
import Derived.Test.YtgjdkhocnnoimaaPvM
import Derived.Test.YtgjdkhocnnoimaaPvI

set_option linter.unusedSimpArgs false

set_option linter.unusedVariables false

namespace Go.Sim

open Go Go.Proofs

/-! ### Sounds of quarters -/

def tW (v : Int) : Nat := fop .quo .f32 (cvI v) 1082130432

def quarterB (v : Int) : Bool := finB .f32 (tW v) && decide (fv .f32 (tW v) = (v : Rat) * (1 / 4)) &&
  !(fcmp .neq .f32 (fop .mul .f32 (tW v) 1073741824) (fop .mul .f32 1073741824 (tW v))) && finB .f32 (fop .mul .f32 (tW v) 1073741824) && decide (fv .f32 (fop .mul .f32 (tW v) 1073741824) = (v : Rat) * (1 / 2))

theorem tabQr : ∀ n, n < 33 → quarterB (((n : Nat) : Int) - 16) = true := by decide +kernel

theorem quarter {v : Int} (h0 : -16 ≤ v) (h1 : v ≤ 16) : isFl .f32 (tW v) ∧ fv .f32 (tW v) = (v : Rat) * (1 / 4) ∧ fcmp .neq .f32 (fop .mul .f32 (tW v) 1073741824) (fop .mul .f32 1073741824 (tW v)) = false ∧
    isFl .f32 (fop .mul .f32 (tW v) 1073741824) ∧ fv .f32 (fop .mul .f32 (tW v) 1073741824) = (v : Rat) * (1 / 2) := by
  obtain ⟨n, rfl⟩ : ∃ n : Nat, v = ((n : Nat) : Int) - 16 := ⟨(v + 16).toNat, by omega⟩
  have := tabQr n (by omega)
  simp only [quarterB, Bool.and_eq_true, decide_eq_true_eq, Bool.not_eq_true'] at this
  exact ⟨finB_fl this.1.1.1.1, this.1.1.1.2, this.1.1.2, finB_fl this.1.2, this.2⟩

def small16 (vs : List Int) : Prop := ∀ v ∈ vs, -8 ≤ v ∧ v ≤ 8

theorem small16_at {vs : List Int} (h : small16 vs) (k : Nat) : -8 ≤ vs.getD k 0 ∧ vs.getD k 0 ≤ 8 := by
  rcases Nat.lt_or_ge k vs.length with hk | hk
  · have e : vs.getD k 0 = vs[k] := by simp [hk]
    rw [e]; exact h _ (List.getElem_mem hk)
  · have e : vs.getD k 0 = 0 := by simp [hk]
    rw [e]; decide

theorem getD_map {α β : Type} (f : α → β) (xs : List α) (a : α) (b : β) {k : Nat} (hk : k < xs.length) : (xs.map f).getD k b = f (xs.getD k a) := by
  simp [hk]

theorem r8_whole {c : List Int} (hb : bytesOk c) (m : Nat) (n : Int) : ∀ k, ∃ vs : List Int, vs.length = k ∧ (ev_R8Sound_L1_S c m n k).1 = vs.map tW ∧ small16 vs := by
  intro k
  induction k with
  | zero => exact ⟨[], rfl, rfl, fun v hv => by cases hv⟩
  | succ k ih =>
    obtain ⟨vs, hl, hw, hs⟩ := ih
    simp only [ev_R8Sound_L1_S]
    generalize ev_R8Sound_L1_S c m n k = s at hw ⊢
    have q := pickV_range hb s.2.1 s.2.2 (n := 17) (by omega)
    refine ⟨vs ++ [pickV c s.2.1 s.2.2 17 - 8], by simp [hl], ?_, fun v hv => ?_⟩
    · show s.1 ++ [_] = _
      rw [hw, List.map_append]; rfl
    · rcases List.mem_append.1 hv with h | h
      · exact hs v h
      · simp only [List.mem_singleton] at h; subst h; omega

theorem r8_sound {c : List Int} (hb : bytesOk c) {n : Int} : ∃ vs : List Int, vs.length = n.toNat ∧ r8SoundF c n = vs.map tW ∧ small16 vs := r8_whole hb _ n _

section
variable {vs : List Int} (hv : small16 vs)
include hv

theorem q_at {k : Nat} (hk : k < vs.length) : (vs.map tW).getD k 0 = tW (vs.getD k 0) ∧ isFl .f32 ((vs.map tW).getD k 0) ∧ fv .f32 ((vs.map tW).getD k 0) = (vs.getD k 0 : Rat) * (1 / 4) := by
  have e := getD_map tW vs 0 0 hk
  have r := small16_at hv k
  obtain ⟨a, b, _⟩ := quarter (v := vs.getD k 0) (by omega) (by omega)
  rw [e]; exact ⟨rfl, a, b⟩

theorem q_snd (hl : vs.length ≤ 256) : isSnd (vs.map tW) = true := by
  simp only [isSnd, Bool.and_eq_true, decide_eq_true_eq, List.length_map]
  refine ⟨hl, allBelow_true.2 fun k hk => ?_⟩
  exact fin32_isF.2 (q_at hv (by simpa using hk)).2.1
end

theorem q_w32 (vs : List Int) : ∀ y ∈ vs.map tW, w32 y := by
  intro y hy
  simp only [List.mem_map] at hy
  obtain ⟨v, _, rfl⟩ := hy
  exact w32_fop ..

theorem neq_fv {k : FloatKind} {x y : Nat} (hx : isFl k x) (hy : isFl k y) (e : fv k x = fv k y) : fcmp .neq k x y = false := by
  rcases order_val hx hy with ⟨h, g⟩ | ⟨h, g⟩ | ⟨h, g⟩
  · exfalso; grind
  · simp [fcmp, h]
  · exfalso; grind

/-! ### Scales -/

theorem scale_list (xs : List Nat) (b : Nat) : ev_changedS_L1_S xs xs.length b xs.length = (List.range xs.length).map fun k => fop .mul .f32 (List.getD xs k 0) b :=
  set_all _ _ (ev_changedS_L1_S xs xs.length b) (by simp [ev_changedS_L1_S]) (fun _ => rfl)

theorem range_getD {α : Type} (f : Nat → α) {n k : Nat} (d : α) (hk : k < n) : ((List.range n).map f).getD k d = f k := by
  simp [hk]

theorem q_scale {vs : List Int} (hv : small16 vs) (hl : vs.length ≤ 256) : scaleSF (vs.map tW) 1073741824 = ((List.range vs.length).map fun k => fop .mul .f32 (List.getD (vs.map tW) k 0) 1073741824, true) := by
  have f2 : fin32 1073741824 = true := by decide +kernel
  have hs := q_snd hv hl
  have e : changedS (vs.map tW) 1073741824 = ((List.range vs.length).map fun k => fop .mul .f32 (List.getD (vs.map tW) k 0) 1073741824, true) := by
    unfold changedS
    rw [scale_list, List.length_map, if_pos hs, if_pos]
    refine allBelow_true.2 fun k hk => ?_
    simp only [List.length_map, List.length_range] at hk
    show fin32 _ = true
    rw [range_getD _ 0 hk, (q_at hv hk).1]
    have r := small16_at hv k
    exact fin32_isF.2 (quarter (v := vs.getD k 0) (by omega) (by omega)).2.2.2.1
  unfold scaleSF
  rw [f2, e]; rfl

theorem q_double {vs : List Int} (hv : small16 vs) (hl : vs.length ≤ 256) {k : Nat} (hk : k < vs.length) : fcmp .neq .f32 (List.getD (scaleSF (vs.map tW) 1073741824).1 k 0) (fop .mul .f32 1073741824 (List.getD (vs.map tW) k 0)) = false := by
  have r := small16_at hv k
  rw [q_scale hv hl, show ((List.range vs.length).map fun k => fop .mul .f32 (List.getD (vs.map tW) k 0) 1073741824, true).1 = (List.range vs.length).map fun k => fop .mul .f32 (List.getD (vs.map tW) k 0) 1073741824 from rfl, range_getD _ 0 hk, (q_at hv hk).1]
  exact (quarter (v := vs.getD k 0) (by omega) (by omega)).2.2.1

/-! ### Reaches -/

theorem fmax_ge {x y : Nat} (hx : isFl .f32 x) (hy : isFl .f32 y) : isFl .f32 (fminmax true .f32 x y) ∧ fv .f32 x ≤ fv .f32 (fminmax true .f32 x y) ∧ fv .f32 y ≤ fv .f32 (fminmax true .f32 x y) ∧ ∀ M, fv .f32 x ≤ M → fv .f32 y ≤ M → fv .f32 (fminmax true .f32 x y) ≤ M := by
  unfold fminmax
  rcases order_val hx hy with ⟨e, g⟩ | ⟨e, g⟩ | ⟨e, g⟩ <;> rw [e] <;> simp only [cond_true]
  · exact ⟨hy, by grind, by grind, fun M _ h => h⟩
  · split
    · exact ⟨hy, by grind, by grind, fun M _ h => h⟩
    · exact ⟨hx, by grind, by grind, fun M h _ => h⟩
  · exact ⟨hx, by grind, by grind, fun M h _ => h⟩

theorem absW_abs {x : Nat} (hx : w32 x) (h : isFl .f32 x) : isFl .f32 (absW x) ∧ fv .f32 x ≤ fv .f32 (absW x) ∧ -(fv .f32 x) ≤ fv .f32 (absW x) ∧ ∀ M, fv .f32 x ≤ M → -(fv .f32 x) ≤ M → fv .f32 (absW x) ≤ M := by
  obtain ⟨a, b, c⟩ := absW_fin hx h
  exact ⟨a, by grind, by grind, fun M _ _ => by grind⟩

theorem reach_all {xs : List Nat} (hx : ∀ y ∈ xs, w32 y) (hs : isSnd xs = true) : ∀ k, k ≤ xs.length → isFl .f32 (ev_Reach_L1_S xs xs.length k) ∧ (∀ j, j < k → fv .f32 (xs.getD j 0) ≤ fv .f32 (ev_Reach_L1_S xs xs.length k) ∧ -(fv .f32 (xs.getD j 0)) ≤ fv .f32 (ev_Reach_L1_S xs xs.length k)) ∧
    ∀ M, 0 ≤ M → (∀ j, j < k → fv .f32 (xs.getD j 0) ≤ M ∧ -(fv .f32 (xs.getD j 0)) ≤ M) → fv .f32 (ev_Reach_L1_S xs xs.length k) ≤ M := by
  intro k
  induction k with
  | zero =>
    intro _
    refine ⟨(zero_fl .f32).1, fun j hj => by omega, fun M h0 _ => ?_⟩
    show fv .f32 0 ≤ M
    rw [(zero_fl .f32).2]; exact h0
  | succ k ih =>
    intro hk
    obtain ⟨i1, i2, i3⟩ := ih (by omega)
    obtain ⟨a1, a2, a3, a4⟩ := absW_abs (w32_get hx k) (fin32_isF.1 (isSnd_get hs (k := k) (by omega)))
    obtain ⟨m1, m2, m3, m4⟩ := fmax_ge i1 a1
    show isFl .f32 (fminmax true .f32 (ev_Reach_L1_S xs xs.length k) (absW (List.getD xs k 0))) ∧ (∀ j, j < k + 1 → fv .f32 (xs.getD j 0) ≤ fv .f32 (fminmax true .f32 (ev_Reach_L1_S xs xs.length k) (absW (List.getD xs k 0))) ∧ -(fv .f32 (xs.getD j 0)) ≤ fv .f32 (fminmax true .f32 (ev_Reach_L1_S xs xs.length k) (absW (List.getD xs k 0)))) ∧
      ∀ M, 0 ≤ M → (∀ j, j < k + 1 → fv .f32 (xs.getD j 0) ≤ M ∧ -(fv .f32 (xs.getD j 0)) ≤ M) → fv .f32 (fminmax true .f32 (ev_Reach_L1_S xs xs.length k) (absW (List.getD xs k 0))) ≤ M
    refine ⟨m1, fun j hj => ?_, fun M h0 hM => m4 M (i3 M h0 fun j hj => hM j (by omega)) (a4 M (hM k (by omega)).1 (hM k (by omega)).2)⟩
    rcases (show j < k ∨ j = k by omega) with h | rfl
    · have := i2 j h; constructor <;> grind
    · constructor <;> grind

/-! ### Numbers that are made less -/

theorem shrink {a u : Nat} (ha : isFl .f32 a) (h0 : -4 ≤ fv .f32 a) (h1 : fv .f32 a ≤ 4) (hu : Iv .f32 u 0 1065353216) : isFl .f32 (fop .mul .f32 a u) ∧ (0 ≤ fv .f32 a → 0 ≤ fv .f32 (fop .mul .f32 a u) ∧ fv .f32 (fop .mul .f32 a u) ≤ fv .f32 a) ∧ (fv .f32 a ≤ 0 → fv .f32 a ≤ fv .f32 (fop .mul .f32 a u) ∧ fv .f32 (fop .mul .f32 a u) ≤ 0) := by
  have hr := mul_Rd ha hu.fx
  have u0 := hu.lo; have u1 := hu.hi
  rw [(zero_fl .f32).2] at u0
  have v1 : fv .f32 1065353216 = 1 := by decide +kernel
  rw [v1] at u1
  have v4 : fv .f32 1082130432 = 4 := by decide +kernel
  have f4 : isFl .f32 1082130432 := finB_fl (by decide +kernel)
  have zf := (zero_fl .f32).1
  have zv := (zero_fl .f32).2
  generalize fv .f32 u = U at *
  rcases (Rat.le_total (a := 0) (b := fv .f32 a)) with h | h
  · have p0 : 0 ≤ fv .f32 a * U := Rat.mul_nonneg h u0
    have p1 : fv .f32 a * U ≤ fv .f32 a * 1 := Rat.mul_le_mul_of_nonneg_left u1 h
    have hz := hr.fin f4 (by grind) (by grind)
    have hi := hr.hi hz ha (by grind)
    have lo := hr.lo hz zf (by grind)
    rw [zv] at lo
    exact ⟨hz, fun _ => ⟨lo, hi⟩, fun _ => ⟨by grind, by grind⟩⟩
  · have p0 : 0 ≤ (-(fv .f32 a)) * U := Rat.mul_nonneg (by grind) u0
    have p1 : (-(fv .f32 a)) * U ≤ (-(fv .f32 a)) * 1 := Rat.mul_le_mul_of_nonneg_left u1 (by grind)
    have hz := hr.fin f4 (by grind) (by grind)
    have hi := hr.hi hz zf (by grind)
    have lo := hr.lo hz ha (by grind)
    rw [zv] at hi
    exact ⟨hz, fun _ => ⟨by grind, by grind⟩, fun _ => ⟨lo, hi⟩⟩

theorem tabU : ∀ o : Nat, o < 5 → ∀ j : Nat, j < 5 → (!decide (j < o) || ivB .f32 (fop .quo .f32 (cvI ((j : Int) + 1)) (cvI ((o : Int) + 1))) 0 1065353216) = true := by decide +kernel

theorem share_iv {o j : Int} (ho : o ≤ 4) (hj : 0 ≤ j) (h : j < o) : Iv .f32 (fop .quo .f32 (canon .f32 (FloatKind.nearest .f32 (j + (1 : Int)))) (canon .f32 (FloatKind.nearest .f32 (o + (1 : Int))))) 0 1065353216 := by
  obtain ⟨n, rfl⟩ := Int.eq_ofNat_of_zero_le hj
  obtain ⟨m, rfl⟩ := Int.eq_ofNat_of_zero_le (show 0 ≤ o by omega)
  have t := tabU m (by omega) n (by omega)
  have : decide (n < m) = true := decide_eq_true (by omega)
  rw [this] at t
  have t2 : ivB .f32 (fop .quo .f32 (cvI ((n : Int) + 1)) (cvI ((m : Int) + 1))) 0 1065353216 = true := by simpa using t
  exact Iv.of t2

/-- Not farther from nothing than 'a'. -/
def within (z a : Rat) : Prop := ∀ M : Rat, 0 ≤ M → a ≤ M → -a ≤ M → z ≤ M ∧ -z ≤ M

theorem fade_in {i : Nat} {x : Nat} {o n : Int} (hx : isFl .f32 x) (h0 : -4 ≤ fv .f32 x) (h1 : fv .f32 x ≤ 4) (ho : o ≤ 4) (hi : (i : Int) < n) : isFl .f32 (fadeX i x o n o) ∧ within (fv .f32 (fadeX i x o n o)) (fv .f32 x) := by
  unfold fadeX
  split
  · rename_i g1
    have s := shrink hx h0 h1 (share_iv (o := o) (j := (i : Int)) ho (by omega) g1)
    generalize fop .mul .f32 x (fop .quo .f32 (canon .f32 (FloatKind.nearest .f32 (((i : Nat) : Int) + (1 : Int)))) (canon .f32 (FloatKind.nearest .f32 (o + (1 : Int))))) = y at *
    obtain ⟨yf, y1, y2⟩ := s
    have by0 : -4 ≤ fv .f32 y ∧ fv .f32 y ≤ 4 := by
      rcases (Rat.le_total (a := 0) (b := fv .f32 x)) with h | h
      · have := y1 h; constructor <;> grind
      · have := y2 h; constructor <;> grind
    split
    · rename_i g2
      obtain ⟨zf, z1, z2⟩ := shrink yf by0.1 by0.2 (share_iv (o := o) (j := (n - 1) - (i : Int)) ho (by omega) g2)
      refine ⟨zf, fun M hM a b => ?_⟩
      rcases (Rat.le_total (a := 0) (b := fv .f32 x)) with h | h
      · have c := y1 h; have d := z1 c.1; constructor <;> grind
      · have c := y2 h; have d := z2 c.2; constructor <;> grind
    · refine ⟨yf, fun M hM a b => ?_⟩
      rcases (Rat.le_total (a := 0) (b := fv .f32 x)) with h | h
      · have c := y1 h; constructor <;> grind
      · have c := y2 h; constructor <;> grind
  · split
    · rename_i g2
      obtain ⟨zf, z1, z2⟩ := shrink hx h0 h1 (share_iv (o := o) (j := (n - 1) - (i : Int)) ho (by omega) g2)
      refine ⟨zf, fun M hM a b => ?_⟩
      rcases (Rat.le_total (a := 0) (b := fv .f32 x)) with h | h
      · have d := z1 h; constructor <;> grind
      · have d := z2 h; constructor <;> grind
    · exact ⟨hx, fun M _ a b => ⟨a, b⟩⟩

theorem fadeX_w32 {i x : Nat} {o n : Int} (h : w32 x) : w32 (fadeX i x o n o) := by
  unfold fadeX
  (repeat' split) <;> first | exact w32_fop .. | exact h

section
variable {vs : List Int} (hv : small16 vs)
include hv

theorem q_bound {k : Nat} (hk : k < vs.length) : -2 ≤ fv .f32 ((vs.map tW).getD k 0) ∧ fv .f32 ((vs.map tW).getD k 0) ≤ 2 := by
  have r := small16_at hv k
  have e := (q_at hv hk).2.2
  have a : ((-8 : Int) : Rat) ≤ ((vs.getD k 0 : Int) : Rat) := Rat.intCast_le_intCast.2 r.1
  have b : ((vs.getD k 0 : Int) : Rat) ≤ ((8 : Int) : Rat) := Rat.intCast_le_intCast.2 r.2
  have c : ((-8 : Int) : Rat) = -8 := rfl
  have d : ((8 : Int) : Rat) = 8 := rfl
  rw [c] at a
  rw [d] at b
  constructor <;> grind

theorem q_faded (hl : vs.length ≤ 256) {o : Int} (h0 : 0 ≤ o) (h1 : o ≤ 4) (h2 : o ≤ vs.length) : fadeEF (vs.map tW) o o = ((List.range vs.length).map fun k => fadeX k (List.getD (vs.map tW) k 0) o (vs.length : Int) o, true) := by
  have hs := q_snd hv hl
  have lm : (vs.map tW).length = vs.length := by simp
  have list : ev_changedF_L1_S (vs.map tW) vs.length o (vs.length : Int) o vs.length = (List.range vs.length).map fun k => fadeX k (List.getD (vs.map tW) k 0) o (vs.length : Int) o :=
    set_all _ _ (ev_changedF_L1_S (vs.map tW) vs.length o (vs.length : Int) o) (by simp [ev_changedF_L1_S]) (fun _ => rfl)
  have e : changedF (vs.map tW) o (vs.length : Int) o = ((List.range vs.length).map fun k => fadeX k (List.getD (vs.map tW) k 0) o (vs.length : Int) o, true) := by
    unfold changedF
    rw [lm, list, if_pos hs, if_pos]
    refine allBelow_true.2 fun k hk => ?_
    simp only [List.length_map, List.length_range] at hk
    show fin32 _ = true
    rw [range_getD _ 0 hk]
    have b := q_bound hv hk
    exact fin32_isF.2 (fade_in (q_at hv hk).2.1 (by grind) (by grind) h1 (by omega)).1
  unfold fadeEF fadedF
  rw [lm, e, if_pos h0, if_pos h2, if_pos h0, if_pos h2]

theorem q_less (hl : vs.length ≤ 256) {o : Int} (h0 : 0 ≤ o) (h1 : o ≤ 4) (h2 : o ≤ vs.length) : (fadeEF (vs.map tW) o o).2 = true ∧ (reachF (vs.map tW)).2 = true ∧ (reachF (fadeEF (vs.map tW) o o).1).2 = true ∧ fcmp .gtr .f32 (reachF (fadeEF (vs.map tW) o o).1).1 (reachF (vs.map tW)).1 = false ∧
    (∀ y ∈ (fadeEF (vs.map tW) o o).1, w32 y) ∧ ∀ k, k < vs.length → fcmp .gtr .f32 (List.getD (vs.map tW) k 0) (reachF (vs.map tW)).1 = false ∧ fcmp .gtr .f32 (fneg .f32 (List.getD (vs.map tW) k 0)) (reachF (vs.map tW)).1 = false := by
  have hs := q_snd hv hl
  have lm : (vs.map tW).length = vs.length := by simp
  rw [q_faded hv hl h0 h1 h2]
  have ew : ∀ y ∈ ((List.range vs.length).map fun k => fadeX k (List.getD (vs.map tW) k 0) o (vs.length : Int) o), w32 y := by
    intro y hy
    simp only [List.mem_map] at hy
    obtain ⟨k, _, rfl⟩ := hy
    exact fadeX_w32 (w32_get (q_w32 vs) k)
  generalize hF : ((List.range vs.length).map fun k => fadeX k (List.getD (vs.map tW) k 0) o (vs.length : Int) o) = F at *
  have lF : F.length = vs.length := by rw [← hF]; simp
  have gF : ∀ k, k < vs.length → isFl .f32 (F.getD k 0) ∧ within (fv .f32 (F.getD k 0)) (fv .f32 ((vs.map tW).getD k 0)) := by
    intro k hk
    rw [← hF, range_getD _ 0 hk]
    have b := q_bound hv hk
    exact fade_in (q_at hv hk).2.1 (by grind) (by grind) h1 (by omega)
  have fs : isSnd F = true := by
    simp only [isSnd, Bool.and_eq_true, decide_eq_true_eq]
    exact ⟨by omega, allBelow_true.2 fun k hk => fin32_isF.2 (gF k (by omega)).1⟩
  obtain ⟨r1, r2, r3⟩ := reach_all (q_w32 vs) hs (vs.map tW).length (Nat.le_refl _)
  obtain ⟨s1, s2, s3⟩ := reach_all ew fs F.length (Nat.le_refl _)
  have eA : reachF (vs.map tW) = (ev_Reach_L1_S (vs.map tW) (vs.map tW).length (vs.map tW).length, true) := by unfold reachF; rw [if_pos hs]
  have eF : reachF F = (ev_Reach_L1_S F F.length F.length, true) := by unfold reachF; rw [if_pos fs]
  rw [eA]
  show true = true ∧ true = true ∧ (reachF F).2 = true ∧ fcmp .gtr .f32 (reachF F).1 _ = false ∧ (∀ y ∈ F, w32 y) ∧ _
  rw [eF]
  refine ⟨rfl, rfl, rfl, ?_, ew, fun k hk => ?_⟩
  · rw [Bool.eq_false_iff, ne_eq, gtr_iff s1 r1]
    refine Rat.not_lt.2 (s3 _ ?_ fun j hj => ?_)
    · rcases Nat.eq_zero_or_pos vs.length with h | h
      · have : (vs.map tW) = [] := by simp [List.length_eq_zero_iff.1 h]
        rw [this]; decide +kernel
      · have := r2 0 (by omega); grind
    · have w := r2 j (by omega)
      refine (gF j (by omega)).2 _ ?_ w.1 w.2
      grind
  · have w := r2 k (by omega)
    have qf := (q_at hv hk).2.1
    constructor
    · rw [Bool.eq_false_iff, ne_eq, gtr_iff qf r1]; exact Rat.not_lt.2 w.1
    · obtain ⟨nf, nv⟩ := fneg_fl (k := .f32) (w32_get (q_w32 vs) k).1 qf
      rw [Bool.eq_false_iff, ne_eq, gtr_iff nf r1, nv]; exact Rat.not_lt.2 w.2
end

/-! ### Joined sounds -/

/-- What lies between two numbers, as it is reckoned. -/
theorem between {x y u : Nat} (hx : isFl .f32 x) (hy : isFl .f32 y) {d : Nat} (hd : isFl .f32 d) (ed : fv .f32 d = fv .f32 y - fv .f32 x) (d0 : -4 ≤ fv .f32 d) (d1 : fv .f32 d ≤ 4) (hu : Iv .f32 u 0 1065353216) (x0 : -4 ≤ fv .f32 x) (x1 : fv .f32 x ≤ 4) :
    isFl .f32 (fop .add .f32 x (fop .mul .f32 u d)) ∧ (∀ m, m ≤ fv .f32 x → m ≤ fv .f32 y → m ≤ fv .f32 (fop .add .f32 x (fop .mul .f32 u d))) ∧ (∀ m, fv .f32 x ≤ m → fv .f32 y ≤ m → fv .f32 (fop .add .f32 x (fop .mul .f32 u d)) ≤ m) := by
  have hm := mul_Rd hu.fx hd
  have u0 := hu.lo; have u1 := hu.hi
  rw [(zero_fl .f32).2] at u0
  have v1 : fv .f32 1065353216 = 1 := by decide +kernel
  rw [v1] at u1
  have v8 : fv .f32 1090519040 = 8 := by decide +kernel
  have f8 : isFl .f32 1090519040 := finB_fl (by decide +kernel)
  have v4 : fv .f32 1082130432 = 4 := by decide +kernel
  have f4 : isFl .f32 1082130432 := finB_fl (by decide +kernel)
  have zf := (zero_fl .f32).1
  have zv := (zero_fl .f32).2
  generalize hU : fv .f32 u = U at *
  rcases (Rat.le_total (a := 0) (b := fv .f32 d)) with h | h
  · have p0 : 0 ≤ U * fv .f32 d := Rat.mul_nonneg u0 h
    have p1 : U * fv .f32 d ≤ 1 * fv .f32 d := Rat.mul_le_mul_of_nonneg_right u1 h
    have pf := hm.fin f4 (by grind) (by grind)
    have hi := hm.hi pf hd (by grind)
    have lo := hm.lo pf zf (by grind)
    rw [zv] at lo
    have ha := add_Rd hx pf
    have af := ha.fin f8 (by grind) (by grind)
    have ahi := ha.hi af hy (by grind)
    have alo := ha.lo af hx (by grind)
    exact ⟨af, fun m a b => by grind, fun m a b => by grind⟩
  · have p0 : 0 ≤ U * (-(fv .f32 d)) := Rat.mul_nonneg u0 (by grind)
    have p1 : U * (-(fv .f32 d)) ≤ 1 * (-(fv .f32 d)) := Rat.mul_le_mul_of_nonneg_right u1 (by grind)
    have pf := hm.fin f4 (by grind) (by grind)
    have hi := hm.hi pf zf (by grind)
    have lo := hm.lo pf hd (by grind)
    rw [zv] at hi
    have ha := add_Rd hx pf
    have af := ha.fin f8 (by grind) (by grind)
    have ahi := ha.hi af hx (by grind)
    have alo := ha.lo af hy (by grind)
    exact ⟨af, fun m a b => by grind, fun m a b => by grind⟩

theorem sub_quarter {v w : Int} (hv : -8 ≤ v ∧ v ≤ 8) (hw : -8 ≤ w ∧ w ≤ 8) : isFl .f32 (fop .sub .f32 (tW w) (tW v)) ∧ fv .f32 (fop .sub .f32 (tW w) (tW v)) = (w : Rat) * (1 / 4) - (v : Rat) * (1 / 4) := by
  obtain ⟨a1, a2, _⟩ := quarter (v := v) (by omega) (by omega)
  obtain ⟨b1, b2, _⟩ := quarter (v := w) (by omega) (by omega)
  obtain ⟨c1, c2, _⟩ := quarter (v := w - v) (by omega) (by omega)
  obtain ⟨f, e⟩ := (sub_Rd b1 a1).exact c1 (by rw [a2, b2, c2, Rat.intCast_sub]; grind)
  exact ⟨f, by rw [e, a2, b2]⟩

theorem add_quarter {v w : Int} (hv : -8 ≤ v ∧ v ≤ 8) (hw : -8 ≤ w ∧ w ≤ 8) : isFl .f32 (fop .add .f32 (tW v) (tW w)) ∧ fv .f32 (fop .add .f32 (tW v) (tW w)) = (v : Rat) * (1 / 4) + (w : Rat) * (1 / 4) := by
  obtain ⟨a1, a2, _⟩ := quarter (v := v) (by omega) (by omega)
  obtain ⟨b1, b2, _⟩ := quarter (v := w) (by omega) (by omega)
  obtain ⟨c1, c2, _⟩ := quarter (v := v + w) (by omega) (by omega)
  obtain ⟨f, e⟩ := (add_Rd a1 b1).exact c1 (by rw [a2, b2, c2, Rat.intCast_add]; grind)
  exact ⟨f, by rw [e, a2, b2]⟩

/-! ### Sums -/

/-- A list each of whose numbers is changed in its place, by its place. -/
theorem set_ownK (f : Nat → Nat → Nat) (xs : List Nat) (S : Nat → List Nat) (h0 : S 0 = xs) (hs : ∀ k, S (k + 1) = (S k).set k (f k ((S k).getD k 0))) : ∀ k, k ≤ xs.length → (S k).length = xs.length ∧ ∀ j, j < xs.length → (S k).getD j 0 = if j < k then f j (xs.getD j 0) else xs.getD j 0 := by
  intro k
  induction k with
  | zero => intro _; rw [h0]; exact ⟨rfl, fun j _ => by simp⟩
  | succ k ih =>
    intro hk
    obtain ⟨i1, i2⟩ := ih (by omega)
    refine ⟨by rw [hs, List.length_set]; exact i1, fun j hj => ?_⟩
    rw [hs, getD_set _ _ _ _ _ (by omega)]
    by_cases h : j = k
    · subst h
      rw [if_pos rfl, if_pos (by omega), i2 j hj, if_neg (by omega)]
    · rw [if_neg h, i2 j hj]
      by_cases g : j < k
      · rw [if_pos g, if_pos (by omega)]
      · rw [if_neg g, if_neg (by omega)]

theorem tW_zero : tW 0 = 0 := by decide +kernel

theorem sum_list {vs ws : List Int} (hv : small16 vs) (hw : small16 ws) (n : Nat) (hn : (if ((ws.length : Nat) : Int) > ((vs.length : Nat) : Int) then ((ws.length : Nat) : Int) else ((vs.length : Nat) : Int)).toNat = n) :
    (ev_AddSounds_L1_S (vs.map tW) vs.length (ws.map tW) ws.length n).length = n ∧ ∀ j, j < n → (ev_AddSounds_L1_S (vs.map tW) vs.length (ws.map tW) ws.length n).getD j 0 = fop .add .f32 (tW (vs.getD j 0)) (tW (ws.getD j 0)) := by
  have hle : vs.length ≤ n ∧ ws.length ≤ n := by
    rw [← hn]; split <;> omega
  have e0 : ev_AddSounds_L1_S (vs.map tW) vs.length (ws.map tW) ws.length 0 = (vs.map tW) ++ (List.replicate (n - vs.length) 0) := by
    simp only [ev_AddSounds_L1_S]
    rw [hn]
    simp
  have l0 : ((vs.map tW) ++ (List.replicate (n - vs.length) 0)).length = n := by simp; omega
  obtain ⟨a, b⟩ := set_ownK (fun k x => if k < ws.length then fop .add .f32 x (List.getD (ws.map tW) k 0) else fop .add .f32 x 0) _ (ev_AddSounds_L1_S (vs.map tW) vs.length (ws.map tW) ws.length) e0 (fun k => by
    simp only [ev_AddSounds_L1_S, ev_AddSounds_L1_step]
    split <;> rfl) n (by omega)
  refine ⟨by omega, fun j hj => ?_⟩
  rw [b j (by omega), if_pos hj]
  have own : ((vs.map tW) ++ (List.replicate (n - vs.length) 0)).getD j 0 = tW (vs.getD j 0) := by
    rcases Nat.lt_or_ge j vs.length with h | h
    · rw [List.getD_eq_getElem?_getD, List.getElem?_append_left (by simpa using h), ← List.getD_eq_getElem?_getD, getD_map tW vs 0 0 h]
    · have e1 : vs.getD j 0 = 0 := by simp [h]
      rw [e1, tW_zero, List.getD_eq_getElem?_getD, List.getElem?_append_right (by simpa using h)]
      simp [show j - vs.length < n - vs.length by omega]
  rw [own]
  show (if j < ws.length then fop .add .f32 (tW (vs.getD j 0)) (List.getD (ws.map tW) j 0) else fop .add .f32 (tW (vs.getD j 0)) 0) = _
  split
  · rename_i h; rw [getD_map tW ws 0 0 h]
  · rename_i h
    have e1 : ws.getD j 0 = 0 := by simp [show ws.length ≤ j by omega]
    rw [e1, tW_zero]

theorem q_sum {vs ws : List Int} (hv : small16 vs) (hw : small16 ws) (l1 : vs.length ≤ 256) (l2 : ws.length ≤ 256) : ∃ L : List Nat, addSndF (vs.map tW) (ws.map tW) = (L, true) ∧
    ((L.length : Nat) : Int) = (if ((ws.length : Nat) : Int) > ((vs.length : Nat) : Int) then ((ws.length : Nat) : Int) else ((vs.length : Nat) : Int)) ∧ ∀ j, j < L.length → L.getD j 0 = fop .add .f32 (tW (vs.getD j 0)) (tW (ws.getD j 0)) := by
  have s1 := q_snd hv l1; have s2 := q_snd hw l2
  have m1 : (vs.map tW).length = vs.length := by simp
  have m2 : (ws.map tW).length = ws.length := by simp
  obtain ⟨a, b⟩ := sum_list hv hw _ rfl
  refine ⟨_, ?_, ?_, fun j hj => b j (by rw [a] at hj; exact hj)⟩
  · unfold addSndF
    rw [m1, m2, if_pos s1, if_pos s2, if_pos]
    refine allBelow_true.2 fun k hk => ?_
    show fin32 _ = true
    rw [b k (by rw [a] at hk; exact hk)]
    have r1 := small16_at hv k; have r2 := small16_at hw k
    exact fin32_isF.2 (add_quarter r1 r2).1
  · rw [a]; split <;> omega

theorem q_sums {vs ws : List Int} (hv : small16 vs) (hw : small16 ws) (l1 : vs.length ≤ 256) (l2 : ws.length ≤ 256) : (addSndF (vs.map tW) (ws.map tW)).2 = true ∧ (addSndF (ws.map tW) (vs.map tW)).2 = true ∧
    (((List.length (addSndF (vs.map tW) (ws.map tW)).1) : Nat) : Int) = (if (((List.length (ws.map tW)) : Nat) : Int) > (((List.length (vs.map tW)) : Nat) : Int) then (((List.length (ws.map tW)) : Nat) : Int) else (((List.length (vs.map tW)) : Nat) : Int)) ∧
    (((List.length (addSndF (ws.map tW) (vs.map tW)).1) : Nat) : Int) = (((List.length (addSndF (vs.map tW) (ws.map tW)).1) : Nat) : Int) ∧
    (∀ k, k < List.length (addSndF (vs.map tW) (ws.map tW)).1 → fcmp .neq .f32 (List.getD (addSndF (vs.map tW) (ws.map tW)).1 k 0) (List.getD (addSndF (ws.map tW) (vs.map tW)).1 k 0) = false) ∧
    ∀ k, k < List.length (addSndF (vs.map tW) (ws.map tW)).1 → k < vs.length → k < ws.length → fcmp .neq .f32 (List.getD (addSndF (vs.map tW) (ws.map tW)).1 k 0) (fop .add .f32 (List.getD (vs.map tW) k 0) (List.getD (ws.map tW) k 0)) = false := by
  obtain ⟨L, e, a, b⟩ := q_sum hv hw l1 l2
  obtain ⟨M, f, c, d⟩ := q_sum hw hv l2 l1
  have m1 : (vs.map tW).length = vs.length := by simp
  have m2 : (ws.map tW).length = ws.length := by simp
  rw [e, f, m1, m2]
  have lm : M.length = L.length := by
    have : ((M.length : Nat) : Int) = ((L.length : Nat) : Int) := by rw [a, c]; split <;> split <;> omega
    omega
  refine ⟨rfl, rfl, a, by show ((M.length : Nat) : Int) = ((L.length : Nat) : Int); omega, fun k hk => ?_, fun k hk h1 h2 => ?_⟩
  · show fcmp .neq .f32 (L.getD k 0) (M.getD k 0) = false
    have hk' : k < L.length := hk
    rw [b k hk', d k (by omega)]
    obtain ⟨f1, v1⟩ := add_quarter (small16_at hv k) (small16_at hw k)
    obtain ⟨f2, v2⟩ := add_quarter (small16_at hw k) (small16_at hv k)
    exact neq_fv f1 f2 (by rw [v1, v2]; grind)
  · show fcmp .neq .f32 (L.getD k 0) _ = false
    have hk' : k < L.length := hk
    rw [b k hk', (q_at hv h1).1, (q_at hw h2).1]
    obtain ⟨f1, v1⟩ := add_quarter (small16_at hv k) (small16_at hw k)
    exact neq_fv f1 f1 rfl

/-! ### Energies -/

theorem sixteenth (k : FloatKind) {N : Int} (h0 : 0 ≤ N) (h1 : N ≤ 8192) : ∃ u, isFl k u ∧ fv k u = (N : Rat) * 2 ^ (-4 : Int) := by
  obtain ⟨n, rfl⟩ := Int.eq_ofNat_of_zero_le h0
  have big : ∃ w, isFl k w ∧ mgv n (-4) ≤ fv k w := by
    have p : (0 : Rat) ≤ 2 ^ (-4 : Int) := by decide +kernel
    have hn : ((n : Nat) : Rat) ≤ ((8192 : Int) : Rat) := Rat.intCast_le_intCast.2 h1
    cases k
    · refine ⟨1140850688, finB_fl (by decide +kernel), ?_⟩
      have : fv .f32 1140850688 = ((8192 : Int) : Rat) * 2 ^ (-4 : Int) := by decide +kernel
      rw [this]
      exact Rat.mul_le_mul_of_nonneg_right hn p
    · refine ⟨4647714815446351872, finB_fl (by decide +kernel), ?_⟩
      have : fv .f64 4647714815446351872 = ((8192 : Int) : Rat) * 2 ^ (-4 : Int) := by decide +kernel
      rw [this]
      exact Rat.mul_le_mul_of_nonneg_right hn p
  obtain ⟨w, fw, hw⟩ := big
  have hN1 : n ≤ 8192 := by omega
  have m1 : n ≤ 2 * k.format.binade := by cases k <;> exact Nat.le_trans hN1 (by decide)
  have m2 : k.format.leastPlace ≤ -4 := by cases k <;> decide
  obtain ⟨u, fu, vu⟩ := rep_fin m1 m2 fw hw false
  refine ⟨u, fu, ?_⟩
  rw [vu]
  show 1 * (((n : Nat) : Rat) * 2 ^ (-4 : Int)) = ((n : Nat) : Rat) * 2 ^ (-4 : Int)
  grind

def sqI (w : Nat → Int) : Nat → Int
  | 0 => 0
  | k + 1 => sqI w k + w k * w k

theorem sq_small {x : Int} (h0 : -16 ≤ x) (h1 : x ≤ 16) : 0 ≤ x * x ∧ x * x ≤ 256 := by
  have a : 0 ≤ (16 - x) * (16 + x) := Int.mul_nonneg (by omega) (by omega)
  have b : 0 ≤ x * x := by
    rcases Int.le_total 0 x with h | h
    · exact Int.mul_nonneg h h
    · have := Int.mul_nonneg (show 0 ≤ -x by omega) (show 0 ≤ -x by omega)
      rwa [Int.neg_mul_neg] at this
  refine ⟨b, ?_⟩
  have : (16 - x) * (16 + x) = 256 - x * x := by grind
  omega

theorem sqI_range {w : Nat → Int} (h : ∀ k, -16 ≤ w k ∧ w k ≤ 16) : ∀ k, 0 ≤ sqI w k ∧ sqI w k ≤ 256 * (k : Int) := by
  intro k
  induction k with
  | zero => simp [sqI]
  | succ k ih =>
    have := sq_small (h k).1 (h k).2
    simp only [sqI]
    omega

theorem en_exact {xs : List Nat} {w : Nat → Int} (hw : ∀ k, -16 ≤ w k ∧ w k ≤ 16) {n : Nat} (hn : n ≤ 32) (hx : ∀ k, k < n → isFl .f32 (xs.getD k 0) ∧ fv .f32 (xs.getD k 0) = (w k : Rat) * (1 / 4)) : ∀ k, k ≤ n → isFl .f64 (en64 xs k) ∧ fv .f64 (en64 xs k) = (sqI w k : Rat) * 2 ^ (-4 : Int) := by
  have p16 : (2 : Rat) ^ (-4 : Int) = 1 / 16 := by decide +kernel
  intro k
  induction k with
  | zero => intro _; exact ⟨(zero_fl .f64).1, by show fv .f64 0 = ((0 : Int) : Rat) * _; rw [(zero_fl .f64).2]; grind⟩
  | succ k ih =>
    intro hk
    obtain ⟨i1, i2⟩ := ih (by omega)
    obtain ⟨x1, x2⟩ := hx k (by omega)
    obtain ⟨u1, u2⟩ := fcv_up x1
    have r := sqI_range hw k
    have s := sq_small (hw k).1 (hw k).2
    obtain ⟨q, q1, q2⟩ := sixteenth .f64 s.1 (by omega)
    obtain ⟨p1, p2⟩ := (mul_Rd u1 u1).exact q1 (by rw [u2, x2, q2, p16, Rat.intCast_mul]; grind)
    obtain ⟨t, t1, t2⟩ := sixteenth .f64 (N := sqI w k + w k * w k) (by omega) (by omega)
    obtain ⟨a1, a2⟩ := (add_Rd i1 p1).exact t1 (by rw [i2, p2, u2, x2, t2, p16, Rat.intCast_add, Rat.intCast_mul]; grind)
    exact ⟨a1, by rw [show en64 xs (k + 1) = fop .add .f64 (en64 xs k) (fop .mul .f64 (fcv .f32 .f64 (List.getD xs k 0)) (fcv .f32 .f64 (List.getD xs k 0))) from rfl, a2, i2, p2, u2, x2, p16]; simp only [sqI]; rw [Rat.intCast_add, Rat.intCast_mul]; grind⟩

theorem gap0 {x y : Nat} (hx : isFl .f64 x) (hy : isFl .f64 y) (e : fv .f64 x = fv .f64 y) : isFl .f64 (gapR x y) ∧ fv .f64 (gapR x y) = 0 := by
  obtain ⟨f1, v1⟩ := (sub_Rd hx hy).exact (zero_fl .f64).1 (by rw [(zero_fl .f64).2, e]; grind)
  obtain ⟨f2, v2⟩ := (sub_Rd hy hx).exact (zero_fl .f64).1 (by rw [(zero_fl .f64).2, e]; grind)
  unfold gapR fminmax
  rcases order_val f1 f2 with ⟨h, g⟩ | ⟨h, g⟩ | ⟨h, g⟩
  · exfalso; grind
  · rw [h]
    simp only
    split
    · exact ⟨f2, by show fv .f64 (fop .sub .f64 y x) = 0; rw [v2, e]; grind⟩
    · exact ⟨f1, by show fv .f64 (fop .sub .f64 x y) = 0; rw [v1, e]; grind⟩
  · exfalso; grind

theorem en_down {xs : List Nat} {w : Nat → Int} (hw : ∀ k, -16 ≤ w k ∧ w k ≤ 16) (hn : xs.length ≤ 32) (hx : ∀ k, k < xs.length → isFl .f32 (xs.getD k 0) ∧ fv .f32 (xs.getD k 0) = (w k : Rat) * (1 / 4)) (hs : isSnd xs = true) :
    fconvOk .f64 .f32 (en64 xs xs.length) ∧ ∃ E, energySF xs = (E, true) ∧ isFl .f32 E ∧ fv .f32 E = (sqI w xs.length : Rat) * 2 ^ (-4 : Int) := by
  obtain ⟨e1, e2⟩ := en_exact hw hn hx xs.length (Nat.le_refl _)
  have r := sqI_range hw xs.length
  obtain ⟨u, u1, u2⟩ := sixteenth .f32 r.1 (by omega)
  obtain ⟨d1, d2⟩ := (fcv_down_Rd e1).exact u1 (by rw [e2, u2])
  have eq : energyF xs = fcv .f64 .f32 (en64 xs xs.length) := by unfold energyF; rw [en64_eq]
  refine ⟨fconvOk_fin e1 d1, fcv .f64 .f32 (en64 xs xs.length), ?_, d1, by rw [d2, e2]⟩
  unfold energySF
  rw [eq, if_pos hs, fin32_isF.2 d1]; rfl

theorem q_energy {vs : List Int} (hv : small16 vs) (hl : vs.length ≤ 32) : (scaleSF (vs.map tW) 1073741824).2 = true ∧ (energySF (vs.map tW)).2 = true ∧ (energySF (scaleSF (vs.map tW) 1073741824).1).2 = true ∧ fconvOk .f64 .f32 (en64 (vs.map tW) (List.length (vs.map tW))) ∧
    fconvOk .f64 .f32 (en64 (scaleSF (vs.map tW) 1073741824).1 (List.length (scaleSF (vs.map tW) 1073741824).1)) ∧
    fcmp .gtr .f64 (gapR (fcv .f32 .f64 (energySF (scaleSF (vs.map tW) 1073741824).1).1) (fop .mul .f64 4616189618054758400 (fcv .f32 .f64 (energySF (vs.map tW)).1))) (fop .mul .f64 4562254508917369340 (fop .add .f64 4607182418800017408 (fcv .f32 .f64 (energySF (scaleSF (vs.map tW) 1073741824).1).1))) = false := by
  have m1 : (vs.map tW).length = vs.length := by simp
  have hs := q_snd hv (by omega)
  have e := q_scale hv (by omega)
  obtain ⟨c1, E, g1, g2, g3⟩ := en_down (xs := vs.map tW) (w := fun k => vs.getD k 0) (fun k => by have := small16_at hv k; omega) (by omega) (fun k hk => (q_at hv (by omega)).2) hs
  rw [e]
  generalize hD : ((List.range vs.length).map fun k => fop .mul .f32 (List.getD (vs.map tW) k 0) 1073741824) = D
  have lD : D.length = vs.length := by rw [← hD]; simp
  have gD : ∀ k, k < vs.length → isFl .f32 (D.getD k 0) ∧ fv .f32 (D.getD k 0) = ((2 * vs.getD k 0 : Int) : Rat) * (1 / 4) := by
    intro k hk
    have r := small16_at hv k
    rw [← hD, range_getD _ 0 hk, (q_at hv hk).1]
    obtain ⟨_, _, _, a, b⟩ := quarter (v := vs.getD k 0) (by omega) (by omega)
    refine ⟨a, ?_⟩
    rw [b, Rat.intCast_mul]
    have : ((2 : Int) : Rat) = 2 := rfl
    rw [this]; grind
  have sD : isSnd D = true := by
    simp only [isSnd, Bool.and_eq_true, decide_eq_true_eq]
    exact ⟨by omega, allBelow_true.2 fun k hk => fin32_isF.2 (gD k (by omega)).1⟩
  obtain ⟨c2, G, k1, k2, k3⟩ := en_down (xs := D) (w := fun k => 2 * vs.getD k 0) (fun k => by have := small16_at hv k; omega) (by omega) (fun k hk => gD k (by omega)) sD
  have four : ∀ k, sqI (fun k => 2 * vs.getD k 0) k = 4 * sqI (fun k => vs.getD k 0) k := by
    intro k
    induction k with
    | zero => rfl
    | succ k ih => simp only [sqI, ih]; grind
  rw [four, lD] at k3
  rw [m1] at g3
  show true = true ∧ (energySF (vs.map tW)).2 = true ∧ (energySF D).2 = true ∧ fconvOk .f64 .f32 (en64 (vs.map tW) (List.length (vs.map tW))) ∧ fconvOk .f64 .f32 (en64 D (List.length D)) ∧ fcmp .gtr .f64 (gapR (fcv .f32 .f64 (energySF D).1) (fop .mul .f64 4616189618054758400 (fcv .f32 .f64 (energySF (vs.map tW)).1))) (fop .mul .f64 4562254508917369340 (fop .add .f64 4607182418800017408 (fcv .f32 .f64 (energySF D).1))) = false
  rw [g1, k1]
  refine ⟨rfl, rfl, rfl, c1, c2, ?_⟩
  show fcmp .gtr .f64 (gapR (fcv .f32 .f64 G) (fop .mul .f64 4616189618054758400 (fcv .f32 .f64 E))) (fop .mul .f64 4562254508917369340 (fop .add .f64 4607182418800017408 (fcv .f32 .f64 G))) = false
  have r := sqI_range (w := fun k => vs.getD k 0) (fun k => by have := small16_at hv k; omega) vs.length
  have r2 := sqI_range (w := fun k => 2 * vs.getD k 0) (fun k => by have := small16_at hv k; omega) vs.length
  rw [four] at r2
  obtain ⟨uE, vE⟩ := fcv_up g2
  obtain ⟨uG, vG⟩ := fcv_up k2
  have f4 : isFl .f64 4616189618054758400 := finB_fl (by decide +kernel)
  have v4 : fv .f64 4616189618054758400 = 4 := by decide +kernel
  obtain ⟨t, t1, t2⟩ := sixteenth .f64 r2.1 (by omega)
  have c4 : ((4 : Int) : Rat) = 4 := rfl
  obtain ⟨p1, p2⟩ := (mul_Rd f4 uE).exact t1 (by rw [v4, vE, g3, t2, Rat.intCast_mul, c4]; grind)
  obtain ⟨z1, z2⟩ := gap0 uG p1 (by rw [vG, k3, p2, v4, vE, g3, Rat.intCast_mul, c4]; grind)
  have iG : Iv .f64 (fcv .f32 .f64 G) 0 4652218415073722368 := by
    refine ⟨uG, (zero_fl .f64).1, finB_fl (by decide +kernel), ?_, ?_⟩
    · rw [(zero_fl .f64).2, vG, k3]
      have : ((0 : Int) : Rat) ≤ ((4 * sqI (fun k => vs.getD k 0) vs.length : Int) : Rat) := Rat.intCast_le_intCast.2 r2.1
      exact Rat.mul_nonneg this (by decide +kernel)
    · have v : fv .f64 4652218415073722368 = ((16384 : Int) : Rat) * 2 ^ (-4 : Int) := by decide +kernel
      rw [v, vG, k3]
      exact Rat.mul_le_mul_of_nonneg_right (Rat.intCast_le_intCast.2 (by omega)) (by decide +kernel)
  have i1 : Iv .f64 4607182418800017408 4607182418800017408 4607182418800017408 := Iv.self (by decide +kernel)
  have im : Iv .f64 4562254508917369340 4562254508917369340 4562254508917369340 := Iv.self (by decide +kernel)
  have i2 : Iv .f64 (fop .add .f64 4607182418800017408 (fcv .f32 .f64 G)) 0 4656722014701092864 := i1.add iG _ _ (by decide +kernel)
  have i3 : Iv .f64 (fop .mul .f64 4562254508917369340 (fop .add .f64 4607182418800017408 (fcv .f32 .f64 G))) 0 4616189618054758400 := im.mul i2 _ _ (by decide +kernel)
  rw [Bool.eq_false_iff, ne_eq, gtr_iff z1 i3.fx, z2]
  have lo := i3.lo
  rw [(zero_fl .f64).2] at lo
  exact Rat.not_lt.2 lo

/-! ### What is joined -/

theorem set_run (f : Nat → Nat) (xs : List Nat) (p : Nat) (S : Nat → List Nat) (h0 : S 0 = xs) (hs : ∀ k, S (k + 1) = (S k).set (p + k) (f k)) : ∀ k, p + k ≤ xs.length → (S k).length = xs.length ∧ ∀ j, j < xs.length → (S k).getD j 0 = if p ≤ j ∧ j < p + k then f (j - p) else xs.getD j 0 := by
  intro k
  induction k with
  | zero => intro _; rw [h0]; exact ⟨rfl, fun j _ => by rw [if_neg (by omega)]⟩
  | succ k ih =>
    intro hk
    obtain ⟨i1, i2⟩ := ih (by omega)
    refine ⟨by rw [hs, List.length_set]; exact i1, fun j hj => ?_⟩
    rw [hs, getD_set _ _ _ _ _ (by omega)]
    by_cases h : j = p + k
    · subst h
      rw [if_pos rfl, if_pos (by omega)]; congr 1; omega
    · rw [if_neg h, i2 j hj]
      by_cases g : p ≤ j ∧ j < p + k
      · rw [if_pos g, if_pos (by omega)]
      · rw [if_neg g, if_neg (by omega)]

/-- The number in the place 'k' of the cross fade. -/
def mixW (a b : List Nat) (o : Int) (k : Nat) : Nat := fop .add .f32 (List.getD a (a.length - o.toNat + k) 0) (fop .mul .f32 (fop .quo .f32 (canon .f32 (FloatKind.nearest .f32 (((k : Nat) : Int) + (1 : Int)))) (canon .f32 (FloatKind.nearest .f32 (o + (1 : Int))))) (fop .sub .f32 (List.getD b k 0) (List.getD a (a.length - o.toNat + k) 0)))

theorem join_list (a b : List Nat) {o : Int} (ho : o.toNat ≤ a.length) : (ev_JoinSounds_L1_S a a.length b b.length o o.toNat).length = a.length ∧ ∀ j, j < a.length → (ev_JoinSounds_L1_S a a.length b b.length o o.toNat).getD j 0 = if a.length - o.toNat ≤ j then mixW a b o (j - (a.length - o.toNat)) else a.getD j 0 := by
  obtain ⟨h1, h2⟩ := set_run (mixW a b o) a (a.length - o.toNat) (ev_JoinSounds_L1_S a a.length b b.length o) rfl (fun k => by
    simp only [ev_JoinSounds_L1_S, ev_JoinSounds_L1_step]
    rw [show (a.length + k) - o.toNat = a.length - o.toNat + k by omega]; rfl) o.toNat (by omega)
  refine ⟨h1, fun j hj => ?_⟩
  rw [h2 j hj]
  by_cases g : a.length - o.toNat ≤ j
  · rw [if_pos g, if_pos (by omega)]
  · rw [if_neg g, if_neg (by omega)]

theorem fmin_le {x y : Nat} (hx : isFl .f64 x) (hy : isFl .f64 y) : isFl .f64 (fminmax false .f64 x y) ∧ fv .f64 (fminmax false .f64 x y) ≤ fv .f64 x ∧ fv .f64 (fminmax false .f64 x y) ≤ fv .f64 y ∧ (fv .f64 (fminmax false .f64 x y) = fv .f64 x ∨ fv .f64 (fminmax false .f64 x y) = fv .f64 y) := by
  unfold fminmax
  rcases order_val hx hy with ⟨e, g⟩ | ⟨e, g⟩ | ⟨e, g⟩ <;> rw [e] <;> simp only [cond_false]
  · exact ⟨hx, by grind, by grind, by first | exact .inl rfl | simp⟩
  · split
    · exact ⟨hx, by grind, by grind, by first | exact .inl rfl | simp⟩
    · exact ⟨hy, by grind, by grind, by first | exact .inr rfl | simp⟩
  · exact ⟨hy, by grind, by grind, by first | exact .inr rfl | simp⟩

theorem fmax_ge64 {x y : Nat} (hx : isFl .f64 x) (hy : isFl .f64 y) : isFl .f64 (fminmax true .f64 x y) ∧ fv .f64 x ≤ fv .f64 (fminmax true .f64 x y) ∧ fv .f64 y ≤ fv .f64 (fminmax true .f64 x y) ∧ (fv .f64 (fminmax true .f64 x y) = fv .f64 x ∨ fv .f64 (fminmax true .f64 x y) = fv .f64 y) := by
  unfold fminmax
  rcases order_val hx hy with ⟨e, g⟩ | ⟨e, g⟩ | ⟨e, g⟩ <;> rw [e] <;> simp only [cond_true]
  · exact ⟨hy, by grind, by grind, by first | exact .inr rfl | simp⟩
  · split
    · exact ⟨hy, by grind, by grind, by first | exact .inr rfl | simp⟩
    · exact ⟨hx, by grind, by grind, by first | exact .inl rfl | simp⟩
  · exact ⟨hx, by grind, by grind, by first | exact .inl rfl | simp⟩

section
variable {vs ws : List Int} (hv : small16 vs) (hw : small16 ws)
include hv hw

theorem mix_in {o : Int} (h0 : 0 ≤ o) (h1 : o ≤ 4) (h2 : o ≤ vs.length) (h3 : o ≤ ws.length) {k : Nat} (hk : (k : Int) < o) :
    isFl .f32 (mixW (vs.map tW) (ws.map tW) o k) ∧ (∀ m, m ≤ fv .f32 ((vs.map tW).getD (vs.length - o.toNat + k) 0) → m ≤ fv .f32 ((ws.map tW).getD k 0) → m ≤ fv .f32 (mixW (vs.map tW) (ws.map tW) o k)) ∧
    (∀ m, fv .f32 ((vs.map tW).getD (vs.length - o.toNat + k) 0) ≤ m → fv .f32 ((ws.map tW).getD k 0) ≤ m → fv .f32 (mixW (vs.map tW) (ws.map tW) o k) ≤ m) := by
  have m1 : (vs.map tW).length = vs.length := by simp
  have ki : vs.length - o.toNat + k < vs.length := by omega
  have kj : k < ws.length := by omega
  obtain ⟨ea, fa, va⟩ := q_at hv ki
  obtain ⟨eb, fb, vb⟩ := q_at hw kj
  have ba := q_bound hv ki
  have bb := q_bound hw kj
  obtain ⟨ds, dv⟩ := sub_quarter (small16_at hv (vs.length - o.toNat + k)) (small16_at hw k)
  unfold mixW
  rw [m1, ea, eb]
  rw [ea] at fa va ba
  rw [eb] at fb vb bb
  exact between fa fb ds (by rw [dv, va, vb]) (by rw [dv]; grind) (by rw [dv]; grind) (share_iv h1 (by omega) hk) (by grind) (by grind)

theorem q_join {o : Int} (h0 : 0 ≤ o) (h1 : o ≤ 4) (h2 : o ≤ vs.length) (h3 : o ≤ ws.length) (l1 : 1 ≤ vs.length) (l2 : 1 ≤ ws.length) (l3 : vs.length ≤ 100) (l4 : ws.length ≤ 100) :
    (joinSndF (vs.map tW) (ws.map tW) o).2 = true ∧ (((List.length (joinSndF (vs.map tW) (ws.map tW) o).1) : Nat) : Int) = (((((List.length (vs.map tW)) : Nat) : Int) + (((List.length (ws.map tW)) : Nat) : Int)) - o) ∧
    ((((List.length (vs.map tW)) : Nat) : Int) > o → fcmp .neq .f32 (List.getD (joinSndF (vs.map tW) (ws.map tW) o).1 0 0) (List.getD (vs.map tW) 0 0) = false) ∧
    ((((List.length (ws.map tW)) : Nat) : Int) > o → fcmp .neq .f32 (List.getD (joinSndF (vs.map tW) (ws.map tW) o).1 ((List.length (joinSndF (vs.map tW) (ws.map tW) o).1) - 1) 0) (List.getD (ws.map tW) ((List.length (ws.map tW)) - 1) 0) = false) ∧
    ∀ k : Nat, (k : Int) < o → fcmp .lss .f64 (fcv .f32 .f64 (List.getD (joinSndF (vs.map tW) (ws.map tW) o).1 (((List.length (vs.map tW)) + k) - (o).toNat) 0)) (fop .sub .f64 (fminmax false .f64 (fcv .f32 .f64 (List.getD (vs.map tW) (((List.length (vs.map tW)) + k) - (o).toNat) 0)) (fcv .f32 .f64 (List.getD (ws.map tW) k 0))) 4562254508917369340) = false ∧
      fcmp .gtr .f64 (fcv .f32 .f64 (List.getD (joinSndF (vs.map tW) (ws.map tW) o).1 (((List.length (vs.map tW)) + k) - (o).toNat) 0)) (fop .add .f64 (fminmax true .f64 (fcv .f32 .f64 (List.getD (vs.map tW) (((List.length (vs.map tW)) + k) - (o).toNat) 0)) (fcv .f32 .f64 (List.getD (ws.map tW) k 0))) 4562254508917369340) = false := by
  have m1 : (vs.map tW).length = vs.length := by simp
  have m2 : (ws.map tW).length = ws.length := by simp
  have s1 := q_snd hv (by omega); have s2 := q_snd hw (by omega)
  obtain ⟨j1, j2⟩ := join_list (vs.map tW) (ws.map tW) (o := o) (by omega)
  rw [m1, m2] at j1 j2
  have mix := fun k hk => mix_in hv hw h0 h1 h2 h3 (k := k) hk
  generalize hT : List.take (ws.length - o.toNat) (List.drop o.toNat (ws.map tW)) = T
  have lT : T.length = ws.length - o.toNat := by rw [← hT]; simp
  have gT : ∀ i, i < T.length → T.getD i 0 = (ws.map tW).getD (o.toNat + i) 0 := by
    intro i hi
    rw [← hT, List.getD_eq_getElem?_getD, List.getElem?_take, if_pos (by omega), List.getElem?_drop, ← List.getD_eq_getElem?_getD]
  generalize hJ : ev_JoinSounds_L1_S (vs.map tW) vs.length (ws.map tW) ws.length o o.toNat = J at *
  have left : ∀ i, i < vs.length → (J ++ T).getD i 0 = J.getD i 0 := fun i hi => by
    rw [List.getD_eq_getElem?_getD, List.getElem?_append_left (by omega), ← List.getD_eq_getElem?_getD]
  have right : ∀ i, i < T.length → (J ++ T).getD (vs.length + i) 0 = T.getD i 0 := fun i hi => by
    rw [List.getD_eq_getElem?_getD, List.getElem?_append_right (by omega), j1, ← List.getD_eq_getElem?_getD]; congr 1; omega
  have fin : isSnd (J ++ T) = true := by
    simp only [isSnd, Bool.and_eq_true, decide_eq_true_eq, List.length_append]
    refine ⟨by omega, allBelow_true.2 fun i hi => ?_⟩
    simp only [List.length_append] at hi
    show fin32 _ = true
    rcases Nat.lt_or_ge i vs.length with h | h
    · rw [left i h, j2 i h]
      split
      · exact fin32_isF.2 (mix _ (by omega)).1
      · exact fin32_isF.2 (q_at hv h).2.1
    · obtain ⟨d, rfl⟩ : ∃ d, i = vs.length + d := ⟨i - vs.length, by omega⟩
      rw [right d (by omega), gT d (by omega)]
      exact fin32_isF.2 (q_at hw (by omega)).2.1
  have e : joinSndF (vs.map tW) (ws.map tW) o = (J ++ T, true) := by
    unfold joinSndF
    rw [m1, m2, hJ, hT, if_pos s1, if_pos s2, if_pos h0, if_pos (by split <;> omega), if_pos fin]
  rw [e, m1, m2]
  refine ⟨rfl, by show (((J ++ T).length : Nat) : Int) = _; rw [List.length_append]; omega, fun h => ?_, fun h => ?_, fun k hk => ?_⟩
  · show fcmp .neq .f32 ((J ++ T).getD 0 0) _ = false
    rw [left 0 (by omega), j2 0 (by omega), if_neg (by omega)]
    have := (q_at hv (k := 0) (by omega)).2.1
    exact neq_fv this this rfl
  · show fcmp .neq .f32 ((J ++ T).getD ((J ++ T).length - 1) 0) _ = false
    have : (J ++ T).length - 1 = vs.length + (T.length - 1) := by rw [List.length_append]; omega
    rw [this, right _ (by omega), gT _ (by omega), show o.toNat + (T.length - 1) = ws.length - 1 by omega]
    have := (q_at hw (k := ws.length - 1) (by omega)).2.1
    exact neq_fv this this rfl
  · show fcmp .lss .f64 (fcv .f32 .f64 ((J ++ T).getD ((vs.length + k) - o.toNat) 0)) _ = false ∧ fcmp .gtr .f64 (fcv .f32 .f64 ((J ++ T).getD ((vs.length + k) - o.toNat) 0)) _ = false
    rw [show (vs.length + k) - o.toNat = vs.length - o.toNat + k by omega, left _ (by omega), j2 _ (by omega), if_pos (by omega), show vs.length - o.toNat + k - (vs.length - o.toNat) = k by omega]
    obtain ⟨z1, z2, z3⟩ := mix k hk
    have ki : vs.length - o.toNat + k < vs.length := by omega
    have kj : k < ws.length := by omega
    obtain ⟨_, fa, va⟩ := q_at hv ki
    obtain ⟨_, fb, vb⟩ := q_at hw kj
    have ba := q_bound hv ki
    have bb := q_bound hw kj
    obtain ⟨ua, na⟩ := fcv_up fa
    obtain ⟨ub, nb⟩ := fcv_up fb
    obtain ⟨uz, nz⟩ := fcv_up z1
    obtain ⟨p1, p2, p3, p4⟩ := fmin_le ua ub
    obtain ⟨q1, q2, q3, q4⟩ := fmax_ge64 ua ub
    have fc : isFl .f64 4562254508917369340 := finB_fl (by decide +kernel)
    have c0 : 0 ≤ fv .f64 4562254508917369340 := by decide +kernel
    have c1 : fv .f64 4562254508917369340 ≤ 1 := by decide +kernel
    have f8 : isFl .f64 4620693217682128896 := finB_fl (by decide +kernel)
    have v8 : fv .f64 4620693217682128896 = 8 := by decide +kernel
    have r1 := sub_Rd p1 fc
    have r2 := add_Rd q1 fc
    have t1 := r1.fin f8 (by rw [v8]; grind) (by rw [v8]; grind)
    have t2 := r2.fin f8 (by rw [v8]; grind) (by rw [v8]; grind)
    have u1 := r1.hi t1 p1 (by grind)
    have u2 := r2.lo t2 q1 (by grind)
    have lz := z2 (fv .f64 (fminmax false .f64 (fcv .f32 .f64 ((vs.map tW).getD (vs.length - o.toNat + k) 0)) (fcv .f32 .f64 ((ws.map tW).getD k 0)))) (by rw [← na]; exact p2) (by rw [← nb]; exact p3)
    have hz := z3 (fv .f64 (fminmax true .f64 (fcv .f32 .f64 ((vs.map tW).getD (vs.length - o.toNat + k) 0)) (fcv .f32 .f64 ((ws.map tW).getD k 0)))) (by rw [← na]; exact q2) (by rw [← nb]; exact q3)
    constructor
    · rw [Bool.eq_false_iff, ne_eq, lss_iff uz t1, nz]; grind
    · rw [Bool.eq_false_iff, ne_eq, gtr_iff uz t2, nz]; grind
end

/-! ### What the law says of the sounds that are drawn -/

theorem sd_draw {c m : List Int} (hb : bytesOk c) (hm : bytesOk m) : ∃ vs ws : List Int, small16 vs ∧ small16 ws ∧ (r8SoundF c ((4 : Int) + (atR m (40 : Int) (8 : Int)))) = vs.map tW ∧ (r8SoundF m ((4 : Int) + (atR m (41 : Int) (8 : Int)))) = ws.map tW ∧ 4 ≤ vs.length ∧ vs.length ≤ 11 ∧ 4 ≤ ws.length ∧ ws.length ≤ 11 ∧ 0 ≤ (atR m (42 : Int) (5 : Int)) ∧ (atR m (42 : Int) (5 : Int)) ≤ 4 := by
  have r0 := atR_range hm (i := 40) (n := 8) (by omega)
  have r1 := atR_range hm (i := 41) (n := 8) (by omega)
  have r2 := atR_range hm (i := 42) (n := 5) (by omega)
  obtain ⟨vs, l1, e1, s1⟩ := r8_sound hb (n := (4 : Int) + (atR m (40 : Int) (8 : Int)))
  obtain ⟨ws, l2, e2, s2⟩ := r8_sound hm (n := (4 : Int) + (atR m (41 : Int) (8 : Int)))
  exact ⟨vs, ws, s1, s2, e1, e2, by omega, by omega, by omega, by omega, by omega, by omega⟩

theorem sd_lens {c m : List Int} (hb : bytesOk c) (hm : bytesOk m) : 4 ≤ List.length (r8SoundF c ((4 : Int) + (atR m (40 : Int) (8 : Int)))) ∧ List.length (r8SoundF c ((4 : Int) + (atR m (40 : Int) (8 : Int)))) ≤ 11 ∧ 4 ≤ List.length (r8SoundF m ((4 : Int) + (atR m (41 : Int) (8 : Int)))) ∧ List.length (r8SoundF m ((4 : Int) + (atR m (41 : Int) (8 : Int)))) ≤ 11 ∧ 0 ≤ (atR m (42 : Int) (5 : Int)) ∧ (atR m (42 : Int) (5 : Int)) ≤ 4 := by
  obtain ⟨vs, ws, hv, hw, ea, eb, a1, a2, b1, b2, o0, o1⟩ := sd_draw hb hm
  rw [ea, eb, List.length_map, List.length_map]
  exact ⟨a1, a2, b1, b2, o0, o1⟩

theorem sd_w32 {c m : List Int} (hb : bytesOk c) (hm : bytesOk m) : ∀ y ∈ (r8SoundF c ((4 : Int) + (atR m (40 : Int) (8 : Int)))), w32 y := by
  obtain ⟨vs, ws, hv, hw, ea, eb, a1, a2, b1, b2, o0, o1⟩ := sd_draw hb hm
  rw [ea]; exact q_w32 vs

theorem sd_join {c m : List Int} (hb : bytesOk c) (hm : bytesOk m) : (joinSndF (r8SoundF c ((4 : Int) + (atR m (40 : Int) (8 : Int)))) (r8SoundF m ((4 : Int) + (atR m (41 : Int) (8 : Int)))) (atR m (42 : Int) (5 : Int))).2 = true ∧ (((List.length (joinSndF (r8SoundF c ((4 : Int) + (atR m (40 : Int) (8 : Int)))) (r8SoundF m ((4 : Int) + (atR m (41 : Int) (8 : Int)))) (atR m (42 : Int) (5 : Int))).1) : Nat) : Int) = (((((List.length (r8SoundF c ((4 : Int) + (atR m (40 : Int) (8 : Int))))) : Nat) : Int) + (((List.length (r8SoundF m ((4 : Int) + (atR m (41 : Int) (8 : Int))))) : Nat) : Int)) - (atR m (42 : Int) (5 : Int))) ∧
    ((((List.length (r8SoundF c ((4 : Int) + (atR m (40 : Int) (8 : Int))))) : Nat) : Int) > (atR m (42 : Int) (5 : Int)) → fcmp .neq .f32 (List.getD (joinSndF (r8SoundF c ((4 : Int) + (atR m (40 : Int) (8 : Int)))) (r8SoundF m ((4 : Int) + (atR m (41 : Int) (8 : Int)))) (atR m (42 : Int) (5 : Int))).1 0 0) (List.getD (r8SoundF c ((4 : Int) + (atR m (40 : Int) (8 : Int)))) 0 0) = false) ∧
    ((((List.length (r8SoundF m ((4 : Int) + (atR m (41 : Int) (8 : Int))))) : Nat) : Int) > (atR m (42 : Int) (5 : Int)) → fcmp .neq .f32 (List.getD (joinSndF (r8SoundF c ((4 : Int) + (atR m (40 : Int) (8 : Int)))) (r8SoundF m ((4 : Int) + (atR m (41 : Int) (8 : Int)))) (atR m (42 : Int) (5 : Int))).1 ((List.length (joinSndF (r8SoundF c ((4 : Int) + (atR m (40 : Int) (8 : Int)))) (r8SoundF m ((4 : Int) + (atR m (41 : Int) (8 : Int)))) (atR m (42 : Int) (5 : Int))).1) - 1) 0) (List.getD (r8SoundF m ((4 : Int) + (atR m (41 : Int) (8 : Int)))) ((List.length (r8SoundF m ((4 : Int) + (atR m (41 : Int) (8 : Int))))) - 1) 0) = false) ∧
    ∀ k : Nat, (k : Int) < (atR m (42 : Int) (5 : Int)) → fcmp .lss .f64 (fcv .f32 .f64 (List.getD (joinSndF (r8SoundF c ((4 : Int) + (atR m (40 : Int) (8 : Int)))) (r8SoundF m ((4 : Int) + (atR m (41 : Int) (8 : Int)))) (atR m (42 : Int) (5 : Int))).1 (((List.length (r8SoundF c ((4 : Int) + (atR m (40 : Int) (8 : Int))))) + k) - (atR m (42 : Int) (5 : Int)).toNat) 0)) (fop .sub .f64 (fminmax false .f64 (fcv .f32 .f64 (List.getD (r8SoundF c ((4 : Int) + (atR m (40 : Int) (8 : Int)))) (((List.length (r8SoundF c ((4 : Int) + (atR m (40 : Int) (8 : Int))))) + k) - (atR m (42 : Int) (5 : Int)).toNat) 0)) (fcv .f32 .f64 (List.getD (r8SoundF m ((4 : Int) + (atR m (41 : Int) (8 : Int)))) k 0))) 4562254508917369340) = false ∧
      fcmp .gtr .f64 (fcv .f32 .f64 (List.getD (joinSndF (r8SoundF c ((4 : Int) + (atR m (40 : Int) (8 : Int)))) (r8SoundF m ((4 : Int) + (atR m (41 : Int) (8 : Int)))) (atR m (42 : Int) (5 : Int))).1 (((List.length (r8SoundF c ((4 : Int) + (atR m (40 : Int) (8 : Int))))) + k) - (atR m (42 : Int) (5 : Int)).toNat) 0)) (fop .add .f64 (fminmax true .f64 (fcv .f32 .f64 (List.getD (r8SoundF c ((4 : Int) + (atR m (40 : Int) (8 : Int)))) (((List.length (r8SoundF c ((4 : Int) + (atR m (40 : Int) (8 : Int))))) + k) - (atR m (42 : Int) (5 : Int)).toNat) 0)) (fcv .f32 .f64 (List.getD (r8SoundF m ((4 : Int) + (atR m (41 : Int) (8 : Int)))) k 0))) 4562254508917369340) = false := by
  obtain ⟨vs, ws, hv, hw, ea, eb, a1, a2, b1, b2, o0, o1⟩ := sd_draw hb hm
  rw [ea, eb]
  exact q_join hv hw o0 o1 (by omega) (by omega) (by omega) (by omega) (by omega) (by omega)

theorem sd_less {c m : List Int} (hb : bytesOk c) (hm : bytesOk m) : (fadeEF (r8SoundF c ((4 : Int) + (atR m (40 : Int) (8 : Int)))) (atR m (42 : Int) (5 : Int)) (atR m (42 : Int) (5 : Int))).2 = true ∧ (reachF (r8SoundF c ((4 : Int) + (atR m (40 : Int) (8 : Int))))).2 = true ∧ (reachF (fadeEF (r8SoundF c ((4 : Int) + (atR m (40 : Int) (8 : Int)))) (atR m (42 : Int) (5 : Int)) (atR m (42 : Int) (5 : Int))).1).2 = true ∧ fcmp .gtr .f32 (reachF (fadeEF (r8SoundF c ((4 : Int) + (atR m (40 : Int) (8 : Int)))) (atR m (42 : Int) (5 : Int)) (atR m (42 : Int) (5 : Int))).1).1 (reachF (r8SoundF c ((4 : Int) + (atR m (40 : Int) (8 : Int))))).1 = false ∧
    (∀ y ∈ (fadeEF (r8SoundF c ((4 : Int) + (atR m (40 : Int) (8 : Int)))) (atR m (42 : Int) (5 : Int)) (atR m (42 : Int) (5 : Int))).1, w32 y) ∧ ∀ k, k < (List.length (r8SoundF c ((4 : Int) + (atR m (40 : Int) (8 : Int))))) → fcmp .gtr .f32 (List.getD (r8SoundF c ((4 : Int) + (atR m (40 : Int) (8 : Int)))) k 0) (reachF (r8SoundF c ((4 : Int) + (atR m (40 : Int) (8 : Int))))).1 = false ∧ fcmp .gtr .f32 (fneg .f32 (List.getD (r8SoundF c ((4 : Int) + (atR m (40 : Int) (8 : Int)))) k 0)) (reachF (r8SoundF c ((4 : Int) + (atR m (40 : Int) (8 : Int))))).1 = false := by
  obtain ⟨vs, ws, hv, hw, ea, eb, a1, a2, b1, b2, o0, o1⟩ := sd_draw hb hm
  rw [ea]
  obtain ⟨q1, q2, q3, q4, q5, q6⟩ := q_less hv (by omega) o0 o1 (by omega)
  exact ⟨q1, q2, q3, q4, q5, fun k hk => q6 k (by simpa using hk)⟩

theorem sd_sums {c m : List Int} (hb : bytesOk c) (hm : bytesOk m) : (addSndF (r8SoundF c ((4 : Int) + (atR m (40 : Int) (8 : Int)))) (r8SoundF m ((4 : Int) + (atR m (41 : Int) (8 : Int))))).2 = true ∧ (addSndF (r8SoundF m ((4 : Int) + (atR m (41 : Int) (8 : Int)))) (r8SoundF c ((4 : Int) + (atR m (40 : Int) (8 : Int))))).2 = true ∧
    (((List.length (addSndF (r8SoundF c ((4 : Int) + (atR m (40 : Int) (8 : Int)))) (r8SoundF m ((4 : Int) + (atR m (41 : Int) (8 : Int))))).1) : Nat) : Int) = (if (((List.length (r8SoundF m ((4 : Int) + (atR m (41 : Int) (8 : Int))))) : Nat) : Int) > (((List.length (r8SoundF c ((4 : Int) + (atR m (40 : Int) (8 : Int))))) : Nat) : Int) then (((List.length (r8SoundF m ((4 : Int) + (atR m (41 : Int) (8 : Int))))) : Nat) : Int) else (((List.length (r8SoundF c ((4 : Int) + (atR m (40 : Int) (8 : Int))))) : Nat) : Int)) ∧
    (((List.length (addSndF (r8SoundF m ((4 : Int) + (atR m (41 : Int) (8 : Int)))) (r8SoundF c ((4 : Int) + (atR m (40 : Int) (8 : Int))))).1) : Nat) : Int) = (((List.length (addSndF (r8SoundF c ((4 : Int) + (atR m (40 : Int) (8 : Int)))) (r8SoundF m ((4 : Int) + (atR m (41 : Int) (8 : Int))))).1) : Nat) : Int) ∧
    (∀ k, k < List.length (addSndF (r8SoundF c ((4 : Int) + (atR m (40 : Int) (8 : Int)))) (r8SoundF m ((4 : Int) + (atR m (41 : Int) (8 : Int))))).1 → fcmp .neq .f32 (List.getD (addSndF (r8SoundF c ((4 : Int) + (atR m (40 : Int) (8 : Int)))) (r8SoundF m ((4 : Int) + (atR m (41 : Int) (8 : Int))))).1 k 0) (List.getD (addSndF (r8SoundF m ((4 : Int) + (atR m (41 : Int) (8 : Int)))) (r8SoundF c ((4 : Int) + (atR m (40 : Int) (8 : Int))))).1 k 0) = false) ∧
    ∀ k, k < List.length (addSndF (r8SoundF c ((4 : Int) + (atR m (40 : Int) (8 : Int)))) (r8SoundF m ((4 : Int) + (atR m (41 : Int) (8 : Int))))).1 → k < (List.length (r8SoundF c ((4 : Int) + (atR m (40 : Int) (8 : Int))))) → k < (List.length (r8SoundF m ((4 : Int) + (atR m (41 : Int) (8 : Int))))) → fcmp .neq .f32 (List.getD (addSndF (r8SoundF c ((4 : Int) + (atR m (40 : Int) (8 : Int)))) (r8SoundF m ((4 : Int) + (atR m (41 : Int) (8 : Int))))).1 k 0) (fop .add .f32 (List.getD (r8SoundF c ((4 : Int) + (atR m (40 : Int) (8 : Int)))) k 0) (List.getD (r8SoundF m ((4 : Int) + (atR m (41 : Int) (8 : Int)))) k 0)) = false := by
  obtain ⟨vs, ws, hv, hw, ea, eb, a1, a2, b1, b2, o0, o1⟩ := sd_draw hb hm
  rw [ea, eb]
  obtain ⟨q1, q2, q3, q4, q5, q6⟩ := q_sums hv hw (by omega) (by omega)
  exact ⟨q1, q2, q3, q4, q5, fun k hk h1 h2 => q6 k hk (by simpa using h1) (by simpa using h2)⟩

theorem sd_energy {c m : List Int} (hb : bytesOk c) (hm : bytesOk m) : (scaleSF (r8SoundF c ((4 : Int) + (atR m (40 : Int) (8 : Int)))) 1073741824).2 = true ∧ (energySF (r8SoundF c ((4 : Int) + (atR m (40 : Int) (8 : Int))))).2 = true ∧ (energySF (scaleSF (r8SoundF c ((4 : Int) + (atR m (40 : Int) (8 : Int)))) 1073741824).1).2 = true ∧ fconvOk .f64 .f32 (en64 (r8SoundF c ((4 : Int) + (atR m (40 : Int) (8 : Int)))) (List.length (r8SoundF c ((4 : Int) + (atR m (40 : Int) (8 : Int)))))) ∧
    fconvOk .f64 .f32 (en64 (scaleSF (r8SoundF c ((4 : Int) + (atR m (40 : Int) (8 : Int)))) 1073741824).1 (List.length (scaleSF (r8SoundF c ((4 : Int) + (atR m (40 : Int) (8 : Int)))) 1073741824).1)) ∧
    fcmp .gtr .f64 (gapR (fcv .f32 .f64 (energySF (scaleSF (r8SoundF c ((4 : Int) + (atR m (40 : Int) (8 : Int)))) 1073741824).1).1) (fop .mul .f64 4616189618054758400 (fcv .f32 .f64 (energySF (r8SoundF c ((4 : Int) + (atR m (40 : Int) (8 : Int))))).1))) (fop .mul .f64 4562254508917369340 (fop .add .f64 4607182418800017408 (fcv .f32 .f64 (energySF (scaleSF (r8SoundF c ((4 : Int) + (atR m (40 : Int) (8 : Int)))) 1073741824).1).1))) = false := by
  obtain ⟨vs, ws, hv, hw, ea, eb, a1, a2, b1, b2, o0, o1⟩ := sd_draw hb hm
  rw [ea]
  exact q_energy hv (by omega)

theorem sd_double {c m : List Int} (hb : bytesOk c) (hm : bytesOk m) : ∀ k, k < List.length (r8SoundF c ((4 : Int) + (atR m (40 : Int) (8 : Int)))) → fcmp .neq .f32 (List.getD (scaleSF (r8SoundF c ((4 : Int) + (atR m (40 : Int) (8 : Int)))) 1073741824).1 k 0) (fop .mul .f32 1073741824 (List.getD (r8SoundF c ((4 : Int) + (atR m (40 : Int) (8 : Int)))) k 0)) = false := by
  obtain ⟨vs, ws, hv, hw, ea, eb, a1, a2, b1, b2, o0, o1⟩ := sd_draw hb hm
  rw [ea]
  exact fun k hk => q_double hv (by omega) (by simpa using hk)

theorem sd_dlen {c m : List Int} (hb : bytesOk c) (hm : bytesOk m) : List.length (scaleSF (r8SoundF c ((4 : Int) + (atR m (40 : Int) (8 : Int)))) 1073741824).1 = List.length (r8SoundF c ((4 : Int) + (atR m (40 : Int) (8 : Int)))) := by
  obtain ⟨vs, ws, hv, hw, ea, eb, a1, a2, b1, b2, o0, o1⟩ := sd_draw hb hm
  rw [ea, q_scale hv (by omega)]; simp

end Go.Sim
