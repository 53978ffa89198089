/- Sounds and ladders that are drawn: steps up and residues, exactly. Conditions: none. -/

import Derived.Test.YtgjdkhocnnoimaaProg
import Derived.KernelRfl
import Derived.Test.YtgjdkhocnnoimaaPGsu
import Derived.Test.YtgjdkhocnnoimaaPGq8
import Derived.Test.YtgjdkhocnnoimaaPGre
import Derived.Test.YtgjdkhocnnoimaaPwE
import Derived.Test.YtgjdkhocnnoimaaPu2

set_option linter.unusedSimpArgs false

set_option linter.unusedVariables false

namespace Go.Sim

open Go Go.Proofs

/-! ### Sounds of quarters, ladders of eighths -/

def tW (v : Int) : Nat := fop .quo .f32 (cvI v) 1082130432
def eW (v : Int) : Nat := fop .quo .f32 (cvI v) 1090519040

def quarterB (v : Int) : Bool := finB .f32 (tW v) && decide (fv .f32 (tW v) = (v : Rat) * (1 / 4)) && Nat.beq (fop .mul .f32 1056964608 (tW v)) (fop .mul .f32 (tW v) 1056964608) && finB .f32 (fop .mul .f32 (tW v) 1056964608) && decide (fv .f32 (fop .mul .f32 (tW v) 1056964608) = (v : Rat) * (1 / 8))
def eighthB (v : Int) : Bool := finB .f32 (eW v) && decide (fv .f32 (eW v) = (v : Rat) * (1 / 8)) && isStp (eW v)
theorem tabQr : ∀ n, n < 17 → quarterB (((n : Nat) : Int) - 8) = true := by decide +kernel
theorem tabEi : ∀ n, n < 9 → eighthB (((n : Nat) : Int) - 4) = true := by decide +kernel

theorem quarter {v : Int} (h0 : -8 ≤ v) (h1 : v ≤ 8) : isFl .f32 (tW v) ∧ fv .f32 (tW v) = (v : Rat) * (1 / 4) ∧ fop .mul .f32 1056964608 (tW v) = fop .mul .f32 (tW v) 1056964608 ∧ isFl .f32 (fop .mul .f32 (tW v) 1056964608) ∧ fv .f32 (fop .mul .f32 (tW v) 1056964608) = (v : Rat) * (1 / 8) := by
  obtain ⟨n, rfl⟩ : ∃ n : Nat, v = ((n : Nat) : Int) - 8 := ⟨(v + 8).toNat, by omega⟩
  have := tabQr n (by omega)
  simp only [quarterB, Bool.and_eq_true, decide_eq_true_eq] at this
  exact ⟨finB_fl this.1.1.1.1, this.1.1.1.2, Nat.eq_of_beq_eq_true this.1.1.2, finB_fl this.1.2, this.2⟩
theorem eighth {v : Int} (h0 : -4 ≤ v) (h1 : v ≤ 4) : isFl .f32 (eW v) ∧ fv .f32 (eW v) = (v : Rat) * (1 / 8) ∧ isStp (eW v) = true := by
  obtain ⟨n, rfl⟩ : ∃ n : Nat, v = ((n : Nat) : Int) - 4 := ⟨(v + 4).toNat, by omega⟩
  have := tabEi n (by omega)
  simp only [eighthB, Bool.and_eq_true, decide_eq_true_eq] at this
  exact ⟨finB_fl this.1.1, this.1.2, this.2⟩

def inB (b : Int) (vs : List Int) : Prop := ∀ v ∈ vs, -b ≤ v ∧ v ≤ b
theorem inB_at {b : Int} {vs : List Int} (h : inB b vs) (hb : 0 ≤ b) (k : Nat) : -b ≤ vs.getD k 0 ∧ vs.getD k 0 ≤ b := by
  rcases Nat.lt_or_ge k vs.length with hk | hk
  · have e : vs.getD k 0 = vs[k] := by simp [hk]
    rw [e]; exact h _ (List.getElem_mem hk)
  · have e : vs.getD k 0 = 0 := by simp [hk]
    rw [e]; omega
theorem tW_get (vs : List Int) (k : Nat) : (vs.map tW).getD k 0 = tW (vs.getD k 0) := by
  have z : tW 0 = 0 := by decide +kernel
  rcases Nat.lt_or_ge k vs.length with hk | hk
  · simp [hk]
  · simp [hk, z]
theorem eW_get (vs : List Int) (k : Nat) : (vs.map eW).getD k 0 = eW (vs.getD k 0) := by
  have z : eW 0 = 0 := by decide +kernel
  rcases Nat.lt_or_ge k vs.length with hk | hk
  · simp [hk]
  · simp [hk, z]
theorem rangeD {f : Nat → Nat} {n k : Nat} (hk : k < n) : ((List.range n).map f).getD k 0 = f k := by simp [hk]
theorem allFin_range {n : Nat} {f : Nat → Nat} (h : ∀ k, k < n → isFl .f32 (f k)) : allFin ((List.range n).map f) = true := by
  refine allBelow_true.2 fun k hk => ?_
  have hk : k < n := by simpa using hk
  rw [rangeD hk]; exact fin32_isF.2 (h k hk)
theorem allFin_at {xs : List Nat} (h : ∀ k, k < xs.length → isFl .f32 (xs.getD k 0)) : allFin xs = true := allBelow_true.2 fun k hk => fin32_isF.2 (h k hk)

theorem r8_whole {c : List Int} (hb : bytesOk c) (m : Nat) (n : Int) : ∀ k, ∃ vs : List Int, vs.length = k ∧ (ev_R8Sound_L1_S c m n k).1 = vs.map tW ∧ inB 8 vs := by
  intro k
  induction k with
  | zero => exact ⟨[], rfl, rfl, fun v hv => by cases hv⟩
  | succ k ih =>
    obtain ⟨vs, hl, hw, hs⟩ := ih
    simp only [ev_R8Sound_L1_S]
    generalize ev_R8Sound_L1_S c m n k = s at hw ⊢
    have q := pickV_range hb s.2.1 s.2.2 (n := 17) (by omega)
    refine ⟨vs ++ [pickV c s.2.1 s.2.2 17 - 8], by simp [hl], ?_, fun v hv => ?_⟩
    · show s.1 ++ [_] = _
      rw [hw, List.map_append]; rfl
    · rcases List.mem_append.1 hv with h | h
      · exact hs v h
      · simp only [List.mem_singleton] at h; subst h; omega
theorem r8_lad {c : List Int} (hb : bytesOk c) (m : Nat) (n : Int) : ∀ k, ∃ vs : List Int, vs.length = k ∧ (ev_R8Ladder_L1_S c m n k).1 = vs.map eW ∧ inB 4 vs := by
  intro k
  induction k with
  | zero => exact ⟨[], rfl, rfl, fun v hv => by cases hv⟩
  | succ k ih =>
    obtain ⟨vs, hl, hw, hs⟩ := ih
    simp only [ev_R8Ladder_L1_S]
    generalize ev_R8Ladder_L1_S c m n k = s at hw ⊢
    have q := pickV_range hb s.2.1 s.2.2 (n := 9) (by omega)
    refine ⟨vs ++ [pickV c s.2.1 s.2.2 9 - 4], by simp [hl], ?_, fun v hv => ?_⟩
    · show s.1 ++ [_] = _
      rw [hw, List.map_append]; rfl
    · rcases List.mem_append.1 hv with h | h
      · exact hs v h
      · simp only [List.mem_singleton] at h; subst h; omega
theorem r8_sound {c : List Int} (hb : bytesOk c) (n : Int) : ∃ vs : List Int, vs.length = n.toNat ∧ r8SoundF c n = vs.map tW ∧ inB 8 vs := r8_whole hb _ n _
theorem r8_ladder {c : List Int} (hb : bytesOk c) (n : Int) : ∃ vs : List Int, vs.length = n.toNat ∧ r8LadF c n = vs.map eW ∧ inB 4 vs := r8_lad hb _ n _

def xv (vs : List Int) (n : Nat) : Rat := ((vs.getD n 0 : Int) : Rat) * (1 / 4)
def rqv (ws : List Int) (n : Nat) : Rat := ((ws.getD n 0 : Int) : Rat) * (1 / 8)

theorem gr_frac (n : Int) (j : Nat) {d : Rat} (h : d * P2 j = 1) : gr j ((n : Rat) * d) := ⟨n, by rw [Rat.mul_assoc, h, Rat.mul_one]⟩
theorem int_bd {n b : Int} (h : -b ≤ n ∧ n ≤ b) : (n : Rat) ≤ (b : Rat) ∧ -(b : Rat) ≤ (n : Rat) :=
  ⟨Rat.intCast_le_intCast.2 h.2, by have := Rat.intCast_le_intCast.2 h.1; rw [Rat.intCast_neg] at this; exact this⟩

theorem xv_at {vs : List Int} (hv : inB 8 vs) (k : Nat) : isFl .f32 ((vs.map tW).getD k 0) ∧ fv .f32 ((vs.map tW).getD k 0) = xv vs k ∧ gr 2 (xv vs k) ∧ xv vs k ≤ 2 ∧ -2 ≤ xv vs k := by
  have r := inB_at hv (by omega) k
  obtain ⟨a, b, _⟩ := quarter r.1 r.2
  obtain ⟨c, d⟩ := int_bd r
  have e8 : ((8 : Int) : Rat) = 8 := rfl
  rw [e8] at c d
  rw [tW_get]
  exact ⟨a, b, gr_frac _ 2 (by decide +kernel), by unfold xv; grind, by unfold xv; grind⟩
theorem rv_at {ws : List Int} (hw : inB 4 ws) (k : Nat) : isFl .f32 ((ws.map eW).getD k 0) ∧ fv .f32 ((ws.map eW).getD k 0) = rqv ws k ∧ gr 3 (rqv ws k) ∧ rqv ws k ≤ 1 / 2 ∧ -(1 / 2) ≤ rqv ws k := by
  have r := inB_at hw (by omega) k
  obtain ⟨a, b, _⟩ := eighth r.1 r.2
  obtain ⟨c, d⟩ := int_bd r
  have e4 : ((4 : Int) : Rat) = 4 := rfl
  rw [e4] at c d
  rw [eW_get]
  exact ⟨a, b, gr_frac _ 3 (by decide +kernel), by unfold rqv; grind, by unfold rqv; grind⟩

theorem snd_tW {vs : List Int} (hv : inB 8 vs) (hl : vs.length ≤ 256) : isSnd (vs.map tW) = true := by
  simp only [isSnd, Bool.and_eq_true, decide_eq_true_eq, List.length_map]
  exact ⟨hl, allFin_at fun k _ => (xv_at hv k).1⟩

/-! ### Steps up -/

theorem stepup_exact {ws : List Int} (hw : inB 4 ws) (hl : ws.length ≤ 6) (n g : Nat) : ∀ m, m ≤ 6 → (ev_impl_StepUp_L1_S (ws.map eW) n g m).length = m ∧ ∀ k, k < m → isFl .f32 ((ev_impl_StepUp_L1_S (ws.map eW) n g m).getD k 0) ∧ fv .f32 ((ev_impl_StepUp_L1_S (ws.map eW) n g m).getD k 0) = aR (rqv ws) m k := by
  intro m
  induction m with
  | zero => intro _; exact ⟨rfl, fun k hk => by omega⟩
  | succ m ih =>
    intro hm
    obtain ⟨i1, i2⟩ := ih (by omega)
    have hS : ev_impl_StepUp_L1_S (ws.map eW) n g (m + 1) = ((List.range m).map fun k2 => fop .sub .f32 (List.getD (ev_impl_StepUp_L1_S (ws.map eW) n g m) k2 0) (fop .mul .f32 (List.getD (ws.map eW) m 0) (List.getD (ev_impl_StepUp_L1_S (ws.map eW) n g m) (m - (k2 + 1)) 0))) ++ [List.getD (ws.map eW) m 0] := by
      show ev_impl_StepUp_L2_S (ws.map eW) n g m (ev_impl_StepUp_L1_S (ws.map eW) n g m) m ++ _ = _
      rw [set_all m (fun k2 => fop .sub .f32 (List.getD (ev_impl_StepUp_L1_S (ws.map eW) n g m) k2 0) (fop .mul .f32 (List.getD (ws.map eW) m 0) (List.getD (ev_impl_StepUp_L1_S (ws.map eW) n g m) (m - (k2 + 1)) 0))) (ev_impl_StepUp_L2_S (ws.map eW) n g m (ev_impl_StepUp_L1_S (ws.map eW) n g m)) (by simp [ev_impl_StepUp_L2_S]) (fun _ => rfl)]
    rw [hS]
    generalize ev_impl_StepUp_L1_S (ws.map eW) n g m = S at *
    refine ⟨by simp, fun k hk => ?_⟩
    rcases Nat.lt_or_ge k m with h | h
    · rw [List.getD_eq_getElem?_getD, List.getElem?_append_left (by simp; omega), ← List.getD_eq_getElem?_getD, rangeD h]
      obtain ⟨a1, a2⟩ := i2 k h
      obtain ⟨b1, b2⟩ := i2 (m - (k + 1)) (by omega)
      rw [show m - (k + 1) = m - 1 - k by omega] at b1 b2 ⊢
      exact up_step (fun k => (rv_at hw k).2.2.1) (fun k => (rv_at hw k).2.2.2) (by omega) h a1 a2 b1 b2 (rv_at hw m).1 (rv_at hw m).2.1
    · have : k = m := by omega
      subst this
      rw [List.getD_eq_getElem?_getD, List.getElem?_append_right (by simp)]
      simp only [List.length_map, List.length_range, Nat.sub_self, List.getElem?_cons_zero, Option.getD_some]
      obtain ⟨a, b, _⟩ := rv_at hw k
      refine ⟨a, ?_⟩
      rw [b]; simp only [aR, upR]; rw [if_neg (by omega)]

theorem ladder_stp {ws : List Int} (hw : inB 4 ws) : allStp (ws.map eW) = true := allBelow_true.2 fun k _ => by
  have r := inB_at hw (by omega) k
  rw [eW_get]; exact (eighth r.1 r.2).2.2

theorem stepup_w32 (ws : List Int) (n g : Nat) : ∀ m, ∀ y ∈ ev_impl_StepUp_L1_S (ws.map eW) n g m, w32 y := by
  intro m
  cases m with
  | zero => intro y hy; cases hy
  | succ m =>
    intro y hy
    have hS : ev_impl_StepUp_L1_S (ws.map eW) n g (m + 1) = ev_impl_StepUp_L2_S (ws.map eW) n g m (ev_impl_StepUp_L1_S (ws.map eW) n g m) m ++ [List.getD (ws.map eW) m 0] := rfl
    rw [hS, set_all m (fun k2 => fop .sub .f32 (List.getD (ev_impl_StepUp_L1_S (ws.map eW) n g m) k2 0) (fop .mul .f32 (List.getD (ws.map eW) m 0) (List.getD (ev_impl_StepUp_L1_S (ws.map eW) n g m) (m - (k2 + 1)) 0))) (ev_impl_StepUp_L2_S (ws.map eW) n g m (ev_impl_StepUp_L1_S (ws.map eW) n g m)) (by simp [ev_impl_StepUp_L2_S]) (fun _ => rfl)] at hy
    rcases List.mem_append.1 hy with h | h
    · simp only [List.mem_map] at h
      obtain ⟨_, _, rfl⟩ := h
      exact w32_fop ..
    · simp only [List.mem_singleton] at h
      subst h
      rw [eW_get]; exact w32_fop ..

structure PredOk (st : List Nat) (a : Nat → Rat) (n : Nat) : Prop where
  l : st.length = n
  h : ∀ k, k < st.length → isFl .f32 (st.getD k 0) ∧ fv .f32 (st.getD k 0) = a k ∧ gr (3 * n) (a k) ∧ a k ≤ cB n ∧ -cB n ≤ a k

theorem stepup_ok {ws : List Int} (hw : inB 4 ws) {n : Nat} (hl : ws.length = n) (h6 : n ≤ 6) {g : Nat} :
    ∃ st, stepUpF (ws.map eW) g = (st, g, true) ∧ PredOk st (aR (rqv ws) n) n ∧ ∀ y ∈ st, w32 y := by
  have L : (ws.map eW).length = n := by rw [List.length_map, hl]
  have X := fun m hm => stepup_exact hw (by omega) n g m hm
  have f : ∀ m, m ≤ 6 → allFin (ev_impl_StepUp_L1_S (ws.map eW) n g m) = true := fun m hm => allFin_at fun k hk => ((X m hm).2 k (by rw [(X m hm).1] at hk; exact hk)).1
  refine ⟨ev_impl_StepUp_L1_S (ws.map eW) n g n, ?_, ⟨(X n h6).1, fun k hk => ?_⟩, stepup_w32 ws n g n⟩
  · unfold stepUpF
    rw [L, if_pos, if_pos (f n h6)]
    · refine allBelow_true.2 fun k hk => ?_
      have fk := f (k + 1) (by omega)
      have e : ev_impl_StepUp_L1_S (ws.map eW) n g (k + 1) = ev_impl_StepUp_L2_S (ws.map eW) n g k (ev_impl_StepUp_L1_S (ws.map eW) n g k) k ++ [List.getD (ws.map eW) k 0] := rfl
      rw [e, allFin_append, Bool.and_eq_true] at fk
      unfold ev_impl_StepUp_L1_good
      rw [if_pos fk.1]
  · have hk : k < n := by rw [(X n h6).1] at hk; exact hk
    obtain ⟨a, b⟩ := (X n h6).2 k hk
    exact ⟨a, b, aR_gr (fun k => (rv_at hw k).2.2.1) n k, aR_bd (fun k => (rv_at hw k).2.2.2) n k⟩

/-! ### Residues, exactly -/

theorem residue_list (st : List Nat) (g : Nat) (xs : List Nat) : ev_changedE_L1_S xs xs.length st st.length g xs.length = (List.range xs.length).map fun k => fop .sub .f32 (List.getD xs k 0) (predAt st xs k) :=
  set_all _ _ (ev_changedE_L1_S xs xs.length st st.length g) (by simp [ev_changedE_L1_S]) (fun _ => rfl)

theorem residue_ok {st : List Nat} {g : Nat} {xs : List Nat} (hs : isSnd xs = true) (h : ∀ k, k < xs.length → isFl .f32 (fop .sub .f32 (List.getD xs k 0) (predAt st xs k))) :
    residueF st g xs = ((List.range xs.length).map (fun k => fop .sub .f32 (List.getD xs k 0) (predAt st xs k)), true) := by
  unfold residueF changedE
  rw [if_pos hs, residue_list, if_pos (allFin_range h)]

section
variable {st : List Nat} {a : Nat → Rat} {n : Nat} (P : PredOk st a n) (h1 : 1 ≤ n) (h4 : n ≤ 4) {vs : List Int} (hv : inB 8 vs)
include P h4 hv

theorem pa_exact (xs : List Nat) (m : Nat) (hx : ∀ k, k < m → isFl .f32 (xs.getD k 0) ∧ fv .f32 (xs.getD k 0) = xv vs k) :
    isFl .f32 (predAt st xs m) ∧ fv .f32 (predAt st xs m) = xv vs m - resR (xv vs) a n m ∧ gr 14 (fv .f32 (predAt st xs m)) ∧ fv .f32 (predAt st xs m) ≤ 27 / 2 ∧ -(27 / 2) ≤ fv .f32 (predAt st xs m) := by
  have c := cB_le4 n (by omega)
  have c0 := cB_ge n
  have hP : ∀ k, k < st.length → isFl .f32 (st.getD k 0) ∧ fv .f32 (st.getD k 0) = a k ∧ gr 12 (a k) ∧ a k ≤ 27 / 16 ∧ -(27 / 16) ≤ a k := fun k hk => by
    obtain ⟨p1, p2, p3, p4, p5⟩ := P.h k hk
    exact ⟨p1, p2, p3.up (by omega), by grind, by grind⟩
  have hX : ∀ k, k < m → isFl .f32 (xs.getD k 0) ∧ fv .f32 (xs.getD k 0) = xv vs k ∧ gr 2 (xv vs k) ∧ xv vs k ≤ 2 ∧ -2 ≤ xv vs k := fun k hk => by
    obtain ⟨_, _, q3, q4, q5⟩ := xv_at hv k
    exact ⟨(hx k hk).1, (hx k hk).2, q3, q4, q5⟩
  obtain ⟨r1, r2, r3, r4, r5⟩ := pred_exact (n := m) (C := 27 / 16) (by grind) (by grind) hP hX (min st.length m) (by omega) (by omega) (by have := P.l; omega)
  have hk : ((min st.length m : Nat) : Rat) ≤ 4 := natR_le (b := 4) (by have := P.l; omega)
  have e : sumR (fun k => a k * sh (xv vs) (k + 1) m) n = sumR (fun k => a k * xv vs (m - (k + 1))) (min st.length m) := by rw [res_min, P.l]
  refine ⟨r1, ?_, r3, ?_, ?_⟩
  · unfold predAt resR
    rw [r2, e]; grind
  · unfold predAt; grind
  · unfold predAt; grind

theorem rs_exact (m : Nat) : isFl .f32 (fop .sub .f32 (List.getD (vs.map tW) m 0) (predAt st (vs.map tW) m)) ∧ fv .f32 (fop .sub .f32 (List.getD (vs.map tW) m 0) (predAt st (vs.map tW) m)) = resR (xv vs) a n m ∧ gr 14 (resR (xv vs) a n m) ∧ resR (xv vs) a n m ≤ 31 / 2 ∧ -(31 / 2) ≤ resR (xv vs) a n m := by
  obtain ⟨x1, x2, x3, x4, x5⟩ := xv_at hv m
  obtain ⟨p1, p2, p3, p4, p5⟩ := pa_exact P h4 hv (vs.map tW) m (fun k _ => ⟨(xv_at hv k).1, (xv_at hv k).2.1⟩)
  have e : fv .f32 ((vs.map tW).getD m 0) - fv .f32 (predAt st (vs.map tW) m) = resR (xv vs) a n m := by rw [x2, p2]; grind
  have g : gr 14 (resR (xv vs) a n m) := by rw [← e, x2]; exact (x3.up (by omega)).sub p3
  have r := sub_Rd x1 p1
  rw [e] at r
  have b : resR (xv vs) a n m ≤ 31 / 2 ∧ -(31 / 2) ≤ resR (xv vs) a n m := by rw [← e, x2]; exact ⟨by grind, by grind⟩
  obtain ⟨f, w⟩ := ex20 r (g.up (by omega)) (by grind) (by grind)
  exact ⟨f, w, g, b.1, b.2⟩

theorem mk_exact {f : Nat → Nat} (hf : ∀ k, k < 12 → isFl .f32 (f k) ∧ fv .f32 (f k) = resR (xv vs) a n k) : ∀ m, m ≤ 12 → ∀ k, k < m → isFl .f32 ((makL st f m).getD k 0) ∧ fv .f32 ((makL st f m).getD k 0) = xv vs k := by
  intro m
  induction m with
  | zero => intro _ k hk; omega
  | succ m ih =>
    intro hm k hk
    have ih := ih (by omega)
    have len := makL_len st f m
    rcases Nat.lt_or_ge k m with g | g
    · have e : (makL st f (m + 1)).getD k 0 = (makL st f m).getD k 0 := by
        simp only [makL]
        rw [List.getD_eq_getElem?_getD, List.getElem?_append_left (by omega), ← List.getD_eq_getElem?_getD]
      rw [e]; exact ih k g
    · have hkm : k = m := by omega
      subst hkm
      have e : (makL st f (k + 1)).getD k 0 = fop .add .f32 (f k) (predAt st (makL st f k) k) := by
        simp only [makL]
        rw [List.getD_eq_getElem?_getD, List.getElem?_append_right (by omega), len]; simp
      rw [e]
      obtain ⟨f1, f2⟩ := hf k (by omega)
      obtain ⟨_, _, g1, _⟩ := rs_exact P h4 hv k
      obtain ⟨p1, p2, p3, p4, p5⟩ := pa_exact P h4 hv (makL st f k) k ih
      obtain ⟨_, _, x3, x4, x5⟩ := xv_at hv k
      have r := add_Rd f1 p1
      rw [f2, p2, show resR (xv vs) a n k + (xv vs k - resR (xv vs) a n k) = xv vs k by grind] at r
      exact ex20 r (x3.up (by omega)) (by grind) (by grind)
end

end Go.Sim
