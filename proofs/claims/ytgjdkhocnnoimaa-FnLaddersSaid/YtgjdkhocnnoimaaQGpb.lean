/- Sounds that are drawn: their lags, and what solves them. Conditions: none. -/
import Derived.Test.YtgjdkhocnnoimaaProg
import Derived.KernelRfl
import Derived.Test.YtgjdkhocnnoimaaQGsu
import Derived.Test.YtgjdkhocnnoimaaQGq8
import Derived.Test.YtgjdkhocnnoimaaQGre
import Derived.Test.YtgjdkhocnnoimaaPwJ
import Derived.Test.YtgjdkhocnnoimaaPu2
import Derived.Test.YtgjdkhocnnoimaaQGlv

section
set_option linter.unusedSimpArgs false

set_option linter.unusedVariables false

namespace Go.Sim

open Go Go.Proofs

/-! ### Sounds of quarters, ladders of eighths -/

def tW (v : Int) : Nat := fop .quo .f32 (cvI v) 1082130432
def eW (v : Int) : Nat := fop .quo .f32 (cvI v) 1090519040

def quarterB (v : Int) : Bool := finB .f32 (tW v) && decide (fv .f32 (tW v) = (v : Rat) * (1 / 4)) && Nat.beq (fop .mul .f32 1056964608 (tW v)) (fop .mul .f32 (tW v) 1056964608) && finB .f32 (fop .mul .f32 (tW v) 1056964608) && decide (fv .f32 (fop .mul .f32 (tW v) 1056964608) = (v : Rat) * (1 / 8))
def eighthB (v : Int) : Bool := finB .f32 (eW v) && decide (fv .f32 (eW v) = (v : Rat) * (1 / 8)) && isStp (eW v)
theorem tabQr : ∀ n, n < 25 → quarterB (((n : Nat) : Int) - 12) = true := by decide +kernel
theorem tabEi : ∀ n, n < 9 → eighthB (((n : Nat) : Int) - 4) = true := by decide +kernel

theorem quarter {v : Int} (h0 : -12 ≤ v) (h1 : v ≤ 12) : isFl .f32 (tW v) ∧ fv .f32 (tW v) = (v : Rat) * (1 / 4) ∧ fop .mul .f32 1056964608 (tW v) = fop .mul .f32 (tW v) 1056964608 ∧ isFl .f32 (fop .mul .f32 (tW v) 1056964608) ∧ fv .f32 (fop .mul .f32 (tW v) 1056964608) = (v : Rat) * (1 / 8) := by
  obtain ⟨n, rfl⟩ : ∃ n : Nat, v = ((n : Nat) : Int) - 12 := ⟨(v + 12).toNat, by omega⟩
  have := tabQr n (by omega)
  simp only [quarterB, Bool.and_eq_true, decide_eq_true_eq] at this
  exact ⟨finB_fl this.1.1.1.1, this.1.1.1.2, Nat.eq_of_beq_eq_true this.1.1.2, finB_fl this.1.2, this.2⟩
theorem eighth {v : Int} (h0 : -4 ≤ v) (h1 : v ≤ 4) : isFl .f32 (eW v) ∧ fv .f32 (eW v) = (v : Rat) * (1 / 8) ∧ isStp (eW v) = true := by
  obtain ⟨n, rfl⟩ : ∃ n : Nat, v = ((n : Nat) : Int) - 4 := ⟨(v + 4).toNat, by omega⟩
  have := tabEi n (by omega)
  simp only [eighthB, Bool.and_eq_true, decide_eq_true_eq] at this
  exact ⟨finB_fl this.1.1, this.1.2, this.2⟩

def inB (b : Int) (vs : List Int) : Prop := ∀ v ∈ vs, -b ≤ v ∧ v ≤ b
theorem inB_at {b : Int} {vs : List Int} (h : inB b vs) (hb : 0 ≤ b) (k : Nat) : -b ≤ vs.getD k 0 ∧ vs.getD k 0 ≤ b := by
  rcases Nat.lt_or_ge k vs.length with hk | hk
  · have e : vs.getD k 0 = vs[k] := by simp [hk]
    rw [e]; exact h _ (List.getElem_mem hk)
  · have e : vs.getD k 0 = 0 := by simp [hk]
    rw [e]; omega
theorem tW_get (vs : List Int) (k : Nat) : (vs.map tW).getD k 0 = tW (vs.getD k 0) := by
  have z : tW 0 = 0 := by decide +kernel
  rcases Nat.lt_or_ge k vs.length with hk | hk
  · simp [hk]
  · simp [hk, z]
theorem eW_get (vs : List Int) (k : Nat) : (vs.map eW).getD k 0 = eW (vs.getD k 0) := by
  have z : eW 0 = 0 := by decide +kernel
  rcases Nat.lt_or_ge k vs.length with hk | hk
  · simp [hk]
  · simp [hk, z]
theorem rangeD {f : Nat → Nat} {n k : Nat} (hk : k < n) : ((List.range n).map f).getD k 0 = f k := by simp [hk]
theorem allFin_range {n : Nat} {f : Nat → Nat} (h : ∀ k, k < n → isFl .f32 (f k)) : allFin ((List.range n).map f) = true := by
  refine allBelow_true.2 fun k hk => ?_
  have hk : k < n := by simpa using hk
  rw [rangeD hk]; exact fin32_isF.2 (h k hk)
theorem allFin_at {xs : List Nat} (h : ∀ k, k < xs.length → isFl .f32 (xs.getD k 0)) : allFin xs = true := allBelow_true.2 fun k hk => fin32_isF.2 (h k hk)

theorem r8_whole {c : List Int} (hb : bytesOk c) (m : Nat) (n : Int) : ∀ k, ∃ vs : List Int, vs.length = k ∧ (ev_R8Sound_L1_S c m n k).1 = vs.map tW ∧ inB 8 vs := by
  intro k
  induction k with
  | zero => exact ⟨[], rfl, rfl, fun v hv => by cases hv⟩
  | succ k ih =>
    obtain ⟨vs, hl, hw, hs⟩ := ih
    simp only [ev_R8Sound_L1_S]
    generalize ev_R8Sound_L1_S c m n k = s at hw ⊢
    have q := pickV_range hb s.2.1 s.2.2 (n := 17) (by omega)
    refine ⟨vs ++ [pickV c s.2.1 s.2.2 17 - 8], by simp [hl], ?_, fun v hv => ?_⟩
    · show s.1 ++ [_] = _
      rw [hw, List.map_append]; rfl
    · rcases List.mem_append.1 hv with h | h
      · exact hs v h
      · simp only [List.mem_singleton] at h; subst h; omega
theorem r8_lad {c : List Int} (hb : bytesOk c) (m : Nat) (n : Int) : ∀ k, ∃ vs : List Int, vs.length = k ∧ (ev_R8Ladder_L1_S c m n k).1 = vs.map eW ∧ inB 4 vs := by
  intro k
  induction k with
  | zero => exact ⟨[], rfl, rfl, fun v hv => by cases hv⟩
  | succ k ih =>
    obtain ⟨vs, hl, hw, hs⟩ := ih
    simp only [ev_R8Ladder_L1_S]
    generalize ev_R8Ladder_L1_S c m n k = s at hw ⊢
    have q := pickV_range hb s.2.1 s.2.2 (n := 9) (by omega)
    refine ⟨vs ++ [pickV c s.2.1 s.2.2 9 - 4], by simp [hl], ?_, fun v hv => ?_⟩
    · show s.1 ++ [_] = _
      rw [hw, List.map_append]; rfl
    · rcases List.mem_append.1 hv with h | h
      · exact hs v h
      · simp only [List.mem_singleton] at h; subst h; omega
theorem r8_sound {c : List Int} (hb : bytesOk c) (n : Int) : ∃ vs : List Int, vs.length = n.toNat ∧ r8SoundF c n = vs.map tW ∧ inB 8 vs := r8_whole hb _ n _
theorem r8_ladder {c : List Int} (hb : bytesOk c) (n : Int) : ∃ vs : List Int, vs.length = n.toNat ∧ r8LadF c n = vs.map eW ∧ inB 4 vs := r8_lad hb _ n _

def xv (vs : List Int) (n : Nat) : Rat := ((vs.getD n 0 : Int) : Rat) * (1 / 4)
def rqv (ws : List Int) (n : Nat) : Rat := ((ws.getD n 0 : Int) : Rat) * (1 / 8)

theorem gr_frac (n : Int) (j : Nat) {d : Rat} (h : d * P2 j = 1) : gr j ((n : Rat) * d) := ⟨n, by rw [Rat.mul_assoc, h, Rat.mul_one]⟩
theorem int_bd {n b : Int} (h : -b ≤ n ∧ n ≤ b) : (n : Rat) ≤ (b : Rat) ∧ -(b : Rat) ≤ (n : Rat) :=
  ⟨Rat.intCast_le_intCast.2 h.2, by have := Rat.intCast_le_intCast.2 h.1; rw [Rat.intCast_neg] at this; exact this⟩

theorem xv_at {vs : List Int} (hv : inB 8 vs) (k : Nat) : isFl .f32 ((vs.map tW).getD k 0) ∧ fv .f32 ((vs.map tW).getD k 0) = xv vs k ∧ gr 2 (xv vs k) ∧ xv vs k ≤ 2 ∧ -2 ≤ xv vs k := by
  have r := inB_at hv (by omega) k
  obtain ⟨a, b, _⟩ := quarter (v := vs.getD k 0) (by omega) (by omega)
  obtain ⟨c, d⟩ := int_bd r
  have e8 : ((8 : Int) : Rat) = 8 := rfl
  rw [e8] at c d
  rw [tW_get]
  exact ⟨a, b, gr_frac _ 2 (by decide +kernel), by unfold xv; grind, by unfold xv; grind⟩
theorem xv3_at {vs : List Int} (hv : inB 12 vs) (k : Nat) : isFl .f32 ((vs.map tW).getD k 0) ∧ fv .f32 ((vs.map tW).getD k 0) = xv vs k ∧ gr 2 (xv vs k) ∧ xv vs k ≤ 3 ∧ -3 ≤ xv vs k := by
  have r := inB_at hv (by omega) k
  obtain ⟨a, b, _⟩ := quarter (v := vs.getD k 0) (by omega) (by omega)
  obtain ⟨c, d⟩ := int_bd r
  have e8 : ((12 : Int) : Rat) = 12 := rfl
  rw [e8] at c d
  rw [tW_get]
  exact ⟨a, b, gr_frac _ 2 (by decide +kernel), by unfold xv; grind, by unfold xv; grind⟩
theorem snd3_tW {vs : List Int} (hv : inB 12 vs) (hl : vs.length ≤ 256) : isSnd (vs.map tW) = true := by
  simp only [isSnd, Bool.and_eq_true, decide_eq_true_eq, List.length_map]
  exact ⟨hl, allFin_at fun k _ => (xv3_at hv k).1⟩
theorem rv_at {ws : List Int} (hw : inB 4 ws) (k : Nat) : isFl .f32 ((ws.map eW).getD k 0) ∧ fv .f32 ((ws.map eW).getD k 0) = rqv ws k ∧ gr 3 (rqv ws k) ∧ rqv ws k ≤ 1 / 2 ∧ -(1 / 2) ≤ rqv ws k := by
  have r := inB_at hw (by omega) k
  obtain ⟨a, b, _⟩ := eighth r.1 r.2
  obtain ⟨c, d⟩ := int_bd r
  have e4 : ((4 : Int) : Rat) = 4 := rfl
  rw [e4] at c d
  rw [eW_get]
  exact ⟨a, b, gr_frac _ 3 (by decide +kernel), by unfold rqv; grind, by unfold rqv; grind⟩

theorem snd_tW {vs : List Int} (hv : inB 8 vs) (hl : vs.length ≤ 256) : isSnd (vs.map tW) = true := by
  simp only [isSnd, Bool.and_eq_true, decide_eq_true_eq, List.length_map]
  exact ⟨hl, allFin_at fun k _ => (xv_at hv k).1⟩

/-! ### Steps up -/

theorem stepup_exact {ws : List Int} (hw : inB 4 ws) (hl : ws.length ≤ 6) (n g : Nat) : ∀ m, m ≤ 6 → (ev_impl_StepUp_L1_S (ws.map eW) n g m).length = m ∧ ∀ k, k < m → isFl .f32 ((ev_impl_StepUp_L1_S (ws.map eW) n g m).getD k 0) ∧ fv .f32 ((ev_impl_StepUp_L1_S (ws.map eW) n g m).getD k 0) = aR (rqv ws) m k := by
  intro m
  induction m with
  | zero => intro _; exact ⟨rfl, fun k hk => by omega⟩
  | succ m ih =>
    intro hm
    obtain ⟨i1, i2⟩ := ih (by omega)
    have hS : ev_impl_StepUp_L1_S (ws.map eW) n g (m + 1) = ((List.range m).map fun k2 => fop .sub .f32 (List.getD (ev_impl_StepUp_L1_S (ws.map eW) n g m) k2 0) (fop .mul .f32 (List.getD (ws.map eW) m 0) (List.getD (ev_impl_StepUp_L1_S (ws.map eW) n g m) (m - (k2 + 1)) 0))) ++ [List.getD (ws.map eW) m 0] := by
      show ev_impl_StepUp_L2_S (ws.map eW) n g m (ev_impl_StepUp_L1_S (ws.map eW) n g m) m ++ _ = _
      rw [set_all m (fun k2 => fop .sub .f32 (List.getD (ev_impl_StepUp_L1_S (ws.map eW) n g m) k2 0) (fop .mul .f32 (List.getD (ws.map eW) m 0) (List.getD (ev_impl_StepUp_L1_S (ws.map eW) n g m) (m - (k2 + 1)) 0))) (ev_impl_StepUp_L2_S (ws.map eW) n g m (ev_impl_StepUp_L1_S (ws.map eW) n g m)) (by simp [ev_impl_StepUp_L2_S]) (fun _ => rfl)]
    rw [hS]
    generalize ev_impl_StepUp_L1_S (ws.map eW) n g m = S at *
    refine ⟨by simp, fun k hk => ?_⟩
    rcases Nat.lt_or_ge k m with h | h
    · rw [List.getD_eq_getElem?_getD, List.getElem?_append_left (by simp; omega), ← List.getD_eq_getElem?_getD, rangeD h]
      obtain ⟨a1, a2⟩ := i2 k h
      obtain ⟨b1, b2⟩ := i2 (m - (k + 1)) (by omega)
      rw [show m - (k + 1) = m - 1 - k by omega] at b1 b2 ⊢
      exact up_step (fun k => (rv_at hw k).2.2.1) (fun k => (rv_at hw k).2.2.2) (by omega) h a1 a2 b1 b2 (rv_at hw m).1 (rv_at hw m).2.1
    · have : k = m := by omega
      subst this
      rw [List.getD_eq_getElem?_getD, List.getElem?_append_right (by simp)]
      simp only [List.length_map, List.length_range, Nat.sub_self, List.getElem?_cons_zero, Option.getD_some]
      obtain ⟨a, b, _⟩ := rv_at hw k
      refine ⟨a, ?_⟩
      rw [b]; simp only [aR, upR]; rw [if_neg (by omega)]

theorem ladder_stp {ws : List Int} (hw : inB 4 ws) : allStp (ws.map eW) = true := allBelow_true.2 fun k _ => by
  have r := inB_at hw (by omega) k
  rw [eW_get]; exact (eighth r.1 r.2).2.2

theorem stepup_w32 (ws : List Int) (n g : Nat) : ∀ m, ∀ y ∈ ev_impl_StepUp_L1_S (ws.map eW) n g m, w32 y := by
  intro m
  cases m with
  | zero => intro y hy; cases hy
  | succ m =>
    intro y hy
    have hS : ev_impl_StepUp_L1_S (ws.map eW) n g (m + 1) = ev_impl_StepUp_L2_S (ws.map eW) n g m (ev_impl_StepUp_L1_S (ws.map eW) n g m) m ++ [List.getD (ws.map eW) m 0] := rfl
    rw [hS, set_all m (fun k2 => fop .sub .f32 (List.getD (ev_impl_StepUp_L1_S (ws.map eW) n g m) k2 0) (fop .mul .f32 (List.getD (ws.map eW) m 0) (List.getD (ev_impl_StepUp_L1_S (ws.map eW) n g m) (m - (k2 + 1)) 0))) (ev_impl_StepUp_L2_S (ws.map eW) n g m (ev_impl_StepUp_L1_S (ws.map eW) n g m)) (by simp [ev_impl_StepUp_L2_S]) (fun _ => rfl)] at hy
    rcases List.mem_append.1 hy with h | h
    · simp only [List.mem_map] at h
      obtain ⟨_, _, rfl⟩ := h
      exact w32_fop ..
    · simp only [List.mem_singleton] at h
      subst h
      rw [eW_get]; exact w32_fop ..

structure PredOk (st : List Nat) (a : Nat → Rat) (n : Nat) : Prop where
  l : st.length = n
  h : ∀ k, k < st.length → isFl .f32 (st.getD k 0) ∧ fv .f32 (st.getD k 0) = a k ∧ gr (3 * n) (a k) ∧ a k ≤ cB n ∧ -cB n ≤ a k

theorem stepup_ok {ws : List Int} (hw : inB 4 ws) {n : Nat} (hl : ws.length = n) (h6 : n ≤ 6) {g : Nat} :
    ∃ st, stepUpF (ws.map eW) g = (st, g, true) ∧ PredOk st (aR (rqv ws) n) n ∧ ∀ y ∈ st, w32 y := by
  have L : (ws.map eW).length = n := by rw [List.length_map, hl]
  have X := fun m hm => stepup_exact hw (by omega) n g m hm
  have f : ∀ m, m ≤ 6 → allFin (ev_impl_StepUp_L1_S (ws.map eW) n g m) = true := fun m hm => allFin_at fun k hk => ((X m hm).2 k (by rw [(X m hm).1] at hk; exact hk)).1
  refine ⟨ev_impl_StepUp_L1_S (ws.map eW) n g n, ?_, ⟨(X n h6).1, fun k hk => ?_⟩, stepup_w32 ws n g n⟩
  · unfold stepUpF
    rw [L, if_pos, if_pos (f n h6)]
    · refine allBelow_true.2 fun k hk => ?_
      have fk := f (k + 1) (by omega)
      have e : ev_impl_StepUp_L1_S (ws.map eW) n g (k + 1) = ev_impl_StepUp_L2_S (ws.map eW) n g k (ev_impl_StepUp_L1_S (ws.map eW) n g k) k ++ [List.getD (ws.map eW) k 0] := rfl
      rw [e, allFin_append, Bool.and_eq_true] at fk
      unfold ev_impl_StepUp_L1_good
      rw [if_pos fk.1]
  · have hk : k < n := by rw [(X n h6).1] at hk; exact hk
    obtain ⟨a, b⟩ := (X n h6).2 k hk
    exact ⟨a, b, aR_gr (fun k => (rv_at hw k).2.2.1) n k, aR_bd (fun k => (rv_at hw k).2.2.2) n k⟩

/-! ### Residues, exactly -/

theorem residue_list (st : List Nat) (g : Nat) (xs : List Nat) : ev_changedE_L1_S xs xs.length st st.length g xs.length = (List.range xs.length).map fun k => fop .sub .f32 (List.getD xs k 0) (predAt st xs k) :=
  set_all _ _ (ev_changedE_L1_S xs xs.length st st.length g) (by simp [ev_changedE_L1_S]) (fun _ => rfl)

theorem residue_ok {st : List Nat} {g : Nat} {xs : List Nat} (hs : isSnd xs = true) (h : ∀ k, k < xs.length → isFl .f32 (fop .sub .f32 (List.getD xs k 0) (predAt st xs k))) :
    residueF st g xs = ((List.range xs.length).map (fun k => fop .sub .f32 (List.getD xs k 0) (predAt st xs k)), true) := by
  unfold residueF changedE
  rw [if_pos hs, residue_list, if_pos (allFin_range h)]

section
variable {st : List Nat} {a : Nat → Rat} {n : Nat} (P : PredOk st a n) (h1 : 1 ≤ n) (h4 : n ≤ 4) {vs : List Int} (hv : inB 8 vs)
include P h4 hv

end

end Go.Sim
end

section
set_option linter.unusedSimpArgs false

set_option linter.unusedVariables false

namespace Go.Sim

open Go Go.Proofs

/-! ### Lags, exactly -/

theorem xv_out {vs : List Int} (hl : vs.length = 12) : ∀ n, 12 ≤ n → xv vs n = 0 := fun n hn => by
  have : vs.getD n 0 = 0 := by simp [hl, hn]
  unfold xv; rw [this]; exact Rat.zero_mul _

theorem ex4 {q : Rat} {z : Nat} (h : Rd .f32 q z) (g : gr 4 q) (b1 : q ≤ 4096) (b2 : -4096 ≤ q) : isFl .f32 z ∧ fv .f32 z = q := by
  have p : P2 4 = 16 := by decide +kernel
  have c : ((16777216 : Nat) : Rat) = 16777216 := rfl
  exact ex_gr (B := 16777216) h (by decide) g big32.1 (by decide) (by rw [big32.2, c]; grind) (by rw [p, c]; grind) (by rw [p, c]; grind)

section
variable {vs : List Int} (hv : inB 12 vs) (hl : vs.length = 12)
include hv

theorem xx_at (i j : Nat) : gr 4 (xv vs i * xv vs j) ∧ xv vs i * xv vs j ≤ 9 ∧ -9 ≤ xv vs i * xv vs j := by
  obtain ⟨_, _, a3, a4, a5⟩ := xv3_at hv i
  obtain ⟨_, _, b3, b4, b5⟩ := xv3_at hv j
  have p := mul_bd a4 a5 b4 b5
  exact ⟨a3.mul b3, by grind, by grind⟩

theorem lag64_exact (k : Nat) : ∀ j, j ≤ 12 → isFl .f64 (lag64 (vs.map tW) k j) ∧ fv .f64 (lag64 (vs.map tW) k j) = sumR (fun i => xv vs (k + i) * xv vs i) j ∧ gr 4 (sumR (fun i => xv vs (k + i) * xv vs i) j) ∧ sumR (fun i => xv vs (k + i) * xv vs i) j ≤ (j : Rat) * 9 ∧ -((j : Rat) * 9) ≤ sumR (fun i => xv vs (k + i) * xv vs i) j := by
  intro j
  induction j with
  | zero =>
    intro _
    have z := zero_fl .f64
    have z0 : ((0 : Nat) : Rat) = 0 := rfl
    simp only [lag64, sumR]
    rw [z0]
    exact ⟨z.1, z.2, gr_zero _, by grind, by grind⟩
  | succ j ih =>
    intro hj
    obtain ⟨i1, i2, i3, i4, i5⟩ := ih (by omega)
    obtain ⟨a1, a2, _⟩ := xv3_at hv (k + j)
    obtain ⟨b1, b2, _⟩ := xv3_at hv j
    obtain ⟨u1, u2⟩ := fcv_up a1
    obtain ⟨w1, w2⟩ := fcv_up b1
    obtain ⟨g, p1, p2⟩ := xx_at hv (k + j) j
    have j11 : (j : Rat) ≤ 11 := natR_le (b := 11) (by omega)
    have r1 := mul_Rd u1 w1
    rw [u2, w2, a2, b2] at r1
    obtain ⟨f1, v1⟩ := ex64 r1 (g.up (by omega)) (by grind) (by grind)
    have r2 := add_Rd i1 f1
    rw [i2, v1] at r2
    obtain ⟨f2, v2⟩ := ex64 r2 ((i3.add g).up (by omega)) (by grind) (by grind)
    simp only [lag64, sumR]
    rw [natR_succ]
    exact ⟨f2, v2, i3.add g, by grind, by grind⟩

omit hv in
theorem lag_eq {x : Nat → Rat} {k : Nat} (hk : k ≤ 12) : lagR x k = sumR (fun i => x (k + i) * x i) (12 - k) := by
  unfold lagR
  obtain ⟨d, hd⟩ : ∃ d, 12 = k + d := ⟨12 - k, by omega⟩
  rw [show 12 - k = d by omega, hd, sumR_split, sumR_zero (f := fun n => x n * sh x k n) k (fun j hj => by
    have : sh x k j = 0 := by unfold sh; rw [if_neg (by omega)]
    rw [this]; grind), sumR_congr (t := fun i => x (k + i) * x i) d (fun i _ => by unfold sh; rw [if_pos (by omega), show k + i - k = i by omega])]
  grind

theorem lag_bd (k : Nat) : lagR (xv vs) k ≤ 108 ∧ -108 ≤ lagR (xv vs) k := by
  have h : nr (((12 : Nat) : Rat) * 9) (lagR (xv vs) k) 0 := sumR_small 12 fun n _ => by
    unfold sh
    split
    · obtain ⟨_, a, b⟩ := xx_at hv n (n - k)
      exact ⟨by grind, by grind⟩
    · exact ⟨by grind, by grind⟩
  have c : ((12 : Nat) : Rat) = 12 := rfl
  rw [c] at h
  exact ⟨by have := h.1; grind, by have := h.2; grind⟩

theorem lag_word (k : Nat) (hk : k ≤ 12) : isFl .f32 (fcv .f64 .f32 (lag64 (vs.map tW) k (12 - k))) ∧ fv .f32 (fcv .f64 .f32 (lag64 (vs.map tW) k (12 - k))) = lagR (xv vs) k ∧ fconvOk .f64 .f32 (lag64 (vs.map tW) k (12 - k)) := by
  obtain ⟨a1, a2, a3, _⟩ := lag64_exact hv k (12 - k) (by omega)
  have b := lag_bd hv k
  rw [← lag_eq hk] at a2 a3
  have r := fcv_down_Rd a1
  rw [a2] at r
  obtain ⟨f, w⟩ := ex4 r a3 (by grind) (by grind)
  exact ⟨f, w, fconvOk_fin a1 f⟩

include hl
theorem lag_conv (k : Nat) : fconvOk .f64 .f32 (lag64 (vs.map tW) k ((vs.map tW).length - k)) := by
  rw [List.length_map, hl]
  rcases Nat.le_total k 12 with h | h
  · exact (lag_word hv k h).2.2
  · have : 12 - k = 0 := by omega
    rw [this]
    show fconvOk .f64 .f32 0
    exact fconvOk_of (by decide)

theorem lags_ok {n : Nat} (h6 : n ≤ 6) : lagsF (vs.map tW) (n : Int) = ((List.range (n + 1)).map (fun k => fcv .f64 .f32 (lag64 (vs.map tW) k (12 - k))), true) := by
  have L : (vs.map tW).length = 12 := by rw [List.length_map, hl]
  have hS : ev_Lags_L1_S (vs.map tW) 12 (n : Int) (n + 1) = (List.range (n + 1)).map (fun k => fcv .f64 .f32 (lag64 (vs.map tW) k (12 - k))) := by
    rw [set_all (n + 1) (fun k => fcv .f64 .f32 (ev_Lags_L2_S (vs.map tW) 12 (n : Int) k [] (12 - k))) (ev_Lags_L1_S (vs.map tW) 12 (n : Int)) (by simp [ev_Lags_L1_S]) (fun k => by
      show List.set _ k _ = List.set _ k _
      rw [lag64_of (vs.map tW) k (ev_Lags_L2_S (vs.map tW) 12 (n : Int) k _) rfl (fun _ => rfl), lag64_of (vs.map tW) k (ev_Lags_L2_S (vs.map tW) 12 (n : Int) k []) rfl (fun _ => rfl)])]
    refine List.map_congr_left fun k _ => ?_
    rw [lag64_of (vs.map tW) k (ev_Lags_L2_S (vs.map tW) 12 (n : Int) k []) rfl (fun _ => rfl)]
  unfold lagsF
  rw [L, Int.toNat_natCast, hS, if_pos (allFin_range fun k hk => (lag_word hv k (by omega)).1)]

end

/-! ### The lags are solved -/

theorem set_some {f : Nat → Nat} (S : Nat → List Nat) (hs : ∀ k, S (k + 1) = (S k).set k (f k)) : ∀ m, (S m).length = (S 0).length ∧ ∀ k, k < m → k < (S 0).length → (S m).getD k 0 = f k := by
  intro m
  induction m with
  | zero => exact ⟨rfl, fun k hk => by omega⟩
  | succ m ih =>
    obtain ⟨i1, i2⟩ := ih
    rw [hs]
    refine ⟨by rw [List.length_set, i1], fun k hk hl => ?_⟩
    rcases Nat.lt_or_ge k m with g | g
    · rw [List.getD_eq_getElem?_getD, List.getElem?_set_ne (by omega), ← List.getD_eq_getElem?_getD]; exact i2 k g hl
    · have : k = m := by omega
      subst this
      rw [List.getD_eq_getElem?_getD, List.getElem?_set_self (by rw [i1]; exact hl)]; rfl

theorem getD_set_self (xs : List Nat) (k v : Nat) (h : k < xs.length) : (xs.set k v).getD k 0 = v := by
  rw [List.getD_eq_getElem?_getD, List.getElem?_set_self h]; rfl
theorem getD_set_ne (xs : List Nat) (k j v : Nat) (h : k ≠ j) : (xs.set k v).getD j 0 = xs.getD j 0 := by
  rw [List.getD_eq_getElem?_getD, List.getElem?_set_ne h, ← List.getD_eq_getElem?_getD]

def allFl (xs : List Nat) : Prop := ∀ k, k < xs.length → isFl .f64 (xs.getD k 0)
theorem allFl_app {xs ys : List Nat} (h : allFl xs) (g : allFl ys) : allFl (xs ++ ys) := by
  intro k hk
  rw [List.length_append] at hk
  rcases Nat.lt_or_ge k xs.length with h' | h'
  · rw [List.getD_eq_getElem?_getD, List.getElem?_append_left h', ← List.getD_eq_getElem?_getD]; exact h k h'
  · rw [List.getD_eq_getElem?_getD, List.getElem?_append_right h', ← List.getD_eq_getElem?_getD]; exact g _ (by omega)

structure SolveAt (x : Nat → Rat) (s : Nat × List Nat × List Nat) (m : Nat) : Prop where
  ll : s.2.1.length = m
  sl : s.2.2.length = m
  lf : ∀ k, k < m → isFl .f64 (s.2.1.getD k 0) ∧ fv .f64 (s.2.1.getD k 0) ≤ 1 ∧ -1 ≤ fv .f64 (s.2.1.getD k 0)
  ok : LevOk x (fun k => s.2.2.getD k 0) m s.1 (lagR x 0) (P2 m)

section
variable {x : Nat → Rat} (hx : ∀ n, 12 ≤ n → x n = 0) {xs : List Nat} {n : Nat} (hL : ∀ j, j ≤ n → isFl .f32 (xs.getD j 0) ∧ fv .f32 (xs.getD j 0) = lagR x j) (hR : ∀ j, lagR x j ≤ 64 ∧ -64 ≤ lagR x j) (h4 : 4 ≤ x 0 * x 0)
include hx hL hR h4

theorem solve_at (N : Nat) (hn : n ≤ 6) : ∀ m, m ≤ n → SolveAt x (ev_solve_L1_S xs N m) m ∧ ∀ k, k < m → ev_solve_L1_good xs N k (ev_solve_L1_S xs N k) = true := by
  intro m
  induction m with
  | zero =>
    intro _
    obtain ⟨a, b⟩ := hL 0 (by omega)
    obtain ⟨u, v⟩ := fcv_up a
    have p0 : P2 0 = 1 := by decide +kernel
    refine ⟨⟨rfl, rfl, fun k hk => by omega, ⟨fun k hk => by omega, u, by rw [show (ev_solve_L1_S xs N 0).1 = fcv .f32 .f64 (List.getD xs 0 0) from rfl, v, b]; exact Rat.le_refl, ⟨fun k hk => by omega, fun i hi => by omega, ?_⟩⟩⟩, fun k hk => by omega⟩
    rw [show (ev_solve_L1_S xs N 0).1 = fcv .f32 .f64 (List.getD xs 0 0) from rfl, v, b, p0]
    unfold nrm; simp only [sumR]
    exact ⟨by grind, by grind⟩
  | succ m ih =>
    intro hm
    obtain ⟨S, G⟩ := ih (by omega)
    have hs : ev_solve_L1_S xs N (m + 1) = ev_solve_L1_step xs N m (ev_solve_L1_S xs N m) := rfl
    rw [hs]
    have P1 := P2_ge m
    have P5 : P2 m ≤ 32 := by
      have := P2_mono (i := m) (j := 5) (by omega)
      have e : P2 5 = 32 := by decide +kernel
      rw [e] at this; exact this
    have R0 := (hR 0).1
    have E3 := (lev_e hx S.ok h4 (by omega) P1 (by grind)).1
    generalize hse : ev_solve_L1_S xs N m = s at *
    have l3 := set_some (f := fun k3 => fop .sub .f64 (List.getD s.2.2 k3 0) (fop .mul .f64 (fop .quo .f64 (ev_solve_L2_S xs N m s m) s.1) (List.getD s.2.2 (m - (k3 + 1)) 0))) (ev_solve_L3_S xs N m s) (fun _ => rfl) m
    have l0 : (ev_solve_L3_S xs N m s 0).length = 1 + m := by simp [ev_solve_L3_S]
    rw [l0] at l3
    obtain ⟨l3, g3⟩ := l3
    obtain ⟨q1, r1, r2, r3, ok⟩ := lev_step hx (L := fun j => xs.getD j 0) (m := m) (fun j hj => hL j (by omega)) hR h4 (by omega) R0 P1 P5 S.ok (ev_solve_L2_S xs N m s) rfl (fun _ => rfl) rfl rfl
      (st' := fun k => (List.set (ev_solve_L3_S xs N m s m) m (fop .quo .f64 (ev_solve_L2_S xs N m s m) s.1)).getD k 0) (fun k hk => by
        show (List.set _ m _).getD k 0 = _
        rw [getD_set_ne _ _ _ _ (by omega), g3 k hk (by omega)]) (by
        show (List.set _ m _).getD m 0 = _
        rw [getD_set_self _ _ _ (by omega)])
    rw [← P2_succ] at ok
    refine ⟨⟨by simp [ev_solve_L1_step, S.ll], by simp [ev_solve_L1_step, l3]; omega, fun k hk => ?_, ok⟩, fun k hk => ?_⟩
    · show isFl .f64 ((s.2.1 ++ [_]).getD k 0) ∧ _ ∧ _
      show isFl .f64 ((s.2.1 ++ [fop .quo .f64 (ev_solve_L2_S xs N m s m) s.1]).getD k 0) ∧ fv .f64 ((s.2.1 ++ [fop .quo .f64 (ev_solve_L2_S xs N m s m) s.1]).getD k 0) ≤ 1 ∧ -1 ≤ fv .f64 ((s.2.1 ++ [fop .quo .f64 (ev_solve_L2_S xs N m s m) s.1]).getD k 0)
      rcases Nat.lt_or_ge k m with g | g
      · have e : (s.2.1 ++ [fop .quo .f64 (ev_solve_L2_S xs N m s m) s.1]).getD k 0 = s.2.1.getD k 0 := by
          rw [List.getD_eq_getElem?_getD, List.getElem?_append_left (by rw [S.ll]; exact g), ← List.getD_eq_getElem?_getD]
        rw [e]; exact S.lf k g
      · have e : (s.2.1 ++ [fop .quo .f64 (ev_solve_L2_S xs N m s m) s.1]).getD k 0 = fop .quo .f64 (ev_solve_L2_S xs N m s m) s.1 := by
          have : k = m := by omega
          subst this
          rw [List.getD_eq_getElem?_getD, List.getElem?_append_right (by rw [S.ll]; exact Nat.le_refl _), S.ll]; simp
        rw [e]; exact ⟨r1, r2, r3⟩
    · rcases Nat.lt_or_ge k m with g | g
      · exact G k g
      · have e : k = m := by omega
        subst e
        rw [hse]
        have c1 : fcmp .gtr .f64 s.1 0 = true := by
          rw [gtr_iff S.ok.fe (zero_fl .f64).1, (zero_fl .f64).2]; grind
        have lS : (List.set (ev_solve_L3_S xs N k s k) k (fop .quo .f64 (ev_solve_L2_S xs N k s k) s.1)).length = 1 + k := by rw [List.length_set, l3]
        have c2 := allFl_app (xs := List.set (ev_solve_L3_S xs N k s k) k (fop .quo .f64 (ev_solve_L2_S xs N k s k) s.1)) (fun j hj => ok.fs j (by omega)) (ys := [(ev_solve_L2_S xs N k s k), (fop .mul .f64 s.1 (fop .sub .f64 4607182418800017408 (fop .mul .f64 (fop .quo .f64 (ev_solve_L2_S xs N k s k) s.1) (fop .quo .f64 (ev_solve_L2_S xs N k s k) s.1))))]) (fun j hj => by
          simp only [List.length_cons, List.length_nil] at hj
          rcases (show j = 0 ∨ j = 1 by omega) with rfl | rfl
          · exact q1
          · exact ok.fe)
        unfold ev_solve_L1_good
        rw [if_pos c1, if_pos]
        refine allBelow_true.2 fun j hj => ?_
        rw [self_sub (c2 j (by rw [List.length_append, lS]; simp only [List.length_cons, List.length_nil]; omega))]; rfl
end

end Go.Sim
end
