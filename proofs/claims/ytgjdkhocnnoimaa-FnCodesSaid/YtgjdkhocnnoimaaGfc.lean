/- What the law FnCodes says of codes. Conditions: none. -/

import Derived.Test.YtgjdkhocnnoimaaProg
import Derived.KernelRfl
import Derived.Test.YtgjdkhocnnoimaaGcn
import Derived.Test.YtgjdkhocnnoimaaGcs
import Derived.Test.YtgjdkhocnnoimaaGbs
import Derived.Test.YtgjdkhocnnoimaaGga
import Derived.Test.YtgjdkhocnnoimaaPvO
import Derived.Test.YtgjdkhocnnoimaaPvN
import Derived.Test.YtgjdkhocnnoimaaPvP

set_option linter.unusedSimpArgs false

set_option linter.unusedVariables false

namespace Go.Sim

open Go Go.Proofs

/-! ### Codes and back -/

theorem back_int {c : Int} (h0 : 1 ≤ c) (h1 : c ≤ 255) : codeOfF (codeF c) = c ∧ (fcmp .lss .f32 (codeF c) 0 == decide (c < 128)) = true := by
  have := back_tab h0 h1
  simpa only [backB, Bool.and_eq_true, decide_eq_true_eq] using this

theorem fromCode_in {c : Int} (h0 : 1 ≤ c) (h1 : c ≤ 255) : fromCodeF c = (codeF c, true) := by
  unfold fromCodeF; rw [if_pos (by omega), if_pos h1]

theorem codeF_fin (c : Int) : fin32 (codeF c) = true := (codeF_iv c).fin

theorem w32_codeF (c : Int) : w32 (codeF c) := by
  unfold codeF
  split
  · have hx := w32_codeX c
    have hn := (codeX_iv c).notN
    obtain ⟨s, r, hr, e⟩ := word_of_notN (k := .f32) hx.1 hn
    have e2 : fneg .f32 (codeX c) = FloatKind.f32.format.word (!s) r := by
      unfold fneg; rw [hn, e, neg_word hr]; rfl
    rw [e2]
    refine ⟨?_, word_canon hr⟩
    have i : FloatKind.f32.format.infRung = 2139095040 := by decide
    have w : FloatKind.f32.format.signWeight = 2147483648 := by decide
    rw [i] at hr
    cases s <;> simp only [Ieee.Format.word, Bool.not_false, Bool.not_true, if_true, if_false, Bool.false_eq_true, reduceIte, w] <;> omega
  · exact w32_codeX c

theorem fc_first {c : List Int} (hb : bytesOk c) : (fromCodeF ((1 : Int) + (atB c (0 : Int) (255 : Int)))).2 = true ∧ (codeOfR (fromCodeF ((1 : Int) + (atB c (0 : Int) (255 : Int)))).1).2 = true ∧
    (codeOfR (fromCodeF ((1 : Int) + (atB c (0 : Int) (255 : Int)))).1).1 = ((1 : Int) + (atB c (0 : Int) (255 : Int))) ∧ fcmp .lss .f32 (fromCodeF ((1 : Int) + (atB c (0 : Int) (255 : Int)))).1 3212845253 = false ∧ fcmp .gtr .f32 (fromCodeF ((1 : Int) + (atB c (0 : Int) (255 : Int)))).1 1065361605 = false ∧
    (fcmp .lss .f32 (fromCodeF ((1 : Int) + (atB c (0 : Int) (255 : Int)))).1 0 == decide (((1 : Int) + (atB c (0 : Int) (255 : Int))) < (128 : Int))) = true ∧ w32 (fromCodeF ((1 : Int) + (atB c (0 : Int) (255 : Int)))).1 := by
  have r := atB_range hb (i := 0) (n := 255) (by omega) (by omega)
  generalize hx : (1 : Int) + (atB c (0 : Int) (255 : Int)) = x
  rw [fromCode_in (c := x) (by omega) (by omega)]
  obtain ⟨b1, b2⟩ := back_int (c := x) (by omega) (by omega)
  have hw := w32_codeF x
  have hr : codeOfR (codeF x) = (x, true) := by unfold codeOfR; rw [if_pos (codeF_fin x), b1]
  refine ⟨rfl, by rw [hr], by rw [hr], (codeF_iv x).lss_f (by decide +kernel), (codeF_iv x).gtr_f (by decide +kernel), b2, hw⟩

/-! ### The order of codes -/

def yW (i : Int) : Nat := fop .quo .f32 (cvI (i - (128 : Int))) 1120403456
def zW (i t : Int) : Nat := fop .add .f32 (yW i) (fop .quo .f32 (cvI t) 1115684864)

theorem tabY0 : ∀ n, n < 257 → decide (zW ((n : Nat) : Int) 0 = yW ((n : Nat) : Int)) = true := by decide +kernel

theorem codeA_val {x : Nat} (hx : w32 x) (h : isFl .f32 x) : (1 ≤ fv .f32 x ∨ fv .f32 x ≤ -1 → fv .f32 (codeA x) = 1) ∧ (1 < fv .f32 x ∨ fv .f32 x < -1 → codeA x = 1065353216) ∧ (0 ≤ fv .f32 x → fv .f32 x ≤ 1 → fv .f32 (codeA x) = fv .f32 x) ∧ (fv .f32 x ≤ 0 → -1 ≤ fv .f32 x → fv .f32 (codeA x) = -fv .f32 x) := by
  obtain ⟨a, b, c⟩ := absW_fin hx h
  have v1 : fv .f32 1065353216 = 1 := by decide +kernel
  have f1 : isFl .f32 1065353216 := finB_fl (by decide +kernel)
  unfold codeA fminmax
  rcases order_val f1 a with ⟨e, g⟩ | ⟨e, g⟩ | ⟨e, g⟩ <;> rw [e] <;> simp only [cond_false] <;> rw [v1] at g
  · rw [v1]; refine ⟨fun _ => rfl, fun _ => by first | rfl | trivial, fun _ _ => ?_, fun _ _ => ?_⟩ <;> grind
  · have : (FloatKind.decode .f32 1065353216).neg = false := by decide
    rw [this]
    simp only [Bool.false_eq_true, if_false]
    refine ⟨fun _ => ?_, fun _ => ?_, fun _ _ => ?_, fun _ _ => ?_⟩
    · grind
    · exfalso; grind
    · grind
    · grind
  · refine ⟨fun _ => ?_, fun _ => ?_, fun _ _ => ?_, fun _ _ => ?_⟩
    · grind
    · exfalso; grind
    · grind
    · grind

theorem codeK_top {x : Nat} (h : codeA x = 1065353216) : codeK x = 127 := by
  have e : codeK x = Option.getD (f2i .f64 (wholeW .even (fcv .f32 .f64 (fop .mul .f32 1123942400 (fop .quo .f32 (fcv .f64 .f32 (logW (fcv .f32 .f64 (fop .add .f32 1065353216 (fop .mul .f32 1132396544 (codeA x)))))) 1085370904)))) .i64) 0 := by unfold codeK codeY; rfl
  rw [e, h]
  decide +kernel

theorem yz_near {i t : Int} (hi0 : 0 ≤ i) (hi1 : i < 257) (ht0 : 0 ≤ t) (ht1 : t < 64) : isFl .f32 (yW i) ∧ isFl .f32 (zW i t) ∧
    fv .f32 (yW i) ≤ ((i - 128 : Int) : Rat) * (1 / 100) + 1 / 4000000 ∧ ((i - 128 : Int) : Rat) * (1 / 100) ≤ fv .f32 (yW i) + 1 / 4000000 ∧
    fv .f32 (zW i t) ≤ fv .f32 (yW i) + (t : Rat) * (1 / 64) + 2 / 1000000 ∧ fv .f32 (yW i) + (t : Rat) * (1 / 64) ≤ fv .f32 (zW i t) + 2 / 1000000 := by
  have a1 := Iv.int .f32 (i - 128) (a := -128) (b := 128) (by omega) (by omega) (by omega) (by omega)
  have c100 : Iv .f32 1120403456 1120403456 1120403456 := Iv.self (by decide +kernel)
  have c64 : Iv .f32 1115684864 1115684864 1115684864 := Iv.self (by decide +kernel)
  have a2 : Iv .f32 (yW i) 3221225472 1073741824 := a1.quo c100 _ _ (by decide +kernel)
  have b1 := Iv.int .f32 t (a := 0) (b := 63) (by omega) (by omega) (by omega) (by omega)
  have b2 : Iv .f32 (fop .quo .f32 (cvI t) 1115684864) 0 1065353216 := b1.quo c64 _ _ (by decide +kernel)
  have z2 : Iv .f32 (zW i t) 3229614080 1082130432 := a2.add b2 _ _ (by decide +kernel)
  have v100 : fv .f32 1120403456 = 100 := by decide +kernel
  have v64 : fv .f32 1115684864 = 64 := by decide +kernel
  have e1 := (int_exact (k := .f32) (i - 128) (by omega)).2
  have e2 := (int_exact (k := .f32) t (by omega)).2
  have i0 : (-128 : Rat) ≤ ((i - 128 : Int) : Rat) := Rat.intCast_le_intCast.2 (show (-128 : Int) ≤ i - 128 by omega)
  have i1 : ((i - 128 : Int) : Rat) ≤ (128 : Rat) := Rat.intCast_le_intCast.2 (show i - 128 ≤ (128 : Int) by omega)
  have t0 : (0 : Rat) ≤ ((t : Int) : Rat) := Rat.intCast_le_intCast.2 ht0
  have t1 : ((t : Int) : Rat) ≤ (64 : Rat) := Rat.intCast_le_intCast.2 (show t ≤ (64 : Int) by omega)
  have q1 := quo_Rd a1.fx c100.fx (by rw [v100]; decide +kernel)
  have q2 := quo_Rd b1.fx c64.fx (by rw [v64]; decide +kernel)
  rw [e1, v100] at q1
  rw [e2, v64] at q2
  have d1 : ((i - 128 : Int) : Rat) / 100 = ((i - 128 : Int) : Rat) * (1 / 100) := by grind
  have d2 : ((t : Int) : Rat) / 64 = ((t : Int) : Rat) * (1 / 64) := by grind
  rw [d1] at q1
  rw [d2] at q2
  have r1 := er2 q1 a2.fx (by grind) (by grind)
  have r2 := er2 q2 b2.fx (by grind) (by grind)
  change fv .f32 (yW i) ≤ _ ∧ _ ≤ fv .f32 (yW i) + _ at r1
  change fv .f32 (fop .quo .f32 (cvI t) 1115684864) ≤ _ ∧ _ ≤ fv .f32 (fop .quo .f32 (cvI t) 1115684864) + _ at r2
  have r3 := er8 (add_Rd a2.fx b2.fx) z2.fx (by grind) (by grind)
  change fv .f32 (zW i t) ≤ _ ∧ _ ≤ fv .f32 (zW i t) + _ at r3
  exact ⟨a2.fx, z2.fx, r1.1, r1.2, by grind, by grind⟩

theorem rle {a b : Int} (h : a ≤ b) : (a : Rat) ≤ (b : Rat) := Rat.intCast_le_intCast.2 h

theorem code_order {i t : Int} (hi0 : 0 ≤ i) (hi1 : i < 257) (ht0 : 0 ≤ t) (ht1 : t < 64) : codeOfF (yW i) ≤ codeOfF (zW i t) := by
  rcases (show t = 0 ∨ 1 ≤ t by omega) with rfl | ht
  · obtain ⟨n, rfl⟩ := Int.eq_ofNat_of_zero_le hi0
    have := tabY0 n (by omega)
    rw [decide_eq_true_eq] at this
    rw [this]; exact Int.le_refl _
  · obtain ⟨fy, fz, y1, y2, z1, z2⟩ := yz_near hi0 hi1 ht0 ht1
    have wy : w32 (yW i) := w32_fop ..
    have wz : w32 (zW i t) := w32_fop ..
    obtain ⟨_, ky0, ky1⟩ := codeK_spec wy fy
    obtain ⟨_, kz0, kz1⟩ := codeK_spec wz fz
    have ly := lss_iff fy (zero_fl .f32).1
    have lz := lss_iff fz (zero_fl .f32).1
    rw [(zero_fl .f32).2] at ly lz
    obtain ⟨ay1, ay2, ay3, ay4⟩ := codeA_val wy fy
    obtain ⟨az1, az2, az3, az4⟩ := codeA_val wz fz
    have tt : (1 : Rat) ≤ ((t : Int) : Rat) := rle ht
    have hyz : fv .f32 (yW i) < fv .f32 (zW i t) := by grind
    unfold codeOfF
    by_cases hy : fv .f32 (yW i) < 0
    · rw [if_pos (ly.2 hy)]
      by_cases hz : fv .f32 (zW i t) < 0
      · rw [if_pos (lz.2 hz)]
        -- both are negative
        rcases (show 16 * (i - 128) + 25 * t ≤ -1600 ∨ -1599 ≤ 16 * (i - 128) + 25 * t by omega) with h | h
        · have hi : ((16 * (i - 128) + 25 * t : Int) : Rat) ≤ ((-1600 : Int) : Rat) := rle h
          have ex : ((16 * (i - 128) + 25 * t : Int) : Rat) = 16 * ((i - 128 : Int) : Rat) + 25 * ((t : Int) : Rat) := by
            rw [Rat.intCast_add, Rat.intCast_mul, Rat.intCast_mul]; rfl
          have c16 : ((-1600 : Int) : Rat) = -1600 := rfl
          rw [ex, c16] at hi
          have := codeK_top (ay2 (.inr (by grind)))
          omega
        · have hi : ((-1599 : Int) : Rat) ≤ ((16 * (i - 128) + 25 * t : Int) : Rat) := rle h
          have ex : ((16 * (i - 128) + 25 * t : Int) : Rat) = 16 * ((i - 128 : Int) : Rat) + 25 * ((t : Int) : Rat) := by
            rw [Rat.intCast_add, Rat.intCast_mul, Rat.intCast_mul]; rfl
          have c16 : ((-1599 : Int) : Rat) = -1599 := rfl
          rw [ex, c16] at hi
          have az := az4 (by grind) (by grind)
          have : codeK (zW i t) ≤ codeK (yW i) := by
            refine codeK_gap wz fz wy fy ?_
            by_cases h1 : fv .f32 (yW i) ≤ -1
            · rw [ay1 (.inr h1), az]; grind
            · rw [ay4 (by grind) (by grind), az]; grind
          omega
      · rw [if_neg (by rw [lz]; exact hz)]; omega
    · rw [if_neg (by rw [ly]; exact hy)]
      have hz : ¬ fv .f32 (zW i t) < 0 := by grind
      rw [if_neg (by rw [lz]; exact hz)]
      rcases (show 100 ≤ i - 128 ∨ i - 128 ≤ 99 by omega) with h | h
      · have hi : ((100 : Int) : Rat) ≤ ((i - 128 : Int) : Rat) := rle h
        have c : ((100 : Int) : Rat) = 100 := rfl
        rw [c] at hi
        have := codeK_top (az2 (.inl (by grind)))
        omega
      · have hi : ((i - 128 : Int) : Rat) ≤ ((99 : Int) : Rat) := rle h
        have c : ((99 : Int) : Rat) = 99 := rfl
        rw [c] at hi
        have ay := ay3 (by grind) (by grind)
        have : codeK (yW i) ≤ codeK (zW i t) := by
          refine codeK_gap wy fy wz fz ?_
          by_cases h1 : 1 ≤ fv .f32 (zW i t)
          · rw [az1 (.inl h1), ay]; grind
          · rw [az3 (by grind) (by grind), ay]; grind
        omega

theorem fc_order {m : List Int} (hm : bytesOk m) : (codeOfR (fop .quo .f32 (canon .f32 (FloatKind.nearest .f32 ((atB m (0 : Int) (257 : Int)) - (128 : Int)))) 1120403456)).2 = true ∧
    (codeOfR (fop .add .f32 (fop .quo .f32 (canon .f32 (FloatKind.nearest .f32 ((atB m (0 : Int) (257 : Int)) - (128 : Int)))) 1120403456) (fop .quo .f32 (canon .f32 (FloatKind.nearest .f32 (atB m (1 : Int) (64 : Int)))) 1115684864))).2 = true ∧
    ¬ (codeOfR (fop .quo .f32 (canon .f32 (FloatKind.nearest .f32 ((atB m (0 : Int) (257 : Int)) - (128 : Int)))) 1120403456)).1 > (codeOfR (fop .add .f32 (fop .quo .f32 (canon .f32 (FloatKind.nearest .f32 ((atB m (0 : Int) (257 : Int)) - (128 : Int)))) 1120403456) (fop .quo .f32 (canon .f32 (FloatKind.nearest .f32 (atB m (1 : Int) (64 : Int)))) 1115684864))).1 ∧
    ¬ (codeOfR (fop .quo .f32 (canon .f32 (FloatKind.nearest .f32 ((atB m (0 : Int) (257 : Int)) - (128 : Int)))) 1120403456)).1 < (1 : Int) ∧
    ¬ (codeOfR (fop .add .f32 (fop .quo .f32 (canon .f32 (FloatKind.nearest .f32 ((atB m (0 : Int) (257 : Int)) - (128 : Int)))) 1120403456) (fop .quo .f32 (canon .f32 (FloatKind.nearest .f32 (atB m (1 : Int) (64 : Int)))) 1115684864))).1 > (255 : Int) := by
  have r := atB_range hm (i := 0) (n := 257) (by omega) (by omega)
  have s := atB_range hm (i := 1) (n := 64) (by omega) (by omega)
  generalize atB m (0 : Int) (257 : Int) = i at *
  generalize atB m (1 : Int) (64 : Int) = t at *
  obtain ⟨fy, fz, _⟩ := yz_near r.1 r.2 s.1 s.2
  have o := code_order r.1 r.2 s.1 s.2
  have gy := fin32_isF.2 fy; have gz := fin32_isF.2 fz
  have ey : codeOfR (yW i) = (codeOfF (yW i), true) := by unfold codeOfR; rw [if_pos gy]
  have ez : codeOfR (zW i t) = (codeOfF (zW i t), true) := by unfold codeOfR; rw [if_pos gz]
  have ry : 1 ≤ codeOfF (yW i) ∧ codeOfF (yW i) ≤ 255 := codeOfF_range (w32_fop ..) gy
  have rz : 1 ≤ codeOfF (zW i t) ∧ codeOfF (zW i t) ≤ 255 := codeOfF_range (w32_fop ..) gz
  show (codeOfR (yW i)).2 = true ∧ (codeOfR (zW i t)).2 = true ∧ ¬ (codeOfR (yW i)).1 > (codeOfR (zW i t)).1 ∧ ¬ (codeOfR (yW i)).1 < 1 ∧ ¬ (codeOfR (zW i t)).1 > 255
  rw [ey, ez]
  exact ⟨rfl, rfl, by show ¬ codeOfF (yW i) > codeOfF (zW i t); omega, by show ¬ codeOfF (yW i) < 1; omega, by show ¬ codeOfF (zW i t) > 255; omega⟩

/-! ### A sound of eighths -/

def qW (v : Int) : Nat := fop .quo .f32 (cvI v) 1090519040

def nearB (v : Int) : Bool :=
  finB .f32 (qW v) && ivB .f32 (codeD (qW v)) 0 1028443341 && finB .f64 (gapB (fcv .f32 .f64 (codeF (codeOfF (qW v)))) (fcv .f32 .f64 (qW v))) &&
  decide (fv .f64 (gapB (fcv .f32 .f64 (codeF (codeOfF (qW v)))) (fcv .f32 .f64 (qW v))) ≤ fv .f32 (codeD (qW v)) + 1 / 20000)

theorem tabN : ∀ n, n < 8 → (nearB (((n : Nat) : Int) + 1) && nearB (-(((n : Nat) : Int) + 1))) = true := by decide +kernel

theorem near_v {v : Int} (h : v ≠ 0 ∧ v.natAbs ≤ 8) : nearB v = true := by
  have t := tabN (v.natAbs - 1) (by omega)
  simp only [Bool.and_eq_true] at t
  rcases (show v = (((v.natAbs - 1 : Nat) : Int) + 1) ∨ v = -(((v.natAbs - 1 : Nat) : Int) + 1) by omega) with e | e
  · rw [e]; exact t.1
  · rw [e]; exact t.2

theorem getD_map {α β : Type} (f : α → β) (xs : List α) (a : α) (b : β) {k : Nat} (hk : k < xs.length) : (xs.map f).getD k b = f (xs.getD k a) := by
  simp [hk]

theorem eighths_w32 (vs : List Int) : ∀ y ∈ vs.map qW, w32 y := by
  intro y hy
  simp only [List.mem_map] at hy
  obtain ⟨v, _, rfl⟩ := hy
  exact w32_fop ..

section
variable {vs : List Int} (hv : small8 vs)
include hv

theorem eighth_near {k : Nat} (hk : k < vs.length) : isFl .f32 ((vs.map qW).getD k 0) ∧ Iv .f32 (codeD ((vs.map qW).getD k 0)) 0 1028443341 ∧ isFl .f64 (gapB (fcv .f32 .f64 (codeF (codeOfF ((vs.map qW).getD k 0)))) (fcv .f32 .f64 ((vs.map qW).getD k 0))) ∧
    fv .f64 (gapB (fcv .f32 .f64 (codeF (codeOfF ((vs.map qW).getD k 0)))) (fcv .f32 .f64 ((vs.map qW).getD k 0))) ≤ fv .f32 (codeD ((vs.map qW).getD k 0)) + 1 / 20000 := by
  have e : (vs.map qW).getD k 0 = qW (vs.getD k 0) := getD_map qW vs 0 0 hk
  rw [e]
  have := near_v (small8_at hv hk)
  simp only [nearB, Bool.and_eq_true, decide_eq_true_eq] at this
  exact ⟨finB_fl this.1.1.1, Iv.of this.1.1.2, finB_fl this.1.2, this.2⟩

theorem eighths_snd (hl : vs.length ≤ 256) : isSnd (vs.map qW) = true := by
  simp only [isSnd, Bool.and_eq_true, decide_eq_true_eq, List.length_map]
  refine ⟨hl, allBelow_true.2 fun k hk => ?_⟩
  exact fin32_isF.2 (eighth_near hv (by simpa using hk)).1

theorem eighths_worst : ∀ k, k ≤ vs.length → Iv .f32 (worstS (vs.map qW) k) 0 1028443341 ∧ ∀ j, j < k → fv .f32 (codeD ((vs.map qW).getD j 0)) ≤ fv .f32 (worstS (vs.map qW) k) := by
  intro k
  induction k with
  | zero => intro _; exact ⟨(show Iv .f32 0 0 1028443341 from Iv.of (by decide +kernel)), fun j hj => by omega⟩
  | succ k ih =>
    intro hk
    obtain ⟨i1, i2⟩ := ih (by omega)
    have d := (eighth_near hv (k := k) (by omega)).2.1
    have both : Iv .f32 (worstS (vs.map qW) (k + 1)) 0 1028443341 ∧ fv .f32 (worstS (vs.map qW) k) ≤ fv .f32 (worstS (vs.map qW) (k + 1)) ∧ fv .f32 (codeD ((vs.map qW).getD k 0)) ≤ fv .f32 (worstS (vs.map qW) (k + 1)) := by
      show Iv .f32 (fminmax true .f32 (worstS (vs.map qW) k) (codeD ((vs.map qW).getD k 0))) 0 1028443341 ∧ fv .f32 (worstS (vs.map qW) k) ≤ fv .f32 (fminmax true .f32 (worstS (vs.map qW) k) (codeD ((vs.map qW).getD k 0))) ∧ fv .f32 (codeD ((vs.map qW).getD k 0)) ≤ fv .f32 (fminmax true .f32 (worstS (vs.map qW) k) (codeD ((vs.map qW).getD k 0)))
      generalize worstS (vs.map qW) k = W at *
      generalize codeD ((vs.map qW).getD k 0) = D at *
      unfold fminmax
      rcases order_val i1.fx d.fx with ⟨e, g⟩ | ⟨e, g⟩ | ⟨e, g⟩ <;> rw [e] <;> simp only [cond_true]
      · exact ⟨d, by grind, by grind⟩
      · split
        · exact ⟨d, by grind, by grind⟩
        · exact ⟨i1, by grind, by grind⟩
      · exact ⟨i1, by grind, by grind⟩
    refine ⟨both.1, fun j hj => ?_⟩
    rcases (show j < k ∨ j = k by omega) with h | rfl
    · have := i2 j h; have := both.2.1; grind
    · exact both.2.2

theorem strB_codes (hl : vs.length ≤ 256) {k : Nat} (hk : k < vs.length) : strB (bytesOf (codesB (vs.map qW) vs.length)) k = codeOfF ((vs.map qW).getD k 0) := by
  have hs := eighths_snd hv hl
  have r := codeOfF_range (w32_get (eighths_w32 vs) k) (isSnd_get hs (k := k) (by simpa using hk))
  have e : (bytesOf (codesB (vs.map qW) vs.length)).data.toList = (codesB (vs.map qW) vs.length).map fun n => UInt8.ofNat n.toNat := rfl
  have l : k < (codesB (vs.map qW) vs.length).length := by simp [codesB, hk]
  unfold strB
  rw [e, getD_map (fun n : Int => UInt8.ofNat n.toNat) _ 0 0 l]
  have g : (codesB (vs.map qW) vs.length).getD k 0 = codeOfF ((vs.map qW).getD k 0) := by
    unfold codesB
    rw [getD_map _ _ 0 0 (by simpa using hk)]
    simp [hk]
  have hsz : UInt8.size = 256 := rfl
  rw [g, UInt8.toNat_ofNat_of_lt' (by omega)]
  omega

theorem eighths (hl : vs.length = 12) : (codeSoundF (vs.map qW)).2 = true ∧ (codesF (codeSoundF (vs.map qW)).1).2 = true ∧ (worstF (vs.map qW)).2 = true ∧ (((ByteArray.size (codeSoundF (vs.map qW)).1) : Nat) : Int) = (12 : Int) ∧
    (((List.length (codesF (codeSoundF (vs.map qW)).1).1) : Nat) : Int) = (12 : Int) ∧ fcmp .gtr .f32 (worstF (vs.map qW)).1 1028443341 = false ∧
    ∀ k, k < 12 → fcmp .gtr .f64 (gapB (fcv .f32 .f64 (List.getD (codesF (codeSoundF (vs.map qW)).1).1 k 0)) (fcv .f32 .f64 (List.getD (vs.map qW) k 0))) (fop .add .f64 (fcv .f32 .f64 (worstF (vs.map qW)).1) 4547007122018943789) = false := by
  have hs := eighths_snd hv (by omega)
  obtain ⟨w1, w2⟩ := eighths_worst hv vs.length (Nat.le_refl _)
  have lm : (vs.map qW).length = vs.length := by simp
  have c1 : codeSoundF (vs.map qW) = (bytesOf (codesB (vs.map qW) vs.length), true) := by unfold codeSoundF; rw [if_pos hs, lm]
  have sz : ByteArray.size (bytesOf (codesB (vs.map qW) vs.length)) = 12 := by
    show ((codesB (vs.map qW) vs.length).map fun n : Int => UInt8.ofNat n.toNat).length = 12
    simp [codesB, hl]
  have c2 : codesF (bytesOf (codesB (vs.map qW) vs.length)) = (codesL (bytesOf (codesB (vs.map qW) vs.length)) 12, true) := by unfold codesF; rw [sz]; rfl
  have c3 : worstF (vs.map qW) = (worstS (vs.map qW) vs.length, true) := by
    unfold worstF
    rw [if_pos hs, lm, if_neg (by omega), w1.fin]; rfl
  rw [c1, c2, c3]
  refine ⟨rfl, rfl, rfl, by show ((ByteArray.size (bytesOf (codesB (vs.map qW) vs.length)) : Nat) : Int) = 12; rw [sz]; rfl, by show ((List.length (codesL (bytesOf (codesB (vs.map qW) vs.length)) 12) : Nat) : Int) = 12; rw [codesL_len]; rfl, w1.gtr_f (by decide +kernel), fun k hk => ?_⟩
  have g : List.getD (codesL (bytesOf (codesB (vs.map qW) vs.length)) 12) k 0 = codeF (codeOfF ((vs.map qW).getD k 0)) := by
    unfold codesL
    rw [getD_map _ _ 0 0 (by simpa using hk)]
    have : (List.range 12).getD k 0 = k := by simp [hk]
    rw [this, strB_codes hv (by omega) (by omega)]
  show fcmp .gtr .f64 (gapB (fcv .f32 .f64 (List.getD (codesL (bytesOf (codesB (vs.map qW) vs.length)) 12) k 0)) (fcv .f32 .f64 (List.getD (vs.map qW) k 0))) (fop .add .f64 (fcv .f32 .f64 (worstS (vs.map qW) vs.length)) 4547007122018943789) = false
  rw [g]
  obtain ⟨_, _, n3, n4⟩ := eighth_near hv (k := k) (by omega)
  have wk := w2 k (by omega)
  obtain ⟨uf, uv⟩ := fcv_up w1.fx
  have up := w1.up
  have ct : Iv .f64 4547007122018943789 4547007122018943789 4547007122018943789 := Iv.self (by decide +kernel)
  have cv : (9 : Rat) / 100000 ≤ fv .f64 4547007122018943789 := by decide +kernel
  have cv2 : fv .f64 4547007122018943789 ≤ 1 := by decide +kernel
  have iw : Iv .f64 (fcv .f32 .f64 (worstS (vs.map qW) vs.length)) 0 4607182418800017408 := up.weak _ _ (by decide +kernel)
  have isum : Iv .f64 (fop .add .f64 (fcv .f32 .f64 (worstS (vs.map qW) vs.length)) 4547007122018943789) 0 4613937818241073152 := iw.add ct _ _ (by decide +kernel)
  have lo := iw.lo; have hi := iw.hi
  rw [(zero_fl .f64).2] at lo
  have v1 : fv .f64 4607182418800017408 = 1 := by decide +kernel
  rw [v1] at hi
  have e := er (add_Rd iw.fx ct.fx) isum.fx (by grind) (by grind)
  have he : eta ≤ 1 / 1000000 := by decide +kernel
  rw [uv] at e
  rw [Bool.eq_false_iff, ne_eq, gtr_iff n3 isum.fx]
  grind
end

/-- A list each of whose numbers is changed in its place. -/
theorem set_own (f : Nat → Nat) (xs : List Nat) (S : Nat → List Nat) (h0 : S 0 = xs) (hs : ∀ k, S (k + 1) = (S k).set k (f ((S k).getD k 0))) : ∀ k, k ≤ xs.length → S k = (xs.take k).map f ++ xs.drop k := by
  intro k
  induction k with
  | zero => intro _; rw [h0]; simp
  | succ k ih =>
    intro hk
    have hd : xs.drop k = xs[k] :: xs.drop (k + 1) := List.drop_eq_getElem_cons (by omega)
    have la : ((xs.take k).map f).length = k := by simp; omega
    rw [hs, ih (by omega), hd]
    have g : (((xs.take k).map f) ++ xs[k] :: xs.drop (k + 1)).getD k 0 = xs[k] := by
      rw [List.getD_eq_getElem?_getD, List.getElem?_append_right (by omega), la, Nat.sub_self]; rfl
    rw [g, List.set_append_right _ _ (by omega), la, Nat.sub_self, List.set_cons_zero, List.take_add_one, List.map_append, List.append_assoc]
    simp [show k < xs.length by omega]

end Go.Sim
