/- What the law FnTunes says of tunes that are drawn. Conditions: none. -/

import Derived.Test.YtgjdkhocnnoimaaProg
import Derived.KernelRfl
import Derived.Test.YtgjdkhocnnoimaaGft
import Derived.Test.YtgjdkhocnnoimaaPvM

set_option linter.unusedSimpArgs false

set_option linter.unusedVariables false

namespace Go.Sim

open Go Go.Proofs

/-! ### Numbers that are drawn -/

def bW (b : Nat) : Nat := fop .mul .f32 (cvI ((4 : Int) + (b : Int))) 1098907648
def fW (f : Nat) : Nat := fop .quo .f32 (cvI (f : Int)) 1090519040
def rW (r : Nat) : Nat := fop .mul .f32 (cvI ((r : Int) - (4 : Int))) 1098907648
def lW (q : Nat) : Nat := fop .quo .f32 (cvI ((1 : Int) + (q : Int))) 1082130432
def aW (a : Nat) : Nat := fop .quo .f32 (cvI (a : Int)) 1082130432
def sW (s : Nat) : Nat := fop .mul .f32 (cvI ((s : Int) - (8 : Int))) 1082130432
def wW (w : Nat) : Nat := fop .quo .f32 (cvI ((1 : Int) + (w : Int))) 1082130432

theorem tabB : ∀ b, b < 12 → ivB .f32 (bW b) 1115684864 1131413504 = true := by decide +kernel
theorem tabF : ∀ f, f < 9 → ivB .f32 (fW f) 0 1065353216 = true := by decide +kernel
theorem tabR : ∀ r, r < 9 → ivB .f32 (rW r) 3263168512 1115684864 = true := by decide +kernel
theorem tabA : ∀ a, a < 17 → ivB .f32 (aW a) 0 1082130432 = true := by decide +kernel
theorem tabS : ∀ s, s < 17 → ivB .f32 (sW s) 3254779904 1107296256 = true := by decide +kernel
theorem tabW : ∀ w, w < 8 → ivB .f32 (wW w) 1048576000 1073741824 = true := by decide +kernel
theorem tabL : ∀ q, q < 12 → ivB .f32 (lW q) 1048576000 1077936128 = true := by decide +kernel
theorem tabT : ∀ q, q < 12 → ∀ k : Nat, k < 5 → (ivB .f32 (fop .mul .f32 (cvI (k : Int)) (fop .quo .f32 (lW q) 1082130432)) 0 1082130432 && ivB .f32 (fop .quo .f32 (fop .mul .f32 (cvI (k : Int)) (fop .quo .f32 (lW q) 1082130432)) (lW q)) 0 1065353216) = true := by decide +kernel
theorem tabX : ∀ q, q < 12 → (decide (fop .quo .f32 0 (lW q) = 0) && decide (fop .quo .f32 (fop .quo .f32 (lW q) 1073741824) (lW q) = 1056964608) && decide (fop .quo .f32 (lW q) (lW q) = 1065353216) && decide (fop .quo .f32 (fop .mul .f32 (lW q) 1073741824) (lW q) = 1073741824) &&
  ivB .f32 (fop .quo .f32 (lW q) 1073741824) 0 1090519040 && ivB .f32 (fop .mul .f32 (lW q) 1073741824) 0 1090519040) = true := by decide +kernel

/-- An accent as it is drawn. -/
def accDrawn (y : Nat × Nat × Nat) : Prop := ∃ a s w, a < 17 ∧ s < 17 ∧ w < 8 ∧ y = (aW a, sW s, wW w)

theorem accDrawn_iv {y : Nat × Nat × Nat} (h : accDrawn y) : Iv .f32 y.1 0 1082130432 ∧ Iv .f32 y.2.1 3254779904 1107296256 ∧ Iv .f32 y.2.2 1048576000 1073741824 := by
  obtain ⟨a, s, w, ha, hs, hw, rfl⟩ := h
  exact ⟨Iv.of (tabA a ha), Iv.of (tabS s hs), Iv.of (tabW w hw)⟩

theorem accDrawn_ok {y : Nat × Nat × Nat} (h : accDrawn y) : accOk y.1 y.2.1 y.2.2 = true := by
  obtain ⟨h1, h2, h3⟩ := accDrawn_iv h
  unfold accOk above0
  rw [h1.fin, h2.fin, h3.fin, h3.gtr_t (by decide +kernel)]; rfl

def accsDrawn (xs : List (Nat × Nat × Nat)) : Prop := xs.length ≤ 2 ∧ ∀ k, k < xs.length → accDrawn (List.getD xs k (0, 0, 0))

theorem tuneOk_of {b f r : Nat} {xs : List (Nat × Nat × Nat)} (hb : Iv .f32 b 1098907648 1131413504) (hf : Iv .f32 f 0 1065353216) (hr : Iv .f32 r 3263168512 1115684864) (hx : accsDrawn xs) : tuneOk b f r xs = true := by
  unfold tuneOk
  rw [hb.fin, hb.gtr_t (by decide +kernel), hf.geq_t (by decide +kernel), hr.fin]
  have h1 : fcmp .leq .f32 f 1065353216 = true := (leq_iff hf.fx hf.fh).2 hf.hi
  have h2 : accsOk xs = true := allBelow_true.2 fun k hk => accDrawn_ok (hx.2 k hk)
  rw [h1, h2]
  have := hx.1
  simp; omega

/-! ### Accents and pitches are finite -/

theorem bump_iv {a s w t : Nat} (ha : Iv .f32 a 0 1082130432) (hs : Iv .f32 s 3254779904 1107296256) (hw : Iv .f32 w 1048576000 1073741824) (ht : Iv .f32 t 3229614080 1090519040) : Iv .f32 (bumpF a s w t) 3254779904 1107296256 := by
  have u := ((ht.sub ha 3238002688 1090519040 (by decide +kernel)).quo hw 3254779904 1107296256 (by decide +kernel)).sq 1149239296 (by decide +kernel)
  have v := (Iv.of (k := .f32) (x := 1065353216) (l := 1065353216) (h := 1065353216) (by decide +kernel)).sub u 3296722944 1065353216 (by decide +kernel)
  unfold bumpF
  split
  · rename_i h
    have v1 : Iv .f32 (fop .sub .f32 1065353216 (fop .mul .f32 (fop .quo .f32 (fop .sub .f32 t a) w) (fop .quo .f32 (fop .sub .f32 t a) w))) 0 1065353216 :=
      ⟨v.fx, (zero_fl .f32).1, v.fh, by have := (gtr_iff v.fx (zero_fl .f32).1).1 h; grind, v.hi⟩
    exact (hs.mul v1 3254779904 1107296256 (by decide +kernel)).mul v1 3254779904 1107296256 (by decide +kernel)
  · exact Iv.of (by decide +kernel)

/-- A pitch of its sums. -/
def pitchG (s1 s2 R x : Nat) : Nat := (if (fcmp .gtr .f32 x 1065353216) then (if (fcmp .gtr .f32 (fop .add .f32 s1 (fop .mul .f32 (fop .mul .f32 R (fop .sub .f32 1065353216 1061158912)) 1082130432)) 0) then (fop .add .f32 s1 (fop .mul .f32 (fop .mul .f32 R (fop .sub .f32 1065353216 1061158912)) 1082130432)) else 0) else
  (if (fcmp .gtr .f32 x 1061158912) then (if (fcmp .gtr .f32 (fop .add .f32 s2 (fop .mul .f32 (fop .mul .f32 R (fop .sub .f32 x 1061158912)) 1082130432)) 0) then (fop .add .f32 s2 (fop .mul .f32 (fop .mul .f32 R (fop .sub .f32 x 1061158912)) 1082130432)) else 0) else (if (fcmp .gtr .f32 s2 0) then s2 else 0)))

theorem pitchF_G (B F R : Nat) (xs : List (Nat × Nat × Nat)) (t l : Nat) : pitchF B F R xs t l = pitchG (ev_pitchAt_L1_S B F R xs xs.length t l xs.length) (ev_pitchAt_L2_S B F R xs xs.length t l xs.length) R (fop .quo .f32 t l) := rfl

theorem sums_iv {B F R t l : Nat} {xs : List (Nat × Nat × Nat)} (hB : Iv .f32 B 1098907648 1131413504) (hF : Iv .f32 F 0 1065353216) (hx : accsDrawn xs) (ht : Iv .f32 t 3229614080 1090519040) (hq : Iv .f32 (fop .quo .f32 t l) 0 1065353216) :
    Iv .f32 (ev_pitchAt_L1_S B F R xs xs.length t l xs.length) 3288334336 1140850688 ∧ Iv .f32 (ev_pitchAt_L2_S B F R xs xs.length t l xs.length) 3288334336 1140850688 := by
  have one : Iv .f32 1065353216 1065353216 1065353216 := Iv.of (by decide +kernel)
  have i0 : ∀ x, Iv .f32 x 0 1065353216 → Iv .f32 (fop .mul .f32 B (fop .sub .f32 1065353216 (fop .mul .f32 F x))) 3279945728 1132462080 := fun x hx =>
    hB.mul (one.sub (hF.mul hx 0 1065353216 (by decide +kernel)) 3212836864 1065353216 (by decide +kernel)) 3279945728 1132462080 (by decide +kernel)
  have go : ∀ (S : Nat → Nat), Iv .f32 (S 0) 3279945728 1132462080 → (∀ k, S (k + 1) = fop .add .f32 (S k) (bumpF (List.getD xs k (0, 0, 0)).1 (List.getD xs k (0, 0, 0)).2.1 (List.getD xs k (0, 0, 0)).2.2 t)) → Iv .f32 (S xs.length) 3288334336 1140850688 := by
    intro S h0 hs
    have b : ∀ k, k < xs.length → Iv .f32 (bumpF (List.getD xs k (0, 0, 0)).1 (List.getD xs k (0, 0, 0)).2.1 (List.getD xs k (0, 0, 0)).2.2 t) 3254779904 1107296256 := fun k hk => by
      obtain ⟨h1, h2, h3⟩ := accDrawn_iv (hx.2 k hk)
      exact bump_iv h1 h2 h3 ht
    have hl := hx.1
    rcases Nat.lt_or_ge 0 xs.length with h | h
    · have c1 := (h0.add (b 0 h) 3280994304 1133510656 (by decide +kernel))
      rw [← hs 0] at c1
      rcases Nat.lt_or_ge 1 xs.length with g | g
      · have c2 := (c1.add (b 1 g) 3282042880 1134559232 (by decide +kernel))
        rw [← hs 1] at c2
        rw [show xs.length = 2 by omega]
        exact c2.weak _ _ (by decide +kernel)
      · rw [show xs.length = 1 by omega]
        exact c1.weak _ _ (by decide +kernel)
    · rw [show xs.length = 0 by omega]
      exact h0.weak _ _ (by decide +kernel)
  exact ⟨go (ev_pitchAt_L1_S B F R xs xs.length t l) (i0 _ (Iv.of (by decide +kernel))) (fun k => rfl), go (ev_pitchAt_L2_S B F R xs xs.length t l) (i0 _ hq) (fun k => rfl)⟩

theorem pos_iv {x : Nat} (h : Iv .f32 x 3296722944 1149239296) : Iv .f32 (if fcmp .gtr .f32 x 0 then x else 0) 0 1149239296 := by
  split
  · rename_i g
    exact ⟨h.fx, (zero_fl .f32).1, h.fh, by have := (gtr_iff h.fx (zero_fl .f32).1).1 g; grind, h.hi⟩
  · exact Iv.of (by decide +kernel)

theorem pitch_iv {B F R t l : Nat} {xs : List (Nat × Nat × Nat)} (hB : Iv .f32 B 1098907648 1131413504) (hF : Iv .f32 F 0 1065353216) (hR : Iv .f32 R 3263168512 1115684864) (hx : accsDrawn xs) (ht : Iv .f32 t 3229614080 1090519040) (hq : Iv .f32 (fop .quo .f32 t l) 0 1065353216) :
    Iv .f32 (pitchF B F R xs t l) 0 1149239296 := by
  obtain ⟨s1, s2⟩ := sums_iv (R := R) hB hF hx ht hq
  have c75 : Iv .f32 1061158912 1061158912 1061158912 := Iv.of (by decide +kernel)
  have c4 : Iv .f32 1082130432 1082130432 1082130432 := Iv.of (by decide +kernel)
  have rise : ∀ x, Iv .f32 x 0 1065353216 → Iv .f32 (fop .mul .f32 (fop .mul .f32 R (fop .sub .f32 x 1061158912)) 1082130432) 3279945728 1132462080 := fun x h =>
    (hR.mul (h.sub c75 3212836864 1065353216 (by decide +kernel)) 3263168512 1115684864 (by decide +kernel)).mul c4 3279945728 1132462080 (by decide +kernel)
  rw [pitchF_G]
  unfold pitchG
  split
  · exact pos_iv (s1.add (rise _ (Iv.of (by decide +kernel))) 3296722944 1149239296 (by decide +kernel))
  · split
    · exact pos_iv (s2.add (rise _ hq) 3296722944 1149239296 (by decide +kernel))
    · exact pos_iv (s2.weak _ _ (by decide +kernel))

theorem pitchAt_ok {B F R t l p : Nat} {xs : List (Nat × Nat × Nat)} (h1 : tuneOk B F R xs = true) (h2 : fin32 t = true) (h3 : fcmp .geq .f32 t 0 = true) (h4 : fin32 l = true) (h5 : fcmp .gtr .f32 l 0 = true) (hp : pitchF B F R xs t l = p) (h6 : fin32 p = true) : pitchAtF B F R xs t l = (p, true) := by
  simp [pitchAtF, h1, h2, h3, h4, h5, hp, h6]

theorem pitchAt_F {B F R t l : Nat} {xs : List (Nat × Nat × Nat)} (h1 : tuneOk B F R xs = true) (h2 : fin32 t = true) (h3 : fcmp .geq .f32 t 0 = true) (h4 : fin32 l = true) (h5 : fcmp .gtr .f32 l 0 = true) (h6 : fin32 (pitchF B F R xs t l) = true) : pitchAtF B F R xs t l = (pitchF B F R xs t l, true) := pitchAt_ok h1 h2 h3 h4 h5 rfl h6

/-! ### Pitches of a tune -/

theorem pitches_list (B F R : Nat) (xs : List (Nat × Nat × Nat)) (l : Nat) : ev_PitchesOf_L1_S B F R xs xs.length l 5 ((5 : Int)).toNat = (List.range 5).map fun k => pitchF B F R xs (fop .mul .f32 (cvI ((k : Nat) : Int)) (fop .quo .f32 l 1082130432)) l := by
  have e : canon .f32 (FloatKind.nearest .f32 ((5 : Int) - (1 : Int))) = 1082130432 := by decide +kernel
  have := set_all 5 (fun k => pitchF B F R xs (fop .mul .f32 (cvI ((k : Nat) : Int)) (fop .quo .f32 l 1082130432)) l) (ev_PitchesOf_L1_S B F R xs xs.length l 5) (by simp [ev_PitchesOf_L1_S]) (fun k => by
    show List.set _ k _ = _
    rw [e]; rfl)
  exact this

structure TDrawn (B F R l : Nat) (xs : List (Nat × Nat × Nat)) : Prop where
  b : ∃ b, b < 12 ∧ B = bW b
  f : ∃ f, f < 9 ∧ F = fW f
  r : ∃ r, r < 9 ∧ R = rW r
  l : ∃ q, q < 12 ∧ l = lW q
  x : accsDrawn xs

section
variable {B F R l : Nat} {xs : List (Nat × Nat × Nat)} (h : TDrawn B F R l xs)
include h
theorem TDrawn.ib : Iv .f32 B 1098907648 1131413504 := by obtain ⟨b, hb, rfl⟩ := h.b; exact (Iv.of (tabB b hb)).weak _ _ (by decide +kernel)
theorem TDrawn.if_ : Iv .f32 F 0 1065353216 := by obtain ⟨f, hf, rfl⟩ := h.f; exact Iv.of (tabF f hf)
theorem TDrawn.ir : Iv .f32 R 3263168512 1115684864 := by obtain ⟨r, hr, rfl⟩ := h.r; exact Iv.of (tabR r hr)
theorem TDrawn.il : Iv .f32 l 1048576000 1077936128 := by obtain ⟨q, hq, rfl⟩ := h.l; exact Iv.of (tabL q hq)
theorem TDrawn.ok : tuneOk B F R xs = true := tuneOk_of h.ib h.if_ h.ir h.x
theorem TDrawn.lpos : fcmp .gtr .f32 l 0 = true := h.il.gtr_t (by decide +kernel)

theorem TDrawn.time {k : Nat} (hk : k < 5) : Iv .f32 (fop .mul .f32 (cvI ((k : Nat) : Int)) (fop .quo .f32 l 1082130432)) 0 1082130432 ∧ Iv .f32 (fop .quo .f32 (fop .mul .f32 (cvI ((k : Nat) : Int)) (fop .quo .f32 l 1082130432)) l) 0 1065353216 := by
  obtain ⟨q, hq, rfl⟩ := h.l
  have := tabT q hq k hk
  simp only [Bool.and_eq_true] at this
  exact ⟨Iv.of this.1, Iv.of this.2⟩

theorem TDrawn.pitch {k : Nat} (hk : k < 5) : Iv .f32 (pitchF B F R xs (fop .mul .f32 (cvI ((k : Nat) : Int)) (fop .quo .f32 l 1082130432)) l) 0 1149239296 :=
  pitch_iv h.ib h.if_ h.ir h.x ((h.time hk).1.weak _ _ (by decide +kernel)) (h.time hk).2

theorem TDrawn.pitches : pitchesF B F R xs l 5 = ((List.range 5).map fun k => pitchF B F R xs (fop .mul .f32 (cvI ((k : Nat) : Int)) (fop .quo .f32 l 1082130432)) l, true) := by
  unfold pitchesF
  rw [pitches_list]
  have a : allFin ((List.range 5).map fun k => pitchF B F R xs (fop .mul .f32 (cvI ((k : Nat) : Int)) (fop .quo .f32 l 1082130432)) l) = true := by
    refine allBelow_true.2 fun k hk => ?_
    simp only [List.length_map, List.length_range] at hk
    have e : ((List.range 5).map fun k => pitchF B F R xs (fop .mul .f32 (cvI ((k : Nat) : Int)) (fop .quo .f32 l 1082130432)) l).getD k 0 = pitchF B F R xs (fop .mul .f32 (cvI ((k : Nat) : Int)) (fop .quo .f32 l 1082130432)) l := by
      simp [List.getD_eq_getElem?_getD, hk]
    show fin32 _ = true
    rw [e]; exact (h.pitch hk).fin
  simp only [h.ok, h.il.fin, h.lpos, a, if_true, ge_iff_le, show (2 : Int) ≤ 5 by decide, show (5 : Int) ≤ 64 by decide]

theorem TDrawn.pitches_get {k : Nat} (hk : k < 5) : List.getD (pitchesF B F R xs l 5).1 k 0 = pitchF B F R xs (fop .mul .f32 (cvI ((k : Nat) : Int)) (fop .quo .f32 l 1082130432)) l := by
  rw [h.pitches]
  simp [List.getD_eq_getElem?_getD, hk]

theorem TDrawn.own {k : Nat} (hk : k < 5) : pitchAtF B F R xs (fop .mul .f32 (cvI ((k : Nat) : Int)) (fop .quo .f32 l 1082130432)) l = (pitchF B F R xs (fop .mul .f32 (cvI ((k : Nat) : Int)) (fop .quo .f32 l 1082130432)) l, true) :=
  pitchAt_F h.ok (h.time hk).1.fin ((h.time hk).1.geq_t (by decide +kernel)) h.il.fin h.lpos (h.pitch hk).fin

theorem TDrawn.loop {k : Nat} (hk : k < 5) : (pitchAtF B F R xs (fop .mul .f32 (cvI ((k : Nat) : Int)) (fop .quo .f32 l 1082130432)) l).2 = true ∧
    fcmp .neq .f32 (pitchAtF B F R xs (fop .mul .f32 (cvI ((k : Nat) : Int)) (fop .quo .f32 l 1082130432)) l).1 (List.getD (pitchesF B F R xs l 5).1 k 0) = false ∧ fcmp .lss .f32 (List.getD (pitchesF B F R xs l 5).1 k 0) 0 = false := by
  rw [h.pitches_get hk, h.own hk]
  exact ⟨rfl, (h.pitch hk).self_ne, (h.pitch hk).lss_f (by decide +kernel)⟩
end

/-! ### A tune without accents -/

def plainX (B F x : Nat) : Nat := pitchG (fop .mul .f32 B (fop .sub .f32 1065353216 (fop .mul .f32 F 1065353216))) (fop .mul .f32 B (fop .sub .f32 1065353216 (fop .mul .f32 F x))) 0 x

theorem plain_X (B F t l : Nat) : pitchF B F 0 [] t l = plainX B F (fop .quo .f32 t l) := rfl

def plainB (B F : Nat) : Bool :=
  decide (plainX B F 0 = B) &&
  fin32 (plainX B F 1056964608) && !(fcmp .gtr .f64 (gapR (fcv .f32 .f64 (plainX B F 1056964608)) (fop .mul .f64 (fcv .f32 .f64 B) (fop .sub .f64 4607182418800017408 (fop .quo .f64 (fcv .f32 .f64 F) 4611686018427387904)))) 4576918229304087675) &&
  fin32 (plainX B F 1065353216) && !(fcmp .gtr .f64 (gapR (fcv .f32 .f64 (plainX B F 1065353216)) (fop .mul .f64 (fcv .f32 .f64 B) (fop .sub .f64 4607182418800017408 (fcv .f32 .f64 F)))) 4576918229304087675) &&
  decide (plainX B F 1073741824 = plainX B F 1065353216)

theorem tabP : ∀ b, b < 12 → ∀ f, f < 9 → plainB (bW b) (fW f) = true := by decide +kernel

theorem accsDrawn_nil : accsDrawn [] := ⟨by decide, fun k hk => by simp at hk⟩

theorem izero : Iv .f32 0 3263168512 1115684864 := Iv.of (by decide +kernel)

section
variable {B F R l : Nat} {xs : List (Nat × Nat × Nat)} (h : TDrawn B F R l xs)
include h
theorem TDrawn.ok0 : tuneOk B F 0 [] = true := tuneOk_of h.ib h.if_ izero accsDrawn_nil

theorem TDrawn.plain {t x : Nat} (ht : Iv .f32 t 0 1090519040) (hq : fop .quo .f32 t l = x) (hx : fin32 (plainX B F x) = true) : pitchAtF B F 0 [] t l = (plainX B F x, true) := by
  subst hq
  exact pitchAt_ok h.ok0 ht.fin (ht.geq_t (by decide +kernel)) h.il.fin h.lpos (plain_X ..) hx

theorem TDrawn.plains : (pitchAtF B F 0 [] 0 l).2 = true ∧ (pitchAtF B F 0 [] (fop .quo .f32 l 1073741824) l).2 = true ∧ (pitchAtF B F 0 [] l l).2 = true ∧ (pitchAtF B F 0 [] (fop .mul .f32 l 1073741824) l).2 = true ∧
    fcmp .neq .f32 (pitchAtF B F 0 [] 0 l).1 B = false ∧
    fcmp .gtr .f64 (gapR (fcv .f32 .f64 (pitchAtF B F 0 [] (fop .quo .f32 l 1073741824) l).1) (fop .mul .f64 (fcv .f32 .f64 (pitchAtF B F 0 [] 0 l).1) (fop .sub .f64 4607182418800017408 (fop .quo .f64 (fcv .f32 .f64 F) 4611686018427387904)))) 4576918229304087675 = false ∧
    fcmp .gtr .f64 (gapR (fcv .f32 .f64 (pitchAtF B F 0 [] l l).1) (fop .mul .f64 (fcv .f32 .f64 (pitchAtF B F 0 [] 0 l).1) (fop .sub .f64 4607182418800017408 (fcv .f32 .f64 F)))) 4576918229304087675 = false ∧
    fcmp .neq .f32 (pitchAtF B F 0 [] l l).1 (pitchAtF B F 0 [] (fop .mul .f32 l 1073741824) l).1 = false := by
  have hb := h.ib
  obtain ⟨q, hq, hl⟩ := h.l
  have tx := tabX q hq
  obtain ⟨b, hb', eb⟩ := h.b
  obtain ⟨f, hf', ef⟩ := h.f
  have tp := tabP b hb' f hf'
  rw [← eb, ← ef] at tp
  rw [← hl] at tx
  unfold plainB at tp
  simp only [Bool.and_eq_true, decide_eq_true_eq, Bool.not_eq_true'] at tx tp
  obtain ⟨⟨⟨⟨⟨x0, x1⟩, x2⟩, x3⟩, x4⟩, x5⟩ := tx
  obtain ⟨⟨⟨⟨⟨p0, p1⟩, p2⟩, p3⟩, p4⟩, p5⟩ := tp
  rw [h.plain (t := 0) (Iv.of (by decide +kernel)) x0 (by rw [p0]; exact hb.fin), h.plain (Iv.of x4) x1 p1, h.plain (h.il.weak _ _ (by decide +kernel)) x2 p3, h.plain (Iv.of x5) x3 (by rw [p5]; exact p3)]
  refine ⟨rfl, rfl, rfl, rfl, ?_, ?_, ?_, ?_⟩
  · show fcmp .neq .f32 (plainX B F 0) B = false
    rw [p0]; exact hb.self_ne
  · show fcmp .gtr .f64 (gapR (fcv .f32 .f64 (plainX B F 1056964608)) (fop .mul .f64 (fcv .f32 .f64 (plainX B F 0)) _)) _ = false
    rw [p0]; exact p2
  · show fcmp .gtr .f64 (gapR (fcv .f32 .f64 (plainX B F 1065353216)) (fop .mul .f64 (fcv .f32 .f64 (plainX B F 0)) _)) _ = false
    rw [p0]; exact p4
  · show fcmp .neq .f32 (plainX B F 1065353216) (plainX B F 1073741824) = false
    rw [p5]; exact neq_self (isF_notN (fin32_isF.1 p3))
end

/-! ### One accent -/

def accEdgeB (a w : Nat) : Bool :=
  decide (fop .quo .f32 (fop .sub .f32 (aW a) (aW a)) (wW w) = 0) && decide (fop .quo .f32 (fop .sub .f32 (fop .add .f32 (aW a) (wW w)) (aW a)) (wW w) = 1065353216) &&
  decide (fop .quo .f32 (fop .sub .f32 (fop .sub .f32 (aW a) (fop .quo .f32 (wW w) 1073741824)) (aW a)) (wW w) = 3204448256) && decide (fop .quo .f32 (fop .sub .f32 (fop .add .f32 (aW a) (fop .quo .f32 (wW w) 1073741824)) (aW a)) (wW w) = 1056964608) &&
  fin32 (fop .add .f32 (aW a) (wW w)) && fin32 (fop .sub .f32 (aW a) (fop .quo .f32 (wW w) 1073741824)) && fin32 (fop .add .f32 (aW a) (fop .quo .f32 (wW w) 1073741824))

theorem tabE : ∀ a, a < 9 → ∀ w, w < 8 → accEdgeB a w = true := by decide +kernel
theorem tabM : ∀ s, s < 17 → decide (fop .mul .f32 (fop .mul .f32 (sW s) 1065353216) 1065353216 = sW s) = true := by decide +kernel

/-- What an accent adds, by how far from it. -/
def bumpU (s u : Nat) : Nat := if fcmp .gtr .f32 (fop .sub .f32 1065353216 (fop .mul .f32 u u)) 0 then fop .mul .f32 (fop .mul .f32 s (fop .sub .f32 1065353216 (fop .mul .f32 u u))) (fop .sub .f32 1065353216 (fop .mul .f32 u u)) else 0

theorem bump_U (a s w t : Nat) : bumpF a s w t = bumpU s (fop .quo .f32 (fop .sub .f32 t a) w) := rfl

theorem bumpAt_ok {a s w t p : Nat} (h1 : accOk a s w = true) (h2 : fin32 t = true) (hp : bumpF a s w t = p) (h3 : fin32 p = true) : bumpAtF a s w t = (p, true) := by
  simp [bumpAtF, h1, h2, hp, h3]

/-- Numbers that are as great are no way apart. -/
theorem gap0 {x y : Nat} (hx : isFl .f64 x) (hy : isFl .f64 y) (e : fv .f64 x = fv .f64 y) : isFl .f64 (gapR x y) ∧ fv .f64 (gapR x y) = 0 := by
  obtain ⟨f1, v1⟩ := (sub_Rd hx hy).exact (zero_fl .f64).1 (by rw [(zero_fl .f64).2, e]; grind)
  obtain ⟨f2, v2⟩ := (sub_Rd hy hx).exact (zero_fl .f64).1 (by rw [(zero_fl .f64).2, e]; grind)
  unfold gapR fminmax
  rcases order_val f1 f2 with ⟨h, g⟩ | ⟨h, g⟩ | ⟨h, g⟩
  · exfalso; grind
  · rw [h]
    simp only
    split
    · exact ⟨f2, by show fv .f64 (fop .sub .f64 y x) = 0; rw [v2, e]; grind⟩
    · exact ⟨f1, by show fv .f64 (fop .sub .f64 x y) = 0; rw [v1, e]; grind⟩
  · exfalso; grind

theorem gap_lss {x y c : Nat} (hx : isFl .f64 x) (hy : isFl .f64 y) (e : fv .f64 x = fv .f64 y) (hc : (finB .f64 c && decide (0 < fv .f64 c)) = true) : fcmp .lss .f64 (gapR x y) c = true := by
  obtain ⟨f, v⟩ := gap0 hx hy e
  simp only [Bool.and_eq_true, decide_eq_true_eq] at hc
  exact (lss_iff f (finB_fl hc.1)).2 (by rw [v]; exact hc.2)

theorem bumps {a s w : Nat} (ha : a < 9) (hs : s < 17) (hw : w < 8) : bumpF (aW a) (sW s) (wW w) (aW a) = sW s ∧ bumpAtF (aW a) (sW s) (wW w) (aW a) = (sW s, true) ∧
    bumpAtF (aW a) (sW s) (wW w) (fop .add .f32 (aW a) (wW w)) = (0, true) ∧ ∃ p, isFl .f32 p ∧
    bumpAtF (aW a) (sW s) (wW w) (fop .sub .f32 (aW a) (fop .quo .f32 (wW w) 1073741824)) = (p, true) ∧ bumpAtF (aW a) (sW s) (wW w) (fop .add .f32 (aW a) (fop .quo .f32 (wW w) 1073741824)) = (p, true) := by
  have ia := Iv.of (tabA a (by omega)); have is_ := Iv.of (tabS s hs); have iw := Iv.of (tabW w hw)
  have ok : accOk (aW a) (sW s) (wW w) = true := accDrawn_ok (y := (aW a, sW s, wW w)) ⟨a, s, w, by omega, hs, hw, rfl⟩
  have te := tabE a ha w hw
  have tm := tabM s hs
  unfold accEdgeB at te
  simp only [Bool.and_eq_true, decide_eq_true_eq] at te tm
  obtain ⟨⟨⟨⟨⟨⟨e0, e1⟩, e2⟩, e3⟩, e4⟩, e5⟩, e6⟩ := te
  have z : fcmp .gtr .f32 (fop .sub .f32 1065353216 (fop .mul .f32 0 0)) 0 = true := by decide +kernel
  have z1 : fop .sub .f32 1065353216 (fop .mul .f32 0 0) = 1065353216 := by decide +kernel
  have o : fcmp .gtr .f32 (fop .sub .f32 1065353216 (fop .mul .f32 1065353216 1065353216)) 0 = false := by decide +kernel
  have l1 : fop .mul .f32 3204448256 3204448256 = 1048576000 := by decide +kernel
  have r1 : fop .mul .f32 1056964608 1056964608 = 1048576000 := by decide +kernel
  have top : bumpF (aW a) (sW s) (wW w) (aW a) = sW s := by
    rw [bump_U, e0]; unfold bumpU; rw [if_pos z, z1, tm]
  have edge : bumpF (aW a) (sW s) (wW w) (fop .add .f32 (aW a) (wW w)) = 0 := by
    rw [bump_U, e1]; unfold bumpU; rw [o]; rfl
  have half : bumpU (sW s) 1056964608 = bumpU (sW s) 3204448256 := by unfold bumpU; rw [l1, r1]
  have q : Iv .f32 (bumpU (sW s) 1056964608) 3254779904 1107296256 := by
    unfold bumpU
    rw [r1]
    have v : Iv .f32 (fop .sub .f32 1065353216 1048576000) 0 1065353216 := Iv.of (by decide +kernel)
    split
    · exact (is_.mul v 3254779904 1107296256 (by decide +kernel)).mul v 3254779904 1107296256 (by decide +kernel)
    · exact Iv.of (by decide +kernel)
  refine ⟨top, bumpAt_ok ok ia.fin top is_.fin, bumpAt_ok ok e4 edge (by decide +kernel), bumpU (sW s) 1056964608, q.fx, bumpAt_ok ok e5 ?_ q.fin, bumpAt_ok ok e6 ?_ q.fin⟩
  · rw [bump_U, e2, half]
  · rw [bump_U, e3]

/-- A sum of sixteenths is exact. -/
theorem add_sixteenth (k : FloatKind) {x y : Nat} (hx : isFl k x) (hy : isFl k y) {n z : Int} (ex : fv k x = (n : Rat) * 2 ^ (-4 : Int)) (ey : fv k y = (z : Rat) * 2 ^ (-4 : Int)) (h0 : 0 ≤ n + z) (h1 : n + z ≤ 8192) :
    isFl k (fop .add k x y) ∧ fv k (fop .add k x y) = ((n + z : Int) : Rat) * 2 ^ (-4 : Int) := by
  obtain ⟨N, hN⟩ := Int.eq_ofNat_of_zero_le h0
  have big : ∃ w, isFl k w ∧ mgv N (-4) ≤ fv k w := by
    cases k
    · refine ⟨1140850688, finB_fl (by decide +kernel), ?_⟩
      have : fv .f32 1140850688 = ((8192 : Int) : Rat) * 2 ^ (-4 : Int) := by decide +kernel
      rw [this]
      show ((N : Nat) : Rat) * 2 ^ (-4 : Int) ≤ _
      have : ((N : Nat) : Rat) ≤ ((8192 : Int) : Rat) := Rat.intCast_le_intCast.2 (show ((N : Nat) : Int) ≤ 8192 by omega)
      exact Rat.mul_le_mul_of_nonneg_right this (by decide +kernel)
    · refine ⟨4647714815446351872, finB_fl (by decide +kernel), ?_⟩
      have : fv .f64 4647714815446351872 = ((8192 : Int) : Rat) * 2 ^ (-4 : Int) := by decide +kernel
      rw [this]
      show ((N : Nat) : Rat) * 2 ^ (-4 : Int) ≤ _
      have : ((N : Nat) : Rat) ≤ ((8192 : Int) : Rat) := Rat.intCast_le_intCast.2 (show ((N : Nat) : Int) ≤ 8192 by omega)
      exact Rat.mul_le_mul_of_nonneg_right this (by decide +kernel)
  obtain ⟨w, fw, hw⟩ := big
  have hN1 : N ≤ 8192 := by omega
  have m1 : N ≤ 2 * k.format.binade := by cases k <;> exact Nat.le_trans hN1 (by decide)
  have m2 : k.format.leastPlace ≤ -4 := by cases k <;> decide
  obtain ⟨u, fu, vu⟩ := rep_fin m1 m2 fw hw false
  have e : fv k x + fv k y = fv k u := by
    rw [ex, ey, vu]
    show _ = 1 * (((N : Nat) : Rat) * 2 ^ (-4 : Int))
    have : ((n : Int) : Rat) + ((z : Int) : Rat) = ((N : Nat) : Rat) := by
      rw [← Rat.intCast_add, hN]; rfl
    rw [← this]; grind
  obtain ⟨f, v⟩ := (add_Rd hx hy).exact fu e
  exact ⟨f, by rw [v, ex, ey, Rat.intCast_add]; grind⟩

def flatW (b f a : Nat) : Nat := fop .mul .f32 (bW b) (fop .sub .f32 1065353216 (fop .mul .f32 (fW f) (fop .quo .f32 (aW a) 1090519040)))
theorem tabFl : ∀ b, b < 12 → ∀ f, f < 9 → ∀ a, a < 9 → (finB .f32 (flatW b f a) && decide (fv .f32 (flatW b f a) = (((256 * (4 + b) : Nat) : Int) - (((4 + b) * f * a : Nat) : Int) : Int) * (2 : Rat) ^ (-4 : Int))) = true := by decide +kernel
theorem tabSz : ∀ s, s < 17 → decide (fv .f32 (sW s) = ((64 * (s : Int) - 512 : Int) : Rat) * (2 : Rat) ^ (-4 : Int)) = true := by decide +kernel
theorem tabAx : ∀ a, a < 9 → (ivB .f32 (fop .quo .f32 (aW a) 1090519040) 0 1056964608) = true := by decide +kernel

theorem max_pos {y : Nat} (hy : isFl .f64 y) (h : 0 < fv .f64 y) : fminmax true .f64 0 y = y := by
  unfold fminmax
  rcases order_val (zero_fl .f64).1 hy with ⟨e, g⟩ | ⟨e, g⟩ | ⟨e, g⟩
  · rw [e]; rfl
  · rw [(zero_fl .f64).2] at g; grind
  · rw [(zero_fl .f64).2] at g; grind

section
variable {B F R l : Nat} {xs : List (Nat × Nat × Nat)} (h : TDrawn B F R l xs)
include h

theorem TDrawn.accent {a s w : Nat} (ha : a < 9) (hs : s < 17) (hw : w < 8) : addAccF B F 0 [] (aW a) (sW s) (wW w) = (B, F, 0, [(aW a, sW s, wW w)], true) ∧
    (pitchAtF B F 0 [(aW a, sW s, wW w)] (aW a) 1090519040).2 = true ∧ (pitchAtF B F 0 [] (aW a) 1090519040).2 = true ∧
    fcmp .lss .f64 (gapR (fcv .f32 .f64 (pitchAtF B F 0 [(aW a, sW s, wW w)] (aW a) 1090519040).1) (fminmax true .f64 0 (fop .add .f64 (fcv .f32 .f64 (pitchAtF B F 0 [] (aW a) 1090519040).1) (fcv .f32 .f64 (sW s))))) 4576918229304087675 = true := by
  have d1 : accsDrawn [(aW a, sW s, wW w)] := ⟨Nat.le_succ 1, fun k hk => by
    obtain rfl : k = 0 := by simp at hk; exact hk
    exact ⟨a, s, w, by omega, hs, hw, rfl⟩⟩
  have ok1 : tuneOk B F 0 [(aW a, sW s, wW w)] = true := tuneOk_of h.ib h.if_ izero d1
  have ia := Iv.of (tabA a (by omega)); have is_ := Iv.of (tabS s hs)
  have ix := Iv.of (tabAx a ha)
  have gx1 : fcmp .gtr .f32 (fop .quo .f32 (aW a) 1090519040) 1065353216 = false := ix.gtr_f (by decide +kernel)
  have gx2 : fcmp .gtr .f32 (fop .quo .f32 (aW a) 1090519040) 1061158912 = false := ix.gtr_f (by decide +kernel)
  obtain ⟨b, hb, eb⟩ := h.b
  obtain ⟨f, hf, ef⟩ := h.f
  have tf := tabFl b hb f hf a ha
  have tz := tabSz s hs
  simp only [Bool.and_eq_true, decide_eq_true_eq] at tf tz
  have ff : isFl .f32 (flatW b f a) := finB_fl tf.1
  have bnd : (4 + b) * f * a ≤ (4 + b) * 64 := by
    have : f * a ≤ 64 := Nat.le_trans (Nat.mul_le_mul (Nat.le_of_lt_succ hf) (Nat.le_of_lt_succ ha)) (Nat.le_refl 64)
    rw [Nat.mul_assoc]; exact Nat.mul_le_mul_left _ this
  generalize hn : (((256 * (4 + b) : Nat) : Int) - (((4 + b) * f * a : Nat) : Int)) = n at tf
  have n0 : 768 ≤ n := by omega
  have n1 : n ≤ 3840 := by omega
  generalize hz : (64 * (s : Int) - 512) = z at tz
  have z0 : -512 ≤ z := by omega
  have z1 : z ≤ 512 := by omega
  have p16 : (0 : Rat) < 2 ^ (-4 : Int) := by decide +kernel
  have pos : ∀ m : Int, 0 < m → (0 : Rat) < (m : Rat) * 2 ^ (-4 : Int) := fun m hm => Rat.mul_pos (Rat.intCast_pos.2 hm) p16
  have gf : fcmp .gtr .f32 (flatW b f a) 0 = true := (gtr_iff ff (zero_fl .f32).1).2 (by rw [(zero_fl .f32).2, tf.2]; exact pos n (by omega))
  obtain ⟨fs, vs⟩ := add_sixteenth .f32 ff is_.fx tf.2 tz (by omega) (by omega)
  have gs : fcmp .gtr .f32 (fop .add .f32 (flatW b f a) (sW s)) 0 = true := (gtr_iff fs (zero_fl .f32).1).2 (by rw [(zero_fl .f32).2, vs]; exact pos _ (by omega))
  have top := (bumps ha hs hw).1
  have flat : pitchF B F 0 [] (aW a) 1090519040 = flatW b f a := by
    rw [plain_X]; unfold plainX pitchG
    rw [gx1, gx2, eb, ef]
    simp only [Bool.false_eq_true, if_false]
    exact if_pos gf
  have high : pitchF B F 0 [(aW a, sW s, wW w)] (aW a) 1090519040 = fop .add .f32 (flatW b f a) (sW s) := by
    rw [pitchF_G]
    have e2 : ev_pitchAt_L2_S B F 0 [(aW a, sW s, wW w)] (List.length [(aW a, sW s, wW w)]) (aW a) 1090519040 (List.length [(aW a, sW s, wW w)]) = fop .add .f32 (flatW b f a) (sW s) := by
      show fop .add .f32 (fop .mul .f32 B (fop .sub .f32 1065353216 (fop .mul .f32 F (fop .quo .f32 (aW a) 1090519040)))) (bumpF (aW a) (sW s) (wW w) (aW a)) = _
      rw [top, eb, ef]; rfl
    rw [e2]
    unfold pitchG
    rw [gx1, gx2]
    simp only [Bool.false_eq_true, if_false]
    exact if_pos gs
  have t8 : fin32 1090519040 = true := by decide +kernel
  have g8 : fcmp .gtr .f32 1090519040 0 = true := by decide +kernel
  have a0 : fcmp .geq .f32 (aW a) 0 = true := ia.geq_t (by decide +kernel)
  have pf := pitchAt_ok h.ok0 ia.fin a0 t8 g8 flat (fin32_isF.2 ff)
  have ph := pitchAt_ok ok1 ia.fin a0 t8 g8 high (fin32_isF.2 fs)
  rw [pf, ph]
  refine ⟨?_, rfl, rfl, ?_⟩
  · unfold addAccF
    rw [h.ok0]
    simp only [List.nil_append, ok1, if_true]
  · obtain ⟨uf, uv⟩ := fcv_up ff
    obtain ⟨us, uw⟩ := fcv_up is_.fx
    obtain ⟨uh, ux⟩ := fcv_up fs
    obtain ⟨f6, v6⟩ := add_sixteenth .f64 uf us (uv.trans tf.2) (uw.trans tz) (by omega) (by omega)
    show fcmp .lss .f64 (gapR (fcv .f32 .f64 (fop .add .f32 (flatW b f a) (sW s))) (fminmax true .f64 0 (fop .add .f64 (fcv .f32 .f64 (flatW b f a)) (fcv .f32 .f64 (sW s))))) _ = true
    rw [max_pos f6 (by rw [v6]; exact pos _ (by omega))]
    exact gap_lss uh f6 (by rw [ux, vs, v6]) (by decide +kernel)
end

theorem tabMv : ∀ b, b < 12 → (ivB .f32 (fop .mul .f32 (bW b) 1056964608) 1098907648 1131413504 && fcmp .eql .f32 (fop .mul .f32 (bW b) 1056964608) (fop .quo .f32 (bW b) 1073741824)) = true := by decide +kernel

theorem TDrawn.moved {B F R l : Nat} {xs : List (Nat × Nat × Nat)} (h : TDrawn B F R l xs) : (moveTuneF B F 0 [] 1056964608).2.2.2.2 = true ∧ fcmp .eql .f32 (moveTuneF B F 0 [] 1056964608).1 (fop .quo .f32 B 1073741824) = true := by
  obtain ⟨b, hb, eb⟩ := h.b
  have tm := tabMv b hb
  rw [← eb] at tm
  simp only [Bool.and_eq_true] at tm
  have ok2 : tuneOk (fop .mul .f32 B 1056964608) F 0 [] = true := tuneOk_of (Iv.of tm.1) h.if_ izero accsDrawn_nil
  have f5 : fin32 1056964608 = true := by decide +kernel
  unfold moveTuneF
  rw [h.ok0, f5, ok2]
  exact ⟨rfl, tm.2⟩

/-! ### What is drawn -/

theorem nat_of {x n : Int} (h : 0 ≤ x ∧ x < n) : ∃ m : Nat, (m : Int) < n ∧ x = (m : Int) := ⟨x.toNat, by omega, by omega⟩

theorem acc_drawn {c : List Int} (hb : bytesOk c) (i j k s t u : Int) : accDrawn ((fop .quo .f32 (canon .f32 (FloatKind.nearest .f32 (pickV c i s (17 : Int)))) 1082130432), (fop .mul .f32 (canon .f32 (FloatKind.nearest .f32 ((pickV c j t (17 : Int)) - (8 : Int)))) 1082130432), (fop .quo .f32 (canon .f32 (FloatKind.nearest .f32 ((1 : Int) + (pickV c k u (8 : Int))))) 1082130432)) := by
  obtain ⟨a, ha, ea⟩ := nat_of (pickV_range hb i s (n := 17) (by omega))
  obtain ⟨z, hz, ez⟩ := nat_of (pickV_range hb j t (n := 17) (by omega))
  obtain ⟨w, hw, ew⟩ := nat_of (pickV_range hb k u (n := 8) (by omega))
  exact ⟨a, z, w, by omega, by omega, by omega, by rw [ea, ez, ew]; rfl⟩

theorem tune_drawn {c m : List Int} (hb : bytesOk c) (hm : bytesOk m) : TDrawn (r8TuneF c).1 (r8TuneF c).2.1 (r8TuneF c).2.2.1 (fop .quo .f32 (canon .f32 (FloatKind.nearest .f32 ((1 : Int) + (atR m (0 : Int) (12 : Int))))) 1082130432) (r8TuneF c).2.2.2 := by
  obtain ⟨b, hb1, eb⟩ := nat_of (pickV_range hb (0 : Int) (0 : Int) (n := 12) (by omega))
  obtain ⟨f, hf1, ef⟩ := nat_of (pickV_range hb (1 : Int) (sdN c 1) (n := 9) (by omega))
  obtain ⟨r, hr1, er⟩ := nat_of (pickV_range hb (2 : Int) (sdN c 2) (n := 9) (by omega))
  obtain ⟨q, hq1, eq⟩ := nat_of (atR_range hm (i := 0) (n := 12) (by omega))
  have hl : ∃ q, q < 12 ∧ (fop .quo .f32 (canon .f32 (FloatKind.nearest .f32 ((1 : Int) + (atR m (0 : Int) (12 : Int))))) 1082130432) = lW q := ⟨q, by omega, by rw [eq]; rfl⟩
  have e : (r8TuneF c).1 = bW b ∧ (r8TuneF c).2.1 = fW f ∧ (r8TuneF c).2.2.1 = rW r := by
    unfold r8TuneF
    (repeat' split) <;> exact ⟨by rw [eb]; rfl, by rw [ef]; rfl, by rw [er]; rfl⟩
  refine ⟨⟨b, by omega, e.1⟩, ⟨f, by omega, e.2.1⟩, ⟨r, by omega, e.2.2⟩, hl, ?_⟩
  unfold r8TuneF
  split
  · split
    · refine ⟨Nat.le_refl 2, fun k hk => ?_⟩
      rcases Nat.lt_or_ge k 1 with h | h
      · obtain rfl : k = 0 := by omega
        exact acc_drawn hb ..
      · obtain rfl : k = 1 := by
          have : k < 2 := hk
          omega
        exact acc_drawn hb ..
    · refine ⟨Nat.le_succ 1, fun k hk => ?_⟩
      obtain rfl : k = 0 := by
        have : k < 1 := hk
        omega
      exact acc_drawn hb ..
  · exact accsDrawn_nil

theorem accent_drawn {m : List Int} (hm : bytesOk m) : ∃ a s w, a < 9 ∧ s < 17 ∧ w < 8 ∧ (fop .quo .f32 (canon .f32 (FloatKind.nearest .f32 (atR m (1 : Int) (9 : Int)))) 1082130432) = aW a ∧ (fop .mul .f32 (canon .f32 (FloatKind.nearest .f32 ((atR m (2 : Int) (17 : Int)) - (8 : Int)))) 1082130432) = sW s ∧ (fop .quo .f32 (canon .f32 (FloatKind.nearest .f32 ((1 : Int) + (atR m (3 : Int) (8 : Int))))) 1082130432) = wW w := by
  obtain ⟨a, ha, ea⟩ := nat_of (atR_range hm (i := 1) (n := 9) (by omega))
  obtain ⟨z, hz, ez⟩ := nat_of (atR_range hm (i := 2) (n := 17) (by omega))
  obtain ⟨w, hw, ew⟩ := nat_of (atR_range hm (i := 3) (n := 8) (by omega))
  exact ⟨a, z, w, by omega, by omega, by omega, by rw [ea]; rfl, by rw [ez]; rfl, by rw [ew]; rfl⟩

theorem TDrawn.pit2 {B F R l : Nat} {xs : List (Nat × Nat × Nat)} (h : TDrawn B F R l xs) : (pitchesF B F R xs l 5).2 = true := by rw [h.pitches]
theorem TDrawn.pit5 {B F R l : Nat} {xs : List (Nat × Nat × Nat)} (h : TDrawn B F R l xs) : (((List.length (pitchesF B F R xs l 5).1) : Nat) : Int) = (5 : Int) := by rw [h.pitches]; rfl

theorem TDrawn.accents {B F R l : Nat} {xs : List (Nat × Nat × Nat)} (h : TDrawn B F R l xs) {m : List Int} (hm : bytesOk m) : (bumpAtF (fop .quo .f32 (canon .f32 (FloatKind.nearest .f32 (atR m (1 : Int) (9 : Int)))) 1082130432) (fop .mul .f32 (canon .f32 (FloatKind.nearest .f32 ((atR m (2 : Int) (17 : Int)) - (8 : Int)))) 1082130432) (fop .quo .f32 (canon .f32 (FloatKind.nearest .f32 ((1 : Int) + (atR m (3 : Int) (8 : Int))))) 1082130432) (fop .quo .f32 (canon .f32 (FloatKind.nearest .f32 (atR m (1 : Int) (9 : Int)))) 1082130432)).2 = true ∧ (bumpAtF (fop .quo .f32 (canon .f32 (FloatKind.nearest .f32 (atR m (1 : Int) (9 : Int)))) 1082130432) (fop .mul .f32 (canon .f32 (FloatKind.nearest .f32 ((atR m (2 : Int) (17 : Int)) - (8 : Int)))) 1082130432) (fop .quo .f32 (canon .f32 (FloatKind.nearest .f32 ((1 : Int) + (atR m (3 : Int) (8 : Int))))) 1082130432) (fop .add .f32 (fop .quo .f32 (canon .f32 (FloatKind.nearest .f32 (atR m (1 : Int) (9 : Int)))) 1082130432) (fop .quo .f32 (canon .f32 (FloatKind.nearest .f32 ((1 : Int) + (atR m (3 : Int) (8 : Int))))) 1082130432))).2 = true ∧ (bumpAtF (fop .quo .f32 (canon .f32 (FloatKind.nearest .f32 (atR m (1 : Int) (9 : Int)))) 1082130432) (fop .mul .f32 (canon .f32 (FloatKind.nearest .f32 ((atR m (2 : Int) (17 : Int)) - (8 : Int)))) 1082130432) (fop .quo .f32 (canon .f32 (FloatKind.nearest .f32 ((1 : Int) + (atR m (3 : Int) (8 : Int))))) 1082130432) (fop .sub .f32 (fop .quo .f32 (canon .f32 (FloatKind.nearest .f32 (atR m (1 : Int) (9 : Int)))) 1082130432) (fop .quo .f32 (fop .quo .f32 (canon .f32 (FloatKind.nearest .f32 ((1 : Int) + (atR m (3 : Int) (8 : Int))))) 1082130432) 1073741824))).2 = true ∧ (bumpAtF (fop .quo .f32 (canon .f32 (FloatKind.nearest .f32 (atR m (1 : Int) (9 : Int)))) 1082130432) (fop .mul .f32 (canon .f32 (FloatKind.nearest .f32 ((atR m (2 : Int) (17 : Int)) - (8 : Int)))) 1082130432) (fop .quo .f32 (canon .f32 (FloatKind.nearest .f32 ((1 : Int) + (atR m (3 : Int) (8 : Int))))) 1082130432) (fop .add .f32 (fop .quo .f32 (canon .f32 (FloatKind.nearest .f32 (atR m (1 : Int) (9 : Int)))) 1082130432) (fop .quo .f32 (fop .quo .f32 (canon .f32 (FloatKind.nearest .f32 ((1 : Int) + (atR m (3 : Int) (8 : Int))))) 1082130432) 1073741824))).2 = true ∧ (addAccF B F 0 [] (fop .quo .f32 (canon .f32 (FloatKind.nearest .f32 (atR m (1 : Int) (9 : Int)))) 1082130432) (fop .mul .f32 (canon .f32 (FloatKind.nearest .f32 ((atR m (2 : Int) (17 : Int)) - (8 : Int)))) 1082130432) (fop .quo .f32 (canon .f32 (FloatKind.nearest .f32 ((1 : Int) + (atR m (3 : Int) (8 : Int))))) 1082130432)).2.2.2.2 = true ∧ (pitchAtF (addAccF B F 0 [] (fop .quo .f32 (canon .f32 (FloatKind.nearest .f32 (atR m (1 : Int) (9 : Int)))) 1082130432) (fop .mul .f32 (canon .f32 (FloatKind.nearest .f32 ((atR m (2 : Int) (17 : Int)) - (8 : Int)))) 1082130432) (fop .quo .f32 (canon .f32 (FloatKind.nearest .f32 ((1 : Int) + (atR m (3 : Int) (8 : Int))))) 1082130432)).1 (addAccF B F 0 [] (fop .quo .f32 (canon .f32 (FloatKind.nearest .f32 (atR m (1 : Int) (9 : Int)))) 1082130432) (fop .mul .f32 (canon .f32 (FloatKind.nearest .f32 ((atR m (2 : Int) (17 : Int)) - (8 : Int)))) 1082130432) (fop .quo .f32 (canon .f32 (FloatKind.nearest .f32 ((1 : Int) + (atR m (3 : Int) (8 : Int))))) 1082130432)).2.1 (addAccF B F 0 [] (fop .quo .f32 (canon .f32 (FloatKind.nearest .f32 (atR m (1 : Int) (9 : Int)))) 1082130432) (fop .mul .f32 (canon .f32 (FloatKind.nearest .f32 ((atR m (2 : Int) (17 : Int)) - (8 : Int)))) 1082130432) (fop .quo .f32 (canon .f32 (FloatKind.nearest .f32 ((1 : Int) + (atR m (3 : Int) (8 : Int))))) 1082130432)).2.2.1 (addAccF B F 0 [] (fop .quo .f32 (canon .f32 (FloatKind.nearest .f32 (atR m (1 : Int) (9 : Int)))) 1082130432) (fop .mul .f32 (canon .f32 (FloatKind.nearest .f32 ((atR m (2 : Int) (17 : Int)) - (8 : Int)))) 1082130432) (fop .quo .f32 (canon .f32 (FloatKind.nearest .f32 ((1 : Int) + (atR m (3 : Int) (8 : Int))))) 1082130432)).2.2.2.1 (fop .quo .f32 (canon .f32 (FloatKind.nearest .f32 (atR m (1 : Int) (9 : Int)))) 1082130432) 1090519040).2 = true ∧ (pitchAtF B F 0 [] (fop .quo .f32 (canon .f32 (FloatKind.nearest .f32 (atR m (1 : Int) (9 : Int)))) 1082130432) 1090519040).2 = true ∧ fcmp .eql .f32 (bumpAtF (fop .quo .f32 (canon .f32 (FloatKind.nearest .f32 (atR m (1 : Int) (9 : Int)))) 1082130432) (fop .mul .f32 (canon .f32 (FloatKind.nearest .f32 ((atR m (2 : Int) (17 : Int)) - (8 : Int)))) 1082130432) (fop .quo .f32 (canon .f32 (FloatKind.nearest .f32 ((1 : Int) + (atR m (3 : Int) (8 : Int))))) 1082130432) (fop .quo .f32 (canon .f32 (FloatKind.nearest .f32 (atR m (1 : Int) (9 : Int)))) 1082130432)).1 (fop .mul .f32 (canon .f32 (FloatKind.nearest .f32 ((atR m (2 : Int) (17 : Int)) - (8 : Int)))) 1082130432) = true ∧ fcmp .eql .f32 (bumpAtF (fop .quo .f32 (canon .f32 (FloatKind.nearest .f32 (atR m (1 : Int) (9 : Int)))) 1082130432) (fop .mul .f32 (canon .f32 (FloatKind.nearest .f32 ((atR m (2 : Int) (17 : Int)) - (8 : Int)))) 1082130432) (fop .quo .f32 (canon .f32 (FloatKind.nearest .f32 ((1 : Int) + (atR m (3 : Int) (8 : Int))))) 1082130432) (fop .add .f32 (fop .quo .f32 (canon .f32 (FloatKind.nearest .f32 (atR m (1 : Int) (9 : Int)))) 1082130432) (fop .quo .f32 (canon .f32 (FloatKind.nearest .f32 ((1 : Int) + (atR m (3 : Int) (8 : Int))))) 1082130432))).1 0 = true ∧ fcmp .lss .f64 (gapR (fcv .f32 .f64 (bumpAtF (fop .quo .f32 (canon .f32 (FloatKind.nearest .f32 (atR m (1 : Int) (9 : Int)))) 1082130432) (fop .mul .f32 (canon .f32 (FloatKind.nearest .f32 ((atR m (2 : Int) (17 : Int)) - (8 : Int)))) 1082130432) (fop .quo .f32 (canon .f32 (FloatKind.nearest .f32 ((1 : Int) + (atR m (3 : Int) (8 : Int))))) 1082130432) (fop .sub .f32 (fop .quo .f32 (canon .f32 (FloatKind.nearest .f32 (atR m (1 : Int) (9 : Int)))) 1082130432) (fop .quo .f32 (fop .quo .f32 (canon .f32 (FloatKind.nearest .f32 ((1 : Int) + (atR m (3 : Int) (8 : Int))))) 1082130432) 1073741824))).1) (fcv .f32 .f64 (bumpAtF (fop .quo .f32 (canon .f32 (FloatKind.nearest .f32 (atR m (1 : Int) (9 : Int)))) 1082130432) (fop .mul .f32 (canon .f32 (FloatKind.nearest .f32 ((atR m (2 : Int) (17 : Int)) - (8 : Int)))) 1082130432) (fop .quo .f32 (canon .f32 (FloatKind.nearest .f32 ((1 : Int) + (atR m (3 : Int) (8 : Int))))) 1082130432) (fop .add .f32 (fop .quo .f32 (canon .f32 (FloatKind.nearest .f32 (atR m (1 : Int) (9 : Int)))) 1082130432) (fop .quo .f32 (fop .quo .f32 (canon .f32 (FloatKind.nearest .f32 ((1 : Int) + (atR m (3 : Int) (8 : Int))))) 1082130432) 1073741824))).1)) 4562254508917369340 = true ∧ fcmp .lss .f64 (gapR (fcv .f32 .f64 (pitchAtF (addAccF B F 0 [] (fop .quo .f32 (canon .f32 (FloatKind.nearest .f32 (atR m (1 : Int) (9 : Int)))) 1082130432) (fop .mul .f32 (canon .f32 (FloatKind.nearest .f32 ((atR m (2 : Int) (17 : Int)) - (8 : Int)))) 1082130432) (fop .quo .f32 (canon .f32 (FloatKind.nearest .f32 ((1 : Int) + (atR m (3 : Int) (8 : Int))))) 1082130432)).1 (addAccF B F 0 [] (fop .quo .f32 (canon .f32 (FloatKind.nearest .f32 (atR m (1 : Int) (9 : Int)))) 1082130432) (fop .mul .f32 (canon .f32 (FloatKind.nearest .f32 ((atR m (2 : Int) (17 : Int)) - (8 : Int)))) 1082130432) (fop .quo .f32 (canon .f32 (FloatKind.nearest .f32 ((1 : Int) + (atR m (3 : Int) (8 : Int))))) 1082130432)).2.1 (addAccF B F 0 [] (fop .quo .f32 (canon .f32 (FloatKind.nearest .f32 (atR m (1 : Int) (9 : Int)))) 1082130432) (fop .mul .f32 (canon .f32 (FloatKind.nearest .f32 ((atR m (2 : Int) (17 : Int)) - (8 : Int)))) 1082130432) (fop .quo .f32 (canon .f32 (FloatKind.nearest .f32 ((1 : Int) + (atR m (3 : Int) (8 : Int))))) 1082130432)).2.2.1 (addAccF B F 0 [] (fop .quo .f32 (canon .f32 (FloatKind.nearest .f32 (atR m (1 : Int) (9 : Int)))) 1082130432) (fop .mul .f32 (canon .f32 (FloatKind.nearest .f32 ((atR m (2 : Int) (17 : Int)) - (8 : Int)))) 1082130432) (fop .quo .f32 (canon .f32 (FloatKind.nearest .f32 ((1 : Int) + (atR m (3 : Int) (8 : Int))))) 1082130432)).2.2.2.1 (fop .quo .f32 (canon .f32 (FloatKind.nearest .f32 (atR m (1 : Int) (9 : Int)))) 1082130432) 1090519040).1) (fminmax true .f64 0 (fop .add .f64 (fcv .f32 .f64 (pitchAtF B F 0 [] (fop .quo .f32 (canon .f32 (FloatKind.nearest .f32 (atR m (1 : Int) (9 : Int)))) 1082130432) 1090519040).1) (fcv .f32 .f64 (fop .mul .f32 (canon .f32 (FloatKind.nearest .f32 ((atR m (2 : Int) (17 : Int)) - (8 : Int)))) 1082130432))))) 4576918229304087675 = true := by
  obtain ⟨a, s, w, ha, hs, hw, ea, es, ew⟩ := accent_drawn hm
  rw [ea, es, ew]
  obtain ⟨_, b1, b2, p, fp, b3, b4⟩ := bumps ha hs hw
  obtain ⟨a1, a2, a3, a4⟩ := h.accent ha hs hw
  rw [b1, b2, b3, b4, a1]
  exact ⟨rfl, rfl, rfl, rfl, rfl, a2, a3, eql_self (Iv.of (tabS s hs)).notN, by decide +kernel, gap_lss (fcv_up fp).1 (fcv_up fp).1 rfl (by decide +kernel), a4⟩

end Go.Sim
