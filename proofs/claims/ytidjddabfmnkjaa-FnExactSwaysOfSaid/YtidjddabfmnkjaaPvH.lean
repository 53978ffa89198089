/- The numbers of the codes, the worst of codes. Conditions: none. -/
import Derived.Test.YtidjddabfmnkjaaPvG
namespace Go.Sim
open Go

theorem codeN_range {c : Int} : 0 ≤ codeN c ∧ codeN c ≤ 127 := by unfold codeN; split <;> omega

theorem codeX_iv (c : Int) : Iv .f32 (codeX c) 0 1065353216 := by
  have h := codeN_range (c := c)
  obtain ⟨n, hn⟩ := Int.eq_ofNat_of_zero_le h.1
  have := codeX_tab n (by omega)
  rw [← hn] at this
  exact Iv.of this

theorem w32_fop (op : BinOp) (x y : Nat) : w32 (fop op .f32 x y) := by
  unfold fop
  cases hb : floatBits op .f32 x y with
  | some r =>
    have := floatBits_wf hb
    simp [Lit.wf] at this
    exact w32_of this
  | none => exact ⟨by decide, by decide⟩

theorem fneg_Iv {x : Nat} (h : Iv .f32 x 0 1065353216) (hx : w32 x) : Iv .f32 (fneg .f32 x) 3212836864 0 := by
  have hn := h.notN
  obtain ⟨s, r, hr, rfl⟩ := word_of_notN (k := .f32) hx.1 hn
  have hr' : r < FloatKind.f32.format.infRung := by
    have := read_fin h.fx; rw [(word_mod FloatKind.f32.format s hr).1] at this; exact this
  have e : fneg .f32 (FloatKind.f32.format.word s r) = FloatKind.f32.format.word (!s) r := by
    unfold fneg; rw [hn, neg_word hr]; rfl
  rw [e]
  obtain ⟨a, b⟩ := word_fin (k := .f32) (s := !s) hr'
  obtain ⟨_, d⟩ := word_fin (k := .f32) (s := s) hr'
  have lo := h.lo; have hi := h.hi
  rw [d] at lo hi
  rw [(zero_fl .f32).2] at lo
  have v1 : fv .f32 1065353216 = 1 := by decide +kernel
  have v2 : fv .f32 3212836864 = -1 := by decide +kernel
  rw [v1] at hi
  refine ⟨a, finB_fl (by decide +kernel), (zero_fl .f32).1, ?_, ?_⟩
  · rw [b, v2, sg_not]; grind
  · rw [b, (zero_fl .f32).2, sg_not]; grind

theorem w32_codeX (c : Int) : w32 (codeX c) := w32_fop ..

theorem codeF_iv (c : Int) : Iv .f32 (codeF c) 3212836864 1065353216 := by
  unfold codeF
  split
  · exact (fneg_Iv (codeX_iv c) (w32_codeX c)).weak _ _ (by decide +kernel)
  · exact (codeX_iv c).weak _ _ (by decide +kernel)

theorem code_u8 {xs : List Nat} (hx : ∀ y ∈ xs, w32 y) (h : isSnd xs = true) {k : Nat} (hk : k < xs.length) : inR .u8 (codeOfF (xs.getD k 0)) := by
  have := codeOfF_range (w32_get hx k) (isSnd_get h hk)
  exact ⟨by show (0 : Int) ≤ _; omega, by show _ ≤ (255 : Int); omega⟩

def codesB (xs : List Nat) (n : Nat) : List Int := (List.range n).map fun k => codeOfF (xs.getD k 0)

def codeSoundF (xs : List Nat) : ByteArray × Bool := if isSnd xs = true then (bytesOf (codesB xs xs.length), true) else (⟨#[]⟩, false)

/-- How far a number's code is from it. -/
def codeD (x : Nat) : Nat := absW (fop .sub .f32 (codeF (codeOfF x)) x)

def worstS (xs : List Nat) : Nat → Nat
  | 0 => 0
  | k + 1 => fminmax true .f32 (worstS xs k) (codeD (xs.getD k 0))

def worstF (xs : List Nat) : Nat × Bool := if isSnd xs = true then (if xs.length = 0 then (0, false) else (if fin32 (worstS xs xs.length) = true then worstS xs xs.length else 0, fin32 (worstS xs xs.length))) else (0, false)

theorem codeSub_notN {x : Nat} (h : fin32 x = true) : isN .f32 (fop .sub .f32 (codeF (codeOfF x)) x) = false :=
  (sub_Rd (codeF_iv _).fx (fin32_isF.1 h)).notN

/-- No not-a-number, and no minus sign. -/
def posW (x : Nat) : Prop := isN .f32 x = false ∧ (FloatKind.decode .f32 x).neg = false

theorem absW_pos {x : Nat} (hx : w32 x) (hn : isN .f32 x = false) : posW (absW x) := by
  obtain ⟨s, r, hr, rfl⟩ := word_of_notN (k := .f32) hx.1 hn
  have hmod : absW (FloatKind.f32.format.word s r) = FloatKind.f32.format.word false r := by
    unfold absW
    rw [← sw32, (word_mod FloatKind.f32.format s hr).1]
    simp [Ieee.Format.word]
  rw [hmod]
  rcases Nat.lt_or_ge r FloatKind.f32.format.infRung with h | h
  · obtain ⟨m, e, h1, _⟩ := read_word (f := FloatKind.f32.format) (s := false) h
    unfold posW isN FloatKind.decode; rw [h1]; exact ⟨rfl, rfl⟩
  · have : r = FloatKind.f32.format.infRung := by omega
    subst this
    unfold posW isN FloatKind.decode; rw [read_inf]; exact ⟨rfl, rfl⟩

/-- The greater of two numbers that have no minus sign. -/
theorem fmax_pos {a b : Nat} (ha : posW a) (hb : posW b) : fminmax true .f32 a b = (if fcmp .gtr .f32 b a = true then b else a) ∧ posW (fminmax true .f32 a b) := by
  obtain ⟨o, ho⟩ := order_some ha.1 hb.1
  have ho2 : FloatKind.f32.format.order b a = some o.swap := by
    simp only [Ieee.Format.order] at ho ⊢
    generalize FloatKind.f32.format.read a = d at ho
    generalize FloatKind.f32.format.read b = e at ho
    cases d with
    | nan s f => simp [Ieee.Datum.order] at ho
    | infinity s =>
      cases e with
      | nan t f => simp [Ieee.Datum.order] at ho
      | infinity t => cases s <;> cases t <;> (simp [Ieee.Datum.order, compare, compareOfLessAndEq] at ho ⊢; subst ho; rfl)
      | number t m i => cases s <;> (simp [Ieee.Datum.order] at ho ⊢; subst ho; rfl)
    | number s m i =>
      cases e with
      | nan t f => simp [Ieee.Datum.order] at ho
      | infinity t => cases t <;> (simp [Ieee.Datum.order] at ho ⊢; subst ho; rfl)
      | number t n j =>
        simp only [Ieee.Datum.order, Option.some.injEq] at ho ⊢
        rw [Int.min_comm j i]
        generalize Ieee.signed s m (i - min i j).toNat = u at *
        generalize Ieee.signed t n (j - min i j).toNat = v at *
        subst ho
        rcases Int.lt_trichotomy u v with h | h | h
        · rw [Int.compare_eq_lt.2 h, Int.compare_eq_gt.2 h]; rfl
        · rw [Int.compare_eq_eq.2 h, Int.compare_eq_eq.2 h.symm]; rfl
        · rw [Int.compare_eq_gt.2 h, Int.compare_eq_lt.2 h]; rfl
  unfold fminmax
  rw [ho]
  cases o with
  | lt => simp only [cond_true]; simp [fcmp, ho2, hb]
  | eq => simp only [ha.2]; simp [fcmp, ho2, ha]
  | gt => simp only [cond_true]; simp [fcmp, ho2, ha]

theorem worst_pos {xs : List Nat} (hx : ∀ y ∈ xs, w32 y) (h : isSnd xs = true) : ∀ k, k ≤ xs.length → posW (worstS xs k) := by
  intro k
  induction k with
  | zero => intro _; show posW 0; exact ⟨by decide, by decide⟩
  | succ k ih =>
    intro hk
    exact (fmax_pos (ih (by omega)) (absW_pos (w32_fop ..) (codeSub_notN (isSnd_get h (by omega))))).2

/-- The same by tests. -/
theorem worst_spec {xs : List Nat} (hx : ∀ y ∈ xs, w32 y) (h : isSnd xs = true) (S : Nat → Nat) (h0 : S 0 = 0) (hs : ∀ k, S (k + 1) = (if fcmp .gtr .f32 (codeD (xs.getD k 0)) (S k) = true then codeD (xs.getD k 0) else S k)) : ∀ k, k ≤ xs.length → S k = worstS xs k := by
  intro k
  induction k with
  | zero => intro _; exact h0
  | succ k ih =>
    intro hk
    rw [hs, ih (by omega)]
    exact (fmax_pos (worst_pos hx h k (by omega)) (absW_pos (w32_fop ..) (codeSub_notN (isSnd_get h (by omega))))).1.symm

end Go.Sim
