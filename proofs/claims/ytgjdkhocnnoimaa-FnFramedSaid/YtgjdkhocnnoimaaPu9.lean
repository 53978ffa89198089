/- The exponential function of all codes is told by the language (checked one by one). Conditions: none. -/
import Derived.Test.YtgjdkhocnnoimaaPu5

section
namespace Go.Sim
open Go

theorem inf_word (s : Bool) : (FloatKind.decode .f32 (canon .f32 (FloatKind.f32.format.word s FloatKind.f32.format.infRung))) = .infinity s := by
  cases s <;> decide

theorem fop_of_none {op : BinOp} {k : FloatKind} {x y : Nat} (h : floatBits op k x y = none) : fop op k x y = cNaN k := by
  unfold fop; rw [h]

/-- Where a word stands for an infinity or for no number, it is not finite. -/
theorem fin32_inf {x : Nat} {s : Bool} (h : FloatKind.decode .f32 x = .infinity s) : fin32 x = false := by
  have h' : FloatKind.f32.format.read x = .infinity s := h
  unfold fin32
  rw [fop_of_none (by
    simp only [floatBits, Ieee.Format.sub, h', Ieee.Datum.opposite, Ieee.Datum.sum]
    cases s <;> rfl)]
  decide

theorem fin32_num {x : Nat} {s : Bool} {m : Nat} {e : Int} (h : FloatKind.decode .f32 x = .number s m e) : fin32 x = true := by
  have h' : FloatKind.f32.format.read x = .number s m e := h
  unfold fin32 fop
  have : floatBits .sub .f32 x x = some 0 := by
    simp only [floatBits, Ieee.Format.sub, h', Ieee.Datum.opposite, Ieee.Datum.sum]
    have ht : Ieee.signed s m (e - min e e).toNat + Ieee.signed (!s) m (e - min e e).toNat = 0 := by
      unfold Ieee.signed; cases s <;> simp <;> omega
    rw [ht]
    cases s <;> rfl
  rw [this]
  decide

theorem fin32_iff {x : Nat} : fin32 x = true ↔ ∃ s m e, FloatKind.decode .f32 x = .number s m e := by
  constructor
  · intro h
    cases hd : FloatKind.decode .f32 x with
    | number s m e => exact ⟨s, m, e, rfl⟩
    | infinity s => rw [fin32_inf hd] at h; cases h
    | nan s f => rw [fin32_nan (by unfold isN; rw [hd]; rfl)] at h; cases h
  · rintro ⟨s, m, e, h⟩; exact fin32_num h

theorem fop_inf {op : BinOp} {x y : Nat} {s : Bool} (h : floatBits op .f32 x y = some (FloatKind.f32.format.word s FloatKind.f32.format.infRung)) : fin32 (fop op .f32 x y) = false := by
  unfold fop; rw [h]; exact fin32_inf (inf_word s)

theorem fop_none {op : BinOp} {x y : Nat} (h : floatBits op .f32 x y = none) : fin32 (fop op .f32 x y) = false := by
  rw [fop_of_none h]; decide

theorem not_fin {x : Nat} (h : fin32 x = false) : (∃ s, FloatKind.decode .f32 x = .infinity s) ∨ isN .f32 x = true := by
  cases hd : FloatKind.decode .f32 x with
  | number s m e => rw [fin32_num hd] at h; cases h
  | infinity s => exact .inl ⟨s, rfl⟩
  | nan s f => right; unfold isN; rw [hd]; rfl

theorem bad_l {op : BinOp} {x : Nat} (y : Nat) (hop : op = .add ∨ op = .sub ∨ op = .mul) (h : fin32 x = false) : fin32 (fop op .f32 x y) = false := by
  rcases not_fin h with ⟨s, hs⟩ | hn
  · have hs' : FloatKind.f32.format.read x = .infinity s := hs
    cases hy : FloatKind.f32.format.read y with
    | nan t f => rw [isN_fop_r x (by rcases hop with h | h | h <;> simp [h]) (show isN .f32 y = true by unfold isN; show (FloatKind.f32.format.read y).isNaN = true; rw [hy]; rfl)]; decide
    | infinity t =>
      rcases hop with rfl | rfl | rfl <;> cases s <;> cases t <;>
        first
        | exact fop_none (by simp only [floatBits, Ieee.Format.add, Ieee.Format.sub, Ieee.Format.mul, hs', hy]; rfl)
        | exact fop_inf (s := false) (by simp only [floatBits, Ieee.Format.add, Ieee.Format.sub, Ieee.Format.mul, hs', hy]; rfl)
        | exact fop_inf (s := true) (by simp only [floatBits, Ieee.Format.add, Ieee.Format.sub, Ieee.Format.mul, hs', hy]; rfl)
    | number t n j =>
      rcases hop with rfl | rfl | rfl
      · exact fop_inf (s := s) (by simp only [floatBits, Ieee.Format.add, hs', hy, Ieee.Datum.sum]; rfl)
      · exact fop_inf (s := s) (by simp only [floatBits, Ieee.Format.sub, hs', hy, Ieee.Datum.sum, Ieee.Datum.opposite]; rfl)
      · cases n with
        | zero => exact fop_none (by simp only [floatBits, Ieee.Format.mul, hs', hy, Ieee.Datum.product]; rfl)
        | succ n => exact fop_inf (s := s ^^ t) (by simp only [floatBits, Ieee.Format.mul, hs', hy, Ieee.Datum.product]; rfl)
  · rw [isN_fop_l y (by rcases hop with h | h | h <;> simp [h]) hn]; decide

theorem bad_r {op : BinOp} (x : Nat) {y : Nat} (hop : op = .add ∨ op = .sub ∨ op = .mul) (h : fin32 y = false) : fin32 (fop op .f32 x y) = false := by
  rcases not_fin h with ⟨s, hs⟩ | hn
  · have hs' : FloatKind.f32.format.read y = .infinity s := hs
    cases hy : FloatKind.f32.format.read x with
    | nan t f => rw [isN_fop_l y (by rcases hop with h | h | h <;> simp [h]) (show isN .f32 x = true by unfold isN; show (FloatKind.f32.format.read x).isNaN = true; rw [hy]; rfl)]; decide
    | infinity t =>
      rcases hop with rfl | rfl | rfl <;> cases s <;> cases t <;>
        first
        | exact fop_none (by simp only [floatBits, Ieee.Format.add, Ieee.Format.sub, Ieee.Format.mul, hs', hy]; rfl)
        | exact fop_inf (s := false) (by simp only [floatBits, Ieee.Format.add, Ieee.Format.sub, Ieee.Format.mul, hs', hy]; rfl)
        | exact fop_inf (s := true) (by simp only [floatBits, Ieee.Format.add, Ieee.Format.sub, Ieee.Format.mul, hs', hy]; rfl)
    | number t n j =>
      rcases hop with rfl | rfl | rfl
      · exact fop_inf (s := s) (by simp only [floatBits, Ieee.Format.add, hs', hy, Ieee.Datum.sum]; rfl)
      · exact fop_inf (s := !s) (by simp only [floatBits, Ieee.Format.sub, hs', hy, Ieee.Datum.sum, Ieee.Datum.opposite]; rfl)
      · cases n with
        | zero => exact fop_none (by simp only [floatBits, Ieee.Format.mul, hs', hy, Ieee.Datum.product]; rfl)
        | succ n => exact fop_inf (s := s ^^ t) (by simp only [floatBits, Ieee.Format.mul, hs', hy, Ieee.Datum.product]; rfl)
  · rw [isN_fop_r x (by rcases hop with h | h | h <;> simp [h]) hn]; decide

theorem fin_add {x y : Nat} (h : fin32 (fop .add .f32 x y) = true) : fin32 x = true ∧ fin32 y = true := by
  constructor
  · cases hx : fin32 x with
    | true => rfl
    | false => rw [bad_l y (Or.inl rfl) hx] at h; cases h
  · cases hy : fin32 y with
    | true => rfl
    | false => rw [bad_r x (Or.inl rfl) hy] at h; cases h

theorem fin_sub {x y : Nat} (h : fin32 (fop .sub .f32 x y) = true) : fin32 x = true ∧ fin32 y = true := by
  constructor
  · cases hx : fin32 x with
    | true => rfl
    | false => rw [bad_l y (Or.inr (Or.inl rfl)) hx] at h; cases h
  · cases hy : fin32 y with
    | true => rfl
    | false => rw [bad_r x (Or.inr (Or.inl rfl)) hy] at h; cases h

theorem fin_mul {x y : Nat} (h : fin32 (fop .mul .f32 x y) = true) : fin32 x = true ∧ fin32 y = true := by
  constructor
  · cases hx : fin32 x with
    | true => rfl
    | false => rw [bad_l y (Or.inr (Or.inr rfl)) hx] at h; cases h
  · cases hy : fin32 y with
    | true => rfl
    | false => rw [bad_r x (Or.inr (Or.inr rfl)) hy] at h; cases h

end Go.Sim
end

section
namespace Go.Sim
open Go

/-- What a predictor makes of what comes in: 'k' numbers. -/
def makL (st : List Nat) (f : Nat → Nat) : Nat → List Nat
  | 0 => []
  | k + 1 => makL st f k ++ [fop .add .f32 (f k) (predAt st (makL st f k) k)]

theorem makL_len (st : List Nat) (f : Nat → Nat) : ∀ k, (makL st f k).length = k
  | 0 => rfl
  | k + 1 => by simp [makL, makL_len st f k]

theorem makL_congr {st : List Nat} {f g : Nat → Nat} {n : Nat} (h : ∀ k, k < n → f k = g k) : makL st f n = makL st g n := by
  induction n with
  | zero => rfl
  | succ n ih => simp only [makL]; rw [ih fun k hk => h k (by omega), h n (by omega)]

theorem allFin_append (xs : List Nat) (y : Nat) : allFin (xs ++ [y]) = (allFin xs && fin32 y) := by
  unfold allFin
  simp only [List.length_append, List.length_singleton, allBelow]
  congr 1
  · refine allBelow_congr fun k hk => ?_
    simp [List.getElem?_append_left hk]
  · simp

theorem allFin_makL (st : List Nat) (f : Nat → Nat) (n : Nat) : allFin (makL st f n) = allBelow (fun k => fin32 (fop .add .f32 (f k) (predAt st (makL st f k) k))) n := by
  induction n with
  | zero => rfl
  | succ n ih => simp only [makL, allBelow]; rw [allFin_append, ih]

/-- What is left out is finite where the sum is. -/
theorem allFin_makL2 (st : List Nat) (f : Nat → Nat) (n : Nat) : allFin (makL st f n) = allBelow (fun k => fin32 (predAt st (makL st f k) k) && fin32 (fop .add .f32 (f k) (predAt st (makL st f k) k))) n := by
  rw [allFin_makL]
  refine allBelow_congr fun k _ => ?_
  cases h : fin32 (fop .add .f32 (f k) (predAt st (makL st f k) k)) with
  | false => simp
  | true => rw [(fin_add h).2]; rfl

/-- What comes in is finite where what is made is. -/
theorem makL_in {st : List Nat} {f : Nat → Nat} {n : Nat} (h : allFin (makL st f n) = true) : allBelow (fun k => fin32 (f k)) n = true := by
  rw [allFin_makL] at h
  exact allBelow_true.2 fun k hk => (fin_add (allBelow_true.1 h k hk)).1

theorem isStp_fin {x : Nat} (h : isStp x = true) : fin32 x = true := by
  simp only [isStp, Bool.and_eq_true] at h
  cases hf : fin32 x with
  | true => rfl
  | false =>
    rcases not_fin hf with ⟨s, hs⟩ | hn
    · have hs' : FloatKind.f32.format.read x = .infinity s := hs
      have h1 : FloatKind.f32.format.read 3212836864 = .number true 8388608 (-23) := by decide
      have h2 : FloatKind.f32.format.read 1065353216 = .number false 8388608 (-23) := by decide
      cases s with
      | true =>
        have := h.1
        simp only [fcmp, Ieee.Format.order, hs', h1, Ieee.Datum.order] at this
        exact absurd this (by decide)
      | false =>
        have := h.2
        simp only [fcmp, Ieee.Format.order, hs', h2, Ieee.Datum.order] at this
        exact absurd this (by decide)
    · have := h.1
      simp [fcmp, order_nan hn] at this

/-- A list, if all of its numbers are finite. -/
def makF (l : List Nat) : List Nat × Bool := if allFin l then (l, true) else ([], false)

theorem makF_le (l : List Nat) : (makF l).1.length ≤ l.length := by
  unfold makF; split <;> simp

/-! ### Times one -/

theorem cut_exact (n d : Nat) (neg : Bool) : Ieee.Toward.even.cut neg (n * 2 ^ d) d = n := by
  unfold Ieee.Toward.cut
  rcases Nat.eq_zero_or_pos n with rfl | hn
  · simp
  have hl : d ≤ (n * 2 ^ d).log2 := (Nat.le_log2 (by have := Nat.two_pow_pos d; exact Nat.ne_of_gt (Nat.mul_pos hn this))).2 (Nat.le_mul_of_pos_left _ hn)
  have hm : min d ((n * 2 ^ d).log2 + 2) = d := by omega
  simp only [hm, Nat.one_shiftLeft]
  rw [Nat.mul_div_cancel _ (Nat.two_pow_pos d), Nat.mul_mod_left]
  simp

theorem read32_lt {x : Nat} {s : Bool} {m : Nat} {e : Int} (h : FloatKind.decode .f32 x = .number s m e) : x % 2147483648 < 2139095040 := by
  have h' : Ieee.Format.read FloatKind.f32.format x = .number s m e := h
  have e1 : FloatKind.f32.format.signWeight = 2147483648 := by decide
  have e2 : FloatKind.f32.format.binade = 8388608 := by decide
  have e3 : FloatKind.f32.format.infRung = 2139095040 := by decide
  unfold Ieee.Format.read at h'
  simp only [e1, e2, e3] at h'
  split at h'
  · omega
  · split at h'
    · assumption
    · split at h' <;> simp at h'

theorem log2_mul_pow {m : Nat} (hm : m ≠ 0) (k : Nat) : (m * 2 ^ k).log2 = m.log2 + k := by
  have hp : m * 2 ^ k ≠ 0 := Nat.mul_ne_zero hm (Nat.ne_of_gt (Nat.two_pow_pos k))
  apply Nat.le_antisymm
  · have h1 : m < 2 ^ (m.log2 + 1) := Nat.lt_log2_self
    have : m * 2 ^ k < 2 ^ (m.log2 + k + 1) := by
      rw [show m.log2 + k + 1 = (m.log2 + 1) + k from by omega, Nat.pow_add]
      exact Nat.mul_lt_mul_of_pos_right h1 (Nat.two_pow_pos k)
    have := (Nat.log2_lt hp).2 this
    omega
  · refine (Nat.le_log2 hp).2 ?_
    rw [Nat.pow_add]
    exact Nat.mul_le_mul_right _ (Nat.log2_self_le hm)

/-- A float32 that is finite, times one, is itself. -/
theorem mul_one32 {x : Nat} (hx : x < 4294967296) (h : fin32 x = true) : fop .mul .f32 1065353216 x = x := by
  have hn := fin32_N h
  obtain ⟨s0, m0, p0, h0⟩ := fin32_iff.1 h
  rcases read32_spec x hn with ⟨_, p⟩ | ⟨m, e, p1, p2, p3, p4⟩
  · rw [p] at h0; cases h0
  have hlt := read32_lt p4
  have hd : FloatKind.f32.format.read x = .number (x / 2147483648 % 2 == 1) m (-149 + (e : Int)) := p4
  have h1 : FloatKind.f32.format.read 1065353216 = .number false 8388608 (-23) := by decide
  have key : floatBits .mul .f32 1065353216 x = some x := by
    simp only [floatBits, Ieee.Format.mul, h1, hd, Ieee.Datum.product, Option.map_some, Option.some.injEq]
    show Ieee.Format.nearest FloatKind.f32.format (false ^^ (x / 2147483648 % 2 == 1)) (8388608 * m) (-23 + (-149 + (e : Int))) = x
    have e1 : FloatKind.f32.format.signWeight = 2147483648 := by decide
    have e2 : FloatKind.f32.format.binade = 8388608 := by decide
    have e3 : FloatKind.f32.format.infRung = 2139095040 := by decide
    have e4 : FloatKind.f32.format.leastPlace = -149 := by decide
    have e5 : FloatKind.f32.format.fractionBits = 23 := by decide
    have hw : ∀ r, r = x % 2147483648 → FloatKind.f32.format.word (false ^^ (x / 2147483648 % 2 == 1)) r = x := by
      intro r hr
      unfold Ieee.Format.word
      rw [e1]
      rcases (by omega : x / 2147483648 = 0 ∨ x / 2147483648 = 1) with q | q <;> rw [q] <;> simp <;> omega
    unfold Ieee.Format.nearest
    by_cases hm : m = 0
    · subst hm
      rw [if_pos (by simp)]
      exact hw 0 (by omega)
    · rw [if_neg (by omega)]
      have hl : (8388608 * m).log2 = m.log2 + 23 := by
        rw [Nat.mul_comm, show 8388608 = 2 ^ 23 from rfl]; exact log2_mul_pow hm 23
      have hl2 : m.log2 ≤ 23 := by
        have := (Nat.log2_lt hm).2 (show m < 2 ^ 24 from p2); omega
      have hl3 : 0 < e → m.log2 = 23 := by
        intro he
        have := (Nat.le_log2 hm).2 (show 2 ^ 23 ≤ m from p3 he); omega
      have hlast : max (-23 + (-149 + (e : Int)) + ((8388608 * m).log2 : Int) - (FloatKind.f32.format.fractionBits : Int)) FloatKind.f32.format.leastPlace = -149 + (e : Int) := by
        rw [hl, e4, e5]
        rcases Nat.eq_zero_or_pos e with rfl | he
        · push_cast; omega
        · rw [hl3 he]; push_cast; omega
      simp only [hlast]
      simp only [e2, e3, e4]
      refine hw _ ?_
      have hc : Ieee.Toward.even.cut (false ^^ (x / 2147483648 % 2 == 1)) (m * 8388608) 23 = m := cut_exact m 23 _
      have a1 : (-23 + (-149 + (e : Int)) - (-149 + (e : Int))).toNat = 0 := by omega
      have a2 : (-149 + (e : Int) - (-23 + (-149 + (e : Int)))).toNat = 23 := by omega
      have a3 : (-149 + (e : Int) - -149).toNat = e := by omega
      rw [a1, a2, a3, Nat.shiftLeft_zero, Nat.mul_comm 8388608 m, hc]
      have : min (e * 8388608 + m) 2139095040 = e * 8388608 + m := Nat.min_eq_left (by omega)
      rw [this]; omega
  unfold fop
  rw [key]
  exact canon_of_not hn

end Go.Sim
end

section
namespace Go.Sim
open Go

def expP (t : Nat) : Nat → Nat
  | 0 => 4607182418800017408
  | k + 1 => fop .add .f64 4607182418800017408 (fop .quo .f64 (fop .mul .f64 t (expP t k)) (canon .f64 (FloatKind.nearest .f64 ((12 : Int) + (-1 : Int) * ((k : Nat) : Int)))))

def expQ (p : Nat) : Nat → Nat
  | 0 => p
  | k + 1 => fop .mul .f64 (expQ p k) (expQ p k)

@[irreducible] def expW (y : Nat) : Nat := expQ (expP (fop .quo .f64 y 4643211215818981376) 12) 8

def fconvOkB (x : Nat) : Bool := match FloatKind.decode .f64 x with
  | .number sg m e => !(FloatKind.decode .f32 (FloatKind.encode .f32 (.number sg m e))).isInfinity
  | _ => true

theorem fconvOk_of {x : Nat} (h : fconvOkB x = true) : fconvOk .f64 .f32 x := by
  unfold fconvOkB at h
  unfold fconvOk
  cases hd : FloatKind.decode .f64 x with
  | number s m e => rw [hd] at h; simpa using h
  | infinity s => trivial
  | nan s f => trivial

/-- The exponential function of 'x' is told by the language. -/
def expOkB (x : Nat) : Bool :=
  !(fcmp .gtr .f32 x 1128792064) && !(fcmp .lss .f32 x 3276275712) && !(fcmp .neq .f64 (fcv .f32 .f64 x) (fcv .f32 .f64 x)) &&
  !(fcmp .gtr .f64 (fcv .f32 .f64 x) 4641240890982006784) && !(fcmp .lss .f64 (fcv .f32 .f64 x) 13864612927836782592) && fconvOkB (expW (fcv .f32 .f64 x))

theorem expOk_1 {x : Nat} (h : expOkB x = true) : fcmp .gtr .f32 x 1128792064 = false := by
  simp only [expOkB, Bool.and_eq_true, Bool.not_eq_true'] at h; exact h.1.1.1.1.1
theorem expOk_2 {x : Nat} (h : expOkB x = true) : fcmp .lss .f32 x 3276275712 = false := by
  simp only [expOkB, Bool.and_eq_true, Bool.not_eq_true'] at h; exact h.1.1.1.1.2
theorem expOk_3 {x : Nat} (h : expOkB x = true) : fcmp .neq .f64 (fcv .f32 .f64 x) (fcv .f32 .f64 x) = false := by
  simp only [expOkB, Bool.and_eq_true, Bool.not_eq_true'] at h; exact h.1.1.1.2
theorem expOk_4 {x : Nat} (h : expOkB x = true) : fcmp .gtr .f64 (fcv .f32 .f64 x) 4641240890982006784 = false := by
  simp only [expOkB, Bool.and_eq_true, Bool.not_eq_true'] at h; exact h.1.1.2
theorem expOk_5 {x : Nat} (h : expOkB x = true) : fcmp .lss .f64 (fcv .f32 .f64 x) 13864612927836782592 = false := by
  simp only [expOkB, Bool.and_eq_true, Bool.not_eq_true'] at h; exact h.1.2
theorem expOk_6 {x : Nat} (h : expOkB x = true) : fconvOk .f64 .f32 (expW (fcv .f32 .f64 x)) := by
  simp only [expOkB, Bool.and_eq_true, Bool.not_eq_true'] at h; exact fconvOk_of h.2

def codeN (c : Int) : Int := if (c - 128).natAbs < 127 then ((c - 128).natAbs : Int) else 127

theorem codeN_impl (c : Int) : (if (if (128 : Int) - c > c - (128 : Int) then (128 : Int) - c else c - (128 : Int)) < (127 : Int) then (if (128 : Int) - c > c - (128 : Int) then (128 : Int) - c else c - (128 : Int)) else (127 : Int)) = codeN c := by
  unfold codeN
  repeat' split
  all_goals omega

theorem codeN_spec (c m : Int) (h : m = c - 128 ∧ ¬ c - 128 < 0 ∨ m = 0 - (c - 128) ∧ c - 128 < 0) : (if m < (127 : Int) then m else (127 : Int)) = codeN c := by
  unfold codeN
  repeat' split
  all_goals omega

def codeX (c : Int) : Nat := fop .quo .f32 (fop .sub .f32 (fcv .f64 .f32 (expW (fcv .f32 .f64 (fop .mul .f32 1085370904 (fop .quo .f32 (canon .f32 (FloatKind.nearest .f32 (codeN c))) 1123942400))))) 1065353216) 1132396544

def codeF (c : Int) : Nat := if c < 128 then fneg .f32 (codeX c) else codeX c

end Go.Sim
end

section
namespace Go.Sim
open Go

theorem code_okN : ∀ n, n < 128 → expOkB (fop .mul .f32 1085370904 (fop .quo .f32 (canon .f32 (FloatKind.nearest .f32 ((n : Nat) : Int))) 1123942400)) = true := by decide +kernel

theorem code_ok (n : Int) (h : 0 ≤ n) (g : n ≤ 127) : expOkB (fop .mul .f32 1085370904 (fop .quo .f32 (canon .f32 (FloatKind.nearest .f32 n)) 1123942400)) = true := by
  obtain ⟨m, rfl⟩ := Int.eq_ofNat_of_zero_le h
  exact code_okN m (by omega)

end Go.Sim
end
