/- A pure account of the values, floats and memory of a run, and how it stands to the model's (part 1: values, floats, heaps). Conditions: none. -/
import Derived.Calls
import Derived.Laws.Sem
import Derived.Laws.World
import Derived.Laws.Cells
import Derived.Laws.FloatArith
import Derived.Below
import Derived.Orders
namespace Go.Sim
open Go

/-! ### Floats: all not-a-numbers are one -/

def cNaN : FloatKind → Nat
  | .f32 => 2143289344
  | .f64 => 9221120237041090561

def isN (k : FloatKind) (b : Nat) : Bool := (k.decode b).isNaN

def canon (k : FloatKind) (b : Nat) : Nat := if isN k b then cNaN k else b

theorem isN_cNaN (k : FloatKind) : isN k (cNaN k) = true := by cases k <;> rfl

theorem isN_canon (k : FloatKind) (b : Nat) : isN k (canon k b) = isN k b := by
  unfold canon
  split
  · rename_i h; rw [isN_cNaN, h]
  · rfl

theorem canon_of_not {k : FloatKind} {b : Nat} (h : isN k b = false) : canon k b = b := by simp [canon, h]

theorem canon_of_nan {k : FloatKind} {b : Nat} (h : isN k b = true) : canon k b = cNaN k := by simp [canon, h]

/-- What the datum of a word and that of its canonical word have in common. -/
theorem read_canon (k : FloatKind) (b : Nat) : (k.decode (canon k b) = k.decode b) ∨ ((k.decode (canon k b)).isNaN = true ∧ (k.decode b).isNaN = true) := by
  cases h : isN k b
  · left; rw [canon_of_not h]
  · right; exact ⟨by have := isN_canon k b; rw [h] at this; exact this, h⟩

theorem sum_nan_l {x : Ieee.Datum} (h : x.isNaN = true) (y : Ieee.Datum) : x.sum y = none := by
  cases x <;> simp [Ieee.Datum.isNaN] at h; rfl
theorem sum_nan_r (x : Ieee.Datum) {y : Ieee.Datum} (h : y.isNaN = true) : x.sum y = none := by
  cases y <;> simp [Ieee.Datum.isNaN] at h
  cases x <;> rfl
theorem product_nan_l {x : Ieee.Datum} (h : x.isNaN = true) (y : Ieee.Datum) : x.product y = none := by
  cases x <;> simp [Ieee.Datum.isNaN] at h; rfl
theorem product_nan_r (x : Ieee.Datum) {y : Ieee.Datum} (h : y.isNaN = true) : x.product y = none := by
  cases y <;> simp [Ieee.Datum.isNaN] at h
  cases x <;> rfl
theorem quotient_nan_l (d : Nat) {x : Ieee.Datum} (h : x.isNaN = true) (y : Ieee.Datum) : x.quotient d y = none := by
  cases x <;> simp [Ieee.Datum.isNaN] at h; rfl
theorem quotient_nan_r (d : Nat) (x : Ieee.Datum) {y : Ieee.Datum} (h : y.isNaN = true) : x.quotient d y = none := by
  cases y <;> simp [Ieee.Datum.isNaN] at h
  cases x <;> rfl
theorem order_nan_l {x : Ieee.Datum} (h : x.isNaN = true) (y : Ieee.Datum) : x.order y = none := by
  cases x <;> simp [Ieee.Datum.isNaN] at h; rfl
theorem order_nan_r (x : Ieee.Datum) {y : Ieee.Datum} (h : y.isNaN = true) : x.order y = none := by
  cases y <;> simp [Ieee.Datum.isNaN] at h
  cases x <;> rfl
theorem isNaN_opposite (x : Ieee.Datum) : x.opposite.isNaN = x.isNaN := by cases x <;> rfl

/-- An operation does not see which not-a-number its operands are. -/
theorem floatBits_canon (op : BinOp) (k : FloatKind) (x y : Nat) : floatBits op k (canon k x) (canon k y) = floatBits op k x y := by
  have hx := read_canon k x
  have hy := read_canon k y
  unfold FloatKind.decode at hx hy
  cases op <;> simp only [floatBits, Ieee.Format.add, Ieee.Format.sub, Ieee.Format.mul, Ieee.Format.div]
  case add =>
    rcases hx with hx | ⟨h1, h2⟩
    · rcases hy with hy | ⟨g1, g2⟩
      · rw [hx, hy]
      · rw [sum_nan_r _ g1, sum_nan_r _ g2]
    · rw [sum_nan_l h1, sum_nan_l h2]
  case sub =>
    rcases hx with hx | ⟨h1, h2⟩
    · rcases hy with hy | ⟨g1, g2⟩
      · rw [hx, hy]
      · rw [sum_nan_r _ (by rw [isNaN_opposite]; exact g1), sum_nan_r _ (by rw [isNaN_opposite]; exact g2)]
    · rw [sum_nan_l h1, sum_nan_l h2]
  case mul =>
    rcases hx with hx | ⟨h1, h2⟩
    · rcases hy with hy | ⟨g1, g2⟩
      · rw [hx, hy]
      · rw [product_nan_r _ g1, product_nan_r _ g2]
    · rw [product_nan_l h1, product_nan_l h2]
  case quo =>
    rcases hx with hx | ⟨h1, h2⟩
    · rcases hy with hy | ⟨g1, g2⟩
      · rw [hx, hy]
      · rw [quotient_nan_r _ _ g1, quotient_nan_r _ _ g2]
    · rw [quotient_nan_l _ h1, quotient_nan_l _ h2]

theorem order_canon (k : FloatKind) (x y : Nat) : k.format.order (canon k x) (canon k y) = k.format.order x y := by
  have hx := read_canon k x
  have hy := read_canon k y
  unfold FloatKind.decode at hx hy
  simp only [Ieee.Format.order]
  rcases hx with hx | ⟨h1, h2⟩
  · rcases hy with hy | ⟨g1, g2⟩
    · rw [hx, hy]
    · rw [order_nan_r _ g1, order_nan_r _ g2]
  · rw [order_nan_l h1, order_nan_l h2]

/-- The words of a format that are not too long. -/
def okW (k : FloatKind) (b : Nat) : Prop := b < 2 ^ k.format.width

/-- '+', '-', '*', '/' with one not-a-number. -/
def fop (op : BinOp) (k : FloatKind) (x y : Nat) : Nat :=
  match floatBits op k x y with
  | some r => canon k r
  | none => cNaN k

def fcmp (op : BinOp) (k : FloatKind) (x y : Nat) : Bool :=
  match op with
  | .eql => k.format.order x y == some .eq
  | .neq => k.format.order x y != some .eq
  | .lss => k.format.order x y == some .lt
  | .leq => k.format.order x y == some .lt || k.format.order x y == some .eq
  | .gtr => k.format.order x y == some .gt
  | .geq => k.format.order x y == some .gt || k.format.order x y == some .eq
  | _ => false

theorem fcmp_canon (op : BinOp) (k : FloatKind) (x y : Nat) : fcmp op k (canon k x) (canon k y) = fcmp op k x y := by
  unfold fcmp; rw [order_canon]

theorem cut_nan_okW {a b : Nat} {m : Bool} (k : FloatKind) (q : Question) (t : Nat) (h : q = .nanBits k a b ∨ q = .nanConv k a ∨ q = .nanMinMax k m a b) :
    okW k (q.cut t) ∧ isN k (q.cut t) = true := by
  have key : (k = .f32 → q.cut t = (t % 2) * 2 ^ 31 + 0x7f800000 + 1 + (t / 2) % (2 ^ 23 - 1)) ∧
      (k = .f64 → q.cut t = (t % 2) * 2 ^ 63 + 0x7ff0000000000000 + 1 + (t / 2) % (2 ^ 52 - 1)) := by
    constructor <;> intro hk <;> subst hk <;> rcases h with h | h | h <;> subst h <;> rfl
  cases k with
  | f32 =>
    rw [key.1 rfl]
    have h1 : t % 2 < 2 := Nat.mod_lt _ (by omega)
    have h2 : (t / 2) % (2 ^ 23 - 1) < 2 ^ 23 - 1 := Nat.mod_lt _ (by omega)
    generalize (t / 2) % (2 ^ 23 - 1) = u at *
    generalize t % 2 = s at *
    refine ⟨?_, ?_⟩
    · show s * 2 ^ 31 + 0x7f800000 + 1 + u < 2 ^ 32
      omega
    · show (Ieee.single.read (s * 2 ^ 31 + 0x7f800000 + 1 + u)).isNaN = true
      have e1 : Ieee.single.signWeight = 2 ^ 31 := by rfl
      have e2 : Ieee.single.infRung = 0x7f800000 := by rfl
      have e3 : Ieee.single.binade = 2 ^ 23 := by rfl
      have hr : (s * 2 ^ 31 + 0x7f800000 + 1 + u) % Ieee.single.signWeight = 0x7f800000 + 1 + u := by rw [e1]; omega
      unfold Ieee.Format.read
      simp only [hr]
      rw [if_neg (by rw [e3]; omega), if_neg (by rw [e2]; omega), if_neg (by rw [e2]; omega)]
      rfl
  | f64 =>
    rw [key.2 rfl]
    have h1 : t % 2 < 2 := Nat.mod_lt _ (by omega)
    have h2 : (t / 2) % (2 ^ 52 - 1) < 2 ^ 52 - 1 := Nat.mod_lt _ (by omega)
    generalize (t / 2) % (2 ^ 52 - 1) = u at *
    generalize t % 2 = s at *
    refine ⟨?_, ?_⟩
    · show s * 2 ^ 63 + 0x7ff0000000000000 + 1 + u < 2 ^ 64
      omega
    · show (Ieee.double.read (s * 2 ^ 63 + 0x7ff0000000000000 + 1 + u)).isNaN = true
      have e1 : Ieee.double.signWeight = 2 ^ 63 := by rfl
      have e2 : Ieee.double.infRung = 0x7ff0000000000000 := by rfl
      have e3 : Ieee.double.binade = 2 ^ 52 := by rfl
      have hr : (s * 2 ^ 63 + 0x7ff0000000000000 + 1 + u) % Ieee.double.signWeight = 0x7ff0000000000000 + 1 + u := by rw [e1]; omega
      unfold Ieee.Format.read
      simp only [hr]
      rw [if_neg (by rw [e3]; omega), if_neg (by rw [e2]; omega), if_neg (by rw [e2]; omega)]
      rfl

/-- 'w'' is 'w' after some draws. -/
def Drawn (w w' : World) : Prop := ∃ n, w' = { w with drawn := w.drawn + n }

theorem Drawn.refl (w : World) : Drawn w w := ⟨0, rfl⟩

section
variable {P : Program}

theorem run_choose_nan {a b : Nat} {m : Bool} (k : FloatKind) (q : Question) (w : World) (hq : q = .nanBits k a b ∨ q = .nanConv k a ∨ q = .nanMinMax k m a b) :
    ∃ r w', (choose q).run P w = .ok r w' ∧ Drawn w w' ∧ okW k r ∧ isN k r = true := by
  have h := cut_nan_okW k q (w.tape w.drawn q) hq
  refine ⟨_, { w with drawn := w.drawn + 1 }, ?_, ⟨1, rfl⟩, h.1, h.2⟩
  rw [run_choose]
  rcases hq with rfl | rfl | rfl <;> rfl

/-- Float arithmetic of the model gives, but for which not-a-number, what 'fop' gives. -/
theorem run_floatArith (op : BinOp) (k : FloatKind) (x y : Nat) (w : World) (hop : op = .add ∨ op = .sub ∨ op = .mul ∨ op = .quo) :
    ∃ r w', (Op.floatArith op k x y).run P w = .ok (.float k r) w' ∧ Drawn w w' ∧ okW k r ∧ canon k r = fop op k (canon k x) (canon k y) := by
  unfold fop
  rw [floatBits_canon]
  cases hb : floatBits op k x y with
  | some r =>
    refine ⟨r, w, ?_, Drawn.refl w, ?_, rfl⟩
    · rcases hop with rfl | rfl | rfl | rfl <;> simp only [floatBits] at hb <;> simp [Op.floatArith, hb]
    · have := floatBits_wf hb
      cases k <;> simp [Lit.wf] at this <;> exact this
  | none =>
    obtain ⟨r, w', hr, hd, ho, hn⟩ := run_choose_nan (P := P) (a := x) (b := y) (m := false) k (.nanBits k x y) w (Or.inl rfl)
    refine ⟨r, w', ?_, hd, ho, canon_of_nan hn⟩
    rcases hop with rfl | rfl | rfl | rfl <;> simp only [floatBits] at hb <;> simp [Op.floatArith, hb, hr, -run_choose]
end
end Go.Sim
