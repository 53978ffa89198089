/- Finite float32 words: what sums, differences and products of finite ones come from. Conditions: none. -/
import Derived.Test.YtidjddabfmnkjaaPu5
namespace Go.Sim
open Go

theorem inf_word (s : Bool) : (FloatKind.decode .f32 (canon .f32 (FloatKind.f32.format.word s FloatKind.f32.format.infRung))) = .infinity s := by
  cases s <;> decide

theorem fop_of_none {op : BinOp} {k : FloatKind} {x y : Nat} (h : floatBits op k x y = none) : fop op k x y = cNaN k := by
  unfold fop; rw [h]

/-- Where a word stands for an infinity or for no number, it is not finite. -/
theorem fin32_inf {x : Nat} {s : Bool} (h : FloatKind.decode .f32 x = .infinity s) : fin32 x = false := by
  have h' : FloatKind.f32.format.read x = .infinity s := h
  unfold fin32
  rw [fop_of_none (by
    simp only [floatBits, Ieee.Format.sub, h', Ieee.Datum.opposite, Ieee.Datum.sum]
    cases s <;> rfl)]
  decide

theorem fin32_num {x : Nat} {s : Bool} {m : Nat} {e : Int} (h : FloatKind.decode .f32 x = .number s m e) : fin32 x = true := by
  have h' : FloatKind.f32.format.read x = .number s m e := h
  unfold fin32 fop
  have : floatBits .sub .f32 x x = some 0 := by
    simp only [floatBits, Ieee.Format.sub, h', Ieee.Datum.opposite, Ieee.Datum.sum]
    have ht : Ieee.signed s m (e - min e e).toNat + Ieee.signed (!s) m (e - min e e).toNat = 0 := by
      unfold Ieee.signed; cases s <;> simp <;> omega
    rw [ht]
    cases s <;> rfl
  rw [this]
  decide

theorem fin32_iff {x : Nat} : fin32 x = true ↔ ∃ s m e, FloatKind.decode .f32 x = .number s m e := by
  constructor
  · intro h
    cases hd : FloatKind.decode .f32 x with
    | number s m e => exact ⟨s, m, e, rfl⟩
    | infinity s => rw [fin32_inf hd] at h; cases h
    | nan s f => rw [fin32_nan (by unfold isN; rw [hd]; rfl)] at h; cases h
  · rintro ⟨s, m, e, h⟩; exact fin32_num h

theorem fop_inf {op : BinOp} {x y : Nat} {s : Bool} (h : floatBits op .f32 x y = some (FloatKind.f32.format.word s FloatKind.f32.format.infRung)) : fin32 (fop op .f32 x y) = false := by
  unfold fop; rw [h]; exact fin32_inf (inf_word s)

theorem fop_none {op : BinOp} {x y : Nat} (h : floatBits op .f32 x y = none) : fin32 (fop op .f32 x y) = false := by
  rw [fop_of_none h]; decide

theorem not_fin {x : Nat} (h : fin32 x = false) : (∃ s, FloatKind.decode .f32 x = .infinity s) ∨ isN .f32 x = true := by
  cases hd : FloatKind.decode .f32 x with
  | number s m e => rw [fin32_num hd] at h; cases h
  | infinity s => exact .inl ⟨s, rfl⟩
  | nan s f => right; unfold isN; rw [hd]; rfl

theorem bad_l {op : BinOp} {x : Nat} (y : Nat) (hop : op = .add ∨ op = .sub ∨ op = .mul) (h : fin32 x = false) : fin32 (fop op .f32 x y) = false := by
  rcases not_fin h with ⟨s, hs⟩ | hn
  · have hs' : FloatKind.f32.format.read x = .infinity s := hs
    cases hy : FloatKind.f32.format.read y with
    | nan t f => rw [isN_fop_r x (by rcases hop with h | h | h <;> simp [h]) (show isN .f32 y = true by unfold isN; show (FloatKind.f32.format.read y).isNaN = true; rw [hy]; rfl)]; decide
    | infinity t =>
      rcases hop with rfl | rfl | rfl <;> cases s <;> cases t <;>
        first
        | exact fop_none (by simp only [floatBits, Ieee.Format.add, Ieee.Format.sub, Ieee.Format.mul, hs', hy]; rfl)
        | exact fop_inf (s := false) (by simp only [floatBits, Ieee.Format.add, Ieee.Format.sub, Ieee.Format.mul, hs', hy]; rfl)
        | exact fop_inf (s := true) (by simp only [floatBits, Ieee.Format.add, Ieee.Format.sub, Ieee.Format.mul, hs', hy]; rfl)
    | number t n j =>
      rcases hop with rfl | rfl | rfl
      · exact fop_inf (s := s) (by simp only [floatBits, Ieee.Format.add, hs', hy, Ieee.Datum.sum]; rfl)
      · exact fop_inf (s := s) (by simp only [floatBits, Ieee.Format.sub, hs', hy, Ieee.Datum.sum, Ieee.Datum.opposite]; rfl)
      · cases n with
        | zero => exact fop_none (by simp only [floatBits, Ieee.Format.mul, hs', hy, Ieee.Datum.product]; rfl)
        | succ n => exact fop_inf (s := s ^^ t) (by simp only [floatBits, Ieee.Format.mul, hs', hy, Ieee.Datum.product]; rfl)
  · rw [isN_fop_l y (by rcases hop with h | h | h <;> simp [h]) hn]; decide

theorem bad_r {op : BinOp} (x : Nat) {y : Nat} (hop : op = .add ∨ op = .sub ∨ op = .mul) (h : fin32 y = false) : fin32 (fop op .f32 x y) = false := by
  rcases not_fin h with ⟨s, hs⟩ | hn
  · have hs' : FloatKind.f32.format.read y = .infinity s := hs
    cases hy : FloatKind.f32.format.read x with
    | nan t f => rw [isN_fop_l y (by rcases hop with h | h | h <;> simp [h]) (show isN .f32 x = true by unfold isN; show (FloatKind.f32.format.read x).isNaN = true; rw [hy]; rfl)]; decide
    | infinity t =>
      rcases hop with rfl | rfl | rfl <;> cases s <;> cases t <;>
        first
        | exact fop_none (by simp only [floatBits, Ieee.Format.add, Ieee.Format.sub, Ieee.Format.mul, hs', hy]; rfl)
        | exact fop_inf (s := false) (by simp only [floatBits, Ieee.Format.add, Ieee.Format.sub, Ieee.Format.mul, hs', hy]; rfl)
        | exact fop_inf (s := true) (by simp only [floatBits, Ieee.Format.add, Ieee.Format.sub, Ieee.Format.mul, hs', hy]; rfl)
    | number t n j =>
      rcases hop with rfl | rfl | rfl
      · exact fop_inf (s := s) (by simp only [floatBits, Ieee.Format.add, hs', hy, Ieee.Datum.sum]; rfl)
      · exact fop_inf (s := !s) (by simp only [floatBits, Ieee.Format.sub, hs', hy, Ieee.Datum.sum, Ieee.Datum.opposite]; rfl)
      · cases n with
        | zero => exact fop_none (by simp only [floatBits, Ieee.Format.mul, hs', hy, Ieee.Datum.product]; rfl)
        | succ n => exact fop_inf (s := s ^^ t) (by simp only [floatBits, Ieee.Format.mul, hs', hy, Ieee.Datum.product]; rfl)
  · rw [isN_fop_r x (by rcases hop with h | h | h <;> simp [h]) hn]; decide

theorem fin_add {x y : Nat} (h : fin32 (fop .add .f32 x y) = true) : fin32 x = true ∧ fin32 y = true := by
  constructor
  · cases hx : fin32 x with
    | true => rfl
    | false => rw [bad_l y (Or.inl rfl) hx] at h; cases h
  · cases hy : fin32 y with
    | true => rfl
    | false => rw [bad_r x (Or.inl rfl) hy] at h; cases h

theorem fin_sub {x y : Nat} (h : fin32 (fop .sub .f32 x y) = true) : fin32 x = true ∧ fin32 y = true := by
  constructor
  · cases hx : fin32 x with
    | true => rfl
    | false => rw [bad_l y (Or.inr (Or.inl rfl)) hx] at h; cases h
  · cases hy : fin32 y with
    | true => rfl
    | false => rw [bad_r x (Or.inr (Or.inl rfl)) hy] at h; cases h

theorem fin_mul {x y : Nat} (h : fin32 (fop .mul .f32 x y) = true) : fin32 x = true ∧ fin32 y = true := by
  constructor
  · cases hx : fin32 x with
    | true => rfl
    | false => rw [bad_l y (Or.inr (Or.inr rfl)) hx] at h; cases h
  · cases hy : fin32 y with
    | true => rfl
    | false => rw [bad_r x (Or.inr (Or.inr rfl)) hy] at h; cases h

end Go.Sim
