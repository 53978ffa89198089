/- The exponential function of all codes is told by the language (checked one by one). Conditions: none. -/
import Derived.Test.YtgjdkhocnnoimaaPu5

section
namespace Go.Sim
open Go

theorem fop_of_none {op : BinOp} {k : FloatKind} {x y : Nat} (h : floatBits op k x y = none) : fop op k x y = cNaN k := by
  unfold fop; rw [h]

/-- Where a word stands for an infinity or for no number, it is not finite. -/
theorem fin32_inf {x : Nat} {s : Bool} (h : FloatKind.decode .f32 x = .infinity s) : fin32 x = false := by
  have h' : FloatKind.f32.format.read x = .infinity s := h
  unfold fin32
  rw [fop_of_none (by
    simp only [floatBits, Ieee.Format.sub, h', Ieee.Datum.opposite, Ieee.Datum.sum]
    cases s <;> rfl)]
  decide

theorem fin32_num {x : Nat} {s : Bool} {m : Nat} {e : Int} (h : FloatKind.decode .f32 x = .number s m e) : fin32 x = true := by
  have h' : FloatKind.f32.format.read x = .number s m e := h
  unfold fin32 fop
  have : floatBits .sub .f32 x x = some 0 := by
    simp only [floatBits, Ieee.Format.sub, h', Ieee.Datum.opposite, Ieee.Datum.sum]
    have ht : Ieee.signed s m (e - min e e).toNat + Ieee.signed (!s) m (e - min e e).toNat = 0 := by
      unfold Ieee.signed; cases s <;> simp <;> omega
    rw [ht]
    cases s <;> rfl
  rw [this]
  decide

theorem fin32_iff {x : Nat} : fin32 x = true ↔ ∃ s m e, FloatKind.decode .f32 x = .number s m e := by
  constructor
  · intro h
    cases hd : FloatKind.decode .f32 x with
    | number s m e => exact ⟨s, m, e, rfl⟩
    | infinity s => rw [fin32_inf hd] at h; cases h
    | nan s f => rw [fin32_nan (by unfold isN; rw [hd]; rfl)] at h; cases h
  · rintro ⟨s, m, e, h⟩; exact fin32_num h

end Go.Sim
end

section
namespace Go.Sim
open Go

theorem allFin_append (xs : List Nat) (y : Nat) : allFin (xs ++ [y]) = (allFin xs && fin32 y) := by
  unfold allFin
  simp only [List.length_append, List.length_singleton, allBelow]
  congr 1
  · refine allBelow_congr fun k hk => ?_
    simp [List.getElem?_append_left hk]
  · simp

/-! ### Times one -/

end Go.Sim
end

section
namespace Go.Sim
open Go

def fconvOkB (x : Nat) : Bool := match FloatKind.decode .f64 x with
  | .number sg m e => !(FloatKind.decode .f32 (FloatKind.encode .f32 (.number sg m e))).isInfinity
  | _ => true

theorem fconvOk_of {x : Nat} (h : fconvOkB x = true) : fconvOk .f64 .f32 x := by
  unfold fconvOkB at h
  unfold fconvOk
  cases hd : FloatKind.decode .f64 x with
  | number s m e => rw [hd] at h; simpa using h
  | infinity s => trivial
  | nan s f => trivial

end Go.Sim
end

section
namespace Go.Sim
open Go

end Go.Sim
end
