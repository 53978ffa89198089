/- Numbers that are drawn from bytes; whole numbers as float32. Conditions: none. -/
import Derived.Test.YtgjdkhocnnoimaaPvF
namespace Go.Sim
open Go

/-! ### Draws -/

def byteAt (cs : List Int) (a : Int) : Int := if a < ((cs.length : Nat) : Int) then List.getD cs (a).toNat 0 else 0
def nextSd (cs : List Int) (a sd : Int) : Int := IntKind.wrap .u64 (IntKind.wrap .u64 (IntKind.wrap .u64 (sd * (6364136223846793005 : Int)) + byteAt cs a) + (1442695040888963407 : Int))
def nextV (cs : List Int) (a sd : Int) : Int := if a + 1 ≤ ((cs.length : Nat) : Int) then byteAt cs a else
  IntKind.wrap .i64 (IntKind.wrap .u64 ((BitVec.ofInt (IntKind.bits .u64) (Int.fdiv (nextSd cs a sd) (2 ^ min (Int.toNat (40 : Int)) (IntKind.bits .u64))) &&& BitVec.ofInt (IntKind.bits .u64) (255 : Int)).toNat : Int))

def bytesOk (cs : List Int) : Prop := ∀ y ∈ cs, 0 ≤ y ∧ y ≤ 255

theorem bytes_get {cs : List Int} (h : bytesOk cs) (k : Nat) : 0 ≤ cs.getD k 0 ∧ cs.getD k 0 ≤ 255 := by
  rcases Nat.lt_or_ge k cs.length with hk | hk
  · have : cs.getD k 0 = cs[k] := by simp [hk]
    rw [this]; exact h _ (List.getElem_mem hk)
  · have : cs.getD k 0 = 0 := by simp [hk]
    rw [this]; omega

theorem byteAt_range {cs : List Int} (h : bytesOk cs) (a : Int) : 0 ≤ byteAt cs a ∧ byteAt cs a ≤ 255 := by
  unfold byteAt; split
  · exact bytes_get h _
  · omega

theorem and255 (x : BitVec (IntKind.bits .u64)) : 0 ≤ IntKind.wrap .i64 (IntKind.wrap .u64 ((x &&& BitVec.ofInt (IntKind.bits .u64) (255 : Int)).toNat : Int)) ∧ IntKind.wrap .i64 (IntKind.wrap .u64 ((x &&& BitVec.ofInt (IntKind.bits .u64) (255 : Int)).toNat : Int)) ≤ 255 := by
  have h : (x &&& BitVec.ofInt (IntKind.bits .u64) (255 : Int)).toNat ≤ 255 := by
    rw [BitVec.toNat_and]
    have : (BitVec.ofInt (IntKind.bits .u64) (255 : Int)).toNat = 255 := by decide
    rw [this]; exact Nat.and_le_right
  generalize (x &&& BitVec.ofInt (IntKind.bits .u64) (255 : Int)).toNat = n at h
  have e1 : IntKind.wrap .u64 ((n : Nat) : Int) = (n : Int) := by simp [IntKind.wrap, IntKind.signed, IntKind.bits]; omega
  rw [e1, wrap_i64]
  split
  · rename_i h; simp at h; omega
  · omega

theorem nextV_range {cs : List Int} (h : bytesOk cs) (a sd : Int) : 0 ≤ nextV cs a sd ∧ nextV cs a sd ≤ 255 := by
  unfold nextV; split
  · exact byteAt_range h a
  · exact and255 _

/-- A number below 'n' that is drawn. -/
def pickV (cs : List Int) (a sd n : Int) : Int := Int.tmod (nextV cs a sd) n

theorem pickV_range {cs : List Int} (h : bytesOk cs) (a sd : Int) {n : Int} (hn : 1 ≤ n) : 0 ≤ pickV cs a sd n ∧ pickV cs a sd n < n := tm_bounds' (nextV_range h a sd).1 hn
where
  tm_bounds' {a c : Int} (h : 0 ≤ a) (hc : 1 ≤ c) : 0 ≤ Int.tmod a c ∧ Int.tmod a c < c := ⟨Int.tmod_nonneg c h, Int.tmod_lt_of_pos a (by omega)⟩

/-! ### Whole numbers as float32 -/

theorem cvI_fl {n : Int} (h : n.natAbs ≤ 16777216) : isFl .f32 (cvI n) ∧ fv .f32 (cvI n) = n := int_exact n h

theorem cvI_word (n : Int) : ∃ r, r ≤ FloatKind.f32.format.infRung ∧ cvI n = FloatKind.f32.format.word (decide (n < 0)) r := by
  refine ⟨rungOf FloatKind.f32.format n.natAbs 0, (rungOf_spec _ _ _).inf, ?_⟩
  show canon .f32 (FloatKind.f32.format.nearest (decide (n < 0)) n.natAbs 0) = _
  rw [nearest_word, word_canon (rungOf_spec _ _ _).inf]

/-- What is written for a whole number, and has its sign, is that number's word. -/
theorem Rd.cvI {z : Nat} {n : Int} (h : Rd .f32 (n : Rat) z) (hn : n.natAbs ≤ 16777216) (h0 : n ≠ 0) : z = cvI n := by
  obtain ⟨r, hr, he⟩ := cvI_word n
  obtain ⟨f1, f2⟩ := cvI_fl hn
  have hr' : r < FloatKind.f32.format.infRung := by
    have := read_fin f1
    rw [he, (word_mod FloatKind.f32.format _ hr).1] at this; exact this
  rw [he, (word_fin hr').2] at f2
  obtain ⟨s, t, a, rfl, ha, hq, ht, hup, hlo, _⟩ := h
  rw [he]
  have hnn : (n : Rat) ≠ 0 := by
    intro e
    have : ((n : Int) : Rat) = ((0 : Int) : Rat) := e
    exact h0 (Rat.intCast_inj.1 this)
  have ra : a = rgv FloatKind.f32.format r ∧ s = decide (n < 0) := by
    have p := rv_nonneg FloatKind.f32.format r
    rcases sg_cases s with ⟨rfl, es⟩ | ⟨rfl, es⟩ <;> rcases sg_cases (decide (n < 0)) with ⟨d, ed⟩ | ⟨d, ed⟩ <;> rw [es] at hq <;> rw [ed] at f2
    · exact ⟨by grind, d.symm⟩
    · exfalso; grind
    · exfalso; grind
    · exact ⟨by grind, d.symm⟩
  have h1 := hup r (Nat.le_of_lt hr') (by rw [ra.1]; exact Rat.le_refl)
  have h2 := hlo r (Nat.le_of_lt hr') (by rw [ra.1]; exact Rat.le_refl)
  rw [ra.2, show t = r by omega]

end Go.Sim
