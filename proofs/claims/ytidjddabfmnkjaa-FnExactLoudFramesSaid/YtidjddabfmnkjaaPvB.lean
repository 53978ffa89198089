/- What floats stand for: sums, products, quotients, conversions and comparisons of finite ones. Conditions: none. -/
import Derived.Test.YtidjddabfmnkjaaPvA
import Derived.Test.YtidjddabfmnkjaaS1
namespace Go.Sim
open Go

def sg (s : Bool) : Rat := if s then -1 else 1

/-- A finite float. -/
def isFl (k : FloatKind) (x : Nat) : Prop := ∃ s m e, k.decode x = .number s m e

/-- What a finite float stands for. -/
def fv (k : FloatKind) (x : Nat) : Rat := match k.decode x with
  | .number s m e => sg s * mgv m e
  | _ => 0

theorem fv_num {k : FloatKind} {x : Nat} {s : Bool} {m : Nat} {e : Int} (h : k.decode x = .number s m e) : fv k x = sg s * mgv m e := by
  unfold fv; rw [h]

theorem word_mod (f : Ieee.Format) (s : Bool) {r : Nat} (h : r ≤ f.infRung) : f.word s r % f.signWeight = r ∧ (f.word s r / f.signWeight % 2 == 1) = s := by
  have hlt : r < f.signWeight := Nat.lt_of_le_of_lt h f.infRung_lt
  have hp : 0 < f.signWeight := by omega
  unfold Ieee.Format.word
  cases s with
  | true =>
    simp only [if_true]
    rw [Nat.add_mod_left, Nat.mod_eq_of_lt hlt, Nat.add_div_left _ hp, Nat.div_eq_of_lt hlt]
    exact ⟨rfl, rfl⟩
  | false =>
    simp only [Bool.false_eq_true, if_false]
    rw [Nat.mod_eq_of_lt hlt, Nat.div_eq_of_lt hlt]
    exact ⟨rfl, rfl⟩

theorem read_rung (f : Ieee.Format) (x : Nat) (h : x % f.signWeight < f.infRung) : ∃ m e, f.read x = .number (x / f.signWeight % 2 == 1) m e ∧ mgv m e = rgv f (x % f.signWeight) := by
  unfold Ieee.Format.read rgv
  simp only
  split
  · exact ⟨_, _, rfl, rfl⟩
  · exact ⟨_, _, rfl, rfl⟩

theorem read_word {f : Ieee.Format} {s : Bool} {r : Nat} (h : r < f.infRung) : ∃ m e, f.read (f.word s r) = .number s m e ∧ mgv m e = rgv f r := by
  obtain ⟨h1, h2⟩ := word_mod f s (Nat.le_of_lt h)
  obtain ⟨m, e, h3, h4⟩ := read_rung f (f.word s r) (by rw [h1]; exact h)
  rw [h2] at h3; rw [h1] at h4
  exact ⟨m, e, h3, h4⟩

theorem bin_inf (k : FloatKind) : k.format.binade < k.format.infRung := by cases k <;> decide

theorem read_inf (k : FloatKind) (s : Bool) : k.format.read (k.format.word s k.format.infRung) = .infinity s := by
  cases k <;> cases s <;> decide

theorem read_fin {k : FloatKind} {x : Nat} (h : isFl k x) : x % k.format.signWeight < k.format.infRung := by
  obtain ⟨s, m, e, h⟩ := h
  rcases Nat.lt_or_ge (x % k.format.signWeight) k.format.infRung with h' | h'
  · exact h'
  · have hb := bin_inf k
    exfalso
    unfold FloatKind.decode Ieee.Format.read at h
    simp only at h
    rw [if_neg (by omega), if_neg (by omega)] at h
    split at h <;> cases h

/-- A finite float is a sign and a rung. -/
theorem fin_rung {k : FloatKind} {x : Nat} (h : isFl k x) : ∃ s r, r < k.format.infRung ∧ fv k x = sg s * rgv k.format r := by
  obtain ⟨m, e, h1, h2⟩ := read_rung k.format x (read_fin h)
  exact ⟨_, _, read_fin h, by rw [fv_num h1, h2]⟩

theorem word_fin {k : FloatKind} {s : Bool} {r : Nat} (h : r < k.format.infRung) : isFl k (k.format.word s r) ∧ fv k (k.format.word s r) = sg s * rgv k.format r := by
  obtain ⟨m, e, h1, h2⟩ := read_word (s := s) h
  exact ⟨⟨_, _, _, h1⟩, by rw [fv_num h1, h2]⟩

theorem word_canon {k : FloatKind} {s : Bool} {r : Nat} (h : r ≤ k.format.infRung) : canon k (k.format.word s r) = k.format.word s r := by
  refine canon_of_not ?_
  show (k.format.read _).isNaN = false
  rcases Nat.lt_or_ge r k.format.infRung with h' | h'
  · obtain ⟨m, e, h1, _⟩ := read_word (s := s) h'
    rw [h1]; rfl
  · have : r = k.format.infRung := by omega
    subst this; rw [read_inf]; rfl

/-! ### Rounded numbers -/

/-- 'z' is the word that is written for the number 'q'. -/
def Rd (k : FloatKind) (q : Rat) (z : Nat) : Prop := ∃ (s : Bool) (r : Nat) (a : Rat), z = k.format.word s r ∧ 0 ≤ a ∧ q = sg s * a ∧ r ≤ k.format.infRung ∧
  (∀ r0, r0 ≤ k.format.infRung → a ≤ rgv k.format r0 → r ≤ r0) ∧ (∀ r0, r0 ≤ k.format.infRung → rgv k.format r0 ≤ a → r0 ≤ r) ∧
  (r < k.format.infRung → ∃ e : Int, rgv k.format r ≤ a + 2 ^ e ∧ a ≤ rgv k.format r + 2 ^ e ∧ (e = k.format.leastPlace ∨ (2 : Rat) ^ (e + k.format.fractionBits) ≤ a))

theorem Rd.of_spec {k : FloatKind} {s : Bool} {a : Rat} {r : Nat} (h : RungSpec k.format a r) (ha : 0 ≤ a) : Rd k (sg s * a) (k.format.word s r) := by
  refine ⟨s, r, a, rfl, ha, rfl, h.inf, h.up, h.lo, fun hr => ?_⟩
  obtain ⟨e, h1, h2, h3⟩ := h.err hr
  refine ⟨e + 1, ?_, ?_, ?_⟩
  · have : (2 : Rat) ^ (e + 1) = 2 ^ e * 2 := by rw [zp_add]; rfl
    have := zp_pos e; grind
  · have : (2 : Rat) ^ (e + 1) = 2 ^ e * 2 := by rw [zp_add]; rfl
    have := zp_pos e; grind
  · rcases h3 with h3 | h3
    · left; omega
    · right; exact h3

theorem nearest_Rd (k : FloatKind) (s : Bool) (m : Nat) (p : Int) : Rd k (sg s * mgv m p) (canon k (k.format.nearest s m p)) := by
  rw [nearest_word, word_canon (rungOf_spec _ _ _).inf]
  exact Rd.of_spec (rungOf_spec _ _ _) (mv_nonneg _ _)

theorem sg_cases (s : Bool) : (s = false ∧ sg s = 1) ∨ (s = true ∧ sg s = -1) := by cases s <;> simp [sg]

section
variable {k : FloatKind} {q : Rat} {z : Nat}

/-- A number that is not above a finite one gives a finite one. -/
theorem Rd.fin (h : Rd k q z) {w : Nat} (hw : isFl k w) (h1 : q ≤ fv k w) (h2 : -(fv k w) ≤ q) : isFl k z := by
  obtain ⟨s, r, a, rfl, ha, hq, _, hup, _, _⟩ := h
  obtain ⟨sw, rw_, hr, hv⟩ := fin_rung hw
  have h0 := rv_nonneg k.format rw_
  refine (word_fin (Nat.lt_of_le_of_lt (hup rw_ (Nat.le_of_lt hr) ?_) hr)).1
  rcases sg_cases s with ⟨_, e⟩ | ⟨_, e⟩ <;> rcases sg_cases sw with ⟨_, e'⟩ | ⟨_, e'⟩ <;> rw [e] at hq <;> rw [e'] at hv <;> grind

theorem Rd.hi (h : Rd k q z) (hz : isFl k z) {w : Nat} (hw : isFl k w) (h1 : q ≤ fv k w) : fv k z ≤ fv k w := by
  obtain ⟨s, r, a, rfl, ha, hq, hr, hup, hlo, _⟩ := h
  have hr' : r < k.format.infRung := by
    have := read_fin hz
    rw [(word_mod k.format s hr).1] at this; exact this
  rw [(word_fin hr').2]
  obtain ⟨sw, rw_, hrw, hv⟩ := fin_rung hw
  have h0 := rv_nonneg k.format rw_
  have h0' := rv_nonneg k.format r
  have u := hup rw_ (Nat.le_of_lt hrw)
  have v := hlo rw_ (Nat.le_of_lt hrw)
  have u' := fun g => (rv_le k.format).2 (u g)
  have v' := fun g => (rv_le k.format).2 (v g)
  rw [hv] at h1 ⊢
  rcases sg_cases s with ⟨_, e⟩ | ⟨_, e⟩ <;> rcases sg_cases sw with ⟨_, e'⟩ | ⟨_, e'⟩ <;> rw [e] at hq ⊢ <;> rw [e'] at h1 ⊢
  · have := u' (by grind); grind
  · have : a = 0 := by grind
    have := u' (by grind)
    have h3 : rgv k.format rw_ = 0 := by grind
    grind
  · grind
  · have := v' (by grind); grind

theorem Rd.lo (h : Rd k q z) (hz : isFl k z) {w : Nat} (hw : isFl k w) (h1 : fv k w ≤ q) : fv k w ≤ fv k z := by
  obtain ⟨s, r, a, rfl, ha, hq, hr, hup, hlo, _⟩ := h
  have hr' : r < k.format.infRung := by
    have := read_fin hz
    rw [(word_mod k.format s hr).1] at this; exact this
  rw [(word_fin hr').2]
  obtain ⟨sw, rw_, hrw, hv⟩ := fin_rung hw
  have h0 := rv_nonneg k.format rw_
  have h0' := rv_nonneg k.format r
  have u := hup rw_ (Nat.le_of_lt hrw)
  have v := hlo rw_ (Nat.le_of_lt hrw)
  have u' := fun g => (rv_le k.format).2 (u g)
  have v' := fun g => (rv_le k.format).2 (v g)
  rw [hv] at h1 ⊢
  rcases sg_cases s with ⟨_, e⟩ | ⟨_, e⟩ <;> rcases sg_cases sw with ⟨_, e'⟩ | ⟨_, e'⟩ <;> rw [e] at hq ⊢ <;> rw [e'] at h1 ⊢
  · have := v' (by grind); grind
  · grind
  · have : a = 0 := by grind
    have := u' (by grind)
    have h3 : rgv k.format rw_ = 0 := by grind
    grind
  · have := u' (by grind); grind

/-- How far the rounded number is from the number ('M': a bound of it). -/
theorem Rd.err (h : Rd k q z) (hz : isFl k z) {M : Rat} (h1 : q ≤ M) (h2 : -M ≤ q) :
    fv k z ≤ q + (M * 2 ^ (-(k.format.fractionBits : Int)) + 2 ^ k.format.leastPlace) ∧ q ≤ fv k z + (M * 2 ^ (-(k.format.fractionBits : Int)) + 2 ^ k.format.leastPlace) := by
  obtain ⟨s, r, a, rfl, ha, hq, hr, hup, hlo, herr⟩ := h
  have hr' : r < k.format.infRung := by
    have := read_fin hz
    rw [(word_mod k.format s hr).1] at this; exact this
  rw [(word_fin hr').2]
  obtain ⟨e, e1, e2, e3⟩ := herr hr'
  have aM : a ≤ M := by rcases sg_cases s with ⟨_, e⟩ | ⟨_, e⟩ <;> rw [e] at hq <;> grind
  have p1 := zp_pos (-(k.format.fractionBits : Int))
  have p2 := zp_pos k.format.leastPlace
  have hm : 0 ≤ M * 2 ^ (-(k.format.fractionBits : Int)) := Rat.mul_nonneg (by grind) (Rat.le_of_lt p1)
  have key : (2 : Rat) ^ e ≤ M * 2 ^ (-(k.format.fractionBits : Int)) + 2 ^ k.format.leastPlace := by
    rcases e3 with rfl | e3
    · grind
    · have : (2 : Rat) ^ e = 2 ^ (e + k.format.fractionBits) * 2 ^ (-(k.format.fractionBits : Int)) := by
        rw [← zp_add]; congr 1; omega
      have h3 : (2 : Rat) ^ (e + k.format.fractionBits) * 2 ^ (-(k.format.fractionBits : Int)) ≤ M * 2 ^ (-(k.format.fractionBits : Int)) :=
        Rat.mul_le_mul_of_nonneg_right (by grind) (Rat.le_of_lt p1)
      grind
  generalize M * 2 ^ (-(k.format.fractionBits : Int)) + 2 ^ k.format.leastPlace = E at *
  rcases sg_cases s with ⟨_, e⟩ | ⟨_, e⟩ <;> rw [e] at hq ⊢ <;> constructor <;> grind

/-- What the format has is written as it is. -/
theorem Rd.exact (h : Rd k q z) {w : Nat} (hw : isFl k w) (he : q = fv k w) : isFl k z ∧ fv k z = q := by
  obtain ⟨sw, rw_, hrw, hv⟩ := fin_rung hw
  obtain ⟨f1, f2⟩ := word_fin (k := k) (s := false) hrw
  have h0 := rv_nonneg k.format rw_
  have f2 : fv k (k.format.word false rw_) = rgv k.format rw_ := by rw [f2]; simp [sg]
  have hz : isFl k z := h.fin f1 (by rw [f2, he, hv]; rcases sg_cases sw with ⟨_, e⟩ | ⟨_, e⟩ <;> rw [e] <;> grind) (by rw [f2, he, hv]; rcases sg_cases sw with ⟨_, e⟩ | ⟨_, e⟩ <;> rw [e] <;> grind)
  refine ⟨hz, ?_⟩
  have a := h.hi hz hw (by grind)
  have b := h.lo hz hw (by grind)
  grind

/-- A rounded number is a number or an infinity. -/
theorem Rd.notN (h : Rd k q z) : isN k z = false := by
  obtain ⟨s, r, a, rfl, _, _, hr, _⟩ := h
  have := word_canon (k := k) (s := s) hr
  have h2 := isN_canon k (k.format.word s r)
  show (k.format.read _).isNaN = false
  rcases Nat.lt_or_ge r k.format.infRung with h' | h'
  · obtain ⟨m, e, h1, _⟩ := read_word (s := s) h'
    rw [h1]; rfl
  · have : r = k.format.infRung := by omega
    subst this; rw [read_inf]; rfl
end

/-! ### Which numbers a format has -/

theorem rep (f : Ieee.Format) (m : Nat) (e : Int) (hm : m ≤ 2 * f.binade) (he : f.leastPlace ≤ e) : ∃ r, rgv f r = mgv m e := by
  have hb := binade_pos f
  -- as many digits as the place lets in
  have key : ∀ (t m : Nat), m ≤ 2 * f.binade → ∃ r, rgv f r = mgv m (f.leastPlace + (t : Int)) := by
    intro t
    induction t with
    | zero => intro m hm; exact ⟨0 * f.binade + m, rv_form f 0 m hm (.inl rfl)⟩
    | succ t ih =>
      intro m hm
      rcases Nat.lt_or_ge m f.binade with h | h
      · obtain ⟨r, hr⟩ := ih (m * 2 ^ 1) (by omega)
        refine ⟨r, ?_⟩
        rw [hr, mv_shift]; congr 1; omega
      · exact ⟨_, rv_form f (t + 1) m hm (.inr h)⟩
  obtain ⟨r, hr⟩ := key (e - f.leastPlace).toNat m hm
  refine ⟨r, ?_⟩
  rw [hr]; congr 1; omega

/-- A number of few digits that is not too great is one of the format's. -/
theorem rep_fin {k : FloatKind} {m : Nat} {e : Int} (hm : m ≤ 2 * k.format.binade) (he : k.format.leastPlace ≤ e) {w : Nat} (hw : isFl k w) (h : mgv m e ≤ fv k w) (s : Bool) : ∃ x, isFl k x ∧ fv k x = sg s * mgv m e := by
  obtain ⟨r, hr⟩ := rep k.format m e hm he
  obtain ⟨sw, rw_, hrw, hv⟩ := fin_rung hw
  have h0 := rv_nonneg k.format rw_
  have : r ≤ rw_ := (rv_le k.format).1 (by rw [hr]; rcases sg_cases sw with ⟨_, e⟩ | ⟨_, e⟩ <;> rw [e] at hv <;> have := mv_nonneg m (e := ‹Int›) <;> grind)
  obtain ⟨a, b⟩ := word_fin (k := k) (s := s) (Nat.lt_of_le_of_lt this hrw)
  exact ⟨_, a, by rw [b, hr]⟩

/-! ### The operations -/

theorem signed_val (s : Bool) (m : Nat) (i b : Int) (h : b ≤ i) : ((Ieee.signed s m (i - b).toNat : Int) : Rat) * 2 ^ b = sg s * mgv m i := by
  unfold Ieee.signed
  rw [Nat.shiftLeft_eq]
  have : mgv (m * 2 ^ (i - b).toNat) b = mgv m i := by rw [mv_shift]; congr 1; omega
  cases s with
  | true =>
    simp only [if_true, sg]
    rw [Rat.intCast_neg, Rat.intCast_natCast, Rat.neg_mul, ← this]
    unfold mgv; grind
  | false =>
    simp only [Bool.false_eq_true, if_false, sg]
    rw [Rat.intCast_natCast, ← this]
    unfold mgv; grind

theorem total_val (t : Int) (z : Bool) (b : Int) : sg (if t = 0 then z else decide (t < 0)) * mgv t.natAbs b = (t : Rat) * 2 ^ b := by
  unfold mgv
  by_cases h : t = 0
  · subst h; simp
  · rw [if_neg h]
    by_cases h2 : t < 0
    · have e : t = -((t.natAbs : Nat) : Int) := by omega
      simp only [h2, decide_true, sg, if_true]
      generalize t.natAbs = n at *
      rw [e, Rat.intCast_neg, Rat.intCast_natCast]; grind
    · have e : t = ((t.natAbs : Nat) : Int) := by omega
      simp only [h2, decide_false, sg, Bool.false_eq_true, if_false]
      generalize t.natAbs = n at *
      rw [e, Rat.intCast_natCast]; grind

theorem sg_not (s : Bool) : sg (!s) = - sg s := by cases s <;> simp [sg]
theorem sg_xor (s t : Bool) : sg (s ^^ t) = sg s * sg t := by cases s <;> cases t <;> decide +kernel

theorem fop_some {op : BinOp} {k : FloatKind} {x y r : Nat} (h : floatBits op k x y = some r) : fop op k x y = canon k r := by
  unfold fop; rw [h]

theorem add_Rd {k : FloatKind} {x y : Nat} (hx : isFl k x) (hy : isFl k y) : Rd k (fv k x + fv k y) (fop .add k x y) := by
  obtain ⟨s, m, i, hx⟩ := hx
  obtain ⟨t, n, j, hy⟩ := hy
  have e : floatBits .add k x y = some (k.format.nearest (if Ieee.signed s m (i - min i j).toNat + Ieee.signed t n (j - min i j).toNat = 0 then s && t else decide (Ieee.signed s m (i - min i j).toNat + Ieee.signed t n (j - min i j).toNat < 0)) (Ieee.signed s m (i - min i j).toNat + Ieee.signed t n (j - min i j).toNat).natAbs (min i j)) := by
    have hx' : k.format.read x = .number s m i := hx
    have hy' : k.format.read y = .number t n j := hy
    simp only [floatBits, Ieee.Format.add, hx', hy', Ieee.Datum.sum, Option.map_some, Ieee.Format.write]
  rw [fop_some e, fv_num hx, fv_num hy, ← signed_val s m i (min i j) (Int.min_le_left _ _), ← signed_val t n j (min i j) (Int.min_le_right _ _), ← Rat.add_mul, ← Rat.intCast_add, ← total_val _ (s && t)]
  exact nearest_Rd k _ _ _

theorem sub_Rd {k : FloatKind} {x y : Nat} (hx : isFl k x) (hy : isFl k y) : Rd k (fv k x - fv k y) (fop .sub k x y) := by
  obtain ⟨s, m, i, hx⟩ := hx
  obtain ⟨t, n, j, hy⟩ := hy
  have e : floatBits .sub k x y = some (k.format.nearest (if Ieee.signed s m (i - min i j).toNat + Ieee.signed (!t) n (j - min i j).toNat = 0 then s && !t else decide (Ieee.signed s m (i - min i j).toNat + Ieee.signed (!t) n (j - min i j).toNat < 0)) (Ieee.signed s m (i - min i j).toNat + Ieee.signed (!t) n (j - min i j).toNat).natAbs (min i j)) := by
    have hx' : k.format.read x = .number s m i := hx
    have hy' : k.format.read y = .number t n j := hy
    simp only [floatBits, Ieee.Format.sub, hx', hy', Ieee.Datum.sum, Ieee.Datum.opposite, Option.map_some, Ieee.Format.write]
  have e2 : fv k x - fv k y = sg s * mgv m i + sg (!t) * mgv n j := by rw [fv_num hx, fv_num hy, sg_not]; grind
  rw [fop_some e, e2, ← signed_val s m i (min i j) (Int.min_le_left _ _), ← signed_val (!t) n j (min i j) (Int.min_le_right _ _), ← Rat.add_mul, ← Rat.intCast_add, ← total_val _ (s && !t)]
  exact nearest_Rd k _ _ _

theorem mv_mul (m n : Nat) (i j : Int) : mgv (m * n) (i + j) = mgv m i * mgv n j := by
  unfold mgv; rw [Rat.natCast_mul, zp_add]; grind

theorem mul_Rd {k : FloatKind} {x y : Nat} (hx : isFl k x) (hy : isFl k y) : Rd k (fv k x * fv k y) (fop .mul k x y) := by
  obtain ⟨s, m, i, hx⟩ := hx
  obtain ⟨t, n, j, hy⟩ := hy
  have e : floatBits .mul k x y = some (k.format.nearest (s ^^ t) (m * n) (i + j)) := by
    have hx' : k.format.read x = .number s m i := hx
    have hy' : k.format.read y = .number t n j := hy
    simp only [floatBits, Ieee.Format.mul, hx', hy', Ieee.Datum.product, Option.map_some, Ieee.Format.write]
  have e2 : fv k x * fv k y = sg (s ^^ t) * mgv (m * n) (i + j) := by rw [fv_num hx, fv_num hy, sg_xor, mv_mul]; grind
  rw [fop_some e, e2]
  exact nearest_Rd k _ _ _

end Go.Sim
