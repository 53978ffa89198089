/- A pure account of the values, floats and memory of a run, and how it stands to the model's (part 22: the model's own functions of numbers). Conditions: none. -/
import Derived.Test.YtgjdkhocnnoimaaS21
import Derived.Laws.Externs
import Derived.Laws.FloatBits
namespace Go.Sim
open Go

theorem vrs_one {ι : List Place} {v : Value} {l : List Value} (h : VRs ι [v] l) : ∃ u, l = [u] ∧ VR ι v u := by
  cases h with | cons h hs => cases hs; exact ⟨_, rfl, h⟩

theorem vr_float {ι : List Place} {k : FloatKind} {x : Nat} {v : Value} (h : VR ι (.float k x) v) : ∃ b, v = .float k b ∧ canon k b = x ∧ okW k b := by
  cases h with | float h g => exact ⟨_, rfl, h, g⟩

theorem vr_int {ι : List Place} {k : IntKind} {x : Int} {v : Value} (h : VR ι (.int k x) v) : v = .int k x := by
  cases h; rfl

theorem canon_same {k : FloatKind} {b x : Nat} (h : canon k b = x) (hx : isN k x = false) : b = x := by
  subst h
  rw [isN_canon] at hx
  exact (canon_of_not hx).symm

theorem run_whole (s : String) (way : Ieee.Toward) (b : Nat) (h : (FloatKind.f64.decode b).isNaN = false) : Extern.MathFloor.toIntegral s way #[.float .f64 b] = pure (.float .f64 (FloatKind.f64.encode ((FloatKind.f64.decode b).integral way))) := by
  change (match FloatKind.f64.decode b with | .nan _ _ => _ | d => (pure (.float .f64 (FloatKind.f64.encode (d.integral way))) : Sem Value)) = _
  revert h
  generalize FloatKind.f64.decode b = d
  intro h
  cases d with
  | nan s f => cases h
  | number s m e => rfl
  | infinity s => rfl
theorem run_sqrt1 (b r : Nat) (h : FloatKind.f64.format.sqrt b = some r) : Extern.MathSqrt.sqrt #[.float .f64 b] = pure (.float .f64 r) := by
  change (match FloatKind.f64.format.sqrt b with | some r => (pure (.float .f64 r) : Sem Value) | none => _) = _
  rw [h]
theorem run_sqrt2 (b : Nat) (h : FloatKind.f64.format.sqrt b = none) : Extern.MathSqrt.sqrt #[.float .f64 b] = (do let r ← choose (.nanBits .f64 b b); pure (.float .f64 r)) := by
  change (match FloatKind.f64.format.sqrt b with | some r => (pure (.float .f64 r) : Sem Value) | none => _) = _
  rw [h]
section
variable {P : Program} {f : FuncId} {fn : Func}

theorem EvX.of {e : Array Value → Sem Value} {args : List Value} {v : Value} (hf : P.funcs[f]? = some fn) (hname : (fn.name == "runtime.NumGoroutine") = false) (hb : fn.body.isNone = true) (hn : Extern.findNext fn = none)
    (he : Extern.find fn = some e) (h : ∀ (ι : List Place) (w : World) (args' : List Value), VRs ι args args' → ∃ v' w', (e ⟨args'⟩).run P w = .ok v' w' ∧ Drawn w w' ∧ VR [] v v') : EvX P f args v := by
  intro ι w args' ha
  obtain ⟨v', w', h1, h2, h3⟩ := h ι w args' ha
  exact ⟨v', w', by rw [run_callFunc_extern hf hname hb hn he, h1]; rfl, h2, h3⟩

theorem evx_f64bits (hf : P.funcs[f]? = some fn) (hname : (fn.name == "runtime.NumGoroutine") = false) (hb : fn.body.isNone = true) (hn : Extern.findNext fn = none)
    (he : Extern.find fn = some Extern.MathFloatBits.float64bits) (x : Nat) (hx : isN .f64 x = false) : EvX P f [.float .f64 x] (.int .u64 (x : Int)) := by
  refine EvX.of hf hname hb hn he fun ι w args' ha => ?_
  obtain ⟨u, rfl, hu⟩ := vrs_one ha
  obtain ⟨b, rfl, h1, _⟩ := vr_float hu
  have := canon_same h1 hx
  subst this
  exact ⟨_, w, rfl, Drawn.refl w, .int _ _⟩

theorem evx_f32bits (hf : P.funcs[f]? = some fn) (hname : (fn.name == "runtime.NumGoroutine") = false) (hb : fn.body.isNone = true) (hn : Extern.findNext fn = none)
    (he : Extern.find fn = some Extern.MathFloatBits.float32bits) (x : Nat) (hx : isN .f32 x = false) : EvX P f [.float .f32 x] (.int .u32 (x : Int)) := by
  refine EvX.of hf hname hb hn he fun ι w args' ha => ?_
  obtain ⟨u, rfl, hu⟩ := vrs_one ha
  obtain ⟨b, rfl, h1, _⟩ := vr_float hu
  have := canon_same h1 hx
  subst this
  exact ⟨_, w, rfl, Drawn.refl w, .int _ _⟩

theorem evx_f64frombits (hf : P.funcs[f]? = some fn) (hname : (fn.name == "runtime.NumGoroutine") = false) (hb : fn.body.isNone = true) (hn : Extern.findNext fn = none)
    (he : Extern.find fn = some Extern.MathFloatBits.float64frombits) (n : Int) (hx : n.toNat < 2 ^ 64) : EvX P f [.int .u64 n] (.float .f64 (canon .f64 n.toNat)) := by
  refine EvX.of hf hname hb hn he fun ι w args' ha => ?_
  obtain ⟨u, rfl, hu⟩ := vrs_one ha
  have := vr_int hu
  subst this
  exact ⟨_, w, rfl, Drawn.refl w, .float rfl hx⟩

theorem evx_f32frombits (hf : P.funcs[f]? = some fn) (hname : (fn.name == "runtime.NumGoroutine") = false) (hb : fn.body.isNone = true) (hn : Extern.findNext fn = none)
    (he : Extern.find fn = some Extern.MathFloatBits.float32frombits) (n : Int) (hx : n.toNat < 2 ^ 32) : EvX P f [.int .u32 n] (.float .f32 (canon .f32 n.toNat)) := by
  refine EvX.of hf hname hb hn he fun ι w args' ha => ?_
  obtain ⟨u, rfl, hu⟩ := vrs_one ha
  have := vr_int hu
  subst this
  exact ⟨_, w, rfl, Drawn.refl w, .float rfl hx⟩

/-- A float made whole, one of the ways. -/
def wholeW (way : Ieee.Toward) (x : Nat) : Nat := canon .f64 (FloatKind.f64.encode ((FloatKind.f64.decode x).integral way))

theorem evx_whole (way : Ieee.Toward) {s : String} (hf : P.funcs[f]? = some fn) (hname : (fn.name == "runtime.NumGoroutine") = false) (hb : fn.body.isNone = true) (hn : Extern.findNext fn = none)
    (he : Extern.find fn = some (Extern.MathFloor.toIntegral s way)) (x : Nat) (hx : isN .f64 x = false) : EvX P f [.float .f64 x] (.float .f64 (wholeW way x)) := by
  refine EvX.of hf hname hb hn he fun ι w args' ha => ?_
  obtain ⟨u, rfl, hu⟩ := vrs_one ha
  obtain ⟨b, rfl, h1, _⟩ := vr_float hu
  have := canon_same h1 hx
  subst this
  refine ⟨.float .f64 (FloatKind.f64.encode ((FloatKind.f64.decode b).integral way)), w, ?_, Drawn.refl w, .float rfl (encode_okW _ _)⟩
  show (Extern.MathFloor.toIntegral s way #[.float .f64 b]).run P w = _
  rw [run_whole s way b hx]; rfl

theorem evx_even (hf : P.funcs[f]? = some fn) (hname : (fn.name == "runtime.NumGoroutine") = false) (hb : fn.body.isNone = true) (hn : Extern.findNext fn = none)
    (he : Extern.find fn = some (Extern.MathFloor.toIntegral "math.RoundToEven" .even)) (x : Nat) (hx : isN .f64 x = false) : EvX P f [.float .f64 x] (.float .f64 (wholeW .even x)) := evx_whole .even hf hname hb hn he x hx
theorem evx_floor (hf : P.funcs[f]? = some fn) (hname : (fn.name == "runtime.NumGoroutine") = false) (hb : fn.body.isNone = true) (hn : Extern.findNext fn = none)
    (he : Extern.find fn = some (Extern.MathFloor.toIntegral "math.archFloor" .down)) (x : Nat) (hx : isN .f64 x = false) : EvX P f [.float .f64 x] (.float .f64 (wholeW .down x)) := evx_whole .down hf hname hb hn he x hx

/-- The square root. -/
def sqrtW (x : Nat) : Nat := match FloatKind.f64.format.sqrt x with
  | some r => canon .f64 r
  | none => cNaN .f64

theorem evx_sqrt (hf : P.funcs[f]? = some fn) (hname : (fn.name == "runtime.NumGoroutine") = false) (hb : fn.body.isNone = true) (hn : Extern.findNext fn = none)
    (he : Extern.find fn = some Extern.MathSqrt.sqrt) (x : Nat) (_ : True) : EvX P f [.float .f64 x] (.float .f64 (sqrtW x)) := by
  refine EvX.of hf hname hb hn he fun ι w args' ha => ?_
  obtain ⟨u, rfl, hu⟩ := vrs_one ha
  obtain ⟨b, rfl, h1, _⟩ := vr_float hu
  have hs : sqrtW x = sqrtW b := by
    subst h1
    unfold sqrtW Ieee.Format.sqrt
    have hx := read_canon .f64 b
    unfold FloatKind.decode at hx
    rcases hx with hx | ⟨g1, g2⟩
    · rw [hx]
    · have e : ∀ d : Ieee.Datum, d.isNaN = true → d.root (FloatKind.f64.format.fractionBits + 2) = none := by
        intro d hd; cases d <;> simp [Ieee.Datum.isNaN] at hd; rfl
      rw [e _ g1, e _ g2]
  rw [hs]
  show ∃ v' w', (Extern.MathSqrt.sqrt #[.float .f64 b]).run P w = .ok v' w' ∧ _
  unfold sqrtW
  cases hr : FloatKind.f64.format.sqrt b with
  | some r =>
    rw [run_sqrt1 b r hr]
    exact ⟨_, w, rfl, Drawn.refl w, .float rfl (FloatKind.f64.format.sqrt_lt hr)⟩
  | none =>
    rw [run_sqrt2 b hr]
    obtain ⟨r, w', k1, k2, k3, k4⟩ := run_choose_nan (P := P) (a := b) (b := b) (m := false) .f64 (.nanBits .f64 b b) w (Or.inl rfl)
    exact ⟨.float .f64 r, w', by simp [k1], k2, .float (canon_of_nan k4) k3⟩

end

/-! ### Not-a-numbers -/

/-- A number is what is equal to itself. -/
theorem isN_of_self {k : FloatKind} {x : Nat} (h : fcmp .neq k x x = false) : isN k x = false := by
  cases hn : isN k x with
  | false => rfl
  | true =>
    have : k.format.order x x = none := by
      simp only [Ieee.Format.order]
      exact order_nan_l hn _
    simp [fcmp, this] at h

theorem wordS_notN (f : Ieee.Format) (neg : Bool) {r : Nat} (h : r ≤ f.infRung) : (f.read (f.word neg r)).isNaN = false := by
  have hlt : r < f.signWeight := Nat.lt_of_le_of_lt h f.infRung_lt
  have hm : f.word neg r % f.signWeight = r := by
    unfold Ieee.Format.word
    split
    · rw [Nat.add_mod_left, Nat.mod_eq_of_lt hlt]
    · exact Nat.mod_eq_of_lt hlt
  unfold Ieee.Format.read
  simp only [hm]
  split
  · rfl
  · split
    · rfl
    · split
      · rfl
      · omega

theorem nearestW_notN (f : Ieee.Format) (s : Bool) (m : Nat) (e : Int) : (f.read (f.nearest s m e)).isNaN = false := by
  unfold Ieee.Format.nearest
  dsimp only
  split
  · exact wordS_notN _ _ (Nat.zero_le _)
  · exact wordS_notN _ _ (Nat.min_le_right ..)

/-- A number stays one as the other kind. -/
theorem fcv_notN {x : Nat} (h : isN .f32 x = false) : isN .f64 (fcv .f32 .f64 x) = false := by
  unfold fcv
  rw [isN_canon]
  have h' : (FloatKind.decode .f32 x).isNaN = false := h
  unfold fconv
  simp only
  cases hd : FloatKind.decode .f32 x with
  | nan s f => rw [hd] at h'; simp [Ieee.Datum.isNaN] at h'
  | number s m e => exact nearestW_notN _ s m e
  | infinity s => exact wordS_notN _ s (Nat.le_refl _)

end Go.Sim
