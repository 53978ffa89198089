/- A pure account of the values, floats and memory of a run, and how it stands to the model's (part 5: the evaluator of single operations is right: operators, conversions, reading). Conditions: none. -/
import Derived.Test.YtgjdkhocnnoimaaS4
import Derived.Laws.Cover3
import Derived.Laws.Small
namespace Go.Sim
open Go

theorem vr_plain1 {ι : List Place} {v : Value} (h : plain1 v = true) : VR ι v v := by
  cases v with
  | bool b => exact .bool b
  | int k n => exact .int k n
  | float k b =>
    simp [plain1] at h
    exact .float (canon_of_not h.1) (by simpa [okW] using h.2)
  | complex k a b =>
    simp [plain1] at h
    exact .complex (canon_of_not h.1.1.1) (by simpa [okW] using h.1.1.2) (canon_of_not h.1.2) (by simpa [okW] using h.2)
  | string s => exact .string s
  | pointer a => cases a with
    | none => exact .nilp
    | some a => simp [plain1] at h
  | slice a l c => cases a with
    | none => cases l with
      | zero => cases c with
        | zero => exact .nils
        | succ c => simp [plain1] at h
      | succ l => simp [plain1] at h
    | some a => simp [plain1] at h
  | nilFunc => exact .nilFunc
  | _ => simp [plain1] at h

theorem vrs_plain1 {ι : List Place} : ∀ {l : List Value}, allP plain1 l = true → VRs ι l l
  | [], _ => .nil
  | v :: l, h => by
    simp [allP] at h
    exact .cons (vr_plain1 h.1) (vrs_plain1 h.2)

theorem vr_plain {ι : List Place} {v : Value} (h : plain v = true) : VR ι v v := by
  cases v with
  | agg cs => obtain ⟨l⟩ := cs; exact .agg (vrs_plain1 (by simpa [plain] using h))
  | tuple cs => obtain ⟨l⟩ := cs; exact .tuple (vrs_plain1 (by simpa [plain] using h))
  | _ => exact vr_plain1 (by simpa [plain] using h)

theorem vr_undef {ι : List Place} : VR ι undef undef := .tuple .nil

/-- What the operands stand for. -/
def EnvOk (ι : List Place) (e : Env) (ρ : Operand → Value) : Prop := ∀ (x : Operand) (v : Value), evx e x = some v → VR ι v (ρ x)

theorem EnvOk.of_rel {N : Nat} {ι : List Place} {s : St} {a : Act} {w : World} (h : Rel N ι s a w) : EnvOk ι s.tm a.eval := by
  intro x v hx
  cases x with
  | tmp t => exact (h.env t v hx).2
  | const c =>
    simp only [evx] at hx
    cases hp : plain c with
    | true => rw [hp] at hx; cases hx; exact vr_plain hp
    | false => rw [hp] at hx; cases hx
  | func f => cases hx; exact .func (.func f) .nil .nil
  | global g => cases hx

theorem EnvOk.mono {ι ι' : List Place} {e : Env} {ρ : Operand → Value} (h : EnvOk ι e ρ) (hs : Sub ι ι') : EnvOk ι' e ρ :=
  fun x v hx => (h x v hx).mono hs

theorem EnvOk.list {ι : List Place} {e : Env} {ρ : Operand → Value} (h : EnvOk ι e ρ) : ∀ {l : List Operand} {vs : List Value}, evxs e l = some vs → VRs ι vs (l.map ρ)
  | [], vs, hx => by cases hx; exact .nil
  | x :: l, vs, hx => by
    simp only [evxs] at hx
    cases h1 : evx e x with
    | none => simp [h1] at hx
    | some v => cases h2 : evxs e l with
      | none => simp [h1, h2] at hx
      | some r =>
        simp [h1, h2] at hx; subst hx
        exact .cons (h x v h1) (EnvOk.list h h2)

/-- An operation that gives a value and leaves memory alone. -/
def Quiet (P : Program) (m : Sem Value) (ι : List Place) (w : World) (v : Value) : Prop :=
  ∃ v' w', m.run P w = .ok v' w' ∧ Drawn w w' ∧ VR ι v v'

theorem Quiet.pure {P : Program} {ι : List Place} {w : World} {v v' : Value} (h : VR ι v v') : Quiet P (Pure.pure v') ι w v := ⟨v', w, rfl, Drawn.refl w, h⟩

theorem wrap_in {k : IntKind} {n : Int} (h : inR k n) : k.wrap n = n := by
  obtain ⟨h1, h2⟩ := h
  cases k <;> simp [IntKind.min, IntKind.max, IntKind.signed, IntKind.bits] at h1 h2 <;> simp [IntKind.wrap, IntKind.signed, IntKind.bits] <;> (try split) <;> omega

section
variable {P : Program} {ι : List Place} {w : World}

theorem evInt_sound {op : BinOp} {k k' : IntKind} {a b : Int} {v : Value} {vc : List Prop} (hk : isShift op = true ∨ k = k') (h : evInt op k a b = some (v, vc)) (hv : AllP vc) (t : TypeId) :
    Quiet P (binOp op t (.int k a) (.int k' b)) ι w v := by
  have hR : ∀ {n : Int}, inR k n → Quiet P (Pure.pure (.int k (k.wrap n))) ι w (.int k n) := fun hn => by rw [wrap_in hn]; exact Quiet.pure (.int _ _)
  cases op with
  | add =>
    rcases hk with hk | rfl; cases hk
    simp only [evInt] at h
    simp only [binOp, Op.intArith, ne_eq, not_true, if_false]
    cases hs : k.signed <;> simp only [hs, cond_true, cond_false, Option.some.injEq, Prod.mk.injEq] at h <;> obtain ⟨rfl, rfl⟩ := h
    · exact Quiet.pure (.int _ _)
    · exact hR hv.1
  | sub =>
    rcases hk with hk | rfl; cases hk
    simp only [evInt] at h
    simp only [binOp, Op.intArith, ne_eq, not_true, if_false]
    cases hs : k.signed <;> simp only [hs, cond_true, cond_false, Option.some.injEq, Prod.mk.injEq] at h <;> obtain ⟨rfl, rfl⟩ := h
    · exact Quiet.pure (.int _ _)
    · exact hR hv.1
  | mul =>
    rcases hk with hk | rfl; cases hk
    simp only [evInt] at h
    simp only [binOp, Op.intArith, ne_eq, not_true, if_false]
    cases hs : k.signed <;> simp only [hs, cond_true, cond_false, Option.some.injEq, Prod.mk.injEq] at h <;> obtain ⟨rfl, rfl⟩ := h
    · exact Quiet.pure (.int _ _)
    · exact hR hv.1
  | quo =>
    rcases hk with hk | rfl; cases hk
    simp only [evInt, Option.some.injEq, Prod.mk.injEq] at h; obtain ⟨rfl, rfl⟩ := h
    simp only [binOp, Op.intDiv, ne_eq, not_true, if_false]
    rw [if_neg hv.1]
    exact hR hv.2.1
  | rem =>
    rcases hk with hk | rfl; cases hk
    simp only [evInt, Option.some.injEq, Prod.mk.injEq] at h; obtain ⟨rfl, rfl⟩ := h
    simp only [binOp, Op.intDiv, ne_eq, not_true, if_false]
    rw [if_neg hv.1]
    exact Quiet.pure (.int _ _)
  | shl =>
    simp only [evInt, Option.some.injEq, Prod.mk.injEq] at h; obtain ⟨rfl, rfl⟩ := h
    have h0 : ¬ b < 0 := by have := hv.1; omega
    simp only [binOp, Op.shift, if_neg h0]
    exact Quiet.pure (.int _ _)
  | shr =>
    simp only [evInt, Option.some.injEq, Prod.mk.injEq] at h; obtain ⟨rfl, rfl⟩ := h
    have h0 : ¬ b < 0 := by have := hv.1; omega
    simp only [binOp, Op.shift, if_neg h0]
    exact Quiet.pure (.int _ _)
  | _ =>
    rcases hk with hk | rfl; cases hk
    simp only [evInt, Option.some.injEq, Prod.mk.injEq] at h; obtain ⟨rfl, rfl⟩ := h
    simp only [binOp, Op.intBits, Op.intCmp, ne_eq, not_true, if_false]
    first | exact Quiet.pure (.int _ _) | exact Quiet.pure (.bool _)

theorem sameI_eq {k k' : IntKind} (h : sameI k k' = true) : k = k' := by cases k <;> cases k' <;> first | rfl | cases h
theorem sameF_eq {k k' : FloatKind} (h : sameF k k' = true) : k = k' := by cases k <;> cases k' <;> first | rfl | cases h

theorem run_eqGuard_ok (op : BinOp) (t : TypeId) (x y : Operand) {a b : Value} (h : ∀ cs ds, ¬ (a = .agg cs ∧ b = .agg ds)) (h' : ¬ (a = .nilIface ∧ b = .nilIface)) :
    (eqGuard op t x y a b).run P w = .ok () w := by
  unfold eqGuard
  cases op <;> simp <;> (split <;> first | rfl | (rename_i h1 h2; exact absurd ⟨rfl, rfl⟩ h') | (rename_i h1 h2; exact absurd ⟨rfl, rfl⟩ (h _ _)) | skip)


theorem arith_run (op : BinOp) (hop : isArith op = true) (k : FloatKind) (x y a b : Nat) (hx : canon k x = a) (hy : canon k y = b) (w : World) :
    ∃ r w', (Op.floatArith op k x y).run P w = .ok (.float k r) w' ∧ Drawn w w' ∧ okW k r ∧ canon k r = fop op k a b := by
  subst hx; subst hy
  exact run_floatArith op k x y w (by cases op <;> simp [isArith] at hop <;> simp)

theorem Drawn.trans {a b c : World} (h : Drawn a b) (g : Drawn b c) : Drawn a c := by
  obtain ⟨n, rfl⟩ := h
  obtain ⟨m, rfl⟩ := g
  exact ⟨n + m, by simp [Nat.add_assoc]⟩

theorem carith_run (op : BinOp) (hop : isArith op = true) (k : FloatKind) (x y a b : Nat) (hx : canon k x = a) (hy : canon k y = b) (w : World) :
    ∃ r w', (Op.Complex.arith op k x y).run P w = .ok r w' ∧ Drawn w w' ∧ okW k r ∧ canon k r = fop op k a b := by
  obtain ⟨r, w', h1, h2, h3, h4⟩ := arith_run (P := P) op hop k x y a b hx hy w
  exact ⟨r, w', by simp [Op.Complex.arith, h1], h2, h3, h4⟩

theorem floatCmp_run (op : BinOp) (hop : isCmp op = true) (k : FloatKind) (x y a b : Nat) (hx : canon k x = a) (hy : canon k y = b) (w : World) :
    (Op.floatCmp op k x y).run P w = .ok (.bool (fcmp op k a b)) w := by
  subst hx; subst hy
  rw [fcmp_canon]
  cases op <;> simp [isCmp] at hop <;> rfl

theorem run_eql_slice_nil0 (t e : TypeId) (a : Option Addr) (l c : Nat) (h : P.underlying t = some (.slice e)) : (binOp .eql t (.slice a l c) (.slice none 0 0)).run P w = .ok (.bool a.isNone) w := by
  simp only [binOp]
  simp [run_equal_slice_nil w t e a l c h]

theorem evBin_sound {op : BinOp} {t : TypeId} {x y v x' y' : Value} {vc : List Prop} (h : evBin P op t x y = some (v, vc)) (hv : AllP vc) (hx : VR ι x x') (hy : VR ι y y') (xo yo : Operand) :
    Quiet P (do eqGuard op t xo yo x' y'; binOp op t x' y') ι w v := by
  unfold evBin at h
  split at h
  · -- int
    rename_i k a k' b
    cases hx; cases hy
    have hk : isShift op = true ∨ k = k' := by
      cases h1 : isShift op
      · cases h2 : sameI k k'
        · simp [h1, h2] at h
        · exact .inr (sameI_eq h2)
      · exact .inl rfl
    have h' : evInt op k a b = some (v, vc) := by
      revert h; cases (isShift op || sameI k k') <;> simp
    obtain ⟨v', w', h1, h2, h3⟩ := evInt_sound (P := P) (ι := ι) (w := w) hk h' hv t
    exact ⟨v', w', by simp [run_eqGuard_ok, h1], h2, h3⟩
  · -- float
    rename_i k a k' b
    cases hx with | float hx1 hx2 =>
    cases hy with | float hy1 hy2 =>
    cases hk : sameF k k'
    · simp [hk] at h
    · obtain rfl := sameF_eq hk
      simp only [hk, cond_true] at h
      cases h1 : isArith op
      · simp only [h1, cond_false] at h
        cases h2 : isCmp op
        · simp [h2] at h
        · simp only [h2, cond_true, Option.some.injEq, Prod.mk.injEq] at h
          obtain ⟨rfl, rfl⟩ := h
          have hr := floatCmp_run (P := P) op h2 k _ _ _ _ hx1 hy1 w
          refine ⟨_, w, ?_, Drawn.refl w, .bool _⟩
          rw [← hr]
          cases op <;> simp [isCmp] at h2 <;> simp [binOp, run_eqGuard_ok]
      · simp only [h1, cond_true, Option.some.injEq, Prod.mk.injEq] at h
        obtain ⟨rfl, rfl⟩ := h
        obtain ⟨r, w', g1, g2, g3, g4⟩ := arith_run (P := P) op h1 k _ _ _ _ hx1 hy1 w
        refine ⟨_, w', ?_, g2, .float g4 g3⟩
        rw [← g1]
        cases op <;> simp [isArith] at h1 <;> simp [binOp, run_eqGuard_ok]
  · -- complex
    rename_i k a b k' c d
    cases hx with | complex hx1 hx2 hx3 hx4 =>
    cases hy with | complex hy1 hy2 hy3 hy4 =>
    cases hk : sameF k k'
    · simp [hk] at h
    · obtain rfl := sameF_eq hk
      simp only [hk, cond_true] at h
      cases op <;> simp only [Option.some.injEq, Prod.mk.injEq, reduceCtorEq] at h
      · obtain ⟨rfl, rfl⟩ := h
        obtain ⟨r, w1, g1, g2, g3, g4⟩ := carith_run (P := P) .add rfl k _ _ _ _ hx1 hy1 w
        obtain ⟨s, w2, f1, f2, f3, f4⟩ := carith_run (P := P) .add rfl k _ _ _ _ hx3 hy3 w1
        exact ⟨.complex k r s, w2, by simp [binOp, run_eqGuard_ok, Op.complexOp, g1, f1], g2.trans f2, .complex g4 g3 f4 f3⟩
      · obtain ⟨rfl, rfl⟩ := h
        obtain ⟨r, w1, g1, g2, g3, g4⟩ := carith_run (P := P) .sub rfl k _ _ _ _ hx1 hy1 w
        obtain ⟨s, w2, f1, f2, f3, f4⟩ := carith_run (P := P) .sub rfl k _ _ _ _ hx3 hy3 w1
        exact ⟨.complex k r s, w2, by simp [binOp, run_eqGuard_ok, Op.complexOp, g1, f1], g2.trans f2, .complex g4 g3 f4 f3⟩
      · obtain ⟨rfl, rfl⟩ := h
        exact ⟨_, w, by simp [binOp, run_eqGuard_ok, Op.complexOp, Op.Complex.cmp, asBool, floatCmp_run (P := P) .eql rfl k _ _ _ _ hx1 hy1 w, floatCmp_run (P := P) .eql rfl k _ _ _ _ hx3 hy3 w], Drawn.refl w, .bool _⟩
      · obtain ⟨rfl, rfl⟩ := h
        exact ⟨_, w, by simp [binOp, run_eqGuard_ok, Op.complexOp, Op.Complex.cmp, asBool, floatCmp_run (P := P) .eql rfl k _ _ _ _ hx1 hy1 w, floatCmp_run (P := P) .eql rfl k _ _ _ _ hx3 hy3 w], Drawn.refl w, .bool _⟩
  · -- string
    cases hx; cases hy
    rename_i a b
    cases op <;> simp only [evStr, Option.map_some, Option.map_none, Option.some.injEq, Prod.mk.injEq, reduceCtorEq] at h <;>
      (obtain ⟨rfl, rfl⟩ := h; refine ⟨_, w, ?_, Drawn.refl w, .bool _⟩; simp [binOp, run_eqGuard_ok, Op.stringOp])
  · -- bool
    cases hx; cases hy
    rename_i a b
    cases hb : isBoolT P t
    · simp [hb] at h
    · have hu : P.underlying t = some .bool := by
        unfold isBoolT at hb
        cases hu : P.underlying t with
        | none => simp [hu] at hb
        | some d => cases d <;> simp [hu] at hb; rfl
      simp only [hb, cond_true] at h
      cases op <;> simp only [Option.some.injEq, Prod.mk.injEq, reduceCtorEq] at h
      · obtain ⟨rfl, rfl⟩ := h
        exact ⟨_, w, by simp [run_eqGuard_ok, run_eql_bool _ _ _ _ hu], Drawn.refl w, .bool _⟩
      · obtain ⟨rfl, rfl⟩ := h
        exact ⟨_, w, by simp [run_eqGuard_ok, run_neq_bool _ _ _ _ hu], Drawn.refl w, .bool _⟩
  · -- a slice and nil
    rename_i ad l c
    cases hb : isSliceT P t
    · simp [hb] at h
    · obtain ⟨el, hu⟩ : ∃ el, P.underlying t = some (.slice el) := by
        unfold isSliceT at hb
        cases hu : P.underlying t with
        | none => simp [hu] at hb
        | some d => cases d <;> simp [hu] at hb; exact ⟨_, rfl⟩
      simp only [hb, cond_true] at h
      cases hy
      cases op <;> simp only [Option.some.injEq, Prod.mk.injEq, reduceCtorEq] at h
      · obtain ⟨rfl, rfl⟩ := h
        cases hx with
        | slice h1 h2 h3 h4 h5 => exact ⟨_, w, by simp [run_eqGuard_ok, run_eql_slice_nil0 _ _ _ _ _ hu], Drawn.refl w, .bool _⟩
        | slice0 hx =>
          rename_i x
          cases hc : Nat.beq _ 2 with
          | false => rw [hc] at hv; exact absurd hv.1 (by omega)
          | true => cases x with
            | none => exact absurd rfl (hx hc)
            | some x => exact ⟨_, w, by simp [run_eqGuard_ok, run_eql_slice_nil0 _ _ _ _ _ hu], Drawn.refl w, .bool _⟩
      · obtain ⟨rfl, rfl⟩ := h
        cases hx with
        | slice h1 h2 h3 h4 h5 => exact ⟨_, w, by simp [run_eqGuard_ok, run_neq_slice_nil _ _ _ _ _ _ hu], Drawn.refl w, .bool _⟩
        | slice0 hx =>
          rename_i x
          cases hc : Nat.beq _ 2 with
          | false => rw [hc] at hv; exact absurd hv.1 (by omega)
          | true => cases x with
            | none => exact absurd rfl (hx hc)
            | some x => exact ⟨_, w, by simp [run_eqGuard_ok, run_neq_slice_nil _ _ _ _ _ _ hu], Drawn.refl w, .bool _⟩
  · -- nil and nil
    cases hb : isSliceT P t
    · simp [hb] at h
    · obtain ⟨el, hu⟩ : ∃ el, P.underlying t = some (.slice el) := by
        unfold isSliceT at hb
        cases hu : P.underlying t with
        | none => simp [hu] at hb
        | some d => cases d <;> simp [hu] at hb; exact ⟨_, rfl⟩
      simp only [hb, cond_true] at h
      cases hx; cases hy
      cases op <;> simp only [Option.some.injEq, Prod.mk.injEq, reduceCtorEq] at h
      · obtain ⟨rfl, rfl⟩ := h
        exact ⟨_, w, by simp [run_eqGuard_ok, run_eql_slice_nil0 _ _ _ _ _ hu], Drawn.refl w, .bool _⟩
      · obtain ⟨rfl, rfl⟩ := h
        exact ⟨_, w, by simp [run_eqGuard_ok, run_neq_slice_nil _ _ _ _ _ _ hu], Drawn.refl w, .bool _⟩
  · cases h

theorem decode_xor (k : FloatKind) (b : Nat) (hb : okW k b) : okW k (Op.negFloat k b) := by
  unfold okW Op.negFloat at *
  refine Nat.xor_lt_two_pow hb ?_
  cases k <;> decide

theorem xor_top_lt (e b : Nat) (hb : b < 2 ^ e) : b ^^^ 2 ^ e = 2 ^ e + b := by
  refine Nat.eq_of_testBit_eq fun j => ?_
  rw [Nat.testBit_xor, Nat.testBit_two_pow]
  rcases Nat.lt_trichotomy j e with h | h | h
  · rw [Nat.testBit_two_pow_add_gt h]
    have : decide (e = j) = false := by simp; omega
    rw [this, Bool.xor_false]
  · subst h
    rw [Nat.testBit_two_pow_add_eq]
    simp
  · have h1 : b.testBit j = false := Nat.testBit_lt_two_pow (Nat.lt_trans hb (Nat.pow_lt_pow_right (by omega) h))
    have h2 : (2 ^ e + b).testBit j = false := Nat.testBit_lt_two_pow (by
      have : 2 ^ e + 2 ^ e ≤ 2 ^ j := by
        have := Nat.pow_le_pow_right (n := 2) (by omega) (show e + 1 ≤ j from h)
        rw [Nat.pow_succ] at this; omega
      omega)
    have h3 : decide (e = j) = false := by simp; omega
    rw [h1, h2, h3]; rfl

theorem xor_top_ge (e b : Nat) (hb : b < 2 ^ e) : (2 ^ e + b) ^^^ 2 ^ e = b := by
  rw [← xor_top_lt e b hb, Nat.xor_assoc, Nat.xor_self, Nat.xor_zero]

theorem word_cases (k : FloatKind) (b : Nat) (hb : okW k b) : ∃ c, c < k.format.signWeight ∧ (b = c ∨ b = k.format.signWeight + c) := by
  have h2 : 2 ^ k.format.width = 2 * k.format.signWeight := by cases k <;> rfl
  unfold okW at hb
  rw [h2] at hb
  rcases Nat.lt_or_ge b k.format.signWeight with h | h
  · exact ⟨b, h, .inl rfl⟩
  · exact ⟨b - k.format.signWeight, by omega, .inr (by omega)⟩

/-- The opposite word. -/
theorem read_neg (k : FloatKind) (b : Nat) (hb : okW k b) : k.decode (Op.negFloat k b) = (k.decode b).opposite := by
  obtain ⟨c, hc, hbc⟩ := word_cases k b hb
  have hs : k.format.signWeight = 2 ^ (k.format.exponentBits + k.format.fractionBits) := rfl
  have hn : Op.negFloat k b = if b = c then k.format.signWeight + c else c := by
    unfold Op.negFloat
    rw [← hs]
    rcases hbc with h | h
    · rw [if_pos h, h, hs, xor_top_lt _ _ (by rw [← hs]; exact hc)]
    · have h0 : 0 < k.format.signWeight := by cases k <;> decide
      rw [if_neg (by omega), h, hs, xor_top_ge _ _ (by rw [← hs]; exact hc)]
  have r0 : ∀ f : Ieee.Format, ∀ c, c < f.signWeight → f.read (f.signWeight + c) = (f.read c).opposite := by
    intro f c hc
    have h1 : (f.signWeight + c) / f.signWeight = 1 := by
      rw [Nat.add_div_left _ (by omega), Nat.div_eq_of_lt hc]
    have h2 : (f.signWeight + c) % f.signWeight = c := by rw [Nat.add_mod_left, Nat.mod_eq_of_lt hc]
    have h3 : c / f.signWeight = 0 := Nat.div_eq_of_lt hc
    have h4 : c % f.signWeight = c := Nat.mod_eq_of_lt hc
    unfold Ieee.Format.read
    simp only [h1, h2, h3, h4]
    split
    · rfl
    · split
      · rfl
      · split <;> rfl
  have r1 : ∀ d : Ieee.Datum, d.opposite.opposite = d := by intro d; cases d <;> simp [Ieee.Datum.opposite]
  unfold FloatKind.decode
  rw [hn]
  rcases hbc with h | h
  · rw [if_pos h, h, r0 _ _ hc]
  · have h0 : 0 < k.format.signWeight := by cases k <;> decide
    rw [if_neg (by omega), h, r0 _ _ hc, r1]

theorem neg_canon (k : FloatKind) (b : Nat) (hb : okW k b) : canon k (Op.negFloat k b) = fneg k (canon k b) := by
  have h : isN k (Op.negFloat k b) = isN k b := by unfold isN; rw [read_neg k b hb, isNaN_opposite]
  unfold fneg
  rw [isN_canon]
  cases hn : isN k b
  · rw [if_neg (by simp), canon_of_not (by rw [h]; exact hn), canon_of_not hn]
  · rw [if_pos rfl, canon_of_nan (by rw [h]; exact hn)]

theorem evUn_sound {op : UnOp} {x v x' : Value} {vc : List Prop} (h : evUn op x = some (v, vc)) (hv : AllP vc) (hx : VR ι x x') : Quiet P (Op.unary op x') ι w v := by
  unfold evUn at h
  split at h
  · cases hx; simp only [Option.some.injEq, Prod.mk.injEq] at h; obtain ⟨rfl, rfl⟩ := h
    exact Quiet.pure (.bool _)
  · cases hx; simp only [Option.some.injEq, Prod.mk.injEq] at h; obtain ⟨rfl, rfl⟩ := h
    simp only [Op.unary, Op.intArith]
    rw [wrap_in hv.1]
    exact Quiet.pure (.int _ _)
  · cases hx with | float h1 h2 =>
    simp only [Option.some.injEq, Prod.mk.injEq] at h; obtain ⟨rfl, rfl⟩ := h
    subst h1
    exact Quiet.pure (.float (neg_canon _ _ h2) (decode_xor _ _ h2))
  · cases hx with | complex h1 h2 h3 h4 =>
    simp only [Option.some.injEq, Prod.mk.injEq] at h; obtain ⟨rfl, rfl⟩ := h
    subst h1; subst h3
    exact Quiet.pure (.complex (neg_canon _ _ h2) (decode_xor _ _ h2) (neg_canon _ _ h4) (decode_xor _ _ h4))
  · cases h

theorem encode_okW (k : FloatKind) (d : Ieee.Datum) : okW k (k.encode d) := k.format.write_lt d

/-- From one kind of float to another. -/
theorem fconv_run (s d : FloatKind) (hne : s ≠ d) (b x : Nat) (hx : canon s b = x) (hok : fconvOk s d x) :
    Quiet P (Conv.floatToFloat s b d) ι w (.float d (canon d (fconv s d x))) := by
  subst hx
  have hfc : fconv s d (canon s b) = match s.decode (canon s b) with | .nan _ _ => cNaN d | dt => d.encode dt := by
    unfold fconv
    cases s <;> cases d <;> first | exact absurd rfl hne | rfl
  have hd := read_canon s b
  unfold Conv.floatToFloat
  rw [if_neg hne]
  cases hb : s.decode b with
  | nan sg t =>
    have hn : isN s b = true := by unfold isN; rw [hb]; rfl
    obtain ⟨r, w', g1, g2, g3, g4⟩ := run_choose_nan (P := P) (a := b) (b := b) (m := false) d (.nanConv d b) w (.inr (.inl rfl))
    refine ⟨.float d r, w', by simp [g1, -run_choose], g2, .float ?_ g3⟩
    rw [canon_of_nan g4, hfc]
    have h2 : (s.decode (canon s b)).isNaN = true := by have := isN_canon s b; rw [hn] at this; exact this
    cases h3 : s.decode (canon s b) with
    | nan _ _ => simp; exact (canon_of_nan (isN_cNaN d)).symm
    | number _ _ _ => rw [h3] at h2; cases h2
    | infinity _ => rw [h3] at h2; cases h2
  | infinity sg =>
    have h2 : s.decode (canon s b) = .infinity sg := by
      rcases hd with h | h
      · rw [h, hb]
      · rw [hb] at h; cases h.2
    rw [hfc, h2]
    exact Quiet.pure (.float rfl (encode_okW d _))
  | number sg m e =>
    have h2 : s.decode (canon s b) = .number sg m e := by
      rcases hd with h | h
      · rw [h, hb]
      · rw [hb] at h; cases h.2
    rw [hfc, h2]
    unfold fconvOk at hok
    rw [h2] at hok
    simp only [hok, Bool.false_eq_true, if_false]
    exact Quiet.pure (.float rfl (encode_okW d _))

theorem cut_zero (neg : Bool) (n : Nat) : Ieee.Toward.even.cut neg n 0 = n := by
  simp [Ieee.Toward.cut, Nat.mod_one]

theorem read_word_fin (f : Ieee.Format) (neg : Bool) (r : Nat) (h : r < f.infRung) : (f.read (f.word neg r)).isInfinity = false := by
  have hi := f.infRung_lt
  have hs : (f.word neg r) % f.signWeight = r := by
    unfold Ieee.Format.word
    split
    · rw [Nat.add_mod_left, Nat.mod_eq_of_lt (by omega)]
    · exact Nat.mod_eq_of_lt (by omega)
  unfold Ieee.Format.read
  simp only [hs]
  split
  · rfl
  · first | rfl | (rw [if_pos h]; rfl)

/-- What numbers a 32-bit word stands for. -/
theorem read32 (x : Nat) {sg : Bool} {m : Nat} {e : Int} (h : FloatKind.f32.decode x = .number sg m e) : m < 2 ^ 24 ∧ -149 ≤ e ∧ e ≤ 104 := by
  have e1 : Ieee.single.signWeight = 2 ^ 31 := by rfl
  have e2 : Ieee.single.infRung = 255 * 2 ^ 23 := by rfl
  have e3 : Ieee.single.binade = 2 ^ 23 := by rfl
  have e4 : Ieee.single.leastPlace = -149 := by rfl
  unfold FloatKind.decode FloatKind.format Ieee.Format.read at h
  simp only [e1, e2, e3, e4] at h
  split at h
  · simp only [Ieee.Datum.number.injEq] at h
    obtain ⟨_, h2, h3⟩ := h
    omega
  · split at h
    · simp only [Ieee.Datum.number.injEq] at h
      obtain ⟨_, h2, h3⟩ := h
      have := Nat.mod_lt (x % 2 ^ 31) (show 0 < 2 ^ 23 by omega)
      omega
    · split at h <;> cases h

/-- No 32-bit number is too great for 64 bits. -/
theorem wide_ok (x : Nat) {sg : Bool} {m : Nat} {e : Int} (h : FloatKind.f32.decode x = .number sg m e) : (FloatKind.f64.decode (FloatKind.f64.encode (.number sg m e))).isInfinity = false := by
  obtain ⟨h1, h2, h3⟩ := read32 x h
  have e2 : Ieee.double.infRung = 2047 * 2 ^ 52 := by rfl
  have e3 : Ieee.double.binade = 2 ^ 52 := by rfl
  have e4 : Ieee.double.leastPlace = -1074 := by rfl
  have e5 : (Ieee.double.fractionBits : Int) = 52 := by rfl
  unfold FloatKind.decode FloatKind.encode
  show (Ieee.double.read (Ieee.double.write (.number sg m e))).isInfinity = false
  simp only [Ieee.Format.write, Ieee.Format.nearest]
  split
  · exact read_word_fin _ _ _ (by rw [e2]; omega)
  · rename_i hm
    refine read_word_fin _ _ _ ?_
    have hlog : m.log2 < 24 := (Nat.log2_lt hm).2 h1
    have hmax : max (e + (m.log2 : Int) - (Ieee.double.fractionBits : Int)) Ieee.double.leastPlace = e + (m.log2 : Int) - 52 := by
      rw [e4, e5]; omega
    rw [hmax]
    have hd : (e + (m.log2 : Int) - 52 - e).toNat = 0 := by omega
    rw [hd, cut_zero, e2, e3, e4]
    have hs : (e - (e + (m.log2 : Int) - 52)).toNat = 52 - m.log2 := by omega
    rw [hs, Nat.shiftLeft_eq]
    have hk : m * 2 ^ (52 - m.log2) < 2 ^ 53 := by
      have a1 : m < 2 ^ (m.log2 + 1) := Nat.lt_log2_self
      calc m * 2 ^ (52 - m.log2) < 2 ^ (m.log2 + 1) * 2 ^ (52 - m.log2) := Nat.mul_lt_mul_of_pos_right a1 (Nat.two_pow_pos _)
        _ = 2 ^ 53 := by rw [← Nat.pow_add]; congr 1; omega
    have hr : (e + (m.log2 : Int) - 52 - -1074).toNat ≤ 1149 := by omega
    rw [show (2 : Nat) ^ 53 = 2 * 2 ^ 52 from by rw [Nat.pow_succ, Nat.mul_comm]] at hk
    generalize (2 : Nat) ^ 52 = B at *
    generalize (e + (m.log2 : Int) - 52 - -1074).toNat = a at *
    generalize m * 2 ^ (52 - m.log2) = c at *
    have hr2 := Nat.mul_le_mul_right B hr
    have h0 : 0 < B := by
      rcases Nat.eq_zero_or_pos B with h' | h'
      · subst h'; omega
      · exact h'
    have : 1149 * B + 2 * B ≤ 2047 * B := by rw [← Nat.add_mul]; exact Nat.mul_le_mul_right B (by omega)
    omega

theorem f2i_canon (s : FloatKind) (b : Nat) (k : IntKind) : f2i s (canon s b) k = f2i s b k := by
  unfold f2i floatToIntVal
  rcases read_canon s b with h | ⟨h1, h2⟩
  · rw [h]
  · have e : ∀ d : Ieee.Datum, d.isNaN = true → d.toInt .zero = none := by
      intro d hd; cases d <;> simp [Ieee.Datum.isNaN] at hd; rfl
    rw [e _ h1, e _ h2]

theorem run_convC {src dst : TypeId} {u : TypeDesc} {k : FloatKind} (hs : P.underlying src = some u) (hd : P.underlying dst = some (.complex k)) (s : FloatKind) (a b : Nat) :
    (convert src dst (.complex s a b)).run P w = (Conv.complexToComplex s a b k).run P w := by
  cases u <;> simp [convert, run_underlying hs, run_underlying hd]

theorem convC_sound {src dst : TypeId} {u : TypeDesc} {k s : FloatKind} {a' b' : Nat} (hs : P.underlying src = some u) (hd : P.underlying dst = some (.complex k)) {x y : Nat}
    (f1 : ∀ w : World, ∃ v' w', (Conv.floatToFloat s a' k).run P w = .ok v' w' ∧ Drawn w w' ∧ VR ι (.float k x) v') (f2 : ∀ w : World, ∃ v' w', (Conv.floatToFloat s b' k).run P w = .ok v' w' ∧ Drawn w w' ∧ VR ι (.float k y) v') :
    Quiet P (convert src dst (.complex s a' b')) ι w (.complex k x y) := by
  have key := run_convC (P := P) (w := w) hs hd s a' b'
  unfold Conv.complexToComplex at key
  generalize Conv.floatToFloat s a' k = m1 at f1 key
  generalize Conv.floatToFloat s b' k = m2 at f2 key
  obtain ⟨v1, w1, a1, a2, a3⟩ := f1 w
  obtain ⟨v2, w2, b1, b2, b3⟩ := f2 w1
  cases a3 with | float p1 p2 =>
  cases b3 with | float q1 q2 =>
  refine ⟨_, w2, ?_, a2.trans b2, .complex p1 p2 q1 q2⟩
  rw [key]
  simp only [Sem.run_bind, a1, b1, Result.andThen]; rfl

theorem evConv_sound {src dst : TypeId} {x v x' : Value} {vc : List Prop} (h : evConv P src dst x = some (v, vc)) (hv : AllP vc) (hx : VR ι x x') : Quiet P (convert src dst x') ι w v := by
  unfold evConv at h
  split at h
  · rename_i u k kk n hs hd
    cases hx
    cases hw : (sameI kk .u64 && sameI k .i64) with
    | true =>
      simp only [hw, cond_true, Option.some.injEq, Prod.mk.injEq] at h; obtain ⟨rfl, rfl⟩ := h
      refine ⟨_, w, ?_, Drawn.refl w, .int _ _⟩
      cases u <;> simp [convert, run_underlying hs, run_underlying hd, Conv.intToInt]
    | false =>
    simp only [hw, cond_false, Option.some.injEq, Prod.mk.injEq] at h; obtain ⟨rfl, rfl⟩ := h
    refine ⟨_, w, ?_, Drawn.refl w, .int _ _⟩
    cases u <;> simp [convert, run_underlying hs, run_underlying hd, Conv.intToInt, wrap_in hv.1]
  · rename_i u k kk n hs hd
    cases hx
    simp only [Option.some.injEq, Prod.mk.injEq] at h; obtain ⟨rfl, rfl⟩ := h
    refine ⟨.float k (k.nearest n), w, ?_, Drawn.refl w, .float rfl (encode_okW k _)⟩
    cases u <;> simp [convert, run_underlying hs, run_underlying hd, Conv.intToFloat]
  · rename_i u k s b hs hd
    cases hx with | float h1 h2 =>
    simp only [Option.some.injEq, Prod.mk.injEq] at h; obtain ⟨rfl, rfl⟩ := h
    subst h1
    have hv1 := hv.1
    rw [f2i_canon] at hv1 ⊢
    obtain ⟨n, hn⟩ := Option.isSome_iff_exists.1 hv1
    rw [hn]
    exact ⟨_, w, run_convert_float_int w src dst s k _ n (by rw [hs]; rfl) hd hn, Drawn.refl w, .int _ _⟩
  · rename_i u k s b hs hd
    cases hx with | float h1 h2 =>
    rename_i b'
    have key : (convert src dst (.float s b')).run P w = (Conv.floatToFloat s b' k).run P w := by
      cases u <;> simp [convert, run_underlying hs, run_underlying hd]
    cases s <;> cases k <;> simp only [Option.some.injEq, Prod.mk.injEq] at h <;> obtain ⟨rfl, rfl⟩ := h
    · exact ⟨.float .f32 b', w, by rw [key]; rfl, Drawn.refl w, .float h1 h2⟩
    · obtain ⟨v', w', g1, g2, g3⟩ := fconv_run (P := P) (ι := ι) (w := w) .f32 .f64 (by simp) b' _ h1 (by
        unfold fconvOk
        split
        · rename_i sg m e hd'
          exact wide_ok _ hd'
        · trivial)
      exact ⟨v', w', by rw [key]; exact g1, g2, g3⟩
    · obtain ⟨v', w', g1, g2, g3⟩ := fconv_run (P := P) (ι := ι) (w := w) .f64 .f32 (by simp) b' _ h1 hv.1
      exact ⟨v', w', by rw [key]; exact g1, g2, g3⟩
    · exact ⟨.float .f64 b', w, by rw [key]; rfl, Drawn.refl w, .float h1 h2⟩
  · rename_i u s hs hd
    cases hx
    simp only [Option.some.injEq, Prod.mk.injEq] at h; obtain ⟨rfl, rfl⟩ := h
    refine ⟨_, w, ?_, Drawn.refl w, .string _⟩
    cases u <;> simp [convert, run_underlying hs, run_underlying hd]
  · rename_i u k s a b hs hd
    cases hx with | complex h1 h2 h3 h4 =>
    rename_i a' b'
    cases s <;> cases k <;> simp only [Option.some.injEq, Prod.mk.injEq] at h <;> obtain ⟨rfl, rfl⟩ := h
    · exact convC_sound hs hd (fun w => ⟨.float .f32 a', w, rfl, Drawn.refl w, .float h1 h2⟩) (fun w => ⟨.float .f32 b', w, rfl, Drawn.refl w, .float h3 h4⟩)
    · have ok : ∀ x : Nat, fconvOk .f32 .f64 x := by
        intro x
        unfold fconvOk
        split
        · rename_i sg m e hd'
          exact wide_ok _ hd'
        · trivial
      exact convC_sound hs hd (fun w => fconv_run (P := P) (ι := ι) (w := w) .f32 .f64 (by simp) a' _ h1 (ok _)) (fun w => fconv_run (P := P) (ι := ι) (w := w) .f32 .f64 (by simp) b' _ h3 (ok _))
    · exact convC_sound hs hd (fun w => fconv_run (P := P) (ι := ι) (w := w) .f64 .f32 (by simp) a' _ h1 hv.1) (fun w => fconv_run (P := P) (ι := ι) (w := w) .f64 .f32 (by simp) b' _ h3 hv.2.1)
    · exact convC_sound hs hd (fun w => ⟨.float .f64 a', w, rfl, Drawn.refl w, .float h1 h2⟩) (fun w => ⟨.float .f64 b', w, rfl, Drawn.refl w, .float h3 h4⟩)
  · cases h

end
end Go.Sim
