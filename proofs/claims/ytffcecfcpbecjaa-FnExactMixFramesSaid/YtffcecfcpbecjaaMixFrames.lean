/- The law FnExactMixFrames holds: the program answers what the reference does, for all arguments. Conditions: none. -/
import Derived.Test.YtffcecfcpbecjaaRows
import Derived.ProofKit
import Derived.OpenShut
import Derived.ChangeOld
import Derived.Below
import Derived.Test.YtffcecfcpbecjaaS21
import Derived.Test.YtffcecfcpbecjaaLMixFrames
set_option linter.unusedSimpArgs false
set_option linter.unusedVariables false
namespace Go.Proofs.Ytffcecfcpbecjaa.fnExactMixFramesPart
open Go.ChangeShapes Go.WideShapes Go.ChangeAt Go.RowKit Go.Sim

theorem own : ownKnob Try.prog.godebug = none := by kernel_rfl

theorem laidOut : laidOutB Try.prog = true := by kernel_rfl

set_option maxRecDepth 100000 in
theorem lifted (os : Os) (started : os.Started) (H : Type) (enc : TypeId × Value → H) :
    ReturnsInHanded {} Try.checked os 8 .any (Rows.fnExactMixFramesSpec.pre6 enc Try.prog Try.f8 Rows.fnExactMixFramesRow.domain false) (Rows.fnExactMixFramesSpec.post enc Try.prog Try.f8 false true false false) := by
  refine returnsInHanded_of_change (C := Try.checked) own started (by kernel_rfl) Try.func8
    (ChangeSpec.witness6 (enc := enc) (C := Try.checked) false ⟨#[], #[.agg #[.slice none 0 0, .float .f32 0, .float .f32 0, .float .f32 0], .agg #[.slice none 0 0, .float .f32 0, .float .f32 0, .float .f32 0], .float .f32 0], []⟩ 8 (by kernel_rfl) (by kernel_rfl) (by kernel_rfl) (by kernel_rfl)) ?_
  intro W base args ds gs before hval0 hW hcnd _
  have hval : ∀ (j : Nat) t v, Try.f8.params[j]? = some t → args[j]? = some v → Value.okWide Try.prog W .any base t v := hval0
  have hW' := hW
  obtain ⟨p, q, hA0, hV, rfl, hfz, hnd⟩ := hW
  have hA : DataW.TrodAll enc Try.prog W 0 (fun _ => true) true Try.f8.params.toList args.toList ds p := hA0
  have hA1 := hA
  rw [Try.params8] at hA hval
  obtain ⟨v0, vs0, d0, ds0, p0, q0, hargs, rfl, rfl, h0, r0⟩ := trodAll_cons hA
  obtain ⟨v1, vs1, d1, ds1, p1, q1, rfl, rfl, rfl, h1, r1⟩ := trodAll_cons r0
  obtain ⟨v2, vs2, d2, ds2, p2, q2, rfl, rfl, rfl, h2, r2⟩ := trodAll_cons r1
  obtain ⟨rfl, rfl, rfl⟩ := trodAll_nil r2
  obtain rfl : args = #[v0, v1, v2] := by cases args; simp_all
  obtain ⟨rfl, rfl⟩ := trodVars_none hV
  obtain ⟨w0, rfl, hw0, hf0⟩ := top_struct (fs := #[⟨"Areas", 24, 0, false, "", "", 0⟩, ⟨"Pitch", 32, 1, false, "", "", 24⟩, ⟨"Voice", 32, 2, false, "", "", 28⟩, ⟨"Noise", 32, 3, false, "", "", 32⟩]) (by kernel_rfl) (by kernel_rfl) (by kernel_rfl) (hval 0 52 v0 rfl rfl) h0
  obtain ⟨w0_0, w0_1, w0_2, w0_3, rfl⟩ := list_4 (l := w0) hw0
  obtain ⟨u0_0, n0_0, x0_0, e0_0, g0_0⟩ := hf0 0 _ rfl
  simp only [List.getElem?_cons_succ, List.getElem?_cons_zero, Option.some.injEq] at e0_0; subst e0_0
  obtain ⟨a0_0, p0_0, b0_0, m0_0, c0_0⟩ := cell_floats (e := 32) (n := 0) (k := .f32) (by kernel_rfl) (by kernel_rfl) (by kernel_rfl) g0_0
  obtain ⟨u0_1, n0_1, x0_1, e0_1, g0_1⟩ := hf0 1 _ rfl
  simp only [List.getElem?_cons_succ, List.getElem?_cons_zero, Option.some.injEq] at e0_1; subst e0_1
  obtain ⟨a0_1, rfl, m0_1, c0_1⟩ := cell_floatw (n := 1) (k := .f32) (by kernel_rfl) g0_1
  obtain ⟨u0_2, n0_2, x0_2, e0_2, g0_2⟩ := hf0 2 _ rfl
  simp only [List.getElem?_cons_succ, List.getElem?_cons_zero, Option.some.injEq] at e0_2; subst e0_2
  obtain ⟨a0_2, rfl, m0_2, c0_2⟩ := cell_floatw (n := 1) (k := .f32) (by kernel_rfl) g0_2
  obtain ⟨u0_3, n0_3, x0_3, e0_3, g0_3⟩ := hf0 3 _ rfl
  simp only [List.getElem?_cons_succ, List.getElem?_cons_zero, Option.some.injEq] at e0_3; subst e0_3
  obtain ⟨a0_3, rfl, m0_3, c0_3⟩ := cell_floatw (n := 1) (k := .f32) (by kernel_rfl) g0_3
  obtain ⟨w1, rfl, hw1, hf1⟩ := top_struct (fs := #[⟨"Areas", 24, 0, false, "", "", 0⟩, ⟨"Pitch", 32, 1, false, "", "", 24⟩, ⟨"Voice", 32, 2, false, "", "", 28⟩, ⟨"Noise", 32, 3, false, "", "", 32⟩]) (by kernel_rfl) (by kernel_rfl) (by kernel_rfl) (hval 1 52 v1 rfl rfl) h1
  obtain ⟨w1_0, w1_1, w1_2, w1_3, rfl⟩ := list_4 (l := w1) hw1
  obtain ⟨u1_0, n1_0, x1_0, e1_0, g1_0⟩ := hf1 0 _ rfl
  simp only [List.getElem?_cons_succ, List.getElem?_cons_zero, Option.some.injEq] at e1_0; subst e1_0
  obtain ⟨a1_0, p1_0, b1_0, m1_0, c1_0⟩ := cell_floats (e := 32) (n := 1) (k := .f32) (by kernel_rfl) (by kernel_rfl) (by kernel_rfl) g1_0
  obtain ⟨u1_1, n1_1, x1_1, e1_1, g1_1⟩ := hf1 1 _ rfl
  simp only [List.getElem?_cons_succ, List.getElem?_cons_zero, Option.some.injEq] at e1_1; subst e1_1
  obtain ⟨a1_1, rfl, m1_1, c1_1⟩ := cell_floatw (n := 2) (k := .f32) (by kernel_rfl) g1_1
  obtain ⟨u1_2, n1_2, x1_2, e1_2, g1_2⟩ := hf1 2 _ rfl
  simp only [List.getElem?_cons_succ, List.getElem?_cons_zero, Option.some.injEq] at e1_2; subst e1_2
  obtain ⟨a1_2, rfl, m1_2, c1_2⟩ := cell_floatw (n := 2) (k := .f32) (by kernel_rfl) g1_2
  obtain ⟨u1_3, n1_3, x1_3, e1_3, g1_3⟩ := hf1 3 _ rfl
  simp only [List.getElem?_cons_succ, List.getElem?_cons_zero, Option.some.injEq] at e1_3; subst e1_3
  obtain ⟨a1_3, rfl, m1_3, c1_3⟩ := cell_floatw (n := 2) (k := .f32) (by kernel_rfl) g1_3
  obtain ⟨a2, c2, m2⟩ := top_float (n := 2) (k := .f32) (by kernel_rfl) (hval 2 32 v2 rfl rfl) h2
  refine (law_calls (ev_lawExactMixFrames a0_0 _ rfl b0_0 (canon .f32 a0_1) (canon .f32 a0_2) (canon .f32 a0_3) a1_0 _ rfl b1_0 (canon .f32 a1_1) (canon .f32 a1_2) (canon .f32 a1_3) (canon .f32 a2)) (Args.cons ((Args.cons c0_0 (Args.cons c0_1 (Args.cons c0_2 (Args.cons c0_3 (Args.nil W _) rfl) rfl) rfl) rfl).agg) (Args.cons ((Args.cons c1_0 (Args.cons c1_1 (Args.cons c1_2 (Args.cons c1_3 (Args.nil W _) rfl) rfl) rfl) rfl).agg) (Args.cons (c2) (Args.nil W _) rfl) rfl) rfl)).mono fun e W' ⟨he, bel⟩ => ?_
  subst he
  exact ⟨_, rfl, _, _, _, [], _, [], hW', trodAll_mk1 (shut_bool Try.underlying4 _), trodAll_below laidOut bel (by kernel_rfl) hA1, rfl, bel.frame _, fun h => by cases h⟩

/-- The statement. -/
theorem fnExactMixFrames_holds : Rows.FnExactMixFramesSaid :=
  OpenClaim.holds_of_wide 8 Try.f8 rfl rfl rfl rfl rfl rfl rfl ⟨rfl, rfl, rfl, rfl, rfl⟩ rfl rfl rfl rfl rfl (by kernel_rfl) Try.func8 (by kernel_rfl)
    (of_decide_eq_true (by kernel_rfl)) (by unfold Func.isWrapper; first | (rw [if_pos (by decide +kernel)]; kernel_rfl) | (rw [if_neg (by decide +kernel)]; exact ⟨rfl, rfl⟩))
    (fun os started H enc _ => lifted os started H enc)
#print axioms fnExactMixFrames_holds
end Go.Proofs.Ytffcecfcpbecjaa.fnExactMixFramesPart
