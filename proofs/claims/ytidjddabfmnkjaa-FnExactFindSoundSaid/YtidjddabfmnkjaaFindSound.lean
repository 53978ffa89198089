/- The law FnExactFindSound holds: the program answers what the reference does, for all arguments. Conditions: none. -/
import Derived.Test.YtidjddabfmnkjaaRows
import Derived.ProofKit
import Derived.OpenShut
import Derived.ChangeOld
import Derived.Below
import Derived.Test.YtidjddabfmnkjaaS21
import Derived.Test.YtidjddabfmnkjaaLFindSound
set_option linter.unusedSimpArgs false
set_option linter.unusedVariables false
namespace Go.Proofs.Ytidjddabfmnkjaa.fnExactFindSoundPart
open Go.ChangeShapes Go.WideShapes Go.ChangeAt Go.RowKit Go.Sim

theorem own : ownKnob Try.prog.godebug = none := by kernel_rfl

theorem laidOut : laidOutB Try.prog = true := by kernel_rfl

set_option maxRecDepth 100000 in
theorem lifted (os : Os) (started : os.Started) (H : Type) (enc : TypeId × Value → H) :
    ReturnsInHanded {} Try.checked os 11 .any (Rows.fnExactFindSoundSpec.pre6 enc Try.prog Try.f11 Rows.fnExactFindSoundRow.domain false) (Rows.fnExactFindSoundSpec.post enc Try.prog Try.f11 false true false false) := by
  refine returnsInHanded_of_change (C := Try.checked) own started (by kernel_rfl) Try.func11
    (ChangeSpec.witness6 (enc := enc) (C := Try.checked) false ⟨#[], #[.slice none 0 0, .string ⟨#[]⟩], []⟩ 8 (by kernel_rfl) (by kernel_rfl) (by kernel_rfl) (by kernel_rfl)) ?_
  intro W base args ds gs before hval0 hW hcnd _
  have hval : ∀ (j : Nat) t v, Try.f11.params[j]? = some t → args[j]? = some v → Value.okWide Try.prog W .any base t v := hval0
  have hW' := hW
  obtain ⟨p, q, hA0, hV, rfl, hfz, hnd⟩ := hW
  have hA : DataW.TrodAll enc Try.prog W 0 (fun _ => true) true Try.f11.params.toList args.toList ds p := hA0
  have hA1 := hA
  rw [Try.params11] at hA hval
  obtain ⟨v0, vs0, d0, ds0, p0, q0, hargs, rfl, rfl, h0, r0⟩ := trodAll_cons hA
  obtain ⟨v1, vs1, d1, ds1, p1, q1, rfl, rfl, rfl, h1, r1⟩ := trodAll_cons r0
  obtain ⟨rfl, rfl, rfl⟩ := trodAll_nil r1
  obtain rfl : args = #[v0, v1] := by cases args; simp_all
  obtain ⟨rfl, rfl⟩ := trodVars_none hV
  obtain ⟨F0, y0, z0⟩ := top_slice (e := 84) (by kernel_rfl) (hval 0 48 v0 rfl rfl) h0
  obtain ⟨a0, p0, b0, m0, c0⟩ := cell_snds (e := 84) (e1 := 32) (f0 := ⟨"Name", 9, 0, false, "", "", 0⟩) (f1 := ⟨"Areas", 22, 1, false, "", "", 16⟩) (f2 := ⟨"Long", 32, 2, false, "", "", 40⟩) (f3 := ⟨"Ramp", 32, 3, false, "", "", 44⟩) (f4 := ⟨"Voice", 32, 4, false, "", "", 48⟩) (f5 := ⟨"Noise", 32, 5, false, "", "", 52⟩) (n := 0) (by kernel_rfl) (by kernel_rfl) (by kernel_rfl) ⟨rfl, rfl, rfl, rfl, rfl, rfl⟩ (by kernel_rfl) (by kernel_rfl) (by kernel_rfl) (by kernel_rfl) (by kernel_rfl) (by kernel_rfl) (by kernel_rfl) (by kernel_rfl) (by kernel_rfl) (by kernel_rfl) (by kernel_rfl) (by kernel_rfl) (by kernel_rfl) (by kernel_rfl) z0
  obtain ⟨a1, c1, b1⟩ := top_string (n := 1) (by kernel_rfl) (hval 1 9 v1 rfl rfl) h1
  refine (law_calls (ev_lawExactFindSound a0 _ rfl b0 m0 a1 b1) (Args.cons (c0) (Args.cons (c1) (Args.nil W _) rfl) rfl)).mono fun e W' ⟨he, bel⟩ => ?_
  subst he
  exact ⟨_, rfl, _, _, _, [], _, [], hW', trodAll_mk1 (shut_bool Try.underlying4 _), trodAll_below laidOut bel (by kernel_rfl) hA1, rfl, bel.frame _, fun h => by cases h⟩

/-- The statement. -/
theorem fnExactFindSound_holds : Rows.FnExactFindSoundSaid :=
  OpenClaim.holds_of_wide 11 Try.f11 rfl rfl rfl rfl rfl rfl rfl ⟨rfl, rfl, rfl, rfl, rfl⟩ rfl rfl rfl rfl rfl (by kernel_rfl) Try.func11 (by kernel_rfl)
    (of_decide_eq_true (by kernel_rfl)) (by unfold Func.isWrapper; first | (rw [if_pos (by decide +kernel)]; kernel_rfl) | (rw [if_neg (by decide +kernel)]; exact ⟨rfl, rfl⟩))
    (fun os started H enc _ => lifted os started H enc)
#print axioms fnExactFindSound_holds
end Go.Proofs.Ytidjddabfmnkjaa.fnExactFindSoundPart
