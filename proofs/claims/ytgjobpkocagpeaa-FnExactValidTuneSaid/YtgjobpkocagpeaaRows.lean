/-
  No cell of these rows narrows 'for every input' (looked for: loops, veiled, ifaces, maps, wideKeys, modest, calm, conditions, laid).
  DERIVED. THE GIVEN ROWS OF THIS SEAT. 12 by the template 'for every input the law returns true; each argument reads behind the call as it read before'; 0 by the template 'total and deterministic' (their statements: YtgjobpkocagpeaaTotals.lean).
  GIVEN WITH THE SEED: the statements are not yours to turn. If you find one false, say at which input.
  Laid BY PROGRAM, IN A SANDBOX (cutbox-rows.mjs): the forced cells as the released guide's own fill.sh prints them over the translation 6c45fc80865a3108… (all of the seat's roots in one cut). By AI agents, Wed Nov 11 2026. No macro, syntax, notation, axiom, sorry.
-/
import Derived.Test.YtgjobpkocagpeaaChecked
import GoSem.Claim
import GoSem.ClaimJoined
import GoSem.ClaimMapViews
import Derived.JoinedTies
import Derived.KernelRfl
namespace Go.Proofs.Ytgjobpkocagpeaa
/- THE CELL 'sum', in the pinned program and in every row, IS THE sha256 OF THE DUMP (.gsa) THAT YtgjobpkocagpeaaProg.lean LOADS. Nothing in Lean hashes anything: it is a label: what it is worth is what the hold of that sum in a sandbox is worth. -/
noncomputable def Try.pinned : Pinned := { name := "ytgjobpkocagpeaa", sum := "6c45fc80865a31087a2a00dbd96de242f4722fb5d1b80a1c22ef6a8968af8ef6", checked := Try.checked }
namespace Rows
def none {H : Type} : Left H := { results := [], args := [] }

/-- 'laws.FnExactSelfSums': WHATEVER THE INPUT: true; the input reads as it did. -/
def fnExactSelfSumsSpec : ChangeSpec := { name := "fnExactSelfSums", fn := fun _ => fun
  | [d1, d2] => { results := [.lit (.bool true)], args := [d1, d2] }
  | _ => none }
def fnExactSelfSumsRow : OpenClaim := { program := "ytgjobpkocagpeaa", sum := "6c45fc80865a31087a2a00dbd96de242f4722fb5d1b80a1c22ef6a8968af8ef6", func := "loop.example/g01279/laws.FnExactSelfSums", spec := "fnExactSelfSums", apart := false }
def FnExactSelfSumsSaid : Prop := fnExactSelfSumsRow.holds Try.pinned (OpenSpec.ofChange fnExactSelfSumsSpec)

/-- ITS FALSE NEIGHBOUR: 'it returns false'. Refute it at one input. -/
def fnExactSelfSumsWrong : ChangeSpec := { name := "fnExactSelfSums", fn := fun _ => fun
  | [d1, d2] => { results := [.lit (.bool false)], args := [d1, d2] }
  | _ => none }
def FnExactSelfSumsWrongFalsely : Prop := fnExactSelfSumsRow.holds Try.pinned (OpenSpec.ofChange fnExactSelfSumsWrong)

/-- 'laws.FnExactPeriodOfSound': WHATEVER THE INPUT: true; the input reads as it did. -/
def fnExactPeriodOfSoundSpec : ChangeSpec := { name := "fnExactPeriodOfSound", fn := fun _ => fun
  | [d1, d2, d3] => { results := [.lit (.bool true)], args := [d1, d2, d3] }
  | _ => none }
def fnExactPeriodOfSoundRow : OpenClaim := { program := "ytgjobpkocagpeaa", sum := "6c45fc80865a31087a2a00dbd96de242f4722fb5d1b80a1c22ef6a8968af8ef6", func := "loop.example/g01279/laws.FnExactPeriodOfSound", spec := "fnExactPeriodOfSound", apart := false }
def FnExactPeriodOfSoundSaid : Prop := fnExactPeriodOfSoundRow.holds Try.pinned (OpenSpec.ofChange fnExactPeriodOfSoundSpec)

/-- ITS FALSE NEIGHBOUR: 'it returns false'. Refute it at one input. -/
def fnExactPeriodOfSoundWrong : ChangeSpec := { name := "fnExactPeriodOfSound", fn := fun _ => fun
  | [d1, d2, d3] => { results := [.lit (.bool false)], args := [d1, d2, d3] }
  | _ => none }
def FnExactPeriodOfSoundWrongFalsely : Prop := fnExactPeriodOfSoundRow.holds Try.pinned (OpenSpec.ofChange fnExactPeriodOfSoundWrong)

/-- 'laws.FnExactValidTune': WHATEVER THE INPUT: true; the input reads as it did. -/
def fnExactValidTuneSpec : ChangeSpec := { name := "fnExactValidTune", fn := fun _ => fun
  | [d] => { results := [.lit (.bool true)], args := [d] }
  | _ => none }
def fnExactValidTuneRow : OpenClaim := { program := "ytgjobpkocagpeaa", sum := "6c45fc80865a31087a2a00dbd96de242f4722fb5d1b80a1c22ef6a8968af8ef6", func := "loop.example/g01279/laws.FnExactValidTune", spec := "fnExactValidTune", unfollowed := true, recurses := true, apart := false }
def FnExactValidTuneSaid : Prop := fnExactValidTuneRow.holds Try.pinned (OpenSpec.ofChange fnExactValidTuneSpec)

/-- ITS FALSE NEIGHBOUR: 'it returns false'. Refute it at one input. -/
def fnExactValidTuneWrong : ChangeSpec := { name := "fnExactValidTune", fn := fun _ => fun
  | [d] => { results := [.lit (.bool false)], args := [d] }
  | _ => none }
def FnExactValidTuneWrongFalsely : Prop := fnExactValidTuneRow.holds Try.pinned (OpenSpec.ofChange fnExactValidTuneWrong)

/-- 'laws.FnExactIsVoiced': WHATEVER THE INPUT: true; the input reads as it did. -/
def fnExactIsVoicedSpec : ChangeSpec := { name := "fnExactIsVoiced", fn := fun _ => fun
  | [d1, d2, d3, d4] => { results := [.lit (.bool true)], args := [d1, d2, d3, d4] }
  | _ => none }
def fnExactIsVoicedRow : OpenClaim := { program := "ytgjobpkocagpeaa", sum := "6c45fc80865a31087a2a00dbd96de242f4722fb5d1b80a1c22ef6a8968af8ef6", func := "loop.example/g01279/laws.FnExactIsVoiced", spec := "fnExactIsVoiced", apart := false }
def FnExactIsVoicedSaid : Prop := fnExactIsVoicedRow.holds Try.pinned (OpenSpec.ofChange fnExactIsVoicedSpec)

/-- ITS FALSE NEIGHBOUR: 'it returns false'. Refute it at one input. -/
def fnExactIsVoicedWrong : ChangeSpec := { name := "fnExactIsVoiced", fn := fun _ => fun
  | [d1, d2, d3, d4] => { results := [.lit (.bool false)], args := [d1, d2, d3, d4] }
  | _ => none }
def FnExactIsVoicedWrongFalsely : Prop := fnExactIsVoicedRow.holds Try.pinned (OpenSpec.ofChange fnExactIsVoicedWrong)

/-- 'laws.FnExactFromCodes': WHATEVER THE INPUT: true; the input reads as it did. -/
def fnExactFromCodesSpec : ChangeSpec := { name := "fnExactFromCodes", fn := fun _ => fun
  | [d] => { results := [.lit (.bool true)], args := [d] }
  | _ => none }
def fnExactFromCodesRow : OpenClaim := { program := "ytgjobpkocagpeaa", sum := "6c45fc80865a31087a2a00dbd96de242f4722fb5d1b80a1c22ef6a8968af8ef6", func := "loop.example/g01279/laws.FnExactFromCodes", spec := "fnExactFromCodes", inPlace := ["math.Float64frombits"], apart := false }
def FnExactFromCodesSaid : Prop := fnExactFromCodesRow.holds Try.pinned (OpenSpec.ofChange fnExactFromCodesSpec)

/-- ITS FALSE NEIGHBOUR: 'it returns false'. Refute it at one input. -/
def fnExactFromCodesWrong : ChangeSpec := { name := "fnExactFromCodes", fn := fun _ => fun
  | [d] => { results := [.lit (.bool false)], args := [d] }
  | _ => none }
def FnExactFromCodesWrongFalsely : Prop := fnExactFromCodesRow.holds Try.pinned (OpenSpec.ofChange fnExactFromCodesWrong)

/-- 'laws.FnExactFramesOf': WHATEVER THE INPUT: true; the input reads as it did. -/
def fnExactFramesOfSpec : ChangeSpec := { name := "fnExactFramesOf", fn := fun _ => fun
  | [d1, d2, d3] => { results := [.lit (.bool true)], args := [d1, d2, d3] }
  | _ => none }
def fnExactFramesOfRow : OpenClaim := { program := "ytgjobpkocagpeaa", sum := "6c45fc80865a31087a2a00dbd96de242f4722fb5d1b80a1c22ef6a8968af8ef6", func := "loop.example/g01279/laws.FnExactFramesOf", spec := "fnExactFramesOf", apart := false }
def FnExactFramesOfSaid : Prop := fnExactFramesOfRow.holds Try.pinned (OpenSpec.ofChange fnExactFramesOfSpec)

/-- ITS FALSE NEIGHBOUR: 'it returns false'. Refute it at one input. -/
def fnExactFramesOfWrong : ChangeSpec := { name := "fnExactFramesOf", fn := fun _ => fun
  | [d1, d2, d3] => { results := [.lit (.bool false)], args := [d1, d2, d3] }
  | _ => none }
def FnExactFramesOfWrongFalsely : Prop := fnExactFramesOfRow.holds Try.pinned (OpenSpec.ofChange fnExactFramesOfWrong)

/-- 'laws.FnExactValidSound': WHATEVER THE INPUT: true; the input reads as it did. -/
def fnExactValidSoundSpec : ChangeSpec := { name := "fnExactValidSound", fn := fun _ => fun
  | [d] => { results := [.lit (.bool true)], args := [d] }
  | _ => none }
def fnExactValidSoundRow : OpenClaim := { program := "ytgjobpkocagpeaa", sum := "6c45fc80865a31087a2a00dbd96de242f4722fb5d1b80a1c22ef6a8968af8ef6", func := "loop.example/g01279/laws.FnExactValidSound", spec := "fnExactValidSound", unfollowed := true, recurses := true, apart := false }
def FnExactValidSoundSaid : Prop := fnExactValidSoundRow.holds Try.pinned (OpenSpec.ofChange fnExactValidSoundSpec)

/-- ITS FALSE NEIGHBOUR: 'it returns false'. Refute it at one input. -/
def fnExactValidSoundWrong : ChangeSpec := { name := "fnExactValidSound", fn := fun _ => fun
  | [d] => { results := [.lit (.bool false)], args := [d] }
  | _ => none }
def FnExactValidSoundWrongFalsely : Prop := fnExactValidSoundRow.holds Try.pinned (OpenSpec.ofChange fnExactValidSoundWrong)

/-- 'laws.FnExactSameTune': WHATEVER THE INPUT: true; the input reads as it did. -/
def fnExactSameTuneSpec : ChangeSpec := { name := "fnExactSameTune", fn := fun _ => fun
  | [d1, d2] => { results := [.lit (.bool true)], args := [d1, d2] }
  | _ => none }
def fnExactSameTuneRow : OpenClaim := { program := "ytgjobpkocagpeaa", sum := "6c45fc80865a31087a2a00dbd96de242f4722fb5d1b80a1c22ef6a8968af8ef6", func := "loop.example/g01279/laws.FnExactSameTune", spec := "fnExactSameTune", inPlace := ["math.Float32bits", "math.Float64bits"], unfollowed := true, recurses := true, apart := false }
def FnExactSameTuneSaid : Prop := fnExactSameTuneRow.holds Try.pinned (OpenSpec.ofChange fnExactSameTuneSpec)

/-- ITS FALSE NEIGHBOUR: 'it returns false'. Refute it at one input. -/
def fnExactSameTuneWrong : ChangeSpec := { name := "fnExactSameTune", fn := fun _ => fun
  | [d1, d2] => { results := [.lit (.bool false)], args := [d1, d2] }
  | _ => none }
def FnExactSameTuneWrongFalsely : Prop := fnExactSameTuneRow.holds Try.pinned (OpenSpec.ofChange fnExactSameTuneWrong)

/-- 'laws.FnExactCodeOf': WHATEVER THE INPUT: true; the input reads as it did. -/
def fnExactCodeOfSpec : ChangeSpec := { name := "fnExactCodeOf", fn := fun _ => fun
  | [d] => { results := [.lit (.bool true)], args := [d] }
  | _ => none }
def fnExactCodeOfRow : OpenClaim := { program := "ytgjobpkocagpeaa", sum := "6c45fc80865a31087a2a00dbd96de242f4722fb5d1b80a1c22ef6a8968af8ef6", func := "loop.example/g01279/laws.FnExactCodeOf", spec := "fnExactCodeOf", inPlace := ["math.Float64frombits", "math.Float64bits", "math.RoundToEven"], apart := false }
def FnExactCodeOfSaid : Prop := fnExactCodeOfRow.holds Try.pinned (OpenSpec.ofChange fnExactCodeOfSpec)

/-- ITS FALSE NEIGHBOUR: 'it returns false'. Refute it at one input. -/
def fnExactCodeOfWrong : ChangeSpec := { name := "fnExactCodeOf", fn := fun _ => fun
  | [d] => { results := [.lit (.bool false)], args := [d] }
  | _ => none }
def FnExactCodeOfWrongFalsely : Prop := fnExactCodeOfRow.holds Try.pinned (OpenSpec.ofChange fnExactCodeOfWrong)

/-- 'laws.FnExactWindowOf': WHATEVER THE INPUT: true; the input reads as it did. -/
def fnExactWindowOfSpec : ChangeSpec := { name := "fnExactWindowOf", fn := fun _ => fun
  | [d1, d2] => { results := [.lit (.bool true)], args := [d1, d2] }
  | _ => none }
def fnExactWindowOfRow : OpenClaim := { program := "ytgjobpkocagpeaa", sum := "6c45fc80865a31087a2a00dbd96de242f4722fb5d1b80a1c22ef6a8968af8ef6", func := "loop.example/g01279/laws.FnExactWindowOf", spec := "fnExactWindowOf", inPlace := ["math.Float64frombits"], apart := false }
def FnExactWindowOfSaid : Prop := fnExactWindowOfRow.holds Try.pinned (OpenSpec.ofChange fnExactWindowOfSpec)

/-- ITS FALSE NEIGHBOUR: 'it returns false'. Refute it at one input. -/
def fnExactWindowOfWrong : ChangeSpec := { name := "fnExactWindowOf", fn := fun _ => fun
  | [d1, d2] => { results := [.lit (.bool false)], args := [d1, d2] }
  | _ => none }
def FnExactWindowOfWrongFalsely : Prop := fnExactWindowOfRow.holds Try.pinned (OpenSpec.ofChange fnExactWindowOfWrong)

/-- 'laws.FnExactStepUp': WHATEVER THE INPUT: true; the input reads as it did. -/
def fnExactStepUpSpec : ChangeSpec := { name := "fnExactStepUp", fn := fun _ => fun
  | [d1, d2] => { results := [.lit (.bool true)], args := [d1, d2] }
  | _ => none }
def fnExactStepUpRow : OpenClaim := { program := "ytgjobpkocagpeaa", sum := "6c45fc80865a31087a2a00dbd96de242f4722fb5d1b80a1c22ef6a8968af8ef6", func := "loop.example/g01279/laws.FnExactStepUp", spec := "fnExactStepUp", unfollowed := true, recurses := true, apart := false }
def FnExactStepUpSaid : Prop := fnExactStepUpRow.holds Try.pinned (OpenSpec.ofChange fnExactStepUpSpec)

/-- ITS FALSE NEIGHBOUR: 'it returns false'. Refute it at one input. -/
def fnExactStepUpWrong : ChangeSpec := { name := "fnExactStepUp", fn := fun _ => fun
  | [d1, d2] => { results := [.lit (.bool false)], args := [d1, d2] }
  | _ => none }
def FnExactStepUpWrongFalsely : Prop := fnExactStepUpRow.holds Try.pinned (OpenSpec.ofChange fnExactStepUpWrong)

/-- 'laws.FnExactMakeAgain': WHATEVER THE INPUT: true; the input reads as it did. -/
def fnExactMakeAgainSpec : ChangeSpec := { name := "fnExactMakeAgain", fn := fun _ => fun
  | [d1, d2] => { results := [.lit (.bool true)], args := [d1, d2] }
  | _ => none }
def fnExactMakeAgainRow : OpenClaim := { program := "ytgjobpkocagpeaa", sum := "6c45fc80865a31087a2a00dbd96de242f4722fb5d1b80a1c22ef6a8968af8ef6", func := "loop.example/g01279/laws.FnExactMakeAgain", spec := "fnExactMakeAgain", apart := false }
def FnExactMakeAgainSaid : Prop := fnExactMakeAgainRow.holds Try.pinned (OpenSpec.ofChange fnExactMakeAgainSpec)

/-- ITS FALSE NEIGHBOUR: 'it returns false'. Refute it at one input. -/
def fnExactMakeAgainWrong : ChangeSpec := { name := "fnExactMakeAgain", fn := fun _ => fun
  | [d1, d2] => { results := [.lit (.bool false)], args := [d1, d2] }
  | _ => none }
def FnExactMakeAgainWrongFalsely : Prop := fnExactMakeAgainRow.holds Try.pinned (OpenSpec.ofChange fnExactMakeAgainWrong)

/- THE SECOND FORM. 'bulk': how many values and letters a reading holds, each counted each time it is reached (what is shared counts as often as it is met; a slice's spare places count too). A statement '..UptoSaid' is the law's where the arguments, and the package variables that the reading takes, are together of bulk at most 1048576: NARROWER than '..Said'. Prove '..Said' where nothing that the law and all that it calls make is longer than what came in: it says more and counts as full. Else prove '..UptoSaid'. A law counts once. -/
mutual
def uptoBulk {H : Type} : DataW H → Nat
  | .lit (.string bytes) => bytes.length + 1
  | .lit _ => 1
  | .nil => 1
  | .ptr d => uptoBulk d + 1
  | .slice elems spare => uptoBulkAll elems + uptoBulkAll spare + 1
  | .agg parts => uptoBulkAll parts + 1
  | .iface _ d => uptoBulk d + 1
  | .map entries => uptoBulkEntries entries + 1
  | .held _ => 1
def uptoBulkAll {H : Type} : List (DataW H) → Nat
  | [] => 0
  | d :: r => uptoBulk d + uptoBulkAll r
def uptoBulkEntries {H : Type} : List (Lit × DataW H) → Nat
  | [] => 0
  | x :: r => uptoBulkEntry x + uptoBulkEntries r
def uptoBulkEntry {H : Type} : Lit × DataW H → Nat
  | (.string bytes, d) => bytes.length + uptoBulk d + 1
  | (_, d) => uptoBulk d + 1
 end
def uptoSmall : (H : Type) → List (DataW H) → Bool := fun _ ds => decide (uptoBulkAll ds ≤ 1048576)
def OpenSpec.upto (s : _root_.Go.ChangeSpec) : _root_.Go.OpenSpec := { _root_.Go.OpenSpec.ofChange s with cond := some uptoSmall }

/-- 'laws.FnExactSelfSums', WHERE WHAT IT READS IS OF BULK AT MOST 1048576: true; the input reads as it did. -/
def fnExactSelfSumsUptoRow : OpenClaim := { program := "ytgjobpkocagpeaa", sum := "6c45fc80865a31087a2a00dbd96de242f4722fb5d1b80a1c22ef6a8968af8ef6", func := "loop.example/g01279/laws.FnExactSelfSums", spec := "fnExactSelfSums", apart := false, narrowed := true }
def FnExactSelfSumsUptoSaid : Prop := fnExactSelfSumsUptoRow.holds Try.pinned (OpenSpec.upto fnExactSelfSumsSpec)

/-- 'laws.FnExactPeriodOfSound', WHERE WHAT IT READS IS OF BULK AT MOST 1048576: true; the input reads as it did. -/
def fnExactPeriodOfSoundUptoRow : OpenClaim := { program := "ytgjobpkocagpeaa", sum := "6c45fc80865a31087a2a00dbd96de242f4722fb5d1b80a1c22ef6a8968af8ef6", func := "loop.example/g01279/laws.FnExactPeriodOfSound", spec := "fnExactPeriodOfSound", apart := false, narrowed := true }
def FnExactPeriodOfSoundUptoSaid : Prop := fnExactPeriodOfSoundUptoRow.holds Try.pinned (OpenSpec.upto fnExactPeriodOfSoundSpec)

/-- 'laws.FnExactValidTune', WHERE WHAT IT READS IS OF BULK AT MOST 1048576: true; the input reads as it did. -/
def fnExactValidTuneUptoRow : OpenClaim := { program := "ytgjobpkocagpeaa", sum := "6c45fc80865a31087a2a00dbd96de242f4722fb5d1b80a1c22ef6a8968af8ef6", func := "loop.example/g01279/laws.FnExactValidTune", spec := "fnExactValidTune", unfollowed := true, recurses := true, apart := false, narrowed := true }
def FnExactValidTuneUptoSaid : Prop := fnExactValidTuneUptoRow.holds Try.pinned (OpenSpec.upto fnExactValidTuneSpec)

/-- 'laws.FnExactIsVoiced', WHERE WHAT IT READS IS OF BULK AT MOST 1048576: true; the input reads as it did. -/
def fnExactIsVoicedUptoRow : OpenClaim := { program := "ytgjobpkocagpeaa", sum := "6c45fc80865a31087a2a00dbd96de242f4722fb5d1b80a1c22ef6a8968af8ef6", func := "loop.example/g01279/laws.FnExactIsVoiced", spec := "fnExactIsVoiced", apart := false, narrowed := true }
def FnExactIsVoicedUptoSaid : Prop := fnExactIsVoicedUptoRow.holds Try.pinned (OpenSpec.upto fnExactIsVoicedSpec)

/-- 'laws.FnExactFromCodes', WHERE WHAT IT READS IS OF BULK AT MOST 1048576: true; the input reads as it did. -/
def fnExactFromCodesUptoRow : OpenClaim := { program := "ytgjobpkocagpeaa", sum := "6c45fc80865a31087a2a00dbd96de242f4722fb5d1b80a1c22ef6a8968af8ef6", func := "loop.example/g01279/laws.FnExactFromCodes", spec := "fnExactFromCodes", inPlace := ["math.Float64frombits"], apart := false, narrowed := true }
def FnExactFromCodesUptoSaid : Prop := fnExactFromCodesUptoRow.holds Try.pinned (OpenSpec.upto fnExactFromCodesSpec)

/-- 'laws.FnExactFramesOf', WHERE WHAT IT READS IS OF BULK AT MOST 1048576: true; the input reads as it did. -/
def fnExactFramesOfUptoRow : OpenClaim := { program := "ytgjobpkocagpeaa", sum := "6c45fc80865a31087a2a00dbd96de242f4722fb5d1b80a1c22ef6a8968af8ef6", func := "loop.example/g01279/laws.FnExactFramesOf", spec := "fnExactFramesOf", apart := false, narrowed := true }
def FnExactFramesOfUptoSaid : Prop := fnExactFramesOfUptoRow.holds Try.pinned (OpenSpec.upto fnExactFramesOfSpec)

/-- 'laws.FnExactValidSound', WHERE WHAT IT READS IS OF BULK AT MOST 1048576: true; the input reads as it did. -/
def fnExactValidSoundUptoRow : OpenClaim := { program := "ytgjobpkocagpeaa", sum := "6c45fc80865a31087a2a00dbd96de242f4722fb5d1b80a1c22ef6a8968af8ef6", func := "loop.example/g01279/laws.FnExactValidSound", spec := "fnExactValidSound", unfollowed := true, recurses := true, apart := false, narrowed := true }
def FnExactValidSoundUptoSaid : Prop := fnExactValidSoundUptoRow.holds Try.pinned (OpenSpec.upto fnExactValidSoundSpec)

/-- 'laws.FnExactSameTune', WHERE WHAT IT READS IS OF BULK AT MOST 1048576: true; the input reads as it did. -/
def fnExactSameTuneUptoRow : OpenClaim := { program := "ytgjobpkocagpeaa", sum := "6c45fc80865a31087a2a00dbd96de242f4722fb5d1b80a1c22ef6a8968af8ef6", func := "loop.example/g01279/laws.FnExactSameTune", spec := "fnExactSameTune", inPlace := ["math.Float32bits", "math.Float64bits"], unfollowed := true, recurses := true, apart := false, narrowed := true }
def FnExactSameTuneUptoSaid : Prop := fnExactSameTuneUptoRow.holds Try.pinned (OpenSpec.upto fnExactSameTuneSpec)

/-- 'laws.FnExactCodeOf', WHERE WHAT IT READS IS OF BULK AT MOST 1048576: true; the input reads as it did. -/
def fnExactCodeOfUptoRow : OpenClaim := { program := "ytgjobpkocagpeaa", sum := "6c45fc80865a31087a2a00dbd96de242f4722fb5d1b80a1c22ef6a8968af8ef6", func := "loop.example/g01279/laws.FnExactCodeOf", spec := "fnExactCodeOf", inPlace := ["math.Float64frombits", "math.Float64bits", "math.RoundToEven"], apart := false, narrowed := true }
def FnExactCodeOfUptoSaid : Prop := fnExactCodeOfUptoRow.holds Try.pinned (OpenSpec.upto fnExactCodeOfSpec)

/-- 'laws.FnExactWindowOf', WHERE WHAT IT READS IS OF BULK AT MOST 1048576: true; the input reads as it did. -/
def fnExactWindowOfUptoRow : OpenClaim := { program := "ytgjobpkocagpeaa", sum := "6c45fc80865a31087a2a00dbd96de242f4722fb5d1b80a1c22ef6a8968af8ef6", func := "loop.example/g01279/laws.FnExactWindowOf", spec := "fnExactWindowOf", inPlace := ["math.Float64frombits"], apart := false, narrowed := true }
def FnExactWindowOfUptoSaid : Prop := fnExactWindowOfUptoRow.holds Try.pinned (OpenSpec.upto fnExactWindowOfSpec)

/-- 'laws.FnExactStepUp', WHERE WHAT IT READS IS OF BULK AT MOST 1048576: true; the input reads as it did. -/
def fnExactStepUpUptoRow : OpenClaim := { program := "ytgjobpkocagpeaa", sum := "6c45fc80865a31087a2a00dbd96de242f4722fb5d1b80a1c22ef6a8968af8ef6", func := "loop.example/g01279/laws.FnExactStepUp", spec := "fnExactStepUp", unfollowed := true, recurses := true, apart := false, narrowed := true }
def FnExactStepUpUptoSaid : Prop := fnExactStepUpUptoRow.holds Try.pinned (OpenSpec.upto fnExactStepUpSpec)

/-- 'laws.FnExactMakeAgain', WHERE WHAT IT READS IS OF BULK AT MOST 1048576: true; the input reads as it did. -/
def fnExactMakeAgainUptoRow : OpenClaim := { program := "ytgjobpkocagpeaa", sum := "6c45fc80865a31087a2a00dbd96de242f4722fb5d1b80a1c22ef6a8968af8ef6", func := "loop.example/g01279/laws.FnExactMakeAgain", spec := "fnExactMakeAgain", apart := false, narrowed := true }
def FnExactMakeAgainUptoSaid : Prop := fnExactMakeAgainUptoRow.holds Try.pinned (OpenSpec.upto fnExactMakeAgainSpec)

end Rows
end Go.Proofs.Ytgjobpkocagpeaa
