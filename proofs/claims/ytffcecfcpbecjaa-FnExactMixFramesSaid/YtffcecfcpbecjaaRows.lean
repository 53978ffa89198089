/-
  No cell of these rows narrows 'for every input' (looked for: loops, veiled, ifaces, maps, wideKeys, modest, calm, conditions, laid).
  DERIVED. THE GIVEN ROWS OF THIS SEAT. 12 by the template 'for every input the law returns true; each argument reads behind the call as it read before'; 0 by the template 'total and deterministic' (their statements: YtffcecfcpbecjaaTotals.lean).
  GIVEN WITH THE SEED: the statements are not yours to turn. If you find one false, say at which input.
  Laid BY PROGRAM, IN A SANDBOX (cutbox-rows.mjs): the forced cells as the released guide's own fill.sh prints them over the translation d5cc5db95c8327a6… (all of the seat's roots in one cut). By AI agents, Wed Nov 11 2026. No macro, syntax, notation, axiom, sorry.
-/
import Derived.Test.YtffcecfcpbecjaaChecked
import GoSem.Claim
import GoSem.ClaimJoined
import GoSem.ClaimMapViews
import Derived.JoinedTies
import Derived.KernelRfl
namespace Go.Proofs.Ytffcecfcpbecjaa
/- THE CELL 'sum', in the pinned program and in every row, IS THE sha256 OF THE DUMP (.gsa) THAT YtffcecfcpbecjaaProg.lean LOADS. Nothing in Lean hashes anything: it is a label: what it is worth is what the hold of that sum in a sandbox is worth. -/
noncomputable def Try.pinned : Pinned := { name := "ytffcecfcpbecjaa", sum := "d5cc5db95c8327a619cb5fe85f4d3c4e5af321802bb049300e5487751b283456", checked := Try.checked }
namespace Rows
def none {H : Type} : Left H := { results := [], args := [] }

/-- 'laws.FnExactJoinFrames': WHATEVER THE INPUT: true; the input reads as it did. -/
def fnExactJoinFramesSpec : ChangeSpec := { name := "fnExactJoinFrames", fn := fun _ => fun
  | [d1, d2] => { results := [.lit (.bool true)], args := [d1, d2] }
  | _ => none }
def fnExactJoinFramesRow : OpenClaim := { program := "ytffcecfcpbecjaa", sum := "d5cc5db95c8327a619cb5fe85f4d3c4e5af321802bb049300e5487751b283456", func := "loop.example/g01279/laws.FnExactJoinFrames", spec := "fnExactJoinFrames", apart := false }
def FnExactJoinFramesSaid : Prop := fnExactJoinFramesRow.holds Try.pinned (OpenSpec.ofChange fnExactJoinFramesSpec)

/-- ITS FALSE NEIGHBOUR: 'it returns false'. Refute it at one input. -/
def fnExactJoinFramesWrong : ChangeSpec := { name := "fnExactJoinFrames", fn := fun _ => fun
  | [d1, d2] => { results := [.lit (.bool false)], args := [d1, d2] }
  | _ => none }
def FnExactJoinFramesWrongFalsely : Prop := fnExactJoinFramesRow.holds Try.pinned (OpenSpec.ofChange fnExactJoinFramesWrong)

/-- 'laws.FnExactStepDown': WHATEVER THE INPUT: true; the input reads as it did. -/
def fnExactStepDownSpec : ChangeSpec := { name := "fnExactStepDown", fn := fun _ => fun
  | [d] => { results := [.lit (.bool true)], args := [d] }
  | _ => none }
def fnExactStepDownRow : OpenClaim := { program := "ytffcecfcpbecjaa", sum := "d5cc5db95c8327a619cb5fe85f4d3c4e5af321802bb049300e5487751b283456", func := "loop.example/g01279/laws.FnExactStepDown", spec := "fnExactStepDown", apart := false }
def FnExactStepDownSaid : Prop := fnExactStepDownRow.holds Try.pinned (OpenSpec.ofChange fnExactStepDownSpec)

/-- ITS FALSE NEIGHBOUR: 'it returns false'. Refute it at one input. -/
def fnExactStepDownWrong : ChangeSpec := { name := "fnExactStepDown", fn := fun _ => fun
  | [d] => { results := [.lit (.bool false)], args := [d] }
  | _ => none }
def FnExactStepDownWrongFalsely : Prop := fnExactStepDownRow.holds Try.pinned (OpenSpec.ofChange fnExactStepDownWrong)

/-- 'laws.FnExactDrivePredictor': WHATEVER THE INPUT: true; the input reads as it did. -/
def fnExactDrivePredictorSpec : ChangeSpec := { name := "fnExactDrivePredictor", fn := fun _ => fun
  | [d1, d2] => { results := [.lit (.bool true)], args := [d1, d2] }
  | _ => none }
def fnExactDrivePredictorRow : OpenClaim := { program := "ytffcecfcpbecjaa", sum := "d5cc5db95c8327a619cb5fe85f4d3c4e5af321802bb049300e5487751b283456", func := "loop.example/g01279/laws.FnExactDrivePredictor", spec := "fnExactDrivePredictor", apart := false }
def FnExactDrivePredictorSaid : Prop := fnExactDrivePredictorRow.holds Try.pinned (OpenSpec.ofChange fnExactDrivePredictorSpec)

/-- ITS FALSE NEIGHBOUR: 'it returns false'. Refute it at one input. -/
def fnExactDrivePredictorWrong : ChangeSpec := { name := "fnExactDrivePredictor", fn := fun _ => fun
  | [d1, d2] => { results := [.lit (.bool false)], args := [d1, d2] }
  | _ => none }
def FnExactDrivePredictorWrongFalsely : Prop := fnExactDrivePredictorRow.holds Try.pinned (OpenSpec.ofChange fnExactDrivePredictorWrong)

/-- 'laws.FnExactResidueOf': WHATEVER THE INPUT: true; the input reads as it did. -/
def fnExactResidueOfSpec : ChangeSpec := { name := "fnExactResidueOf", fn := fun _ => fun
  | [d1, d2] => { results := [.lit (.bool true)], args := [d1, d2] }
  | _ => none }
def fnExactResidueOfRow : OpenClaim := { program := "ytffcecfcpbecjaa", sum := "d5cc5db95c8327a619cb5fe85f4d3c4e5af321802bb049300e5487751b283456", func := "loop.example/g01279/laws.FnExactResidueOf", spec := "fnExactResidueOf", unfollowed := true, recurses := true, apart := false }
def FnExactResidueOfSaid : Prop := fnExactResidueOfRow.holds Try.pinned (OpenSpec.ofChange fnExactResidueOfSpec)

/-- ITS FALSE NEIGHBOUR: 'it returns false'. Refute it at one input. -/
def fnExactResidueOfWrong : ChangeSpec := { name := "fnExactResidueOf", fn := fun _ => fun
  | [d1, d2] => { results := [.lit (.bool false)], args := [d1, d2] }
  | _ => none }
def FnExactResidueOfWrongFalsely : Prop := fnExactResidueOfRow.holds Try.pinned (OpenSpec.ofChange fnExactResidueOfWrong)

/-- 'laws.FnExactBandsOf': WHATEVER THE INPUT: true; the input reads as it did. -/
def fnExactBandsOfSpec : ChangeSpec := { name := "fnExactBandsOf", fn := fun _ => fun
  | [d1, d2] => { results := [.lit (.bool true)], args := [d1, d2] }
  | _ => none }
def fnExactBandsOfRow : OpenClaim := { program := "ytffcecfcpbecjaa", sum := "d5cc5db95c8327a619cb5fe85f4d3c4e5af321802bb049300e5487751b283456", func := "loop.example/g01279/laws.FnExactBandsOf", spec := "fnExactBandsOf", unfollowed := true, recurses := true, apart := false }
def FnExactBandsOfSaid : Prop := fnExactBandsOfRow.holds Try.pinned (OpenSpec.ofChange fnExactBandsOfSpec)

/-- ITS FALSE NEIGHBOUR: 'it returns false'. Refute it at one input. -/
def fnExactBandsOfWrong : ChangeSpec := { name := "fnExactBandsOf", fn := fun _ => fun
  | [d1, d2] => { results := [.lit (.bool false)], args := [d1, d2] }
  | _ => none }
def FnExactBandsOfWrongFalsely : Prop := fnExactBandsOfRow.holds Try.pinned (OpenSpec.ofChange fnExactBandsOfWrong)

/-- 'laws.FnExactMixFrames': WHATEVER THE INPUT: true; the input reads as it did. -/
def fnExactMixFramesSpec : ChangeSpec := { name := "fnExactMixFrames", fn := fun _ => fun
  | [d1, d2, d3] => { results := [.lit (.bool true)], args := [d1, d2, d3] }
  | _ => none }
def fnExactMixFramesRow : OpenClaim := { program := "ytffcecfcpbecjaa", sum := "d5cc5db95c8327a619cb5fe85f4d3c4e5af321802bb049300e5487751b283456", func := "loop.example/g01279/laws.FnExactMixFrames", spec := "fnExactMixFrames", unfollowed := true, recurses := true, apart := false }
def FnExactMixFramesSaid : Prop := fnExactMixFramesRow.holds Try.pinned (OpenSpec.ofChange fnExactMixFramesSpec)

/-- ITS FALSE NEIGHBOUR: 'it returns false'. Refute it at one input. -/
def fnExactMixFramesWrong : ChangeSpec := { name := "fnExactMixFrames", fn := fun _ => fun
  | [d1, d2, d3] => { results := [.lit (.bool false)], args := [d1, d2, d3] }
  | _ => none }
def FnExactMixFramesWrongFalsely : Prop := fnExactMixFramesRow.holds Try.pinned (OpenSpec.ofChange fnExactMixFramesWrong)

/-- 'laws.FnExactSameSounds': WHATEVER THE INPUT: true; the input reads as it did. -/
def fnExactSameSoundsSpec : ChangeSpec := { name := "fnExactSameSounds", fn := fun _ => fun
  | [d1, d2] => { results := [.lit (.bool true)], args := [d1, d2] }
  | _ => none }
def fnExactSameSoundsRow : OpenClaim := { program := "ytffcecfcpbecjaa", sum := "d5cc5db95c8327a619cb5fe85f4d3c4e5af321802bb049300e5487751b283456", func := "loop.example/g01279/laws.FnExactSameSounds", spec := "fnExactSameSounds", inPlace := ["math.Float32bits", "math.Float64bits"], unfollowed := true, recurses := true, apart := false }
def FnExactSameSoundsSaid : Prop := fnExactSameSoundsRow.holds Try.pinned (OpenSpec.ofChange fnExactSameSoundsSpec)

/-- ITS FALSE NEIGHBOUR: 'it returns false'. Refute it at one input. -/
def fnExactSameSoundsWrong : ChangeSpec := { name := "fnExactSameSounds", fn := fun _ => fun
  | [d1, d2] => { results := [.lit (.bool false)], args := [d1, d2] }
  | _ => none }
def FnExactSameSoundsWrongFalsely : Prop := fnExactSameSoundsRow.holds Try.pinned (OpenSpec.ofChange fnExactSameSoundsWrong)

/-- 'laws.FnExactStretchSound': WHATEVER THE INPUT: true; the input reads as it did. -/
def fnExactStretchSoundSpec : ChangeSpec := { name := "fnExactStretchSound", fn := fun _ => fun
  | [d1, d2] => { results := [.lit (.bool true)], args := [d1, d2] }
  | _ => none }
def fnExactStretchSoundRow : OpenClaim := { program := "ytffcecfcpbecjaa", sum := "d5cc5db95c8327a619cb5fe85f4d3c4e5af321802bb049300e5487751b283456", func := "loop.example/g01279/laws.FnExactStretchSound", spec := "fnExactStretchSound", inPlace := ["math.archFloor", "math.Float64bits", "math.Float64frombits", "math.archTrunc"], apart := false }
def FnExactStretchSoundSaid : Prop := fnExactStretchSoundRow.holds Try.pinned (OpenSpec.ofChange fnExactStretchSoundSpec)

/-- ITS FALSE NEIGHBOUR: 'it returns false'. Refute it at one input. -/
def fnExactStretchSoundWrong : ChangeSpec := { name := "fnExactStretchSound", fn := fun _ => fun
  | [d1, d2] => { results := [.lit (.bool false)], args := [d1, d2] }
  | _ => none }
def FnExactStretchSoundWrongFalsely : Prop := fnExactStretchSoundRow.holds Try.pinned (OpenSpec.ofChange fnExactStretchSoundWrong)

/-- 'laws.FnExactAreSounds': WHATEVER THE INPUT: true; the input reads as it did. -/
def fnExactAreSoundsSpec : ChangeSpec := { name := "fnExactAreSounds", fn := fun _ => fun
  | [d] => { results := [.lit (.bool true)], args := [d] }
  | _ => none }
def fnExactAreSoundsRow : OpenClaim := { program := "ytffcecfcpbecjaa", sum := "d5cc5db95c8327a619cb5fe85f4d3c4e5af321802bb049300e5487751b283456", func := "loop.example/g01279/laws.FnExactAreSounds", spec := "fnExactAreSounds", unfollowed := true, recurses := true, apart := false }
def FnExactAreSoundsSaid : Prop := fnExactAreSoundsRow.holds Try.pinned (OpenSpec.ofChange fnExactAreSoundsSpec)

/-- ITS FALSE NEIGHBOUR: 'it returns false'. Refute it at one input. -/
def fnExactAreSoundsWrong : ChangeSpec := { name := "fnExactAreSounds", fn := fun _ => fun
  | [d] => { results := [.lit (.bool false)], args := [d] }
  | _ => none }
def FnExactAreSoundsWrongFalsely : Prop := fnExactAreSoundsRow.holds Try.pinned (OpenSpec.ofChange fnExactAreSoundsWrong)

/-- 'laws.FnExactTubeOfFrame': WHATEVER THE INPUT: true; the input reads as it did. -/
def fnExactTubeOfFrameSpec : ChangeSpec := { name := "fnExactTubeOfFrame", fn := fun _ => fun
  | [d] => { results := [.lit (.bool true)], args := [d] }
  | _ => none }
def fnExactTubeOfFrameRow : OpenClaim := { program := "ytffcecfcpbecjaa", sum := "d5cc5db95c8327a619cb5fe85f4d3c4e5af321802bb049300e5487751b283456", func := "loop.example/g01279/laws.FnExactTubeOfFrame", spec := "fnExactTubeOfFrame", unfollowed := true, recurses := true, apart := false }
def FnExactTubeOfFrameSaid : Prop := fnExactTubeOfFrameRow.holds Try.pinned (OpenSpec.ofChange fnExactTubeOfFrameSpec)

/-- ITS FALSE NEIGHBOUR: 'it returns false'. Refute it at one input. -/
def fnExactTubeOfFrameWrong : ChangeSpec := { name := "fnExactTubeOfFrame", fn := fun _ => fun
  | [d] => { results := [.lit (.bool false)], args := [d] }
  | _ => none }
def FnExactTubeOfFrameWrongFalsely : Prop := fnExactTubeOfFrameRow.holds Try.pinned (OpenSpec.ofChange fnExactTubeOfFrameWrong)

/-- 'laws.FnExactAddAccent': WHATEVER THE INPUT: true; the input reads as it did. -/
def fnExactAddAccentSpec : ChangeSpec := { name := "fnExactAddAccent", fn := fun _ => fun
  | [d1, d2] => { results := [.lit (.bool true)], args := [d1, d2] }
  | _ => none }
def fnExactAddAccentRow : OpenClaim := { program := "ytffcecfcpbecjaa", sum := "d5cc5db95c8327a619cb5fe85f4d3c4e5af321802bb049300e5487751b283456", func := "loop.example/g01279/laws.FnExactAddAccent", spec := "fnExactAddAccent", unfollowed := true, recurses := true, apart := false }
def FnExactAddAccentSaid : Prop := fnExactAddAccentRow.holds Try.pinned (OpenSpec.ofChange fnExactAddAccentSpec)

/-- ITS FALSE NEIGHBOUR: 'it returns false'. Refute it at one input. -/
def fnExactAddAccentWrong : ChangeSpec := { name := "fnExactAddAccent", fn := fun _ => fun
  | [d1, d2] => { results := [.lit (.bool false)], args := [d1, d2] }
  | _ => none }
def FnExactAddAccentWrongFalsely : Prop := fnExactAddAccentRow.holds Try.pinned (OpenSpec.ofChange fnExactAddAccentWrong)

/-- 'laws.FnExactMoveTune': WHATEVER THE INPUT: true; the input reads as it did. -/
def fnExactMoveTuneSpec : ChangeSpec := { name := "fnExactMoveTune", fn := fun _ => fun
  | [d1, d2] => { results := [.lit (.bool true)], args := [d1, d2] }
  | _ => none }
def fnExactMoveTuneRow : OpenClaim := { program := "ytffcecfcpbecjaa", sum := "d5cc5db95c8327a619cb5fe85f4d3c4e5af321802bb049300e5487751b283456", func := "loop.example/g01279/laws.FnExactMoveTune", spec := "fnExactMoveTune", unfollowed := true, recurses := true, apart := false }
def FnExactMoveTuneSaid : Prop := fnExactMoveTuneRow.holds Try.pinned (OpenSpec.ofChange fnExactMoveTuneSpec)

/-- ITS FALSE NEIGHBOUR: 'it returns false'. Refute it at one input. -/
def fnExactMoveTuneWrong : ChangeSpec := { name := "fnExactMoveTune", fn := fun _ => fun
  | [d1, d2] => { results := [.lit (.bool false)], args := [d1, d2] }
  | _ => none }
def FnExactMoveTuneWrongFalsely : Prop := fnExactMoveTuneRow.holds Try.pinned (OpenSpec.ofChange fnExactMoveTuneWrong)

/- THE SECOND FORM. 'bulk': how many values and letters a reading holds, each counted each time it is reached (what is shared counts as often as it is met; a slice's spare places count too). A statement '..UptoSaid' is the law's where the arguments, and the package variables that the reading takes, are together of bulk at most 1048576: NARROWER than '..Said'. Prove '..Said' where nothing that the law and all that it calls make is longer than what came in: it says more and counts as full. Else prove '..UptoSaid'. A law counts once. -/
mutual
def uptoBulk {H : Type} : DataW H → Nat
  | .lit (.string bytes) => bytes.length + 1
  | .lit _ => 1
  | .nil => 1
  | .ptr d => uptoBulk d + 1
  | .slice elems spare => uptoBulkAll elems + uptoBulkAll spare + 1
  | .agg parts => uptoBulkAll parts + 1
  | .iface _ d => uptoBulk d + 1
  | .map entries => uptoBulkEntries entries + 1
  | .held _ => 1
def uptoBulkAll {H : Type} : List (DataW H) → Nat
  | [] => 0
  | d :: r => uptoBulk d + uptoBulkAll r
def uptoBulkEntries {H : Type} : List (Lit × DataW H) → Nat
  | [] => 0
  | x :: r => uptoBulkEntry x + uptoBulkEntries r
def uptoBulkEntry {H : Type} : Lit × DataW H → Nat
  | (.string bytes, d) => bytes.length + uptoBulk d + 1
  | (_, d) => uptoBulk d + 1
 end
def uptoSmall : (H : Type) → List (DataW H) → Bool := fun _ ds => decide (uptoBulkAll ds ≤ 1048576)
def OpenSpec.upto (s : _root_.Go.ChangeSpec) : _root_.Go.OpenSpec := { _root_.Go.OpenSpec.ofChange s with cond := some uptoSmall }

/-- 'laws.FnExactJoinFrames', WHERE WHAT IT READS IS OF BULK AT MOST 1048576: true; the input reads as it did. -/
def fnExactJoinFramesUptoRow : OpenClaim := { program := "ytffcecfcpbecjaa", sum := "d5cc5db95c8327a619cb5fe85f4d3c4e5af321802bb049300e5487751b283456", func := "loop.example/g01279/laws.FnExactJoinFrames", spec := "fnExactJoinFrames", apart := false, narrowed := true }
def FnExactJoinFramesUptoSaid : Prop := fnExactJoinFramesUptoRow.holds Try.pinned (OpenSpec.upto fnExactJoinFramesSpec)

/-- 'laws.FnExactStepDown', WHERE WHAT IT READS IS OF BULK AT MOST 1048576: true; the input reads as it did. -/
def fnExactStepDownUptoRow : OpenClaim := { program := "ytffcecfcpbecjaa", sum := "d5cc5db95c8327a619cb5fe85f4d3c4e5af321802bb049300e5487751b283456", func := "loop.example/g01279/laws.FnExactStepDown", spec := "fnExactStepDown", apart := false, narrowed := true }
def FnExactStepDownUptoSaid : Prop := fnExactStepDownUptoRow.holds Try.pinned (OpenSpec.upto fnExactStepDownSpec)

/-- 'laws.FnExactDrivePredictor', WHERE WHAT IT READS IS OF BULK AT MOST 1048576: true; the input reads as it did. -/
def fnExactDrivePredictorUptoRow : OpenClaim := { program := "ytffcecfcpbecjaa", sum := "d5cc5db95c8327a619cb5fe85f4d3c4e5af321802bb049300e5487751b283456", func := "loop.example/g01279/laws.FnExactDrivePredictor", spec := "fnExactDrivePredictor", apart := false, narrowed := true }
def FnExactDrivePredictorUptoSaid : Prop := fnExactDrivePredictorUptoRow.holds Try.pinned (OpenSpec.upto fnExactDrivePredictorSpec)

/-- 'laws.FnExactResidueOf', WHERE WHAT IT READS IS OF BULK AT MOST 1048576: true; the input reads as it did. -/
def fnExactResidueOfUptoRow : OpenClaim := { program := "ytffcecfcpbecjaa", sum := "d5cc5db95c8327a619cb5fe85f4d3c4e5af321802bb049300e5487751b283456", func := "loop.example/g01279/laws.FnExactResidueOf", spec := "fnExactResidueOf", unfollowed := true, recurses := true, apart := false, narrowed := true }
def FnExactResidueOfUptoSaid : Prop := fnExactResidueOfUptoRow.holds Try.pinned (OpenSpec.upto fnExactResidueOfSpec)

/-- 'laws.FnExactBandsOf', WHERE WHAT IT READS IS OF BULK AT MOST 1048576: true; the input reads as it did. -/
def fnExactBandsOfUptoRow : OpenClaim := { program := "ytffcecfcpbecjaa", sum := "d5cc5db95c8327a619cb5fe85f4d3c4e5af321802bb049300e5487751b283456", func := "loop.example/g01279/laws.FnExactBandsOf", spec := "fnExactBandsOf", unfollowed := true, recurses := true, apart := false, narrowed := true }
def FnExactBandsOfUptoSaid : Prop := fnExactBandsOfUptoRow.holds Try.pinned (OpenSpec.upto fnExactBandsOfSpec)

/-- 'laws.FnExactMixFrames', WHERE WHAT IT READS IS OF BULK AT MOST 1048576: true; the input reads as it did. -/
def fnExactMixFramesUptoRow : OpenClaim := { program := "ytffcecfcpbecjaa", sum := "d5cc5db95c8327a619cb5fe85f4d3c4e5af321802bb049300e5487751b283456", func := "loop.example/g01279/laws.FnExactMixFrames", spec := "fnExactMixFrames", unfollowed := true, recurses := true, apart := false, narrowed := true }
def FnExactMixFramesUptoSaid : Prop := fnExactMixFramesUptoRow.holds Try.pinned (OpenSpec.upto fnExactMixFramesSpec)

/-- 'laws.FnExactSameSounds', WHERE WHAT IT READS IS OF BULK AT MOST 1048576: true; the input reads as it did. -/
def fnExactSameSoundsUptoRow : OpenClaim := { program := "ytffcecfcpbecjaa", sum := "d5cc5db95c8327a619cb5fe85f4d3c4e5af321802bb049300e5487751b283456", func := "loop.example/g01279/laws.FnExactSameSounds", spec := "fnExactSameSounds", inPlace := ["math.Float32bits", "math.Float64bits"], unfollowed := true, recurses := true, apart := false, narrowed := true }
def FnExactSameSoundsUptoSaid : Prop := fnExactSameSoundsUptoRow.holds Try.pinned (OpenSpec.upto fnExactSameSoundsSpec)

/-- 'laws.FnExactStretchSound', WHERE WHAT IT READS IS OF BULK AT MOST 1048576: true; the input reads as it did. -/
def fnExactStretchSoundUptoRow : OpenClaim := { program := "ytffcecfcpbecjaa", sum := "d5cc5db95c8327a619cb5fe85f4d3c4e5af321802bb049300e5487751b283456", func := "loop.example/g01279/laws.FnExactStretchSound", spec := "fnExactStretchSound", inPlace := ["math.archFloor", "math.Float64bits", "math.Float64frombits", "math.archTrunc"], apart := false, narrowed := true }
def FnExactStretchSoundUptoSaid : Prop := fnExactStretchSoundUptoRow.holds Try.pinned (OpenSpec.upto fnExactStretchSoundSpec)

/-- 'laws.FnExactAreSounds', WHERE WHAT IT READS IS OF BULK AT MOST 1048576: true; the input reads as it did. -/
def fnExactAreSoundsUptoRow : OpenClaim := { program := "ytffcecfcpbecjaa", sum := "d5cc5db95c8327a619cb5fe85f4d3c4e5af321802bb049300e5487751b283456", func := "loop.example/g01279/laws.FnExactAreSounds", spec := "fnExactAreSounds", unfollowed := true, recurses := true, apart := false, narrowed := true }
def FnExactAreSoundsUptoSaid : Prop := fnExactAreSoundsUptoRow.holds Try.pinned (OpenSpec.upto fnExactAreSoundsSpec)

/-- 'laws.FnExactTubeOfFrame', WHERE WHAT IT READS IS OF BULK AT MOST 1048576: true; the input reads as it did. -/
def fnExactTubeOfFrameUptoRow : OpenClaim := { program := "ytffcecfcpbecjaa", sum := "d5cc5db95c8327a619cb5fe85f4d3c4e5af321802bb049300e5487751b283456", func := "loop.example/g01279/laws.FnExactTubeOfFrame", spec := "fnExactTubeOfFrame", unfollowed := true, recurses := true, apart := false, narrowed := true }
def FnExactTubeOfFrameUptoSaid : Prop := fnExactTubeOfFrameUptoRow.holds Try.pinned (OpenSpec.upto fnExactTubeOfFrameSpec)

/-- 'laws.FnExactAddAccent', WHERE WHAT IT READS IS OF BULK AT MOST 1048576: true; the input reads as it did. -/
def fnExactAddAccentUptoRow : OpenClaim := { program := "ytffcecfcpbecjaa", sum := "d5cc5db95c8327a619cb5fe85f4d3c4e5af321802bb049300e5487751b283456", func := "loop.example/g01279/laws.FnExactAddAccent", spec := "fnExactAddAccent", unfollowed := true, recurses := true, apart := false, narrowed := true }
def FnExactAddAccentUptoSaid : Prop := fnExactAddAccentUptoRow.holds Try.pinned (OpenSpec.upto fnExactAddAccentSpec)

/-- 'laws.FnExactMoveTune', WHERE WHAT IT READS IS OF BULK AT MOST 1048576: true; the input reads as it did. -/
def fnExactMoveTuneUptoRow : OpenClaim := { program := "ytffcecfcpbecjaa", sum := "d5cc5db95c8327a619cb5fe85f4d3c4e5af321802bb049300e5487751b283456", func := "loop.example/g01279/laws.FnExactMoveTune", spec := "fnExactMoveTune", unfollowed := true, recurses := true, apart := false, narrowed := true }
def FnExactMoveTuneUptoSaid : Prop := fnExactMoveTuneUptoRow.holds Try.pinned (OpenSpec.upto fnExactMoveTuneSpec)

end Rows
end Go.Proofs.Ytffcecfcpbecjaa
