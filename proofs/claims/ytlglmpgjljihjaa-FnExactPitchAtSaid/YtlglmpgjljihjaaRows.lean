/-
  No cell of these rows narrows 'for every input' (looked for: loops, veiled, ifaces, maps, wideKeys, modest, calm, conditions, laid).
  DERIVED. THE GIVEN ROWS OF THIS SEAT. 9 by the template 'for every input the law returns true; each argument reads behind the call as it read before'; 0 by the template 'total and deterministic' (their statements: YtlglmpgjljihjaaTotals.lean).
  GIVEN WITH THE SEED: the statements are not yours to turn. If you find one false, say at which input.
  Laid BY PROGRAM, IN A SANDBOX (cutbox-rows.mjs): the forced cells as the released guide's own fill.sh prints them over the translation 4272fbf70bf6f368… (all of the seat's roots in one cut). By AI agents, Wed Nov 11 2026. No macro, syntax, notation, axiom, sorry.
-/
import Derived.Test.YtlglmpgjljihjaaChecked
import GoSem.Claim
import GoSem.ClaimJoined
import GoSem.ClaimMapViews
import Derived.JoinedTies
import Derived.KernelRfl
namespace Go.Proofs.Ytlglmpgjljihjaa
/- THE CELL 'sum', in the pinned program and in every row, IS THE sha256 OF THE DUMP (.gsa) THAT YtlglmpgjljihjaaProg.lean LOADS. Nothing in Lean hashes anything: it is a label: what it is worth is what the hold of that sum in a sandbox is worth. -/
noncomputable def Try.pinned : Pinned := { name := "ytlglmpgjljihjaa", sum := "4272fbf70bf6f36841557b5fa9ef0f84e8d6a5cb6265e200b43c6e4a51a25b0e", checked := Try.checked }
namespace Rows
def none {H : Type} : Left H := { results := [], args := [] }

/-- 'laws.FnExactPitchAt': WHATEVER THE INPUT: true; the input reads as it did. -/
def fnExactPitchAtSpec : ChangeSpec := { name := "fnExactPitchAt", fn := fun _ => fun
  | [d1, d2, d3] => { results := [.lit (.bool true)], args := [d1, d2, d3] }
  | _ => none }
def fnExactPitchAtRow : OpenClaim := { program := "ytlglmpgjljihjaa", sum := "4272fbf70bf6f36841557b5fa9ef0f84e8d6a5cb6265e200b43c6e4a51a25b0e", func := "loop.example/g01279/laws.FnExactPitchAt", spec := "fnExactPitchAt", unfollowed := true, recurses := true, apart := false }
def FnExactPitchAtSaid : Prop := fnExactPitchAtRow.holds Try.pinned (OpenSpec.ofChange fnExactPitchAtSpec)

/-- ITS FALSE NEIGHBOUR: 'it returns false'. Refute it at one input. -/
def fnExactPitchAtWrong : ChangeSpec := { name := "fnExactPitchAt", fn := fun _ => fun
  | [d1, d2, d3] => { results := [.lit (.bool false)], args := [d1, d2, d3] }
  | _ => none }
def FnExactPitchAtWrongFalsely : Prop := fnExactPitchAtRow.holds Try.pinned (OpenSpec.ofChange fnExactPitchAtWrong)

/-- 'laws.FnExactCodeSound': WHATEVER THE INPUT: true; the input reads as it did. -/
def fnExactCodeSoundSpec : ChangeSpec := { name := "fnExactCodeSound", fn := fun _ => fun
  | [d] => { results := [.lit (.bool true)], args := [d] }
  | _ => none }
def fnExactCodeSoundRow : OpenClaim := { program := "ytlglmpgjljihjaa", sum := "4272fbf70bf6f36841557b5fa9ef0f84e8d6a5cb6265e200b43c6e4a51a25b0e", func := "loop.example/g01279/laws.FnExactCodeSound", spec := "fnExactCodeSound", inPlace := ["math.Float64frombits", "math.Float64bits", "math.RoundToEven"], apart := false }
def FnExactCodeSoundSaid : Prop := fnExactCodeSoundRow.holds Try.pinned (OpenSpec.ofChange fnExactCodeSoundSpec)

/-- ITS FALSE NEIGHBOUR: 'it returns false'. Refute it at one input. -/
def fnExactCodeSoundWrong : ChangeSpec := { name := "fnExactCodeSound", fn := fun _ => fun
  | [d] => { results := [.lit (.bool false)], args := [d] }
  | _ => none }
def FnExactCodeSoundWrongFalsely : Prop := fnExactCodeSoundRow.holds Try.pinned (OpenSpec.ofChange fnExactCodeSoundWrong)

/-- 'laws.FnExactFindSound': WHATEVER THE INPUT: true; the input reads as it did. -/
def fnExactFindSoundSpec : ChangeSpec := { name := "fnExactFindSound", fn := fun _ => fun
  | [d1, d2] => { results := [.lit (.bool true)], args := [d1, d2] }
  | _ => none }
def fnExactFindSoundRow : OpenClaim := { program := "ytlglmpgjljihjaa", sum := "4272fbf70bf6f36841557b5fa9ef0f84e8d6a5cb6265e200b43c6e4a51a25b0e", func := "loop.example/g01279/laws.FnExactFindSound", spec := "fnExactFindSound", unfollowed := true, recurses := true, apart := false }
def FnExactFindSoundSaid : Prop := fnExactFindSoundRow.holds Try.pinned (OpenSpec.ofChange fnExactFindSoundSpec)

/-- ITS FALSE NEIGHBOUR: 'it returns false'. Refute it at one input. -/
def fnExactFindSoundWrong : ChangeSpec := { name := "fnExactFindSound", fn := fun _ => fun
  | [d1, d2] => { results := [.lit (.bool false)], args := [d1, d2] }
  | _ => none }
def FnExactFindSoundWrongFalsely : Prop := fnExactFindSoundRow.holds Try.pinned (OpenSpec.ofChange fnExactFindSoundWrong)

/-- 'laws.FnExactAreasOfPredictor': WHATEVER THE INPUT: true; the input reads as it did. -/
def fnExactAreasOfPredictorSpec : ChangeSpec := { name := "fnExactAreasOfPredictor", fn := fun _ => fun
  | [d1, d2] => { results := [.lit (.bool true)], args := [d1, d2] }
  | _ => none }
def fnExactAreasOfPredictorRow : OpenClaim := { program := "ytlglmpgjljihjaa", sum := "4272fbf70bf6f36841557b5fa9ef0f84e8d6a5cb6265e200b43c6e4a51a25b0e", func := "loop.example/g01279/laws.FnExactAreasOfPredictor", spec := "fnExactAreasOfPredictor", apart := false }
def FnExactAreasOfPredictorSaid : Prop := fnExactAreasOfPredictorRow.holds Try.pinned (OpenSpec.ofChange fnExactAreasOfPredictorSpec)

/-- ITS FALSE NEIGHBOUR: 'it returns false'. Refute it at one input. -/
def fnExactAreasOfPredictorWrong : ChangeSpec := { name := "fnExactAreasOfPredictor", fn := fun _ => fun
  | [d1, d2] => { results := [.lit (.bool false)], args := [d1, d2] }
  | _ => none }
def FnExactAreasOfPredictorWrongFalsely : Prop := fnExactAreasOfPredictorRow.holds Try.pinned (OpenSpec.ofChange fnExactAreasOfPredictorWrong)

/-- 'laws.FnExactFrameOf': WHATEVER THE INPUT: true; the input reads as it did. -/
def fnExactFrameOfSpec : ChangeSpec := { name := "fnExactFrameOf", fn := fun _ => fun
  | [d1, d2] => { results := [.lit (.bool true)], args := [d1, d2] }
  | _ => none }
def fnExactFrameOfRow : OpenClaim := { program := "ytlglmpgjljihjaa", sum := "4272fbf70bf6f36841557b5fa9ef0f84e8d6a5cb6265e200b43c6e4a51a25b0e", func := "loop.example/g01279/laws.FnExactFrameOf", spec := "fnExactFrameOf", unfollowed := true, recurses := true, apart := false }
def FnExactFrameOfSaid : Prop := fnExactFrameOfRow.holds Try.pinned (OpenSpec.ofChange fnExactFrameOfSpec)

/-- ITS FALSE NEIGHBOUR: 'it returns false'. Refute it at one input. -/
def fnExactFrameOfWrong : ChangeSpec := { name := "fnExactFrameOf", fn := fun _ => fun
  | [d1, d2] => { results := [.lit (.bool false)], args := [d1, d2] }
  | _ => none }
def FnExactFrameOfWrongFalsely : Prop := fnExactFrameOfRow.holds Try.pinned (OpenSpec.ofChange fnExactFrameOfWrong)

/-- 'laws.FnExactSwaysOf': WHATEVER THE INPUT: true; the input reads as it did. -/
def fnExactSwaysOfSpec : ChangeSpec := { name := "fnExactSwaysOf", fn := fun _ => fun
  | [d] => { results := [.lit (.bool true)], args := [d] }
  | _ => none }
def fnExactSwaysOfRow : OpenClaim := { program := "ytlglmpgjljihjaa", sum := "4272fbf70bf6f36841557b5fa9ef0f84e8d6a5cb6265e200b43c6e4a51a25b0e", func := "loop.example/g01279/laws.FnExactSwaysOf", spec := "fnExactSwaysOf", inPlace := ["math.Float64bits", "math.Float64frombits"], unfollowed := true, recurses := true, apart := false }
def FnExactSwaysOfSaid : Prop := fnExactSwaysOfRow.holds Try.pinned (OpenSpec.ofChange fnExactSwaysOfSpec)

/-- ITS FALSE NEIGHBOUR: 'it returns false'. Refute it at one input. -/
def fnExactSwaysOfWrong : ChangeSpec := { name := "fnExactSwaysOf", fn := fun _ => fun
  | [d] => { results := [.lit (.bool false)], args := [d] }
  | _ => none }
def FnExactSwaysOfWrongFalsely : Prop := fnExactSwaysOfRow.holds Try.pinned (OpenSpec.ofChange fnExactSwaysOfWrong)

/-- 'laws.FnExactLoudFrames': WHATEVER THE INPUT: true; the input reads as it did. -/
def fnExactLoudFramesSpec : ChangeSpec := { name := "fnExactLoudFrames", fn := fun _ => fun
  | [d1, d2, d3] => { results := [.lit (.bool true)], args := [d1, d2, d3] }
  | _ => none }
def fnExactLoudFramesRow : OpenClaim := { program := "ytlglmpgjljihjaa", sum := "4272fbf70bf6f36841557b5fa9ef0f84e8d6a5cb6265e200b43c6e4a51a25b0e", func := "loop.example/g01279/laws.FnExactLoudFrames", spec := "fnExactLoudFrames", inPlace := ["math.sqrt"], apart := false }
def FnExactLoudFramesSaid : Prop := fnExactLoudFramesRow.holds Try.pinned (OpenSpec.ofChange fnExactLoudFramesSpec)

/-- ITS FALSE NEIGHBOUR: 'it returns false'. Refute it at one input. -/
def fnExactLoudFramesWrong : ChangeSpec := { name := "fnExactLoudFrames", fn := fun _ => fun
  | [d1, d2, d3] => { results := [.lit (.bool false)], args := [d1, d2, d3] }
  | _ => none }
def FnExactLoudFramesWrongFalsely : Prop := fnExactLoudFramesRow.holds Try.pinned (OpenSpec.ofChange fnExactLoudFramesWrong)

/-- 'laws.FnExactSpectrumOf': WHATEVER THE INPUT: true; the input reads as it did. -/
def fnExactSpectrumOfSpec : ChangeSpec := { name := "fnExactSpectrumOf", fn := fun _ => fun
  | [d1, d2] => { results := [.lit (.bool true)], args := [d1, d2] }
  | _ => none }
def fnExactSpectrumOfRow : OpenClaim := { program := "ytlglmpgjljihjaa", sum := "4272fbf70bf6f36841557b5fa9ef0f84e8d6a5cb6265e200b43c6e4a51a25b0e", func := "loop.example/g01279/laws.FnExactSpectrumOf", spec := "fnExactSpectrumOf", inPlace := ["math.Float32frombits", "math.Float64frombits"], apart := false }
def FnExactSpectrumOfSaid : Prop := fnExactSpectrumOfRow.holds Try.pinned (OpenSpec.ofChange fnExactSpectrumOfSpec)

/-- ITS FALSE NEIGHBOUR: 'it returns false'. Refute it at one input. -/
def fnExactSpectrumOfWrong : ChangeSpec := { name := "fnExactSpectrumOf", fn := fun _ => fun
  | [d1, d2] => { results := [.lit (.bool false)], args := [d1, d2] }
  | _ => none }
def FnExactSpectrumOfWrongFalsely : Prop := fnExactSpectrumOfRow.holds Try.pinned (OpenSpec.ofChange fnExactSpectrumOfWrong)

/-- 'laws.FnExactWorstCoded': WHATEVER THE INPUT: true; the input reads as it did. -/
def fnExactWorstCodedSpec : ChangeSpec := { name := "fnExactWorstCoded", fn := fun _ => fun
  | [d] => { results := [.lit (.bool true)], args := [d] }
  | _ => none }
def fnExactWorstCodedRow : OpenClaim := { program := "ytlglmpgjljihjaa", sum := "4272fbf70bf6f36841557b5fa9ef0f84e8d6a5cb6265e200b43c6e4a51a25b0e", func := "loop.example/g01279/laws.FnExactWorstCoded", spec := "fnExactWorstCoded", inPlace := ["math.Float64frombits", "math.Float64bits", "math.RoundToEven"], apart := false }
def FnExactWorstCodedSaid : Prop := fnExactWorstCodedRow.holds Try.pinned (OpenSpec.ofChange fnExactWorstCodedSpec)

/-- ITS FALSE NEIGHBOUR: 'it returns false'. Refute it at one input. -/
def fnExactWorstCodedWrong : ChangeSpec := { name := "fnExactWorstCoded", fn := fun _ => fun
  | [d] => { results := [.lit (.bool false)], args := [d] }
  | _ => none }
def FnExactWorstCodedWrongFalsely : Prop := fnExactWorstCodedRow.holds Try.pinned (OpenSpec.ofChange fnExactWorstCodedWrong)

/- THE SECOND FORM. 'bulk': how many values and letters a reading holds, each counted each time it is reached (what is shared counts as often as it is met; a slice's spare places count too). A statement '..UptoSaid' is the law's where the arguments, and the package variables that the reading takes, are together of bulk at most 1048576: NARROWER than '..Said'. Prove '..Said' where nothing that the law and all that it calls make is longer than what came in: it says more and counts as full. Else prove '..UptoSaid'. A law counts once. -/
mutual
def uptoBulk {H : Type} : DataW H → Nat
  | .lit (.string bytes) => bytes.length + 1
  | .lit _ => 1
  | .nil => 1
  | .ptr d => uptoBulk d + 1
  | .slice elems spare => uptoBulkAll elems + uptoBulkAll spare + 1
  | .agg parts => uptoBulkAll parts + 1
  | .iface _ d => uptoBulk d + 1
  | .map entries => uptoBulkEntries entries + 1
  | .held _ => 1
def uptoBulkAll {H : Type} : List (DataW H) → Nat
  | [] => 0
  | d :: r => uptoBulk d + uptoBulkAll r
def uptoBulkEntries {H : Type} : List (Lit × DataW H) → Nat
  | [] => 0
  | x :: r => uptoBulkEntry x + uptoBulkEntries r
def uptoBulkEntry {H : Type} : Lit × DataW H → Nat
  | (.string bytes, d) => bytes.length + uptoBulk d + 1
  | (_, d) => uptoBulk d + 1
 end
def uptoSmall : (H : Type) → List (DataW H) → Bool := fun _ ds => decide (uptoBulkAll ds ≤ 1048576)
def OpenSpec.upto (s : _root_.Go.ChangeSpec) : _root_.Go.OpenSpec := { _root_.Go.OpenSpec.ofChange s with cond := some uptoSmall }

/-- 'laws.FnExactPitchAt', WHERE WHAT IT READS IS OF BULK AT MOST 1048576: true; the input reads as it did. -/
def fnExactPitchAtUptoRow : OpenClaim := { program := "ytlglmpgjljihjaa", sum := "4272fbf70bf6f36841557b5fa9ef0f84e8d6a5cb6265e200b43c6e4a51a25b0e", func := "loop.example/g01279/laws.FnExactPitchAt", spec := "fnExactPitchAt", unfollowed := true, recurses := true, apart := false, narrowed := true }
def FnExactPitchAtUptoSaid : Prop := fnExactPitchAtUptoRow.holds Try.pinned (OpenSpec.upto fnExactPitchAtSpec)

/-- 'laws.FnExactCodeSound', WHERE WHAT IT READS IS OF BULK AT MOST 1048576: true; the input reads as it did. -/
def fnExactCodeSoundUptoRow : OpenClaim := { program := "ytlglmpgjljihjaa", sum := "4272fbf70bf6f36841557b5fa9ef0f84e8d6a5cb6265e200b43c6e4a51a25b0e", func := "loop.example/g01279/laws.FnExactCodeSound", spec := "fnExactCodeSound", inPlace := ["math.Float64frombits", "math.Float64bits", "math.RoundToEven"], apart := false, narrowed := true }
def FnExactCodeSoundUptoSaid : Prop := fnExactCodeSoundUptoRow.holds Try.pinned (OpenSpec.upto fnExactCodeSoundSpec)

/-- 'laws.FnExactFindSound', WHERE WHAT IT READS IS OF BULK AT MOST 1048576: true; the input reads as it did. -/
def fnExactFindSoundUptoRow : OpenClaim := { program := "ytlglmpgjljihjaa", sum := "4272fbf70bf6f36841557b5fa9ef0f84e8d6a5cb6265e200b43c6e4a51a25b0e", func := "loop.example/g01279/laws.FnExactFindSound", spec := "fnExactFindSound", unfollowed := true, recurses := true, apart := false, narrowed := true }
def FnExactFindSoundUptoSaid : Prop := fnExactFindSoundUptoRow.holds Try.pinned (OpenSpec.upto fnExactFindSoundSpec)

/-- 'laws.FnExactAreasOfPredictor', WHERE WHAT IT READS IS OF BULK AT MOST 1048576: true; the input reads as it did. -/
def fnExactAreasOfPredictorUptoRow : OpenClaim := { program := "ytlglmpgjljihjaa", sum := "4272fbf70bf6f36841557b5fa9ef0f84e8d6a5cb6265e200b43c6e4a51a25b0e", func := "loop.example/g01279/laws.FnExactAreasOfPredictor", spec := "fnExactAreasOfPredictor", apart := false, narrowed := true }
def FnExactAreasOfPredictorUptoSaid : Prop := fnExactAreasOfPredictorUptoRow.holds Try.pinned (OpenSpec.upto fnExactAreasOfPredictorSpec)

/-- 'laws.FnExactFrameOf', WHERE WHAT IT READS IS OF BULK AT MOST 1048576: true; the input reads as it did. -/
def fnExactFrameOfUptoRow : OpenClaim := { program := "ytlglmpgjljihjaa", sum := "4272fbf70bf6f36841557b5fa9ef0f84e8d6a5cb6265e200b43c6e4a51a25b0e", func := "loop.example/g01279/laws.FnExactFrameOf", spec := "fnExactFrameOf", unfollowed := true, recurses := true, apart := false, narrowed := true }
def FnExactFrameOfUptoSaid : Prop := fnExactFrameOfUptoRow.holds Try.pinned (OpenSpec.upto fnExactFrameOfSpec)

/-- 'laws.FnExactSwaysOf', WHERE WHAT IT READS IS OF BULK AT MOST 1048576: true; the input reads as it did. -/
def fnExactSwaysOfUptoRow : OpenClaim := { program := "ytlglmpgjljihjaa", sum := "4272fbf70bf6f36841557b5fa9ef0f84e8d6a5cb6265e200b43c6e4a51a25b0e", func := "loop.example/g01279/laws.FnExactSwaysOf", spec := "fnExactSwaysOf", inPlace := ["math.Float64bits", "math.Float64frombits"], unfollowed := true, recurses := true, apart := false, narrowed := true }
def FnExactSwaysOfUptoSaid : Prop := fnExactSwaysOfUptoRow.holds Try.pinned (OpenSpec.upto fnExactSwaysOfSpec)

/-- 'laws.FnExactLoudFrames', WHERE WHAT IT READS IS OF BULK AT MOST 1048576: true; the input reads as it did. -/
def fnExactLoudFramesUptoRow : OpenClaim := { program := "ytlglmpgjljihjaa", sum := "4272fbf70bf6f36841557b5fa9ef0f84e8d6a5cb6265e200b43c6e4a51a25b0e", func := "loop.example/g01279/laws.FnExactLoudFrames", spec := "fnExactLoudFrames", inPlace := ["math.sqrt"], apart := false, narrowed := true }
def FnExactLoudFramesUptoSaid : Prop := fnExactLoudFramesUptoRow.holds Try.pinned (OpenSpec.upto fnExactLoudFramesSpec)

/-- 'laws.FnExactSpectrumOf', WHERE WHAT IT READS IS OF BULK AT MOST 1048576: true; the input reads as it did. -/
def fnExactSpectrumOfUptoRow : OpenClaim := { program := "ytlglmpgjljihjaa", sum := "4272fbf70bf6f36841557b5fa9ef0f84e8d6a5cb6265e200b43c6e4a51a25b0e", func := "loop.example/g01279/laws.FnExactSpectrumOf", spec := "fnExactSpectrumOf", inPlace := ["math.Float32frombits", "math.Float64frombits"], apart := false, narrowed := true }
def FnExactSpectrumOfUptoSaid : Prop := fnExactSpectrumOfUptoRow.holds Try.pinned (OpenSpec.upto fnExactSpectrumOfSpec)

/-- 'laws.FnExactWorstCoded', WHERE WHAT IT READS IS OF BULK AT MOST 1048576: true; the input reads as it did. -/
def fnExactWorstCodedUptoRow : OpenClaim := { program := "ytlglmpgjljihjaa", sum := "4272fbf70bf6f36841557b5fa9ef0f84e8d6a5cb6265e200b43c6e4a51a25b0e", func := "loop.example/g01279/laws.FnExactWorstCoded", spec := "fnExactWorstCoded", inPlace := ["math.Float64frombits", "math.Float64bits", "math.RoundToEven"], apart := false, narrowed := true }
def FnExactWorstCodedUptoSaid : Prop := fnExactWorstCodedUptoRow.holds Try.pinned (OpenSpec.upto fnExactWorstCodedSpec)

end Rows
end Go.Proofs.Ytlglmpgjljihjaa
