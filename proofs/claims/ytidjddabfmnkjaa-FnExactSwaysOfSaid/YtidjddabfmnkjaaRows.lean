/-
  No cell of these rows narrows 'for every input' (looked for: loops, veiled, ifaces, maps, wideKeys, modest, calm, conditions, laid).
  DERIVED. THE GIVEN ROWS OF THIS SEAT. 12 by the template 'for every input the law returns true; each argument reads behind the call as it read before'; 0 by the template 'total and deterministic' (their statements: YtidjddabfmnkjaaTotals.lean).
  GIVEN WITH THE SEED: the statements are not yours to turn. If you find one false, say at which input.
  Laid BY PROGRAM, IN A SANDBOX (cutbox-rows.mjs): the forced cells as the released guide's own fill.sh prints them over the translation 3cee37e1dde20cd0… (all of the seat's roots in one cut). By AI agents, Wed Nov 11 2026. No macro, syntax, notation, axiom, sorry.
-/
import Derived.Test.YtidjddabfmnkjaaChecked
import GoSem.Claim
import GoSem.ClaimJoined
import GoSem.ClaimMapViews
import Derived.JoinedTies
import Derived.KernelRfl
namespace Go.Proofs.Ytidjddabfmnkjaa
/- THE CELL 'sum', in the pinned program and in every row, IS THE sha256 OF THE DUMP (.gsa) THAT YtidjddabfmnkjaaProg.lean LOADS. Nothing in Lean hashes anything: it is a label: what it is worth is what the hold of that sum in a sandbox is worth. -/
noncomputable def Try.pinned : Pinned := { name := "ytidjddabfmnkjaa", sum := "3cee37e1dde20cd05a7e496faae31b04a30ec838c0a5bbf5beab50c6fd5cf91d", checked := Try.checked }
namespace Rows
def none {H : Type} : Left H := { results := [], args := [] }

/-- 'laws.FnExactFramesOf': WHATEVER THE INPUT: true; the input reads as it did. -/
def fnExactFramesOfSpec : ChangeSpec := { name := "fnExactFramesOf", fn := fun _ => fun
  | [d1, d2, d3] => { results := [.lit (.bool true)], args := [d1, d2, d3] }
  | _ => none }
def fnExactFramesOfRow : OpenClaim := { program := "ytidjddabfmnkjaa", sum := "3cee37e1dde20cd05a7e496faae31b04a30ec838c0a5bbf5beab50c6fd5cf91d", func := "loop.example/g01279/laws.FnExactFramesOf", spec := "fnExactFramesOf", apart := false }
def FnExactFramesOfSaid : Prop := fnExactFramesOfRow.holds Try.pinned (OpenSpec.ofChange fnExactFramesOfSpec)

/-- ITS FALSE NEIGHBOUR: 'it returns false'. Refute it at one input. -/
def fnExactFramesOfWrong : ChangeSpec := { name := "fnExactFramesOf", fn := fun _ => fun
  | [d1, d2, d3] => { results := [.lit (.bool false)], args := [d1, d2, d3] }
  | _ => none }
def FnExactFramesOfWrongFalsely : Prop := fnExactFramesOfRow.holds Try.pinned (OpenSpec.ofChange fnExactFramesOfWrong)

/-- 'laws.FnExactCodeOf': WHATEVER THE INPUT: true; the input reads as it did. -/
def fnExactCodeOfSpec : ChangeSpec := { name := "fnExactCodeOf", fn := fun _ => fun
  | [d] => { results := [.lit (.bool true)], args := [d] }
  | _ => none }
def fnExactCodeOfRow : OpenClaim := { program := "ytidjddabfmnkjaa", sum := "3cee37e1dde20cd05a7e496faae31b04a30ec838c0a5bbf5beab50c6fd5cf91d", func := "loop.example/g01279/laws.FnExactCodeOf", spec := "fnExactCodeOf", inPlace := ["math.Float64frombits", "math.Float64bits", "math.RoundToEven"], apart := false }
def FnExactCodeOfSaid : Prop := fnExactCodeOfRow.holds Try.pinned (OpenSpec.ofChange fnExactCodeOfSpec)

/-- ITS FALSE NEIGHBOUR: 'it returns false'. Refute it at one input. -/
def fnExactCodeOfWrong : ChangeSpec := { name := "fnExactCodeOf", fn := fun _ => fun
  | [d] => { results := [.lit (.bool false)], args := [d] }
  | _ => none }
def FnExactCodeOfWrongFalsely : Prop := fnExactCodeOfRow.holds Try.pinned (OpenSpec.ofChange fnExactCodeOfWrong)

/-- 'laws.FnExactWindowOf': WHATEVER THE INPUT: true; the input reads as it did. -/
def fnExactWindowOfSpec : ChangeSpec := { name := "fnExactWindowOf", fn := fun _ => fun
  | [d1, d2] => { results := [.lit (.bool true)], args := [d1, d2] }
  | _ => none }
def fnExactWindowOfRow : OpenClaim := { program := "ytidjddabfmnkjaa", sum := "3cee37e1dde20cd05a7e496faae31b04a30ec838c0a5bbf5beab50c6fd5cf91d", func := "loop.example/g01279/laws.FnExactWindowOf", spec := "fnExactWindowOf", inPlace := ["math.Float64frombits"], apart := false }
def FnExactWindowOfSaid : Prop := fnExactWindowOfRow.holds Try.pinned (OpenSpec.ofChange fnExactWindowOfSpec)

/-- ITS FALSE NEIGHBOUR: 'it returns false'. Refute it at one input. -/
def fnExactWindowOfWrong : ChangeSpec := { name := "fnExactWindowOf", fn := fun _ => fun
  | [d1, d2] => { results := [.lit (.bool false)], args := [d1, d2] }
  | _ => none }
def FnExactWindowOfWrongFalsely : Prop := fnExactWindowOfRow.holds Try.pinned (OpenSpec.ofChange fnExactWindowOfWrong)

/-- 'laws.FnExactJoinFrames': WHATEVER THE INPUT: true; the input reads as it did. -/
def fnExactJoinFramesSpec : ChangeSpec := { name := "fnExactJoinFrames", fn := fun _ => fun
  | [d1, d2] => { results := [.lit (.bool true)], args := [d1, d2] }
  | _ => none }
def fnExactJoinFramesRow : OpenClaim := { program := "ytidjddabfmnkjaa", sum := "3cee37e1dde20cd05a7e496faae31b04a30ec838c0a5bbf5beab50c6fd5cf91d", func := "loop.example/g01279/laws.FnExactJoinFrames", spec := "fnExactJoinFrames", apart := false }
def FnExactJoinFramesSaid : Prop := fnExactJoinFramesRow.holds Try.pinned (OpenSpec.ofChange fnExactJoinFramesSpec)

/-- ITS FALSE NEIGHBOUR: 'it returns false'. Refute it at one input. -/
def fnExactJoinFramesWrong : ChangeSpec := { name := "fnExactJoinFrames", fn := fun _ => fun
  | [d1, d2] => { results := [.lit (.bool false)], args := [d1, d2] }
  | _ => none }
def FnExactJoinFramesWrongFalsely : Prop := fnExactJoinFramesRow.holds Try.pinned (OpenSpec.ofChange fnExactJoinFramesWrong)

/-- 'laws.FnExactBandsOf': WHATEVER THE INPUT: true; the input reads as it did. -/
def fnExactBandsOfSpec : ChangeSpec := { name := "fnExactBandsOf", fn := fun _ => fun
  | [d1, d2] => { results := [.lit (.bool true)], args := [d1, d2] }
  | _ => none }
def fnExactBandsOfRow : OpenClaim := { program := "ytidjddabfmnkjaa", sum := "3cee37e1dde20cd05a7e496faae31b04a30ec838c0a5bbf5beab50c6fd5cf91d", func := "loop.example/g01279/laws.FnExactBandsOf", spec := "fnExactBandsOf", unfollowed := true, recurses := true, apart := false }
def FnExactBandsOfSaid : Prop := fnExactBandsOfRow.holds Try.pinned (OpenSpec.ofChange fnExactBandsOfSpec)

/-- ITS FALSE NEIGHBOUR: 'it returns false'. Refute it at one input. -/
def fnExactBandsOfWrong : ChangeSpec := { name := "fnExactBandsOf", fn := fun _ => fun
  | [d1, d2] => { results := [.lit (.bool false)], args := [d1, d2] }
  | _ => none }
def FnExactBandsOfWrongFalsely : Prop := fnExactBandsOfRow.holds Try.pinned (OpenSpec.ofChange fnExactBandsOfWrong)

/-- 'laws.FnExactSameSounds': WHATEVER THE INPUT: true; the input reads as it did. -/
def fnExactSameSoundsSpec : ChangeSpec := { name := "fnExactSameSounds", fn := fun _ => fun
  | [d1, d2] => { results := [.lit (.bool true)], args := [d1, d2] }
  | _ => none }
def fnExactSameSoundsRow : OpenClaim := { program := "ytidjddabfmnkjaa", sum := "3cee37e1dde20cd05a7e496faae31b04a30ec838c0a5bbf5beab50c6fd5cf91d", func := "loop.example/g01279/laws.FnExactSameSounds", spec := "fnExactSameSounds", inPlace := ["math.Float32bits", "math.Float64bits"], unfollowed := true, recurses := true, apart := false }
def FnExactSameSoundsSaid : Prop := fnExactSameSoundsRow.holds Try.pinned (OpenSpec.ofChange fnExactSameSoundsSpec)

/-- ITS FALSE NEIGHBOUR: 'it returns false'. Refute it at one input. -/
def fnExactSameSoundsWrong : ChangeSpec := { name := "fnExactSameSounds", fn := fun _ => fun
  | [d1, d2] => { results := [.lit (.bool false)], args := [d1, d2] }
  | _ => none }
def FnExactSameSoundsWrongFalsely : Prop := fnExactSameSoundsRow.holds Try.pinned (OpenSpec.ofChange fnExactSameSoundsWrong)

/-- 'laws.FnExactAreSounds': WHATEVER THE INPUT: true; the input reads as it did. -/
def fnExactAreSoundsSpec : ChangeSpec := { name := "fnExactAreSounds", fn := fun _ => fun
  | [d] => { results := [.lit (.bool true)], args := [d] }
  | _ => none }
def fnExactAreSoundsRow : OpenClaim := { program := "ytidjddabfmnkjaa", sum := "3cee37e1dde20cd05a7e496faae31b04a30ec838c0a5bbf5beab50c6fd5cf91d", func := "loop.example/g01279/laws.FnExactAreSounds", spec := "fnExactAreSounds", unfollowed := true, recurses := true, apart := false }
def FnExactAreSoundsSaid : Prop := fnExactAreSoundsRow.holds Try.pinned (OpenSpec.ofChange fnExactAreSoundsSpec)

/-- ITS FALSE NEIGHBOUR: 'it returns false'. Refute it at one input. -/
def fnExactAreSoundsWrong : ChangeSpec := { name := "fnExactAreSounds", fn := fun _ => fun
  | [d] => { results := [.lit (.bool false)], args := [d] }
  | _ => none }
def FnExactAreSoundsWrongFalsely : Prop := fnExactAreSoundsRow.holds Try.pinned (OpenSpec.ofChange fnExactAreSoundsWrong)

/-- 'laws.FnExactCodeSound': WHATEVER THE INPUT: true; the input reads as it did. -/
def fnExactCodeSoundSpec : ChangeSpec := { name := "fnExactCodeSound", fn := fun _ => fun
  | [d] => { results := [.lit (.bool true)], args := [d] }
  | _ => none }
def fnExactCodeSoundRow : OpenClaim := { program := "ytidjddabfmnkjaa", sum := "3cee37e1dde20cd05a7e496faae31b04a30ec838c0a5bbf5beab50c6fd5cf91d", func := "loop.example/g01279/laws.FnExactCodeSound", spec := "fnExactCodeSound", inPlace := ["math.Float64frombits", "math.Float64bits", "math.RoundToEven"], apart := false }
def FnExactCodeSoundSaid : Prop := fnExactCodeSoundRow.holds Try.pinned (OpenSpec.ofChange fnExactCodeSoundSpec)

/-- ITS FALSE NEIGHBOUR: 'it returns false'. Refute it at one input. -/
def fnExactCodeSoundWrong : ChangeSpec := { name := "fnExactCodeSound", fn := fun _ => fun
  | [d] => { results := [.lit (.bool false)], args := [d] }
  | _ => none }
def FnExactCodeSoundWrongFalsely : Prop := fnExactCodeSoundRow.holds Try.pinned (OpenSpec.ofChange fnExactCodeSoundWrong)

/-- 'laws.FnExactFindSound': WHATEVER THE INPUT: true; the input reads as it did. -/
def fnExactFindSoundSpec : ChangeSpec := { name := "fnExactFindSound", fn := fun _ => fun
  | [d1, d2] => { results := [.lit (.bool true)], args := [d1, d2] }
  | _ => none }
def fnExactFindSoundRow : OpenClaim := { program := "ytidjddabfmnkjaa", sum := "3cee37e1dde20cd05a7e496faae31b04a30ec838c0a5bbf5beab50c6fd5cf91d", func := "loop.example/g01279/laws.FnExactFindSound", spec := "fnExactFindSound", unfollowed := true, recurses := true, apart := false }
def FnExactFindSoundSaid : Prop := fnExactFindSoundRow.holds Try.pinned (OpenSpec.ofChange fnExactFindSoundSpec)

/-- ITS FALSE NEIGHBOUR: 'it returns false'. Refute it at one input. -/
def fnExactFindSoundWrong : ChangeSpec := { name := "fnExactFindSound", fn := fun _ => fun
  | [d1, d2] => { results := [.lit (.bool false)], args := [d1, d2] }
  | _ => none }
def FnExactFindSoundWrongFalsely : Prop := fnExactFindSoundRow.holds Try.pinned (OpenSpec.ofChange fnExactFindSoundWrong)

/-- 'laws.FnExactSwaysOf': WHATEVER THE INPUT: true; the input reads as it did. -/
def fnExactSwaysOfSpec : ChangeSpec := { name := "fnExactSwaysOf", fn := fun _ => fun
  | [d] => { results := [.lit (.bool true)], args := [d] }
  | _ => none }
def fnExactSwaysOfRow : OpenClaim := { program := "ytidjddabfmnkjaa", sum := "3cee37e1dde20cd05a7e496faae31b04a30ec838c0a5bbf5beab50c6fd5cf91d", func := "loop.example/g01279/laws.FnExactSwaysOf", spec := "fnExactSwaysOf", inPlace := ["math.Float64bits", "math.Float64frombits"], unfollowed := true, recurses := true, apart := false }
def FnExactSwaysOfSaid : Prop := fnExactSwaysOfRow.holds Try.pinned (OpenSpec.ofChange fnExactSwaysOfSpec)

/-- ITS FALSE NEIGHBOUR: 'it returns false'. Refute it at one input. -/
def fnExactSwaysOfWrong : ChangeSpec := { name := "fnExactSwaysOf", fn := fun _ => fun
  | [d] => { results := [.lit (.bool false)], args := [d] }
  | _ => none }
def FnExactSwaysOfWrongFalsely : Prop := fnExactSwaysOfRow.holds Try.pinned (OpenSpec.ofChange fnExactSwaysOfWrong)

/-- 'laws.FnExactLoudFrames': WHATEVER THE INPUT: true; the input reads as it did. -/
def fnExactLoudFramesSpec : ChangeSpec := { name := "fnExactLoudFrames", fn := fun _ => fun
  | [d1, d2, d3] => { results := [.lit (.bool true)], args := [d1, d2, d3] }
  | _ => none }
def fnExactLoudFramesRow : OpenClaim := { program := "ytidjddabfmnkjaa", sum := "3cee37e1dde20cd05a7e496faae31b04a30ec838c0a5bbf5beab50c6fd5cf91d", func := "loop.example/g01279/laws.FnExactLoudFrames", spec := "fnExactLoudFrames", inPlace := ["math.sqrt"], apart := false }
def FnExactLoudFramesSaid : Prop := fnExactLoudFramesRow.holds Try.pinned (OpenSpec.ofChange fnExactLoudFramesSpec)

/-- ITS FALSE NEIGHBOUR: 'it returns false'. Refute it at one input. -/
def fnExactLoudFramesWrong : ChangeSpec := { name := "fnExactLoudFrames", fn := fun _ => fun
  | [d1, d2, d3] => { results := [.lit (.bool false)], args := [d1, d2, d3] }
  | _ => none }
def FnExactLoudFramesWrongFalsely : Prop := fnExactLoudFramesRow.holds Try.pinned (OpenSpec.ofChange fnExactLoudFramesWrong)

/-- 'laws.FnExactWorstCoded': WHATEVER THE INPUT: true; the input reads as it did. -/
def fnExactWorstCodedSpec : ChangeSpec := { name := "fnExactWorstCoded", fn := fun _ => fun
  | [d] => { results := [.lit (.bool true)], args := [d] }
  | _ => none }
def fnExactWorstCodedRow : OpenClaim := { program := "ytidjddabfmnkjaa", sum := "3cee37e1dde20cd05a7e496faae31b04a30ec838c0a5bbf5beab50c6fd5cf91d", func := "loop.example/g01279/laws.FnExactWorstCoded", spec := "fnExactWorstCoded", inPlace := ["math.Float64frombits", "math.Float64bits", "math.RoundToEven"], apart := false }
def FnExactWorstCodedSaid : Prop := fnExactWorstCodedRow.holds Try.pinned (OpenSpec.ofChange fnExactWorstCodedSpec)

/-- ITS FALSE NEIGHBOUR: 'it returns false'. Refute it at one input. -/
def fnExactWorstCodedWrong : ChangeSpec := { name := "fnExactWorstCoded", fn := fun _ => fun
  | [d] => { results := [.lit (.bool false)], args := [d] }
  | _ => none }
def FnExactWorstCodedWrongFalsely : Prop := fnExactWorstCodedRow.holds Try.pinned (OpenSpec.ofChange fnExactWorstCodedWrong)

/- THE SECOND FORM. 'bulk': how many values and letters a reading holds, each counted each time it is reached (what is shared counts as often as it is met; a slice's spare places count too). A statement '..UptoSaid' is the law's where the arguments, and the package variables that the reading takes, are together of bulk at most 1048576: NARROWER than '..Said'. Prove '..Said' where nothing that the law and all that it calls make is longer than what came in: it says more and counts as full. Else prove '..UptoSaid'. A law counts once. -/
mutual
def uptoBulk {H : Type} : DataW H → Nat
  | .lit (.string bytes) => bytes.length + 1
  | .lit _ => 1
  | .nil => 1
  | .ptr d => uptoBulk d + 1
  | .slice elems spare => uptoBulkAll elems + uptoBulkAll spare + 1
  | .agg parts => uptoBulkAll parts + 1
  | .iface _ d => uptoBulk d + 1
  | .map entries => uptoBulkEntries entries + 1
  | .held _ => 1
def uptoBulkAll {H : Type} : List (DataW H) → Nat
  | [] => 0
  | d :: r => uptoBulk d + uptoBulkAll r
def uptoBulkEntries {H : Type} : List (Lit × DataW H) → Nat
  | [] => 0
  | x :: r => uptoBulkEntry x + uptoBulkEntries r
def uptoBulkEntry {H : Type} : Lit × DataW H → Nat
  | (.string bytes, d) => bytes.length + uptoBulk d + 1
  | (_, d) => uptoBulk d + 1
 end
def uptoSmall : (H : Type) → List (DataW H) → Bool := fun _ ds => decide (uptoBulkAll ds ≤ 1048576)
def OpenSpec.upto (s : _root_.Go.ChangeSpec) : _root_.Go.OpenSpec := { _root_.Go.OpenSpec.ofChange s with cond := some uptoSmall }

/-- 'laws.FnExactFramesOf', WHERE WHAT IT READS IS OF BULK AT MOST 1048576: true; the input reads as it did. -/
def fnExactFramesOfUptoRow : OpenClaim := { program := "ytidjddabfmnkjaa", sum := "3cee37e1dde20cd05a7e496faae31b04a30ec838c0a5bbf5beab50c6fd5cf91d", func := "loop.example/g01279/laws.FnExactFramesOf", spec := "fnExactFramesOf", apart := false, narrowed := true }
def FnExactFramesOfUptoSaid : Prop := fnExactFramesOfUptoRow.holds Try.pinned (OpenSpec.upto fnExactFramesOfSpec)

/-- 'laws.FnExactCodeOf', WHERE WHAT IT READS IS OF BULK AT MOST 1048576: true; the input reads as it did. -/
def fnExactCodeOfUptoRow : OpenClaim := { program := "ytidjddabfmnkjaa", sum := "3cee37e1dde20cd05a7e496faae31b04a30ec838c0a5bbf5beab50c6fd5cf91d", func := "loop.example/g01279/laws.FnExactCodeOf", spec := "fnExactCodeOf", inPlace := ["math.Float64frombits", "math.Float64bits", "math.RoundToEven"], apart := false, narrowed := true }
def FnExactCodeOfUptoSaid : Prop := fnExactCodeOfUptoRow.holds Try.pinned (OpenSpec.upto fnExactCodeOfSpec)

/-- 'laws.FnExactWindowOf', WHERE WHAT IT READS IS OF BULK AT MOST 1048576: true; the input reads as it did. -/
def fnExactWindowOfUptoRow : OpenClaim := { program := "ytidjddabfmnkjaa", sum := "3cee37e1dde20cd05a7e496faae31b04a30ec838c0a5bbf5beab50c6fd5cf91d", func := "loop.example/g01279/laws.FnExactWindowOf", spec := "fnExactWindowOf", inPlace := ["math.Float64frombits"], apart := false, narrowed := true }
def FnExactWindowOfUptoSaid : Prop := fnExactWindowOfUptoRow.holds Try.pinned (OpenSpec.upto fnExactWindowOfSpec)

/-- 'laws.FnExactJoinFrames', WHERE WHAT IT READS IS OF BULK AT MOST 1048576: true; the input reads as it did. -/
def fnExactJoinFramesUptoRow : OpenClaim := { program := "ytidjddabfmnkjaa", sum := "3cee37e1dde20cd05a7e496faae31b04a30ec838c0a5bbf5beab50c6fd5cf91d", func := "loop.example/g01279/laws.FnExactJoinFrames", spec := "fnExactJoinFrames", apart := false, narrowed := true }
def FnExactJoinFramesUptoSaid : Prop := fnExactJoinFramesUptoRow.holds Try.pinned (OpenSpec.upto fnExactJoinFramesSpec)

/-- 'laws.FnExactBandsOf', WHERE WHAT IT READS IS OF BULK AT MOST 1048576: true; the input reads as it did. -/
def fnExactBandsOfUptoRow : OpenClaim := { program := "ytidjddabfmnkjaa", sum := "3cee37e1dde20cd05a7e496faae31b04a30ec838c0a5bbf5beab50c6fd5cf91d", func := "loop.example/g01279/laws.FnExactBandsOf", spec := "fnExactBandsOf", unfollowed := true, recurses := true, apart := false, narrowed := true }
def FnExactBandsOfUptoSaid : Prop := fnExactBandsOfUptoRow.holds Try.pinned (OpenSpec.upto fnExactBandsOfSpec)

/-- 'laws.FnExactSameSounds', WHERE WHAT IT READS IS OF BULK AT MOST 1048576: true; the input reads as it did. -/
def fnExactSameSoundsUptoRow : OpenClaim := { program := "ytidjddabfmnkjaa", sum := "3cee37e1dde20cd05a7e496faae31b04a30ec838c0a5bbf5beab50c6fd5cf91d", func := "loop.example/g01279/laws.FnExactSameSounds", spec := "fnExactSameSounds", inPlace := ["math.Float32bits", "math.Float64bits"], unfollowed := true, recurses := true, apart := false, narrowed := true }
def FnExactSameSoundsUptoSaid : Prop := fnExactSameSoundsUptoRow.holds Try.pinned (OpenSpec.upto fnExactSameSoundsSpec)

/-- 'laws.FnExactAreSounds', WHERE WHAT IT READS IS OF BULK AT MOST 1048576: true; the input reads as it did. -/
def fnExactAreSoundsUptoRow : OpenClaim := { program := "ytidjddabfmnkjaa", sum := "3cee37e1dde20cd05a7e496faae31b04a30ec838c0a5bbf5beab50c6fd5cf91d", func := "loop.example/g01279/laws.FnExactAreSounds", spec := "fnExactAreSounds", unfollowed := true, recurses := true, apart := false, narrowed := true }
def FnExactAreSoundsUptoSaid : Prop := fnExactAreSoundsUptoRow.holds Try.pinned (OpenSpec.upto fnExactAreSoundsSpec)

/-- 'laws.FnExactCodeSound', WHERE WHAT IT READS IS OF BULK AT MOST 1048576: true; the input reads as it did. -/
def fnExactCodeSoundUptoRow : OpenClaim := { program := "ytidjddabfmnkjaa", sum := "3cee37e1dde20cd05a7e496faae31b04a30ec838c0a5bbf5beab50c6fd5cf91d", func := "loop.example/g01279/laws.FnExactCodeSound", spec := "fnExactCodeSound", inPlace := ["math.Float64frombits", "math.Float64bits", "math.RoundToEven"], apart := false, narrowed := true }
def FnExactCodeSoundUptoSaid : Prop := fnExactCodeSoundUptoRow.holds Try.pinned (OpenSpec.upto fnExactCodeSoundSpec)

/-- 'laws.FnExactFindSound', WHERE WHAT IT READS IS OF BULK AT MOST 1048576: true; the input reads as it did. -/
def fnExactFindSoundUptoRow : OpenClaim := { program := "ytidjddabfmnkjaa", sum := "3cee37e1dde20cd05a7e496faae31b04a30ec838c0a5bbf5beab50c6fd5cf91d", func := "loop.example/g01279/laws.FnExactFindSound", spec := "fnExactFindSound", unfollowed := true, recurses := true, apart := false, narrowed := true }
def FnExactFindSoundUptoSaid : Prop := fnExactFindSoundUptoRow.holds Try.pinned (OpenSpec.upto fnExactFindSoundSpec)

/-- 'laws.FnExactSwaysOf', WHERE WHAT IT READS IS OF BULK AT MOST 1048576: true; the input reads as it did. -/
def fnExactSwaysOfUptoRow : OpenClaim := { program := "ytidjddabfmnkjaa", sum := "3cee37e1dde20cd05a7e496faae31b04a30ec838c0a5bbf5beab50c6fd5cf91d", func := "loop.example/g01279/laws.FnExactSwaysOf", spec := "fnExactSwaysOf", inPlace := ["math.Float64bits", "math.Float64frombits"], unfollowed := true, recurses := true, apart := false, narrowed := true }
def FnExactSwaysOfUptoSaid : Prop := fnExactSwaysOfUptoRow.holds Try.pinned (OpenSpec.upto fnExactSwaysOfSpec)

/-- 'laws.FnExactLoudFrames', WHERE WHAT IT READS IS OF BULK AT MOST 1048576: true; the input reads as it did. -/
def fnExactLoudFramesUptoRow : OpenClaim := { program := "ytidjddabfmnkjaa", sum := "3cee37e1dde20cd05a7e496faae31b04a30ec838c0a5bbf5beab50c6fd5cf91d", func := "loop.example/g01279/laws.FnExactLoudFrames", spec := "fnExactLoudFrames", inPlace := ["math.sqrt"], apart := false, narrowed := true }
def FnExactLoudFramesUptoSaid : Prop := fnExactLoudFramesUptoRow.holds Try.pinned (OpenSpec.upto fnExactLoudFramesSpec)

/-- 'laws.FnExactWorstCoded', WHERE WHAT IT READS IS OF BULK AT MOST 1048576: true; the input reads as it did. -/
def fnExactWorstCodedUptoRow : OpenClaim := { program := "ytidjddabfmnkjaa", sum := "3cee37e1dde20cd05a7e496faae31b04a30ec838c0a5bbf5beab50c6fd5cf91d", func := "loop.example/g01279/laws.FnExactWorstCoded", spec := "fnExactWorstCoded", inPlace := ["math.Float64frombits", "math.Float64bits", "math.RoundToEven"], apart := false, narrowed := true }
def FnExactWorstCodedUptoSaid : Prop := fnExactWorstCodedUptoRow.holds Try.pinned (OpenSpec.upto fnExactWorstCodedSpec)

end Rows
end Go.Proofs.Ytidjddabfmnkjaa
