/-
  No cell of these rows narrows 'for every input' (looked for: loops, veiled, ifaces, maps, wideKeys, modest, calm, conditions, laid).
  DERIVED. THE GIVEN ROWS OF THIS SEAT. 12 by the template 'for every input the law returns true; each argument reads behind the call as it read before'; 0 by the template 'total and deterministic' (their statements: YtkdofkdicggmdaaTotals.lean).
  GIVEN WITH THE SEED: the statements are not yours to turn. If you find one false, say at which input.
  Laid BY PROGRAM, IN A SANDBOX (cutbox-rows.mjs): the forced cells as the released guide's own fill.sh prints them over the translation 72607a73750934f7… (all of the seat's roots in one cut). By AI agents, Wed Nov 11 2026. No macro, syntax, notation, axiom, sorry.
-/
import Derived.Test.YtkdofkdicggmdaaChecked
import GoSem.Claim
import GoSem.ClaimJoined
import GoSem.ClaimMapViews
import Derived.JoinedTies
import Derived.KernelRfl
namespace Go.Proofs.Ytkdofkdicggmdaa
/- THE CELL 'sum', in the pinned program and in every row, IS THE sha256 OF THE DUMP (.gsa) THAT YtkdofkdicggmdaaProg.lean LOADS. Nothing in Lean hashes anything: it is a label: what it is worth is what the hold of that sum in a sandbox is worth. -/
noncomputable def Try.pinned : Pinned := { name := "ytkdofkdicggmdaa", sum := "72607a73750934f77b2aaaeab9b8bf5f5e8597cb0d5063e0dde0a3f4ffb0047f", checked := Try.checked }
namespace Rows
def none {H : Type} : Left H := { results := [], args := [] }

/-- 'laws.FnExactRampAt': WHATEVER THE INPUT: true; the input reads as it did. -/
def fnExactRampAtSpec : ChangeSpec := { name := "fnExactRampAt", fn := fun _ => fun
  | [d] => { results := [.lit (.bool true)], args := [d] }
  | _ => none }
def fnExactRampAtRow : OpenClaim := { program := "ytkdofkdicggmdaa", sum := "72607a73750934f77b2aaaeab9b8bf5f5e8597cb0d5063e0dde0a3f4ffb0047f", func := "loop.example/g01279/laws.FnExactRampAt", spec := "fnExactRampAt", apart := false }
def FnExactRampAtSaid : Prop := fnExactRampAtRow.holds Try.pinned (OpenSpec.ofChange fnExactRampAtSpec)

/-- ITS FALSE NEIGHBOUR: 'it returns false'. Refute it at one input. -/
def fnExactRampAtWrong : ChangeSpec := { name := "fnExactRampAt", fn := fun _ => fun
  | [d] => { results := [.lit (.bool false)], args := [d] }
  | _ => none }
def FnExactRampAtWrongFalsely : Prop := fnExactRampAtRow.holds Try.pinned (OpenSpec.ofChange fnExactRampAtWrong)

/-- 'laws.FnExactBumpAt': WHATEVER THE INPUT: true; the input reads as it did. -/
def fnExactBumpAtSpec : ChangeSpec := { name := "fnExactBumpAt", fn := fun _ => fun
  | [d1, d2] => { results := [.lit (.bool true)], args := [d1, d2] }
  | _ => none }
def fnExactBumpAtRow : OpenClaim := { program := "ytkdofkdicggmdaa", sum := "72607a73750934f77b2aaaeab9b8bf5f5e8597cb0d5063e0dde0a3f4ffb0047f", func := "loop.example/g01279/laws.FnExactBumpAt", spec := "fnExactBumpAt", apart := false }
def FnExactBumpAtSaid : Prop := fnExactBumpAtRow.holds Try.pinned (OpenSpec.ofChange fnExactBumpAtSpec)

/-- ITS FALSE NEIGHBOUR: 'it returns false'. Refute it at one input. -/
def fnExactBumpAtWrong : ChangeSpec := { name := "fnExactBumpAt", fn := fun _ => fun
  | [d1, d2] => { results := [.lit (.bool false)], args := [d1, d2] }
  | _ => none }
def FnExactBumpAtWrongFalsely : Prop := fnExactBumpAtRow.holds Try.pinned (OpenSpec.ofChange fnExactBumpAtWrong)

/-- 'laws.FnExactCrossingsOf': WHATEVER THE INPUT: true; the input reads as it did. -/
def fnExactCrossingsOfSpec : ChangeSpec := { name := "fnExactCrossingsOf", fn := fun _ => fun
  | [d] => { results := [.lit (.bool true)], args := [d] }
  | _ => none }
def fnExactCrossingsOfRow : OpenClaim := { program := "ytkdofkdicggmdaa", sum := "72607a73750934f77b2aaaeab9b8bf5f5e8597cb0d5063e0dde0a3f4ffb0047f", func := "loop.example/g01279/laws.FnExactCrossingsOf", spec := "fnExactCrossingsOf", apart := false }
def FnExactCrossingsOfSaid : Prop := fnExactCrossingsOfRow.holds Try.pinned (OpenSpec.ofChange fnExactCrossingsOfSpec)

/-- ITS FALSE NEIGHBOUR: 'it returns false'. Refute it at one input. -/
def fnExactCrossingsOfWrong : ChangeSpec := { name := "fnExactCrossingsOf", fn := fun _ => fun
  | [d] => { results := [.lit (.bool false)], args := [d] }
  | _ => none }
def FnExactCrossingsOfWrongFalsely : Prop := fnExactCrossingsOfRow.holds Try.pinned (OpenSpec.ofChange fnExactCrossingsOfWrong)

/-- 'laws.FnExactFromCode': WHATEVER THE INPUT: true; the input reads as it did. -/
def fnExactFromCodeSpec : ChangeSpec := { name := "fnExactFromCode", fn := fun _ => fun
  | [d] => { results := [.lit (.bool true)], args := [d] }
  | _ => none }
def fnExactFromCodeRow : OpenClaim := { program := "ytkdofkdicggmdaa", sum := "72607a73750934f77b2aaaeab9b8bf5f5e8597cb0d5063e0dde0a3f4ffb0047f", func := "loop.example/g01279/laws.FnExactFromCode", spec := "fnExactFromCode", inPlace := ["math.Float64frombits"], apart := false }
def FnExactFromCodeSaid : Prop := fnExactFromCodeRow.holds Try.pinned (OpenSpec.ofChange fnExactFromCodeSpec)

/-- ITS FALSE NEIGHBOUR: 'it returns false'. Refute it at one input. -/
def fnExactFromCodeWrong : ChangeSpec := { name := "fnExactFromCode", fn := fun _ => fun
  | [d] => { results := [.lit (.bool false)], args := [d] }
  | _ => none }
def FnExactFromCodeWrongFalsely : Prop := fnExactFromCodeRow.holds Try.pinned (OpenSpec.ofChange fnExactFromCodeWrong)

/-- 'laws.FnExactCentreOfPowers': WHATEVER THE INPUT: true; the input reads as it did. -/
def fnExactCentreOfPowersSpec : ChangeSpec := { name := "fnExactCentreOfPowers", fn := fun _ => fun
  | [d] => { results := [.lit (.bool true)], args := [d] }
  | _ => none }
def fnExactCentreOfPowersRow : OpenClaim := { program := "ytkdofkdicggmdaa", sum := "72607a73750934f77b2aaaeab9b8bf5f5e8597cb0d5063e0dde0a3f4ffb0047f", func := "loop.example/g01279/laws.FnExactCentreOfPowers", spec := "fnExactCentreOfPowers", unfollowed := true, recurses := true, apart := false }
def FnExactCentreOfPowersSaid : Prop := fnExactCentreOfPowersRow.holds Try.pinned (OpenSpec.ofChange fnExactCentreOfPowersSpec)

/-- ITS FALSE NEIGHBOUR: 'it returns false'. Refute it at one input. -/
def fnExactCentreOfPowersWrong : ChangeSpec := { name := "fnExactCentreOfPowers", fn := fun _ => fun
  | [d] => { results := [.lit (.bool false)], args := [d] }
  | _ => none }
def FnExactCentreOfPowersWrongFalsely : Prop := fnExactCentreOfPowersRow.holds Try.pinned (OpenSpec.ofChange fnExactCentreOfPowersWrong)

/-- 'laws.FnExactWindowSound': WHATEVER THE INPUT: true; the input reads as it did. -/
def fnExactWindowSoundSpec : ChangeSpec := { name := "fnExactWindowSound", fn := fun _ => fun
  | [d1, d2] => { results := [.lit (.bool true)], args := [d1, d2] }
  | _ => none }
def fnExactWindowSoundRow : OpenClaim := { program := "ytkdofkdicggmdaa", sum := "72607a73750934f77b2aaaeab9b8bf5f5e8597cb0d5063e0dde0a3f4ffb0047f", func := "loop.example/g01279/laws.FnExactWindowSound", spec := "fnExactWindowSound", unfollowed := true, recurses := true, apart := false }
def FnExactWindowSoundSaid : Prop := fnExactWindowSoundRow.holds Try.pinned (OpenSpec.ofChange fnExactWindowSoundSpec)

/-- ITS FALSE NEIGHBOUR: 'it returns false'. Refute it at one input. -/
def fnExactWindowSoundWrong : ChangeSpec := { name := "fnExactWindowSound", fn := fun _ => fun
  | [d1, d2] => { results := [.lit (.bool false)], args := [d1, d2] }
  | _ => none }
def FnExactWindowSoundWrongFalsely : Prop := fnExactWindowSoundRow.holds Try.pinned (OpenSpec.ofChange fnExactWindowSoundWrong)

/-- 'laws.FnPeriods': WHATEVER THE INPUT: true; the input reads as it did. -/
def fnPeriodsSpec : ChangeSpec := { name := "fnPeriods", fn := fun _ => fun
  | [d1, d2] => { results := [.lit (.bool true)], args := [d1, d2] }
  | _ => none }
def fnPeriodsRow : OpenClaim := { program := "ytkdofkdicggmdaa", sum := "72607a73750934f77b2aaaeab9b8bf5f5e8597cb0d5063e0dde0a3f4ffb0047f", func := "loop.example/g01279/laws.FnPeriods", spec := "fnPeriods", inPlace := ["math.Float32bits"], apart := false }
def FnPeriodsSaid : Prop := fnPeriodsRow.holds Try.pinned (OpenSpec.ofChange fnPeriodsSpec)

/-- ITS FALSE NEIGHBOUR: 'it returns false'. Refute it at one input. -/
def fnPeriodsWrong : ChangeSpec := { name := "fnPeriods", fn := fun _ => fun
  | [d1, d2] => { results := [.lit (.bool false)], args := [d1, d2] }
  | _ => none }
def FnPeriodsWrongFalsely : Prop := fnPeriodsRow.holds Try.pinned (OpenSpec.ofChange fnPeriodsWrong)

/-- 'laws.FnExactThinSound': WHATEVER THE INPUT: true; the input reads as it did. -/
def fnExactThinSoundSpec : ChangeSpec := { name := "fnExactThinSound", fn := fun _ => fun
  | [d1, d2] => { results := [.lit (.bool true)], args := [d1, d2] }
  | _ => none }
def fnExactThinSoundRow : OpenClaim := { program := "ytkdofkdicggmdaa", sum := "72607a73750934f77b2aaaeab9b8bf5f5e8597cb0d5063e0dde0a3f4ffb0047f", func := "loop.example/g01279/laws.FnExactThinSound", spec := "fnExactThinSound", apart := false }
def FnExactThinSoundSaid : Prop := fnExactThinSoundRow.holds Try.pinned (OpenSpec.ofChange fnExactThinSoundSpec)

/-- ITS FALSE NEIGHBOUR: 'it returns false'. Refute it at one input. -/
def fnExactThinSoundWrong : ChangeSpec := { name := "fnExactThinSound", fn := fun _ => fun
  | [d1, d2] => { results := [.lit (.bool false)], args := [d1, d2] }
  | _ => none }
def FnExactThinSoundWrongFalsely : Prop := fnExactThinSoundRow.holds Try.pinned (OpenSpec.ofChange fnExactThinSoundWrong)

/-- 'laws.FnExactRoughSound': WHATEVER THE INPUT: true; the input reads as it did. -/
def fnExactRoughSoundSpec : ChangeSpec := { name := "fnExactRoughSound", fn := fun _ => fun
  | [d1, d2] => { results := [.lit (.bool true)], args := [d1, d2] }
  | _ => none }
def fnExactRoughSoundRow : OpenClaim := { program := "ytkdofkdicggmdaa", sum := "72607a73750934f77b2aaaeab9b8bf5f5e8597cb0d5063e0dde0a3f4ffb0047f", func := "loop.example/g01279/laws.FnExactRoughSound", spec := "fnExactRoughSound", unfollowed := true, recurses := true, apart := false }
def FnExactRoughSoundSaid : Prop := fnExactRoughSoundRow.holds Try.pinned (OpenSpec.ofChange fnExactRoughSoundSpec)

/-- ITS FALSE NEIGHBOUR: 'it returns false'. Refute it at one input. -/
def fnExactRoughSoundWrong : ChangeSpec := { name := "fnExactRoughSound", fn := fun _ => fun
  | [d1, d2] => { results := [.lit (.bool false)], args := [d1, d2] }
  | _ => none }
def FnExactRoughSoundWrongFalsely : Prop := fnExactRoughSoundRow.holds Try.pinned (OpenSpec.ofChange fnExactRoughSoundWrong)

/-- 'laws.FnExactSameFrame': WHATEVER THE INPUT: true; the input reads as it did. -/
def fnExactSameFrameSpec : ChangeSpec := { name := "fnExactSameFrame", fn := fun _ => fun
  | [d1, d2] => { results := [.lit (.bool true)], args := [d1, d2] }
  | _ => none }
def fnExactSameFrameRow : OpenClaim := { program := "ytkdofkdicggmdaa", sum := "72607a73750934f77b2aaaeab9b8bf5f5e8597cb0d5063e0dde0a3f4ffb0047f", func := "loop.example/g01279/laws.FnExactSameFrame", spec := "fnExactSameFrame", inPlace := ["math.Float32bits", "math.Float64bits"], apart := false }
def FnExactSameFrameSaid : Prop := fnExactSameFrameRow.holds Try.pinned (OpenSpec.ofChange fnExactSameFrameSpec)

/-- ITS FALSE NEIGHBOUR: 'it returns false'. Refute it at one input. -/
def fnExactSameFrameWrong : ChangeSpec := { name := "fnExactSameFrame", fn := fun _ => fun
  | [d1, d2] => { results := [.lit (.bool false)], args := [d1, d2] }
  | _ => none }
def FnExactSameFrameWrongFalsely : Prop := fnExactSameFrameRow.holds Try.pinned (OpenSpec.ofChange fnExactSameFrameWrong)

/-- 'laws.FnExactValidFrame': WHATEVER THE INPUT: true; the input reads as it did. -/
def fnExactValidFrameSpec : ChangeSpec := { name := "fnExactValidFrame", fn := fun _ => fun
  | [d] => { results := [.lit (.bool true)], args := [d] }
  | _ => none }
def fnExactValidFrameRow : OpenClaim := { program := "ytkdofkdicggmdaa", sum := "72607a73750934f77b2aaaeab9b8bf5f5e8597cb0d5063e0dde0a3f4ffb0047f", func := "loop.example/g01279/laws.FnExactValidFrame", spec := "fnExactValidFrame", unfollowed := true, recurses := true, apart := false }
def FnExactValidFrameSaid : Prop := fnExactValidFrameRow.holds Try.pinned (OpenSpec.ofChange fnExactValidFrameSpec)

/-- ITS FALSE NEIGHBOUR: 'it returns false'. Refute it at one input. -/
def fnExactValidFrameWrong : ChangeSpec := { name := "fnExactValidFrame", fn := fun _ => fun
  | [d] => { results := [.lit (.bool false)], args := [d] }
  | _ => none }
def FnExactValidFrameWrongFalsely : Prop := fnExactValidFrameRow.holds Try.pinned (OpenSpec.ofChange fnExactValidFrameWrong)

/-- 'laws.FnExactSmoothSound': WHATEVER THE INPUT: true; the input reads as it did. -/
def fnExactSmoothSoundSpec : ChangeSpec := { name := "fnExactSmoothSound", fn := fun _ => fun
  | [d1, d2] => { results := [.lit (.bool true)], args := [d1, d2] }
  | _ => none }
def fnExactSmoothSoundRow : OpenClaim := { program := "ytkdofkdicggmdaa", sum := "72607a73750934f77b2aaaeab9b8bf5f5e8597cb0d5063e0dde0a3f4ffb0047f", func := "loop.example/g01279/laws.FnExactSmoothSound", spec := "fnExactSmoothSound", unfollowed := true, recurses := true, apart := false }
def FnExactSmoothSoundSaid : Prop := fnExactSmoothSoundRow.holds Try.pinned (OpenSpec.ofChange fnExactSmoothSoundSpec)

/-- ITS FALSE NEIGHBOUR: 'it returns false'. Refute it at one input. -/
def fnExactSmoothSoundWrong : ChangeSpec := { name := "fnExactSmoothSound", fn := fun _ => fun
  | [d1, d2] => { results := [.lit (.bool false)], args := [d1, d2] }
  | _ => none }
def FnExactSmoothSoundWrongFalsely : Prop := fnExactSmoothSoundRow.holds Try.pinned (OpenSpec.ofChange fnExactSmoothSoundWrong)

/- THE SECOND FORM. 'bulk': how many values and letters a reading holds, each counted each time it is reached (what is shared counts as often as it is met; a slice's spare places count too). A statement '..UptoSaid' is the law's where the arguments, and the package variables that the reading takes, are together of bulk at most 1048576: NARROWER than '..Said'. Prove '..Said' where nothing that the law and all that it calls make is longer than what came in: it says more and counts as full. Else prove '..UptoSaid'. A law counts once. -/
mutual
def uptoBulk {H : Type} : DataW H → Nat
  | .lit (.string bytes) => bytes.length + 1
  | .lit _ => 1
  | .nil => 1
  | .ptr d => uptoBulk d + 1
  | .slice elems spare => uptoBulkAll elems + uptoBulkAll spare + 1
  | .agg parts => uptoBulkAll parts + 1
  | .iface _ d => uptoBulk d + 1
  | .map entries => uptoBulkEntries entries + 1
  | .held _ => 1
def uptoBulkAll {H : Type} : List (DataW H) → Nat
  | [] => 0
  | d :: r => uptoBulk d + uptoBulkAll r
def uptoBulkEntries {H : Type} : List (Lit × DataW H) → Nat
  | [] => 0
  | x :: r => uptoBulkEntry x + uptoBulkEntries r
def uptoBulkEntry {H : Type} : Lit × DataW H → Nat
  | (.string bytes, d) => bytes.length + uptoBulk d + 1
  | (_, d) => uptoBulk d + 1
 end
def uptoSmall : (H : Type) → List (DataW H) → Bool := fun _ ds => decide (uptoBulkAll ds ≤ 1048576)
def OpenSpec.upto (s : _root_.Go.ChangeSpec) : _root_.Go.OpenSpec := { _root_.Go.OpenSpec.ofChange s with cond := some uptoSmall }

/-- 'laws.FnExactRampAt', WHERE WHAT IT READS IS OF BULK AT MOST 1048576: true; the input reads as it did. -/
def fnExactRampAtUptoRow : OpenClaim := { program := "ytkdofkdicggmdaa", sum := "72607a73750934f77b2aaaeab9b8bf5f5e8597cb0d5063e0dde0a3f4ffb0047f", func := "loop.example/g01279/laws.FnExactRampAt", spec := "fnExactRampAt", apart := false, narrowed := true }
def FnExactRampAtUptoSaid : Prop := fnExactRampAtUptoRow.holds Try.pinned (OpenSpec.upto fnExactRampAtSpec)

/-- 'laws.FnExactBumpAt', WHERE WHAT IT READS IS OF BULK AT MOST 1048576: true; the input reads as it did. -/
def fnExactBumpAtUptoRow : OpenClaim := { program := "ytkdofkdicggmdaa", sum := "72607a73750934f77b2aaaeab9b8bf5f5e8597cb0d5063e0dde0a3f4ffb0047f", func := "loop.example/g01279/laws.FnExactBumpAt", spec := "fnExactBumpAt", apart := false, narrowed := true }
def FnExactBumpAtUptoSaid : Prop := fnExactBumpAtUptoRow.holds Try.pinned (OpenSpec.upto fnExactBumpAtSpec)

/-- 'laws.FnExactCrossingsOf', WHERE WHAT IT READS IS OF BULK AT MOST 1048576: true; the input reads as it did. -/
def fnExactCrossingsOfUptoRow : OpenClaim := { program := "ytkdofkdicggmdaa", sum := "72607a73750934f77b2aaaeab9b8bf5f5e8597cb0d5063e0dde0a3f4ffb0047f", func := "loop.example/g01279/laws.FnExactCrossingsOf", spec := "fnExactCrossingsOf", apart := false, narrowed := true }
def FnExactCrossingsOfUptoSaid : Prop := fnExactCrossingsOfUptoRow.holds Try.pinned (OpenSpec.upto fnExactCrossingsOfSpec)

/-- 'laws.FnExactFromCode', WHERE WHAT IT READS IS OF BULK AT MOST 1048576: true; the input reads as it did. -/
def fnExactFromCodeUptoRow : OpenClaim := { program := "ytkdofkdicggmdaa", sum := "72607a73750934f77b2aaaeab9b8bf5f5e8597cb0d5063e0dde0a3f4ffb0047f", func := "loop.example/g01279/laws.FnExactFromCode", spec := "fnExactFromCode", inPlace := ["math.Float64frombits"], apart := false, narrowed := true }
def FnExactFromCodeUptoSaid : Prop := fnExactFromCodeUptoRow.holds Try.pinned (OpenSpec.upto fnExactFromCodeSpec)

/-- 'laws.FnExactCentreOfPowers', WHERE WHAT IT READS IS OF BULK AT MOST 1048576: true; the input reads as it did. -/
def fnExactCentreOfPowersUptoRow : OpenClaim := { program := "ytkdofkdicggmdaa", sum := "72607a73750934f77b2aaaeab9b8bf5f5e8597cb0d5063e0dde0a3f4ffb0047f", func := "loop.example/g01279/laws.FnExactCentreOfPowers", spec := "fnExactCentreOfPowers", unfollowed := true, recurses := true, apart := false, narrowed := true }
def FnExactCentreOfPowersUptoSaid : Prop := fnExactCentreOfPowersUptoRow.holds Try.pinned (OpenSpec.upto fnExactCentreOfPowersSpec)

/-- 'laws.FnExactWindowSound', WHERE WHAT IT READS IS OF BULK AT MOST 1048576: true; the input reads as it did. -/
def fnExactWindowSoundUptoRow : OpenClaim := { program := "ytkdofkdicggmdaa", sum := "72607a73750934f77b2aaaeab9b8bf5f5e8597cb0d5063e0dde0a3f4ffb0047f", func := "loop.example/g01279/laws.FnExactWindowSound", spec := "fnExactWindowSound", unfollowed := true, recurses := true, apart := false, narrowed := true }
def FnExactWindowSoundUptoSaid : Prop := fnExactWindowSoundUptoRow.holds Try.pinned (OpenSpec.upto fnExactWindowSoundSpec)

/-- 'laws.FnPeriods', WHERE WHAT IT READS IS OF BULK AT MOST 1048576: true; the input reads as it did. -/
def fnPeriodsUptoRow : OpenClaim := { program := "ytkdofkdicggmdaa", sum := "72607a73750934f77b2aaaeab9b8bf5f5e8597cb0d5063e0dde0a3f4ffb0047f", func := "loop.example/g01279/laws.FnPeriods", spec := "fnPeriods", inPlace := ["math.Float32bits"], apart := false, narrowed := true }
def FnPeriodsUptoSaid : Prop := fnPeriodsUptoRow.holds Try.pinned (OpenSpec.upto fnPeriodsSpec)

/-- 'laws.FnExactThinSound', WHERE WHAT IT READS IS OF BULK AT MOST 1048576: true; the input reads as it did. -/
def fnExactThinSoundUptoRow : OpenClaim := { program := "ytkdofkdicggmdaa", sum := "72607a73750934f77b2aaaeab9b8bf5f5e8597cb0d5063e0dde0a3f4ffb0047f", func := "loop.example/g01279/laws.FnExactThinSound", spec := "fnExactThinSound", apart := false, narrowed := true }
def FnExactThinSoundUptoSaid : Prop := fnExactThinSoundUptoRow.holds Try.pinned (OpenSpec.upto fnExactThinSoundSpec)

/-- 'laws.FnExactRoughSound', WHERE WHAT IT READS IS OF BULK AT MOST 1048576: true; the input reads as it did. -/
def fnExactRoughSoundUptoRow : OpenClaim := { program := "ytkdofkdicggmdaa", sum := "72607a73750934f77b2aaaeab9b8bf5f5e8597cb0d5063e0dde0a3f4ffb0047f", func := "loop.example/g01279/laws.FnExactRoughSound", spec := "fnExactRoughSound", unfollowed := true, recurses := true, apart := false, narrowed := true }
def FnExactRoughSoundUptoSaid : Prop := fnExactRoughSoundUptoRow.holds Try.pinned (OpenSpec.upto fnExactRoughSoundSpec)

/-- 'laws.FnExactSameFrame', WHERE WHAT IT READS IS OF BULK AT MOST 1048576: true; the input reads as it did. -/
def fnExactSameFrameUptoRow : OpenClaim := { program := "ytkdofkdicggmdaa", sum := "72607a73750934f77b2aaaeab9b8bf5f5e8597cb0d5063e0dde0a3f4ffb0047f", func := "loop.example/g01279/laws.FnExactSameFrame", spec := "fnExactSameFrame", inPlace := ["math.Float32bits", "math.Float64bits"], apart := false, narrowed := true }
def FnExactSameFrameUptoSaid : Prop := fnExactSameFrameUptoRow.holds Try.pinned (OpenSpec.upto fnExactSameFrameSpec)

/-- 'laws.FnExactValidFrame', WHERE WHAT IT READS IS OF BULK AT MOST 1048576: true; the input reads as it did. -/
def fnExactValidFrameUptoRow : OpenClaim := { program := "ytkdofkdicggmdaa", sum := "72607a73750934f77b2aaaeab9b8bf5f5e8597cb0d5063e0dde0a3f4ffb0047f", func := "loop.example/g01279/laws.FnExactValidFrame", spec := "fnExactValidFrame", unfollowed := true, recurses := true, apart := false, narrowed := true }
def FnExactValidFrameUptoSaid : Prop := fnExactValidFrameUptoRow.holds Try.pinned (OpenSpec.upto fnExactValidFrameSpec)

/-- 'laws.FnExactSmoothSound', WHERE WHAT IT READS IS OF BULK AT MOST 1048576: true; the input reads as it did. -/
def fnExactSmoothSoundUptoRow : OpenClaim := { program := "ytkdofkdicggmdaa", sum := "72607a73750934f77b2aaaeab9b8bf5f5e8597cb0d5063e0dde0a3f4ffb0047f", func := "loop.example/g01279/laws.FnExactSmoothSound", spec := "fnExactSmoothSound", unfollowed := true, recurses := true, apart := false, narrowed := true }
def FnExactSmoothSoundUptoSaid : Prop := fnExactSmoothSoundUptoRow.holds Try.pinned (OpenSpec.upto fnExactSmoothSoundSpec)

end Rows
end Go.Proofs.Ytkdofkdicggmdaa
