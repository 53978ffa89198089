/-
  No cell of these rows narrows 'for every input' (looked for: loops, veiled, ifaces, maps, wideKeys, modest, calm, conditions, laid).
  DERIVED. THE GIVEN ROWS OF THIS SEAT. 10 by the template 'for every input the law returns true; each argument reads behind the call as it read before'; 0 by the template 'total and deterministic' (their statements: YtgjdkhocnnoimaaTotals.lean).
  GIVEN WITH THE SEED: the statements are not yours to turn. If you find one false, say at which input.
  Laid BY PROGRAM, IN A SANDBOX (cutbox-rows.mjs): the forced cells as the released guide's own fill.sh prints them over the translation 4e90507ed7aa0df9… (all of the seat's roots in one cut). By AI agents, Wed Nov 11 2026. No macro, syntax, notation, axiom, sorry.
-/
import Derived.Test.YtgjdkhocnnoimaaChecked
import GoSem.Claim
import GoSem.ClaimJoined
import GoSem.ClaimMapViews
import Derived.JoinedTies
import Derived.KernelRfl
namespace Go.Proofs.Ytgjdkhocnnoimaa
/- THE CELL 'sum', in the pinned program and in every row, IS THE sha256 OF THE DUMP (.gsa) THAT YtgjdkhocnnoimaaProg.lean LOADS. Nothing in Lean hashes anything: it is a label: what it is worth is what the hold of that sum in a sandbox is worth. -/
noncomputable def Try.pinned : Pinned := { name := "ytgjdkhocnnoimaa", sum := "4e90507ed7aa0df96abef55e023280be4734b111c12d08761bd143bf0c3ca9ad", checked := Try.checked }
namespace Rows
def none {H : Type} : Left H := { results := [], args := [] }

/-- 'laws.FnPeriods': WHATEVER THE INPUT: true; the input reads as it did. -/
def fnPeriodsSpec : ChangeSpec := { name := "fnPeriods", fn := fun _ => fun
  | [d1, d2] => { results := [.lit (.bool true)], args := [d1, d2] }
  | _ => none }
def fnPeriodsRow : OpenClaim := { program := "ytgjdkhocnnoimaa", sum := "4e90507ed7aa0df96abef55e023280be4734b111c12d08761bd143bf0c3ca9ad", func := "loop.example/g01279/laws.FnPeriods", spec := "fnPeriods", inPlace := ["math.Float32bits"], apart := false }
def FnPeriodsSaid : Prop := fnPeriodsRow.holds Try.pinned (OpenSpec.ofChange fnPeriodsSpec)

/-- ITS FALSE NEIGHBOUR: 'it returns false'. Refute it at one input. -/
def fnPeriodsWrong : ChangeSpec := { name := "fnPeriods", fn := fun _ => fun
  | [d1, d2] => { results := [.lit (.bool false)], args := [d1, d2] }
  | _ => none }
def FnPeriodsWrongFalsely : Prop := fnPeriodsRow.holds Try.pinned (OpenSpec.ofChange fnPeriodsWrong)

/-- 'laws.FnTunes': WHATEVER THE INPUT: true; the input reads as it did. -/
def fnTunesSpec : ChangeSpec := { name := "fnTunes", fn := fun _ => fun
  | [d1, d2] => { results := [.lit (.bool true)], args := [d1, d2] }
  | _ => none }
def fnTunesRow : OpenClaim := { program := "ytgjdkhocnnoimaa", sum := "4e90507ed7aa0df96abef55e023280be4734b111c12d08761bd143bf0c3ca9ad", func := "loop.example/g01279/laws.FnTunes", spec := "fnTunes", unfollowed := true, recurses := true, apart := false }
def FnTunesSaid : Prop := fnTunesRow.holds Try.pinned (OpenSpec.ofChange fnTunesSpec)

/-- ITS FALSE NEIGHBOUR: 'it returns false'. Refute it at one input. -/
def fnTunesWrong : ChangeSpec := { name := "fnTunes", fn := fun _ => fun
  | [d1, d2] => { results := [.lit (.bool false)], args := [d1, d2] }
  | _ => none }
def FnTunesWrongFalsely : Prop := fnTunesRow.holds Try.pinned (OpenSpec.ofChange fnTunesWrong)

/-- 'laws.FnExactStretchSound': WHATEVER THE INPUT: true; the input reads as it did. -/
def fnExactStretchSoundSpec : ChangeSpec := { name := "fnExactStretchSound", fn := fun _ => fun
  | [d1, d2] => { results := [.lit (.bool true)], args := [d1, d2] }
  | _ => none }
def fnExactStretchSoundRow : OpenClaim := { program := "ytgjdkhocnnoimaa", sum := "4e90507ed7aa0df96abef55e023280be4734b111c12d08761bd143bf0c3ca9ad", func := "loop.example/g01279/laws.FnExactStretchSound", spec := "fnExactStretchSound", inPlace := ["math.archFloor", "math.Float64bits", "math.Float64frombits", "math.archTrunc"], apart := false }
def FnExactStretchSoundSaid : Prop := fnExactStretchSoundRow.holds Try.pinned (OpenSpec.ofChange fnExactStretchSoundSpec)

/-- ITS FALSE NEIGHBOUR: 'it returns false'. Refute it at one input. -/
def fnExactStretchSoundWrong : ChangeSpec := { name := "fnExactStretchSound", fn := fun _ => fun
  | [d1, d2] => { results := [.lit (.bool false)], args := [d1, d2] }
  | _ => none }
def FnExactStretchSoundWrongFalsely : Prop := fnExactStretchSoundRow.holds Try.pinned (OpenSpec.ofChange fnExactStretchSoundWrong)

/-- 'laws.FnExactSpectrumOf': WHATEVER THE INPUT: true; the input reads as it did. -/
def fnExactSpectrumOfSpec : ChangeSpec := { name := "fnExactSpectrumOf", fn := fun _ => fun
  | [d1, d2] => { results := [.lit (.bool true)], args := [d1, d2] }
  | _ => none }
def fnExactSpectrumOfRow : OpenClaim := { program := "ytgjdkhocnnoimaa", sum := "4e90507ed7aa0df96abef55e023280be4734b111c12d08761bd143bf0c3ca9ad", func := "loop.example/g01279/laws.FnExactSpectrumOf", spec := "fnExactSpectrumOf", inPlace := ["math.Float32frombits", "math.Float64frombits"], apart := false }
def FnExactSpectrumOfSaid : Prop := fnExactSpectrumOfRow.holds Try.pinned (OpenSpec.ofChange fnExactSpectrumOfSpec)

/-- ITS FALSE NEIGHBOUR: 'it returns false'. Refute it at one input. -/
def fnExactSpectrumOfWrong : ChangeSpec := { name := "fnExactSpectrumOf", fn := fun _ => fun
  | [d1, d2] => { results := [.lit (.bool false)], args := [d1, d2] }
  | _ => none }
def FnExactSpectrumOfWrongFalsely : Prop := fnExactSpectrumOfRow.holds Try.pinned (OpenSpec.ofChange fnExactSpectrumOfWrong)

/-- 'laws.FnSounded': WHATEVER THE INPUT: true; the input reads as it did. -/
def fnSoundedSpec : ChangeSpec := { name := "fnSounded", fn := fun _ => fun
  | [d1, d2] => { results := [.lit (.bool true)], args := [d1, d2] }
  | _ => none }
def fnSoundedRow : OpenClaim := { program := "ytgjdkhocnnoimaa", sum := "4e90507ed7aa0df96abef55e023280be4734b111c12d08761bd143bf0c3ca9ad", func := "loop.example/g01279/laws.FnSounded", spec := "fnSounded", inPlace := ["math.Float64bits", "math.Float64frombits"], unfollowed := true, recurses := true, apart := false }
def FnSoundedSaid : Prop := fnSoundedRow.holds Try.pinned (OpenSpec.ofChange fnSoundedSpec)

/-- ITS FALSE NEIGHBOUR: 'it returns false'. Refute it at one input. -/
def fnSoundedWrong : ChangeSpec := { name := "fnSounded", fn := fun _ => fun
  | [d1, d2] => { results := [.lit (.bool false)], args := [d1, d2] }
  | _ => none }
def FnSoundedWrongFalsely : Prop := fnSoundedRow.holds Try.pinned (OpenSpec.ofChange fnSoundedWrong)

/-- 'laws.FnCodes': WHATEVER THE INPUT: true; the input reads as it did. -/
def fnCodesSpec : ChangeSpec := { name := "fnCodes", fn := fun _ => fun
  | [d1, d2] => { results := [.lit (.bool true)], args := [d1, d2] }
  | _ => none }
def fnCodesRow : OpenClaim := { program := "ytgjdkhocnnoimaa", sum := "4e90507ed7aa0df96abef55e023280be4734b111c12d08761bd143bf0c3ca9ad", func := "loop.example/g01279/laws.FnCodes", spec := "fnCodes", inPlace := ["math.Float64frombits", "math.Float64bits", "math.RoundToEven"], apart := false }
def FnCodesSaid : Prop := fnCodesRow.holds Try.pinned (OpenSpec.ofChange fnCodesSpec)

/-- ITS FALSE NEIGHBOUR: 'it returns false'. Refute it at one input. -/
def fnCodesWrong : ChangeSpec := { name := "fnCodes", fn := fun _ => fun
  | [d1, d2] => { results := [.lit (.bool false)], args := [d1, d2] }
  | _ => none }
def FnCodesWrongFalsely : Prop := fnCodesRow.holds Try.pinned (OpenSpec.ofChange fnCodesWrong)

/-- 'laws.FnWindows': WHATEVER THE INPUT: true; the input reads as it did. -/
def fnWindowsSpec : ChangeSpec := { name := "fnWindows", fn := fun _ => fun
  | [d1, d2] => { results := [.lit (.bool true)], args := [d1, d2] }
  | _ => none }
def fnWindowsRow : OpenClaim := { program := "ytgjdkhocnnoimaa", sum := "4e90507ed7aa0df96abef55e023280be4734b111c12d08761bd143bf0c3ca9ad", func := "loop.example/g01279/laws.FnWindows", spec := "fnWindows", inPlace := ["math.Float64frombits"], unfollowed := true, recurses := true, apart := false }
def FnWindowsSaid : Prop := fnWindowsRow.holds Try.pinned (OpenSpec.ofChange fnWindowsSpec)

/-- ITS FALSE NEIGHBOUR: 'it returns false'. Refute it at one input. -/
def fnWindowsWrong : ChangeSpec := { name := "fnWindows", fn := fun _ => fun
  | [d1, d2] => { results := [.lit (.bool false)], args := [d1, d2] }
  | _ => none }
def FnWindowsWrongFalsely : Prop := fnWindowsRow.holds Try.pinned (OpenSpec.ofChange fnWindowsWrong)

/-- 'laws.FnFramed': WHATEVER THE INPUT: true; the input reads as it did. -/
def fnFramedSpec : ChangeSpec := { name := "fnFramed", fn := fun _ => fun
  | [d1, d2] => { results := [.lit (.bool true)], args := [d1, d2] }
  | _ => none }
def fnFramedRow : OpenClaim := { program := "ytgjdkhocnnoimaa", sum := "4e90507ed7aa0df96abef55e023280be4734b111c12d08761bd143bf0c3ca9ad", func := "loop.example/g01279/laws.FnFramed", spec := "fnFramed", inPlace := ["math.sqrt", "math.archFloor", "math.Float64bits", "math.Float64frombits", "math.archTrunc"], unfollowed := true, recurses := true, apart := false }
def FnFramedSaid : Prop := fnFramedRow.holds Try.pinned (OpenSpec.ofChange fnFramedSpec)

/-- ITS FALSE NEIGHBOUR: 'it returns false'. Refute it at one input. -/
def fnFramedWrong : ChangeSpec := { name := "fnFramed", fn := fun _ => fun
  | [d1, d2] => { results := [.lit (.bool false)], args := [d1, d2] }
  | _ => none }
def FnFramedWrongFalsely : Prop := fnFramedRow.holds Try.pinned (OpenSpec.ofChange fnFramedWrong)

/-- 'laws.FnLadders': WHATEVER THE INPUT: true; the input reads as it did. -/
def fnLaddersSpec : ChangeSpec := { name := "fnLadders", fn := fun _ => fun
  | [d1, d2] => { results := [.lit (.bool true)], args := [d1, d2] }
  | _ => none }
def fnLaddersRow : OpenClaim := { program := "ytgjdkhocnnoimaa", sum := "4e90507ed7aa0df96abef55e023280be4734b111c12d08761bd143bf0c3ca9ad", func := "loop.example/g01279/laws.FnLadders", spec := "fnLadders", inPlace := ["math.sqrt"], unfollowed := true, recurses := true, apart := false }
def FnLaddersSaid : Prop := fnLaddersRow.holds Try.pinned (OpenSpec.ofChange fnLaddersSpec)

/-- ITS FALSE NEIGHBOUR: 'it returns false'. Refute it at one input. -/
def fnLaddersWrong : ChangeSpec := { name := "fnLadders", fn := fun _ => fun
  | [d1, d2] => { results := [.lit (.bool false)], args := [d1, d2] }
  | _ => none }
def FnLaddersWrongFalsely : Prop := fnLaddersRow.holds Try.pinned (OpenSpec.ofChange fnLaddersWrong)

/-- 'laws.FnPredicted': WHATEVER THE INPUT: true; the input reads as it did. -/
def fnPredictedSpec : ChangeSpec := { name := "fnPredicted", fn := fun _ => fun
  | [d1, d2] => { results := [.lit (.bool true)], args := [d1, d2] }
  | _ => none }
def fnPredictedRow : OpenClaim := { program := "ytgjdkhocnnoimaa", sum := "4e90507ed7aa0df96abef55e023280be4734b111c12d08761bd143bf0c3ca9ad", func := "loop.example/g01279/laws.FnPredicted", spec := "fnPredicted", inPlace := ["math.sqrt", "math.Float64frombits", "math.Float64bits"], unfollowed := true, recurses := true, apart := false }
def FnPredictedSaid : Prop := fnPredictedRow.holds Try.pinned (OpenSpec.ofChange fnPredictedSpec)

/-- ITS FALSE NEIGHBOUR: 'it returns false'. Refute it at one input. -/
def fnPredictedWrong : ChangeSpec := { name := "fnPredicted", fn := fun _ => fun
  | [d1, d2] => { results := [.lit (.bool false)], args := [d1, d2] }
  | _ => none }
def FnPredictedWrongFalsely : Prop := fnPredictedRow.holds Try.pinned (OpenSpec.ofChange fnPredictedWrong)

/- THE SECOND FORM. 'bulk': how many values and letters a reading holds, each counted each time it is reached (what is shared counts as often as it is met; a slice's spare places count too). A statement '..UptoSaid' is the law's where the arguments, and the package variables that the reading takes, are together of bulk at most 1048576: NARROWER than '..Said'. Prove '..Said' where nothing that the law and all that it calls make is longer than what came in: it says more and counts as full. Else prove '..UptoSaid'. A law counts once. -/
mutual
def uptoBulk {H : Type} : DataW H → Nat
  | .lit (.string bytes) => bytes.length + 1
  | .lit _ => 1
  | .nil => 1
  | .ptr d => uptoBulk d + 1
  | .slice elems spare => uptoBulkAll elems + uptoBulkAll spare + 1
  | .agg parts => uptoBulkAll parts + 1
  | .iface _ d => uptoBulk d + 1
  | .map entries => uptoBulkEntries entries + 1
  | .held _ => 1
def uptoBulkAll {H : Type} : List (DataW H) → Nat
  | [] => 0
  | d :: r => uptoBulk d + uptoBulkAll r
def uptoBulkEntries {H : Type} : List (Lit × DataW H) → Nat
  | [] => 0
  | x :: r => uptoBulkEntry x + uptoBulkEntries r
def uptoBulkEntry {H : Type} : Lit × DataW H → Nat
  | (.string bytes, d) => bytes.length + uptoBulk d + 1
  | (_, d) => uptoBulk d + 1
 end
def uptoSmall : (H : Type) → List (DataW H) → Bool := fun _ ds => decide (uptoBulkAll ds ≤ 1048576)
def OpenSpec.upto (s : _root_.Go.ChangeSpec) : _root_.Go.OpenSpec := { _root_.Go.OpenSpec.ofChange s with cond := some uptoSmall }

/-- 'laws.FnPeriods', WHERE WHAT IT READS IS OF BULK AT MOST 1048576: true; the input reads as it did. -/
def fnPeriodsUptoRow : OpenClaim := { program := "ytgjdkhocnnoimaa", sum := "4e90507ed7aa0df96abef55e023280be4734b111c12d08761bd143bf0c3ca9ad", func := "loop.example/g01279/laws.FnPeriods", spec := "fnPeriods", inPlace := ["math.Float32bits"], apart := false, narrowed := true }
def FnPeriodsUptoSaid : Prop := fnPeriodsUptoRow.holds Try.pinned (OpenSpec.upto fnPeriodsSpec)

/-- 'laws.FnTunes', WHERE WHAT IT READS IS OF BULK AT MOST 1048576: true; the input reads as it did. -/
def fnTunesUptoRow : OpenClaim := { program := "ytgjdkhocnnoimaa", sum := "4e90507ed7aa0df96abef55e023280be4734b111c12d08761bd143bf0c3ca9ad", func := "loop.example/g01279/laws.FnTunes", spec := "fnTunes", unfollowed := true, recurses := true, apart := false, narrowed := true }
def FnTunesUptoSaid : Prop := fnTunesUptoRow.holds Try.pinned (OpenSpec.upto fnTunesSpec)

/-- 'laws.FnExactStretchSound', WHERE WHAT IT READS IS OF BULK AT MOST 1048576: true; the input reads as it did. -/
def fnExactStretchSoundUptoRow : OpenClaim := { program := "ytgjdkhocnnoimaa", sum := "4e90507ed7aa0df96abef55e023280be4734b111c12d08761bd143bf0c3ca9ad", func := "loop.example/g01279/laws.FnExactStretchSound", spec := "fnExactStretchSound", inPlace := ["math.archFloor", "math.Float64bits", "math.Float64frombits", "math.archTrunc"], apart := false, narrowed := true }
def FnExactStretchSoundUptoSaid : Prop := fnExactStretchSoundUptoRow.holds Try.pinned (OpenSpec.upto fnExactStretchSoundSpec)

/-- 'laws.FnExactSpectrumOf', WHERE WHAT IT READS IS OF BULK AT MOST 1048576: true; the input reads as it did. -/
def fnExactSpectrumOfUptoRow : OpenClaim := { program := "ytgjdkhocnnoimaa", sum := "4e90507ed7aa0df96abef55e023280be4734b111c12d08761bd143bf0c3ca9ad", func := "loop.example/g01279/laws.FnExactSpectrumOf", spec := "fnExactSpectrumOf", inPlace := ["math.Float32frombits", "math.Float64frombits"], apart := false, narrowed := true }
def FnExactSpectrumOfUptoSaid : Prop := fnExactSpectrumOfUptoRow.holds Try.pinned (OpenSpec.upto fnExactSpectrumOfSpec)

/-- 'laws.FnSounded', WHERE WHAT IT READS IS OF BULK AT MOST 1048576: true; the input reads as it did. -/
def fnSoundedUptoRow : OpenClaim := { program := "ytgjdkhocnnoimaa", sum := "4e90507ed7aa0df96abef55e023280be4734b111c12d08761bd143bf0c3ca9ad", func := "loop.example/g01279/laws.FnSounded", spec := "fnSounded", inPlace := ["math.Float64bits", "math.Float64frombits"], unfollowed := true, recurses := true, apart := false, narrowed := true }
def FnSoundedUptoSaid : Prop := fnSoundedUptoRow.holds Try.pinned (OpenSpec.upto fnSoundedSpec)

/-- 'laws.FnCodes', WHERE WHAT IT READS IS OF BULK AT MOST 1048576: true; the input reads as it did. -/
def fnCodesUptoRow : OpenClaim := { program := "ytgjdkhocnnoimaa", sum := "4e90507ed7aa0df96abef55e023280be4734b111c12d08761bd143bf0c3ca9ad", func := "loop.example/g01279/laws.FnCodes", spec := "fnCodes", inPlace := ["math.Float64frombits", "math.Float64bits", "math.RoundToEven"], apart := false, narrowed := true }
def FnCodesUptoSaid : Prop := fnCodesUptoRow.holds Try.pinned (OpenSpec.upto fnCodesSpec)

/-- 'laws.FnWindows', WHERE WHAT IT READS IS OF BULK AT MOST 1048576: true; the input reads as it did. -/
def fnWindowsUptoRow : OpenClaim := { program := "ytgjdkhocnnoimaa", sum := "4e90507ed7aa0df96abef55e023280be4734b111c12d08761bd143bf0c3ca9ad", func := "loop.example/g01279/laws.FnWindows", spec := "fnWindows", inPlace := ["math.Float64frombits"], unfollowed := true, recurses := true, apart := false, narrowed := true }
def FnWindowsUptoSaid : Prop := fnWindowsUptoRow.holds Try.pinned (OpenSpec.upto fnWindowsSpec)

/-- 'laws.FnFramed', WHERE WHAT IT READS IS OF BULK AT MOST 1048576: true; the input reads as it did. -/
def fnFramedUptoRow : OpenClaim := { program := "ytgjdkhocnnoimaa", sum := "4e90507ed7aa0df96abef55e023280be4734b111c12d08761bd143bf0c3ca9ad", func := "loop.example/g01279/laws.FnFramed", spec := "fnFramed", inPlace := ["math.sqrt", "math.archFloor", "math.Float64bits", "math.Float64frombits", "math.archTrunc"], unfollowed := true, recurses := true, apart := false, narrowed := true }
def FnFramedUptoSaid : Prop := fnFramedUptoRow.holds Try.pinned (OpenSpec.upto fnFramedSpec)

/-- 'laws.FnLadders', WHERE WHAT IT READS IS OF BULK AT MOST 1048576: true; the input reads as it did. -/
def fnLaddersUptoRow : OpenClaim := { program := "ytgjdkhocnnoimaa", sum := "4e90507ed7aa0df96abef55e023280be4734b111c12d08761bd143bf0c3ca9ad", func := "loop.example/g01279/laws.FnLadders", spec := "fnLadders", inPlace := ["math.sqrt"], unfollowed := true, recurses := true, apart := false, narrowed := true }
def FnLaddersUptoSaid : Prop := fnLaddersUptoRow.holds Try.pinned (OpenSpec.upto fnLaddersSpec)

/-- 'laws.FnPredicted', WHERE WHAT IT READS IS OF BULK AT MOST 1048576: true; the input reads as it did. -/
def fnPredictedUptoRow : OpenClaim := { program := "ytgjdkhocnnoimaa", sum := "4e90507ed7aa0df96abef55e023280be4734b111c12d08761bd143bf0c3ca9ad", func := "loop.example/g01279/laws.FnPredicted", spec := "fnPredicted", inPlace := ["math.sqrt", "math.Float64frombits", "math.Float64bits"], unfollowed := true, recurses := true, apart := false, narrowed := true }
def FnPredictedUptoSaid : Prop := fnPredictedUptoRow.holds Try.pinned (OpenSpec.upto fnPredictedSpec)

end Rows
end Go.Proofs.Ytgjdkhocnnoimaa
