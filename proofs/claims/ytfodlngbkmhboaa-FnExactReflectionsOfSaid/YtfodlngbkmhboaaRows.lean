/-
  No cell of these rows narrows 'for every input' (looked for: loops, veiled, ifaces, maps, wideKeys, modest, calm, conditions, laid).
  DERIVED. THE GIVEN ROWS OF THIS SEAT. 14 by the template 'for every input the law returns true; each argument reads behind the call as it read before'; 0 by the template 'total and deterministic' (their statements: YtfodlngbkmhboaaTotals.lean).
  GIVEN WITH THE SEED: the statements are not yours to turn. If you find one false, say at which input.
  Laid BY PROGRAM, IN A SANDBOX (cutbox-rows.mjs): the forced cells as the released guide's own fill.sh prints them over the translation fabcca6a9f0a0a76… (all of the seat's roots in one cut). By AI agents, Wed Nov 11 2026. No macro, syntax, notation, axiom, sorry.
-/
import Derived.Test.YtfodlngbkmhboaaChecked
import GoSem.Claim
import GoSem.ClaimJoined
import GoSem.ClaimMapViews
import Derived.JoinedTies
import Derived.KernelRfl
namespace Go.Proofs.Ytfodlngbkmhboaa
/- THE CELL 'sum', in the pinned program and in every row, IS THE sha256 OF THE DUMP (.gsa) THAT YtfodlngbkmhboaaProg.lean LOADS. Nothing in Lean hashes anything: it is a label: what it is worth is what the hold of that sum in a sandbox is worth. -/
noncomputable def Try.pinned : Pinned := { name := "ytfodlngbkmhboaa", sum := "fabcca6a9f0a0a763170f933cfd5a8749c748ff148740d2392b20fce476e10ae", checked := Try.checked }
namespace Rows
def none {H : Type} : Left H := { results := [], args := [] }

/-- 'laws.FnExactSumNumbers': WHATEVER THE INPUT: true; the input reads as it did. -/
def fnExactSumNumbersSpec : ChangeSpec := { name := "fnExactSumNumbers", fn := fun _ => fun
  | [d] => { results := [.lit (.bool true)], args := [d] }
  | _ => none }
def fnExactSumNumbersRow : OpenClaim := { program := "ytfodlngbkmhboaa", sum := "fabcca6a9f0a0a763170f933cfd5a8749c748ff148740d2392b20fce476e10ae", func := "loop.example/g01279/laws.FnExactSumNumbers", spec := "fnExactSumNumbers", apart := false }
def FnExactSumNumbersSaid : Prop := fnExactSumNumbersRow.holds Try.pinned (OpenSpec.ofChange fnExactSumNumbersSpec)

/-- ITS FALSE NEIGHBOUR: 'it returns false'. Refute it at one input. -/
def fnExactSumNumbersWrong : ChangeSpec := { name := "fnExactSumNumbers", fn := fun _ => fun
  | [d] => { results := [.lit (.bool false)], args := [d] }
  | _ => none }
def FnExactSumNumbersWrongFalsely : Prop := fnExactSumNumbersRow.holds Try.pinned (OpenSpec.ofChange fnExactSumNumbersWrong)

/-- 'laws.FnExactDotNumbers': WHATEVER THE INPUT: true; the input reads as it did. -/
def fnExactDotNumbersSpec : ChangeSpec := { name := "fnExactDotNumbers", fn := fun _ => fun
  | [d1, d2] => { results := [.lit (.bool true)], args := [d1, d2] }
  | _ => none }
def fnExactDotNumbersRow : OpenClaim := { program := "ytfodlngbkmhboaa", sum := "fabcca6a9f0a0a763170f933cfd5a8749c748ff148740d2392b20fce476e10ae", func := "loop.example/g01279/laws.FnExactDotNumbers", spec := "fnExactDotNumbers", apart := false }
def FnExactDotNumbersSaid : Prop := fnExactDotNumbersRow.holds Try.pinned (OpenSpec.ofChange fnExactDotNumbersSpec)

/-- ITS FALSE NEIGHBOUR: 'it returns false'. Refute it at one input. -/
def fnExactDotNumbersWrong : ChangeSpec := { name := "fnExactDotNumbers", fn := fun _ => fun
  | [d1, d2] => { results := [.lit (.bool false)], args := [d1, d2] }
  | _ => none }
def FnExactDotNumbersWrongFalsely : Prop := fnExactDotNumbersRow.holds Try.pinned (OpenSpec.ofChange fnExactDotNumbersWrong)

/-- 'laws.FnExactAreasFrom': WHATEVER THE INPUT: true; the input reads as it did. -/
def fnExactAreasFromSpec : ChangeSpec := { name := "fnExactAreasFrom", fn := fun _ => fun
  | [d1, d2] => { results := [.lit (.bool true)], args := [d1, d2] }
  | _ => none }
def fnExactAreasFromRow : OpenClaim := { program := "ytfodlngbkmhboaa", sum := "fabcca6a9f0a0a763170f933cfd5a8749c748ff148740d2392b20fce476e10ae", func := "loop.example/g01279/laws.FnExactAreasFrom", spec := "fnExactAreasFrom", apart := false }
def FnExactAreasFromSaid : Prop := fnExactAreasFromRow.holds Try.pinned (OpenSpec.ofChange fnExactAreasFromSpec)

/-- ITS FALSE NEIGHBOUR: 'it returns false'. Refute it at one input. -/
def fnExactAreasFromWrong : ChangeSpec := { name := "fnExactAreasFrom", fn := fun _ => fun
  | [d1, d2] => { results := [.lit (.bool false)], args := [d1, d2] }
  | _ => none }
def FnExactAreasFromWrongFalsely : Prop := fnExactAreasFromRow.holds Try.pinned (OpenSpec.ofChange fnExactAreasFromWrong)

/-- 'laws.FnExactValidTube': WHATEVER THE INPUT: true; the input reads as it did. -/
def fnExactValidTubeSpec : ChangeSpec := { name := "fnExactValidTube", fn := fun _ => fun
  | [d] => { results := [.lit (.bool true)], args := [d] }
  | _ => none }
def fnExactValidTubeRow : OpenClaim := { program := "ytfodlngbkmhboaa", sum := "fabcca6a9f0a0a763170f933cfd5a8749c748ff148740d2392b20fce476e10ae", func := "loop.example/g01279/laws.FnExactValidTube", spec := "fnExactValidTube", apart := false }
def FnExactValidTubeSaid : Prop := fnExactValidTubeRow.holds Try.pinned (OpenSpec.ofChange fnExactValidTubeSpec)

/-- ITS FALSE NEIGHBOUR: 'it returns false'. Refute it at one input. -/
def fnExactValidTubeWrong : ChangeSpec := { name := "fnExactValidTube", fn := fun _ => fun
  | [d] => { results := [.lit (.bool false)], args := [d] }
  | _ => none }
def FnExactValidTubeWrongFalsely : Prop := fnExactValidTubeRow.holds Try.pinned (OpenSpec.ofChange fnExactValidTubeWrong)

/-- 'laws.FnExactSameWaves': WHATEVER THE INPUT: true; the input reads as it did. -/
def fnExactSameWavesSpec : ChangeSpec := { name := "fnExactSameWaves", fn := fun _ => fun
  | [d1, d2] => { results := [.lit (.bool true)], args := [d1, d2] }
  | _ => none }
def fnExactSameWavesRow : OpenClaim := { program := "ytfodlngbkmhboaa", sum := "fabcca6a9f0a0a763170f933cfd5a8749c748ff148740d2392b20fce476e10ae", func := "loop.example/g01279/laws.FnExactSameWaves", spec := "fnExactSameWaves", inPlace := ["math.Float32bits", "math.Float64bits"], apart := false }
def FnExactSameWavesSaid : Prop := fnExactSameWavesRow.holds Try.pinned (OpenSpec.ofChange fnExactSameWavesSpec)

/-- ITS FALSE NEIGHBOUR: 'it returns false'. Refute it at one input. -/
def fnExactSameWavesWrong : ChangeSpec := { name := "fnExactSameWaves", fn := fun _ => fun
  | [d1, d2] => { results := [.lit (.bool false)], args := [d1, d2] }
  | _ => none }
def FnExactSameWavesWrongFalsely : Prop := fnExactSameWavesRow.holds Try.pinned (OpenSpec.ofChange fnExactSameWavesWrong)

/-- 'laws.FnExactSameTube': WHATEVER THE INPUT: true; the input reads as it did. -/
def fnExactSameTubeSpec : ChangeSpec := { name := "fnExactSameTube", fn := fun _ => fun
  | [d1, d2] => { results := [.lit (.bool true)], args := [d1, d2] }
  | _ => none }
def fnExactSameTubeRow : OpenClaim := { program := "ytfodlngbkmhboaa", sum := "fabcca6a9f0a0a763170f933cfd5a8749c748ff148740d2392b20fce476e10ae", func := "loop.example/g01279/laws.FnExactSameTube", spec := "fnExactSameTube", inPlace := ["math.Float32bits", "math.Float64bits"], apart := false }
def FnExactSameTubeSaid : Prop := fnExactSameTubeRow.holds Try.pinned (OpenSpec.ofChange fnExactSameTubeSpec)

/-- ITS FALSE NEIGHBOUR: 'it returns false'. Refute it at one input. -/
def fnExactSameTubeWrong : ChangeSpec := { name := "fnExactSameTube", fn := fun _ => fun
  | [d1, d2] => { results := [.lit (.bool false)], args := [d1, d2] }
  | _ => none }
def FnExactSameTubeWrongFalsely : Prop := fnExactSameTubeRow.holds Try.pinned (OpenSpec.ofChange fnExactSameTubeWrong)

/-- 'laws.FnExactNarrowestOf': WHATEVER THE INPUT: true; the input reads as it did. -/
def fnExactNarrowestOfSpec : ChangeSpec := { name := "fnExactNarrowestOf", fn := fun _ => fun
  | [d] => { results := [.lit (.bool true)], args := [d] }
  | _ => none }
def fnExactNarrowestOfRow : OpenClaim := { program := "ytfodlngbkmhboaa", sum := "fabcca6a9f0a0a763170f933cfd5a8749c748ff148740d2392b20fce476e10ae", func := "loop.example/g01279/laws.FnExactNarrowestOf", spec := "fnExactNarrowestOf", apart := false }
def FnExactNarrowestOfSaid : Prop := fnExactNarrowestOfRow.holds Try.pinned (OpenSpec.ofChange fnExactNarrowestOfSpec)

/-- ITS FALSE NEIGHBOUR: 'it returns false'. Refute it at one input. -/
def fnExactNarrowestOfWrong : ChangeSpec := { name := "fnExactNarrowestOf", fn := fun _ => fun
  | [d] => { results := [.lit (.bool false)], args := [d] }
  | _ => none }
def FnExactNarrowestOfWrongFalsely : Prop := fnExactNarrowestOfRow.holds Try.pinned (OpenSpec.ofChange fnExactNarrowestOfWrong)

/-- 'laws.FnExactVolumeOf': WHATEVER THE INPUT: true; the input reads as it did. -/
def fnExactVolumeOfSpec : ChangeSpec := { name := "fnExactVolumeOf", fn := fun _ => fun
  | [d] => { results := [.lit (.bool true)], args := [d] }
  | _ => none }
def fnExactVolumeOfRow : OpenClaim := { program := "ytfodlngbkmhboaa", sum := "fabcca6a9f0a0a763170f933cfd5a8749c748ff148740d2392b20fce476e10ae", func := "loop.example/g01279/laws.FnExactVolumeOf", spec := "fnExactVolumeOf", apart := false }
def FnExactVolumeOfSaid : Prop := fnExactVolumeOfRow.holds Try.pinned (OpenSpec.ofChange fnExactVolumeOfSpec)

/-- ITS FALSE NEIGHBOUR: 'it returns false'. Refute it at one input. -/
def fnExactVolumeOfWrong : ChangeSpec := { name := "fnExactVolumeOf", fn := fun _ => fun
  | [d] => { results := [.lit (.bool false)], args := [d] }
  | _ => none }
def FnExactVolumeOfWrongFalsely : Prop := fnExactVolumeOfRow.holds Try.pinned (OpenSpec.ofChange fnExactVolumeOfWrong)

/-- 'laws.FnExactHornTube': WHATEVER THE INPUT: true; the input reads as it did. -/
def fnExactHornTubeSpec : ChangeSpec := { name := "fnExactHornTube", fn := fun _ => fun
  | [d1, d2, d3] => { results := [.lit (.bool true)], args := [d1, d2, d3] }
  | _ => none }
def fnExactHornTubeRow : OpenClaim := { program := "ytfodlngbkmhboaa", sum := "fabcca6a9f0a0a763170f933cfd5a8749c748ff148740d2392b20fce476e10ae", func := "loop.example/g01279/laws.FnExactHornTube", spec := "fnExactHornTube", apart := false }
def FnExactHornTubeSaid : Prop := fnExactHornTubeRow.holds Try.pinned (OpenSpec.ofChange fnExactHornTubeSpec)

/-- ITS FALSE NEIGHBOUR: 'it returns false'. Refute it at one input. -/
def fnExactHornTubeWrong : ChangeSpec := { name := "fnExactHornTube", fn := fun _ => fun
  | [d1, d2, d3] => { results := [.lit (.bool false)], args := [d1, d2, d3] }
  | _ => none }
def FnExactHornTubeWrongFalsely : Prop := fnExactHornTubeRow.holds Try.pinned (OpenSpec.ofChange fnExactHornTubeWrong)

/-- 'laws.FnExactAreWaves': WHATEVER THE INPUT: true; the input reads as it did. -/
def fnExactAreWavesSpec : ChangeSpec := { name := "fnExactAreWaves", fn := fun _ => fun
  | [d1, d2] => { results := [.lit (.bool true)], args := [d1, d2] }
  | _ => none }
def fnExactAreWavesRow : OpenClaim := { program := "ytfodlngbkmhboaa", sum := "fabcca6a9f0a0a763170f933cfd5a8749c748ff148740d2392b20fce476e10ae", func := "loop.example/g01279/laws.FnExactAreWaves", spec := "fnExactAreWaves", apart := false }
def FnExactAreWavesSaid : Prop := fnExactAreWavesRow.holds Try.pinned (OpenSpec.ofChange fnExactAreWavesSpec)

/-- ITS FALSE NEIGHBOUR: 'it returns false'. Refute it at one input. -/
def fnExactAreWavesWrong : ChangeSpec := { name := "fnExactAreWaves", fn := fun _ => fun
  | [d1, d2] => { results := [.lit (.bool false)], args := [d1, d2] }
  | _ => none }
def FnExactAreWavesWrongFalsely : Prop := fnExactAreWavesRow.holds Try.pinned (OpenSpec.ofChange fnExactAreWavesWrong)

/-- 'laws.FnExactStillWaves': WHATEVER THE INPUT: true; the input reads as it did. -/
def fnExactStillWavesSpec : ChangeSpec := { name := "fnExactStillWaves", fn := fun _ => fun
  | [d] => { results := [.lit (.bool true)], args := [d] }
  | _ => none }
def fnExactStillWavesRow : OpenClaim := { program := "ytfodlngbkmhboaa", sum := "fabcca6a9f0a0a763170f933cfd5a8749c748ff148740d2392b20fce476e10ae", func := "loop.example/g01279/laws.FnExactStillWaves", spec := "fnExactStillWaves", apart := false }
def FnExactStillWavesSaid : Prop := fnExactStillWavesRow.holds Try.pinned (OpenSpec.ofChange fnExactStillWavesSpec)

/-- ITS FALSE NEIGHBOUR: 'it returns false'. Refute it at one input. -/
def fnExactStillWavesWrong : ChangeSpec := { name := "fnExactStillWaves", fn := fun _ => fun
  | [d] => { results := [.lit (.bool false)], args := [d] }
  | _ => none }
def FnExactStillWavesWrongFalsely : Prop := fnExactStillWavesRow.holds Try.pinned (OpenSpec.ofChange fnExactStillWavesWrong)

/-- 'laws.FnExactBackTube': WHATEVER THE INPUT: true; the input reads as it did. -/
def fnExactBackTubeSpec : ChangeSpec := { name := "fnExactBackTube", fn := fun _ => fun
  | [d] => { results := [.lit (.bool true)], args := [d] }
  | _ => none }
def fnExactBackTubeRow : OpenClaim := { program := "ytfodlngbkmhboaa", sum := "fabcca6a9f0a0a763170f933cfd5a8749c748ff148740d2392b20fce476e10ae", func := "loop.example/g01279/laws.FnExactBackTube", spec := "fnExactBackTube", apart := false }
def FnExactBackTubeSaid : Prop := fnExactBackTubeRow.holds Try.pinned (OpenSpec.ofChange fnExactBackTubeSpec)

/-- ITS FALSE NEIGHBOUR: 'it returns false'. Refute it at one input. -/
def fnExactBackTubeWrong : ChangeSpec := { name := "fnExactBackTube", fn := fun _ => fun
  | [d] => { results := [.lit (.bool false)], args := [d] }
  | _ => none }
def FnExactBackTubeWrongFalsely : Prop := fnExactBackTubeRow.holds Try.pinned (OpenSpec.ofChange fnExactBackTubeWrong)

/-- 'laws.FnExactReflectionsOf': WHATEVER THE INPUT: true; the input reads as it did. -/
def fnExactReflectionsOfSpec : ChangeSpec := { name := "fnExactReflectionsOf", fn := fun _ => fun
  | [d] => { results := [.lit (.bool true)], args := [d] }
  | _ => none }
def fnExactReflectionsOfRow : OpenClaim := { program := "ytfodlngbkmhboaa", sum := "fabcca6a9f0a0a763170f933cfd5a8749c748ff148740d2392b20fce476e10ae", func := "loop.example/g01279/laws.FnExactReflectionsOf", spec := "fnExactReflectionsOf", apart := false }
def FnExactReflectionsOfSaid : Prop := fnExactReflectionsOfRow.holds Try.pinned (OpenSpec.ofChange fnExactReflectionsOfSpec)

/-- ITS FALSE NEIGHBOUR: 'it returns false'. Refute it at one input. -/
def fnExactReflectionsOfWrong : ChangeSpec := { name := "fnExactReflectionsOf", fn := fun _ => fun
  | [d] => { results := [.lit (.bool false)], args := [d] }
  | _ => none }
def FnExactReflectionsOfWrongFalsely : Prop := fnExactReflectionsOfRow.holds Try.pinned (OpenSpec.ofChange fnExactReflectionsOfWrong)

/-- 'laws.FnExactSetEnds': WHATEVER THE INPUT: true; the input reads as it did. -/
def fnExactSetEndsSpec : ChangeSpec := { name := "fnExactSetEnds", fn := fun _ => fun
  | [d1, d2, d3, d4] => { results := [.lit (.bool true)], args := [d1, d2, d3, d4] }
  | _ => none }
def fnExactSetEndsRow : OpenClaim := { program := "ytfodlngbkmhboaa", sum := "fabcca6a9f0a0a763170f933cfd5a8749c748ff148740d2392b20fce476e10ae", func := "loop.example/g01279/laws.FnExactSetEnds", spec := "fnExactSetEnds", apart := false }
def FnExactSetEndsSaid : Prop := fnExactSetEndsRow.holds Try.pinned (OpenSpec.ofChange fnExactSetEndsSpec)

/-- ITS FALSE NEIGHBOUR: 'it returns false'. Refute it at one input. -/
def fnExactSetEndsWrong : ChangeSpec := { name := "fnExactSetEnds", fn := fun _ => fun
  | [d1, d2, d3, d4] => { results := [.lit (.bool false)], args := [d1, d2, d3, d4] }
  | _ => none }
def FnExactSetEndsWrongFalsely : Prop := fnExactSetEndsRow.holds Try.pinned (OpenSpec.ofChange fnExactSetEndsWrong)

/- THE SECOND FORM. 'bulk': how many values and letters a reading holds, each counted each time it is reached (what is shared counts as often as it is met; a slice's spare places count too). A statement '..UptoSaid' is the law's where the arguments, and the package variables that the reading takes, are together of bulk at most 1048576: NARROWER than '..Said'. Prove '..Said' where nothing that the law and all that it calls make is longer than what came in: it says more and counts as full. Else prove '..UptoSaid'. A law counts once. -/
mutual
def uptoBulk {H : Type} : DataW H → Nat
  | .lit (.string bytes) => bytes.length + 1
  | .lit _ => 1
  | .nil => 1
  | .ptr d => uptoBulk d + 1
  | .slice elems spare => uptoBulkAll elems + uptoBulkAll spare + 1
  | .agg parts => uptoBulkAll parts + 1
  | .iface _ d => uptoBulk d + 1
  | .map entries => uptoBulkEntries entries + 1
  | .held _ => 1
def uptoBulkAll {H : Type} : List (DataW H) → Nat
  | [] => 0
  | d :: r => uptoBulk d + uptoBulkAll r
def uptoBulkEntries {H : Type} : List (Lit × DataW H) → Nat
  | [] => 0
  | x :: r => uptoBulkEntry x + uptoBulkEntries r
def uptoBulkEntry {H : Type} : Lit × DataW H → Nat
  | (.string bytes, d) => bytes.length + uptoBulk d + 1
  | (_, d) => uptoBulk d + 1
 end
def uptoSmall : (H : Type) → List (DataW H) → Bool := fun _ ds => decide (uptoBulkAll ds ≤ 1048576)
def OpenSpec.upto (s : _root_.Go.ChangeSpec) : _root_.Go.OpenSpec := { _root_.Go.OpenSpec.ofChange s with cond := some uptoSmall }

/-- 'laws.FnExactSumNumbers', WHERE WHAT IT READS IS OF BULK AT MOST 1048576: true; the input reads as it did. -/
def fnExactSumNumbersUptoRow : OpenClaim := { program := "ytfodlngbkmhboaa", sum := "fabcca6a9f0a0a763170f933cfd5a8749c748ff148740d2392b20fce476e10ae", func := "loop.example/g01279/laws.FnExactSumNumbers", spec := "fnExactSumNumbers", apart := false, narrowed := true }
def FnExactSumNumbersUptoSaid : Prop := fnExactSumNumbersUptoRow.holds Try.pinned (OpenSpec.upto fnExactSumNumbersSpec)

/-- 'laws.FnExactDotNumbers', WHERE WHAT IT READS IS OF BULK AT MOST 1048576: true; the input reads as it did. -/
def fnExactDotNumbersUptoRow : OpenClaim := { program := "ytfodlngbkmhboaa", sum := "fabcca6a9f0a0a763170f933cfd5a8749c748ff148740d2392b20fce476e10ae", func := "loop.example/g01279/laws.FnExactDotNumbers", spec := "fnExactDotNumbers", apart := false, narrowed := true }
def FnExactDotNumbersUptoSaid : Prop := fnExactDotNumbersUptoRow.holds Try.pinned (OpenSpec.upto fnExactDotNumbersSpec)

/-- 'laws.FnExactAreasFrom', WHERE WHAT IT READS IS OF BULK AT MOST 1048576: true; the input reads as it did. -/
def fnExactAreasFromUptoRow : OpenClaim := { program := "ytfodlngbkmhboaa", sum := "fabcca6a9f0a0a763170f933cfd5a8749c748ff148740d2392b20fce476e10ae", func := "loop.example/g01279/laws.FnExactAreasFrom", spec := "fnExactAreasFrom", apart := false, narrowed := true }
def FnExactAreasFromUptoSaid : Prop := fnExactAreasFromUptoRow.holds Try.pinned (OpenSpec.upto fnExactAreasFromSpec)

/-- 'laws.FnExactValidTube', WHERE WHAT IT READS IS OF BULK AT MOST 1048576: true; the input reads as it did. -/
def fnExactValidTubeUptoRow : OpenClaim := { program := "ytfodlngbkmhboaa", sum := "fabcca6a9f0a0a763170f933cfd5a8749c748ff148740d2392b20fce476e10ae", func := "loop.example/g01279/laws.FnExactValidTube", spec := "fnExactValidTube", apart := false, narrowed := true }
def FnExactValidTubeUptoSaid : Prop := fnExactValidTubeUptoRow.holds Try.pinned (OpenSpec.upto fnExactValidTubeSpec)

/-- 'laws.FnExactSameWaves', WHERE WHAT IT READS IS OF BULK AT MOST 1048576: true; the input reads as it did. -/
def fnExactSameWavesUptoRow : OpenClaim := { program := "ytfodlngbkmhboaa", sum := "fabcca6a9f0a0a763170f933cfd5a8749c748ff148740d2392b20fce476e10ae", func := "loop.example/g01279/laws.FnExactSameWaves", spec := "fnExactSameWaves", inPlace := ["math.Float32bits", "math.Float64bits"], apart := false, narrowed := true }
def FnExactSameWavesUptoSaid : Prop := fnExactSameWavesUptoRow.holds Try.pinned (OpenSpec.upto fnExactSameWavesSpec)

/-- 'laws.FnExactSameTube', WHERE WHAT IT READS IS OF BULK AT MOST 1048576: true; the input reads as it did. -/
def fnExactSameTubeUptoRow : OpenClaim := { program := "ytfodlngbkmhboaa", sum := "fabcca6a9f0a0a763170f933cfd5a8749c748ff148740d2392b20fce476e10ae", func := "loop.example/g01279/laws.FnExactSameTube", spec := "fnExactSameTube", inPlace := ["math.Float32bits", "math.Float64bits"], apart := false, narrowed := true }
def FnExactSameTubeUptoSaid : Prop := fnExactSameTubeUptoRow.holds Try.pinned (OpenSpec.upto fnExactSameTubeSpec)

/-- 'laws.FnExactNarrowestOf', WHERE WHAT IT READS IS OF BULK AT MOST 1048576: true; the input reads as it did. -/
def fnExactNarrowestOfUptoRow : OpenClaim := { program := "ytfodlngbkmhboaa", sum := "fabcca6a9f0a0a763170f933cfd5a8749c748ff148740d2392b20fce476e10ae", func := "loop.example/g01279/laws.FnExactNarrowestOf", spec := "fnExactNarrowestOf", apart := false, narrowed := true }
def FnExactNarrowestOfUptoSaid : Prop := fnExactNarrowestOfUptoRow.holds Try.pinned (OpenSpec.upto fnExactNarrowestOfSpec)

/-- 'laws.FnExactVolumeOf', WHERE WHAT IT READS IS OF BULK AT MOST 1048576: true; the input reads as it did. -/
def fnExactVolumeOfUptoRow : OpenClaim := { program := "ytfodlngbkmhboaa", sum := "fabcca6a9f0a0a763170f933cfd5a8749c748ff148740d2392b20fce476e10ae", func := "loop.example/g01279/laws.FnExactVolumeOf", spec := "fnExactVolumeOf", apart := false, narrowed := true }
def FnExactVolumeOfUptoSaid : Prop := fnExactVolumeOfUptoRow.holds Try.pinned (OpenSpec.upto fnExactVolumeOfSpec)

/-- 'laws.FnExactHornTube', WHERE WHAT IT READS IS OF BULK AT MOST 1048576: true; the input reads as it did. -/
def fnExactHornTubeUptoRow : OpenClaim := { program := "ytfodlngbkmhboaa", sum := "fabcca6a9f0a0a763170f933cfd5a8749c748ff148740d2392b20fce476e10ae", func := "loop.example/g01279/laws.FnExactHornTube", spec := "fnExactHornTube", apart := false, narrowed := true }
def FnExactHornTubeUptoSaid : Prop := fnExactHornTubeUptoRow.holds Try.pinned (OpenSpec.upto fnExactHornTubeSpec)

/-- 'laws.FnExactAreWaves', WHERE WHAT IT READS IS OF BULK AT MOST 1048576: true; the input reads as it did. -/
def fnExactAreWavesUptoRow : OpenClaim := { program := "ytfodlngbkmhboaa", sum := "fabcca6a9f0a0a763170f933cfd5a8749c748ff148740d2392b20fce476e10ae", func := "loop.example/g01279/laws.FnExactAreWaves", spec := "fnExactAreWaves", apart := false, narrowed := true }
def FnExactAreWavesUptoSaid : Prop := fnExactAreWavesUptoRow.holds Try.pinned (OpenSpec.upto fnExactAreWavesSpec)

/-- 'laws.FnExactStillWaves', WHERE WHAT IT READS IS OF BULK AT MOST 1048576: true; the input reads as it did. -/
def fnExactStillWavesUptoRow : OpenClaim := { program := "ytfodlngbkmhboaa", sum := "fabcca6a9f0a0a763170f933cfd5a8749c748ff148740d2392b20fce476e10ae", func := "loop.example/g01279/laws.FnExactStillWaves", spec := "fnExactStillWaves", apart := false, narrowed := true }
def FnExactStillWavesUptoSaid : Prop := fnExactStillWavesUptoRow.holds Try.pinned (OpenSpec.upto fnExactStillWavesSpec)

/-- 'laws.FnExactBackTube', WHERE WHAT IT READS IS OF BULK AT MOST 1048576: true; the input reads as it did. -/
def fnExactBackTubeUptoRow : OpenClaim := { program := "ytfodlngbkmhboaa", sum := "fabcca6a9f0a0a763170f933cfd5a8749c748ff148740d2392b20fce476e10ae", func := "loop.example/g01279/laws.FnExactBackTube", spec := "fnExactBackTube", apart := false, narrowed := true }
def FnExactBackTubeUptoSaid : Prop := fnExactBackTubeUptoRow.holds Try.pinned (OpenSpec.upto fnExactBackTubeSpec)

/-- 'laws.FnExactReflectionsOf', WHERE WHAT IT READS IS OF BULK AT MOST 1048576: true; the input reads as it did. -/
def fnExactReflectionsOfUptoRow : OpenClaim := { program := "ytfodlngbkmhboaa", sum := "fabcca6a9f0a0a763170f933cfd5a8749c748ff148740d2392b20fce476e10ae", func := "loop.example/g01279/laws.FnExactReflectionsOf", spec := "fnExactReflectionsOf", apart := false, narrowed := true }
def FnExactReflectionsOfUptoSaid : Prop := fnExactReflectionsOfUptoRow.holds Try.pinned (OpenSpec.upto fnExactReflectionsOfSpec)

/-- 'laws.FnExactSetEnds', WHERE WHAT IT READS IS OF BULK AT MOST 1048576: true; the input reads as it did. -/
def fnExactSetEndsUptoRow : OpenClaim := { program := "ytfodlngbkmhboaa", sum := "fabcca6a9f0a0a763170f933cfd5a8749c748ff148740d2392b20fce476e10ae", func := "loop.example/g01279/laws.FnExactSetEnds", spec := "fnExactSetEnds", apart := false, narrowed := true }
def FnExactSetEndsUptoSaid : Prop := fnExactSetEndsUptoRow.holds Try.pinned (OpenSpec.upto fnExactSetEndsSpec)

end Rows
end Go.Proofs.Ytfodlngbkmhboaa
