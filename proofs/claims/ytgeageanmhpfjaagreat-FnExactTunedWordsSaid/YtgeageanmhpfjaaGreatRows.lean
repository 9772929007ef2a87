/-
  No cell of these rows narrows 'for every input' (looked for: loops, veiled, ifaces, maps, wideKeys, modest, calm, conditions, laid).
  DERIVED. THE GIVEN ROWS OF THIS SEAT. 12 by the template 'for every input the law returns true; each argument reads behind the call as it read before'; 0 by the template 'total and deterministic' (their statements: YtgeageanmhpfjaaGreatTotals.lean).
  GIVEN WITH THE SEED: the statements are not yours to turn. If you find one false, say at which input.
  Laid BY PROGRAM, IN A SANDBOX (cutbox-rows.mjs): the forced cells as the released guide's own fill.sh prints them over the translation 3f74652aca5a6810… (all of the seat's roots in one cut). By AI agents, Wed Nov 11 2026. No macro, syntax, notation, axiom, sorry.
-/
import Derived.Test.YtgeageanmhpfjaaGreatChecked
import GoSem.Claim
import GoSem.ClaimJoined
import GoSem.ClaimMapViews
import Derived.JoinedTies
import Derived.KernelRfl
namespace Go.Proofs.YtgeageanmhpfjaaGreat
/- THE CELL 'sum', in the pinned program and in every row, IS THE sha256 OF THE DUMP (.gsa) THAT YtgeageanmhpfjaaGreatProg.lean LOADS. Nothing in Lean hashes anything: it is a label: what it is worth is what the hold of that sum in a sandbox is worth. -/
noncomputable def Tryz.pinned : Pinned := { name := "ytgeageanmhpfjaagreat", sum := "3f74652aca5a6810c5c5ddd4babcb819989e2315adb3d4754acf8ba06c2492dc", checked := Tryz.checked }
namespace Rows
def none {H : Type} : Left H := { results := [], args := [] }

/-- 'laws.FnExactWordsOf': WHATEVER THE INPUT: true; the input reads as it did. -/
def fnExactWordsOfSpec : ChangeSpec := { name := "fnExactWordsOf", fn := fun _ => fun
  | [d] => { results := [.lit (.bool true)], args := [d] }
  | _ => none }
def fnExactWordsOfRow : OpenClaim := { program := "ytgeageanmhpfjaagreat", sum := "3f74652aca5a6810c5c5ddd4babcb819989e2315adb3d4754acf8ba06c2492dc", func := "loop.example/g01234/laws.FnExactWordsOf", spec := "fnExactWordsOf", inPlace := ["internal/abi.NoEscape", "internal/bytealg.MakeNoZero"], unfollowed := true, recurses := true, apart := false }
def FnExactWordsOfSaid : Prop := fnExactWordsOfRow.holds Tryz.pinned (OpenSpec.ofChange fnExactWordsOfSpec)

/-- ITS FALSE NEIGHBOUR: 'it returns false'. Refute it at one input. -/
def fnExactWordsOfWrong : ChangeSpec := { name := "fnExactWordsOf", fn := fun _ => fun
  | [d] => { results := [.lit (.bool false)], args := [d] }
  | _ => none }
def FnExactWordsOfWrongFalsely : Prop := fnExactWordsOfRow.holds Tryz.pinned (OpenSpec.ofChange fnExactWordsOfWrong)

/-- 'laws.FnExactIsSimpleAngle': WHATEVER THE INPUT: true; the input reads as it did. -/
def fnExactIsSimpleAngleSpec : ChangeSpec := { name := "fnExactIsSimpleAngle", fn := fun _ => fun
  | [d] => { results := [.lit (.bool true)], args := [d] }
  | _ => none }
def fnExactIsSimpleAngleRow : OpenClaim := { program := "ytgeageanmhpfjaagreat", sum := "3f74652aca5a6810c5c5ddd4babcb819989e2315adb3d4754acf8ba06c2492dc", func := "loop.example/g01234/laws.FnExactIsSimpleAngle", spec := "fnExactIsSimpleAngle", inPlace := ["internal/abi.NoEscape", "internal/bytealg.MakeNoZero"], unfollowed := true, recurses := true, apart := false }
def FnExactIsSimpleAngleSaid : Prop := fnExactIsSimpleAngleRow.holds Tryz.pinned (OpenSpec.ofChange fnExactIsSimpleAngleSpec)

/-- ITS FALSE NEIGHBOUR: 'it returns false'. Refute it at one input. -/
def fnExactIsSimpleAngleWrong : ChangeSpec := { name := "fnExactIsSimpleAngle", fn := fun _ => fun
  | [d] => { results := [.lit (.bool false)], args := [d] }
  | _ => none }
def FnExactIsSimpleAngleWrongFalsely : Prop := fnExactIsSimpleAngleRow.holds Tryz.pinned (OpenSpec.ofChange fnExactIsSimpleAngleWrong)

/-- 'laws.FnExactIsRenormalizable': WHATEVER THE INPUT: true; the input reads as it did. -/
def fnExactIsRenormalizableSpec : ChangeSpec := { name := "fnExactIsRenormalizable", fn := fun _ => fun
  | [d1, d2] => { results := [.lit (.bool true)], args := [d1, d2] }
  | _ => none }
def fnExactIsRenormalizableRow : OpenClaim := { program := "ytgeageanmhpfjaagreat", sum := "3f74652aca5a6810c5c5ddd4babcb819989e2315adb3d4754acf8ba06c2492dc", func := "loop.example/g01234/laws.FnExactIsRenormalizable", spec := "fnExactIsRenormalizable", inPlace := ["internal/abi.NoEscape", "internal/bytealg.MakeNoZero"], unfollowed := true, recurses := true, apart := false }
def FnExactIsRenormalizableSaid : Prop := fnExactIsRenormalizableRow.holds Tryz.pinned (OpenSpec.ofChange fnExactIsRenormalizableSpec)

/-- ITS FALSE NEIGHBOUR: 'it returns false'. Refute it at one input. -/
def fnExactIsRenormalizableWrong : ChangeSpec := { name := "fnExactIsRenormalizable", fn := fun _ => fun
  | [d1, d2] => { results := [.lit (.bool false)], args := [d1, d2] }
  | _ => none }
def FnExactIsRenormalizableWrongFalsely : Prop := fnExactIsRenormalizableRow.holds Tryz.pinned (OpenSpec.ofChange fnExactIsRenormalizableWrong)

/-- 'laws.FnExactTunedWords': WHATEVER THE INPUT: true; the input reads as it did. -/
def fnExactTunedWordsSpec : ChangeSpec := { name := "fnExactTunedWords", fn := fun _ => fun
  | [d1, d2] => { results := [.lit (.bool true)], args := [d1, d2] }
  | _ => none }
def fnExactTunedWordsRow : OpenClaim := { program := "ytgeageanmhpfjaagreat", sum := "3f74652aca5a6810c5c5ddd4babcb819989e2315adb3d4754acf8ba06c2492dc", func := "loop.example/g01234/laws.FnExactTunedWords", spec := "fnExactTunedWords", inPlace := ["internal/abi.NoEscape", "internal/bytealg.MakeNoZero"], unfollowed := true, recurses := true, apart := false }
def FnExactTunedWordsSaid : Prop := fnExactTunedWordsRow.holds Tryz.pinned (OpenSpec.ofChange fnExactTunedWordsSpec)

/-- ITS FALSE NEIGHBOUR: 'it returns false'. Refute it at one input. -/
def fnExactTunedWordsWrong : ChangeSpec := { name := "fnExactTunedWords", fn := fun _ => fun
  | [d1, d2] => { results := [.lit (.bool false)], args := [d1, d2] }
  | _ => none }
def FnExactTunedWordsWrongFalsely : Prop := fnExactTunedWordsRow.holds Tryz.pinned (OpenSpec.ofChange fnExactTunedWordsWrong)

/-- 'laws.FnExactRenormalizationsOf': WHATEVER THE INPUT: true; the input reads as it did. -/
def fnExactRenormalizationsOfSpec : ChangeSpec := { name := "fnExactRenormalizationsOf", fn := fun _ => fun
  | [d1, d2] => { results := [.lit (.bool true)], args := [d1, d2] }
  | _ => none }
def fnExactRenormalizationsOfRow : OpenClaim := { program := "ytgeageanmhpfjaagreat", sum := "3f74652aca5a6810c5c5ddd4babcb819989e2315adb3d4754acf8ba06c2492dc", func := "loop.example/g01234/laws.FnExactRenormalizationsOf", spec := "fnExactRenormalizationsOf", inPlace := ["internal/abi.NoEscape", "internal/bytealg.MakeNoZero"], unfollowed := true, recurses := true, apart := false }
def FnExactRenormalizationsOfSaid : Prop := fnExactRenormalizationsOfRow.holds Tryz.pinned (OpenSpec.ofChange fnExactRenormalizationsOfSpec)

/-- ITS FALSE NEIGHBOUR: 'it returns false'. Refute it at one input. -/
def fnExactRenormalizationsOfWrong : ChangeSpec := { name := "fnExactRenormalizationsOf", fn := fun _ => fun
  | [d1, d2] => { results := [.lit (.bool false)], args := [d1, d2] }
  | _ => none }
def FnExactRenormalizationsOfWrongFalsely : Prop := fnExactRenormalizationsOfRow.holds Tryz.pinned (OpenSpec.ofChange fnExactRenormalizationsOfWrong)

/-- 'laws.FnExactTuneAngle': WHATEVER THE INPUT: true; the input reads as it did. -/
def fnExactTuneAngleSpec : ChangeSpec := { name := "fnExactTuneAngle", fn := fun _ => fun
  | [d1, d2] => { results := [.lit (.bool true)], args := [d1, d2] }
  | _ => none }
def fnExactTuneAngleRow : OpenClaim := { program := "ytgeageanmhpfjaagreat", sum := "3f74652aca5a6810c5c5ddd4babcb819989e2315adb3d4754acf8ba06c2492dc", func := "loop.example/g01234/laws.FnExactTuneAngle", spec := "fnExactTuneAngle", inPlace := ["internal/abi.NoEscape", "internal/bytealg.MakeNoZero", "internal/bytealg.IndexByteString", "internal/bytealg.IndexString"], unfollowed := true, recurses := true, named := ["internal/bytealg.MaxLen"], apart := false }
def FnExactTuneAngleSaid : Prop := fnExactTuneAngleRow.holds Tryz.pinned (OpenSpec.ofChange fnExactTuneAngleSpec)

/-- ITS FALSE NEIGHBOUR: 'it returns false'. Refute it at one input. -/
def fnExactTuneAngleWrong : ChangeSpec := { name := "fnExactTuneAngle", fn := fun _ => fun
  | [d1, d2] => { results := [.lit (.bool false)], args := [d1, d2] }
  | _ => none }
def FnExactTuneAngleWrongFalsely : Prop := fnExactTuneAngleRow.holds Tryz.pinned (OpenSpec.ofChange fnExactTuneAngleWrong)

/-- 'laws.FnExactUntuneAngle': WHATEVER THE INPUT: true; the input reads as it did. -/
def fnExactUntuneAngleSpec : ChangeSpec := { name := "fnExactUntuneAngle", fn := fun _ => fun
  | [d1, d2] => { results := [.lit (.bool true)], args := [d1, d2] }
  | _ => none }
def fnExactUntuneAngleRow : OpenClaim := { program := "ytgeageanmhpfjaagreat", sum := "3f74652aca5a6810c5c5ddd4babcb819989e2315adb3d4754acf8ba06c2492dc", func := "loop.example/g01234/laws.FnExactUntuneAngle", spec := "fnExactUntuneAngle", inPlace := ["internal/abi.NoEscape", "internal/bytealg.MakeNoZero", "internal/bytealg.IndexByteString", "internal/bytealg.IndexString"], unfollowed := true, recurses := true, named := ["internal/bytealg.MaxLen"], apart := false }
def FnExactUntuneAngleSaid : Prop := fnExactUntuneAngleRow.holds Tryz.pinned (OpenSpec.ofChange fnExactUntuneAngleSpec)

/-- ITS FALSE NEIGHBOUR: 'it returns false'. Refute it at one input. -/
def fnExactUntuneAngleWrong : ChangeSpec := { name := "fnExactUntuneAngle", fn := fun _ => fun
  | [d1, d2] => { results := [.lit (.bool false)], args := [d1, d2] }
  | _ => none }
def FnExactUntuneAngleWrongFalsely : Prop := fnExactUntuneAngleRow.holds Tryz.pinned (OpenSpec.ofChange fnExactUntuneAngleWrong)

/-- 'laws.FnExactTunePair': WHATEVER THE INPUT: true; the input reads as it did. -/
def fnExactTunePairSpec : ChangeSpec := { name := "fnExactTunePair", fn := fun _ => fun
  | [d1, d2] => { results := [.lit (.bool true)], args := [d1, d2] }
  | _ => none }
def fnExactTunePairRow : OpenClaim := { program := "ytgeageanmhpfjaagreat", sum := "3f74652aca5a6810c5c5ddd4babcb819989e2315adb3d4754acf8ba06c2492dc", func := "loop.example/g01234/laws.FnExactTunePair", spec := "fnExactTunePair", inPlace := ["internal/abi.NoEscape", "internal/bytealg.MakeNoZero", "internal/bytealg.IndexByteString", "internal/bytealg.IndexString"], unfollowed := true, recurses := true, named := ["internal/bytealg.MaxLen"], apart := false }
def FnExactTunePairSaid : Prop := fnExactTunePairRow.holds Tryz.pinned (OpenSpec.ofChange fnExactTunePairSpec)

/-- ITS FALSE NEIGHBOUR: 'it returns false'. Refute it at one input. -/
def fnExactTunePairWrong : ChangeSpec := { name := "fnExactTunePair", fn := fun _ => fun
  | [d1, d2] => { results := [.lit (.bool false)], args := [d1, d2] }
  | _ => none }
def FnExactTunePairWrongFalsely : Prop := fnExactTunePairRow.holds Tryz.pinned (OpenSpec.ofChange fnExactTunePairWrong)

/-- 'laws.FnWakes': WHATEVER THE INPUT: true; the input reads as it did. -/
def fnWakesSpec : ChangeSpec := { name := "fnWakes", fn := fun _ => fun
  | [d] => { results := [.lit (.bool true)], args := [d] }
  | _ => none }
def fnWakesRow : OpenClaim := { program := "ytgeageanmhpfjaagreat", sum := "3f74652aca5a6810c5c5ddd4babcb819989e2315adb3d4754acf8ba06c2492dc", func := "loop.example/g01234/laws.FnWakes", spec := "fnWakes", unfollowed := true, recurses := true, apart := false }
def FnWakesSaid : Prop := fnWakesRow.holds Tryz.pinned (OpenSpec.ofChange fnWakesSpec)

/-- ITS FALSE NEIGHBOUR: 'it returns false'. Refute it at one input. -/
def fnWakesWrong : ChangeSpec := { name := "fnWakes", fn := fun _ => fun
  | [d] => { results := [.lit (.bool false)], args := [d] }
  | _ => none }
def FnWakesWrongFalsely : Prop := fnWakesRow.holds Tryz.pinned (OpenSpec.ofChange fnWakesWrong)

/-- 'laws.FnRayPairs': WHATEVER THE INPUT: true; the input reads as it did. -/
def fnRayPairsSpec : ChangeSpec := { name := "fnRayPairs", fn := fun _ => fun
  | [d] => { results := [.lit (.bool true)], args := [d] }
  | _ => none }
def fnRayPairsRow : OpenClaim := { program := "ytgeageanmhpfjaagreat", sum := "3f74652aca5a6810c5c5ddd4babcb819989e2315adb3d4754acf8ba06c2492dc", func := "loop.example/g01234/laws.FnRayPairs", spec := "fnRayPairs", inPlace := ["internal/abi.NoEscape", "internal/bytealg.MakeNoZero"], unfollowed := true, recurses := true, apart := false }
def FnRayPairsSaid : Prop := fnRayPairsRow.holds Tryz.pinned (OpenSpec.ofChange fnRayPairsSpec)

/-- ITS FALSE NEIGHBOUR: 'it returns false'. Refute it at one input. -/
def fnRayPairsWrong : ChangeSpec := { name := "fnRayPairs", fn := fun _ => fun
  | [d] => { results := [.lit (.bool false)], args := [d] }
  | _ => none }
def FnRayPairsWrongFalsely : Prop := fnRayPairsRow.holds Tryz.pinned (OpenSpec.ofChange fnRayPairsWrong)

/-- 'laws.FnTuning': WHATEVER THE INPUT: true; the input reads as it did. -/
def fnTuningSpec : ChangeSpec := { name := "fnTuning", fn := fun _ => fun
  | [d] => { results := [.lit (.bool true)], args := [d] }
  | _ => none }
def fnTuningRow : OpenClaim := { program := "ytgeageanmhpfjaagreat", sum := "3f74652aca5a6810c5c5ddd4babcb819989e2315adb3d4754acf8ba06c2492dc", func := "loop.example/g01234/laws.FnTuning", spec := "fnTuning", inPlace := ["internal/abi.NoEscape", "internal/bytealg.MakeNoZero", "internal/bytealg.IndexByteString", "internal/bytealg.IndexString"], unfollowed := true, recurses := true, named := ["internal/bytealg.MaxLen"], apart := false }
def FnTuningSaid : Prop := fnTuningRow.holds Tryz.pinned (OpenSpec.ofChange fnTuningSpec)

/-- ITS FALSE NEIGHBOUR: 'it returns false'. Refute it at one input. -/
def fnTuningWrong : ChangeSpec := { name := "fnTuning", fn := fun _ => fun
  | [d] => { results := [.lit (.bool false)], args := [d] }
  | _ => none }
def FnTuningWrongFalsely : Prop := fnTuningRow.holds Tryz.pinned (OpenSpec.ofChange fnTuningWrong)

/-- 'laws.FnTunedPairs': WHATEVER THE INPUT: true; the input reads as it did. -/
def fnTunedPairsSpec : ChangeSpec := { name := "fnTunedPairs", fn := fun _ => fun
  | [d] => { results := [.lit (.bool true)], args := [d] }
  | _ => none }
def fnTunedPairsRow : OpenClaim := { program := "ytgeageanmhpfjaagreat", sum := "3f74652aca5a6810c5c5ddd4babcb819989e2315adb3d4754acf8ba06c2492dc", func := "loop.example/g01234/laws.FnTunedPairs", spec := "fnTunedPairs", inPlace := ["internal/abi.NoEscape", "internal/bytealg.MakeNoZero", "internal/bytealg.IndexByteString", "internal/bytealg.IndexString"], unfollowed := true, recurses := true, named := ["internal/bytealg.MaxLen"], apart := false }
def FnTunedPairsSaid : Prop := fnTunedPairsRow.holds Tryz.pinned (OpenSpec.ofChange fnTunedPairsSpec)

/-- ITS FALSE NEIGHBOUR: 'it returns false'. Refute it at one input. -/
def fnTunedPairsWrong : ChangeSpec := { name := "fnTunedPairs", fn := fun _ => fun
  | [d] => { results := [.lit (.bool false)], args := [d] }
  | _ => none }
def FnTunedPairsWrongFalsely : Prop := fnTunedPairsRow.holds Tryz.pinned (OpenSpec.ofChange fnTunedPairsWrong)

/- THE SECOND FORM. 'bulk': how many values and letters a reading holds, each counted each time it is reached (what is shared counts as often as it is met; a slice's spare places count too). A statement '..UptoSaid' is the law's where the arguments, and the package variables that the reading takes, are together of bulk at most 1048576: NARROWER than '..Said'. Prove '..Said' where nothing that the law and all that it calls make is longer than what came in: it says more and counts as full. Else prove '..UptoSaid'. A law counts once. -/
mutual
def uptoBulk {H : Type} : DataW H → Nat
  | .lit (.string bytes) => bytes.length + 1
  | .lit _ => 1
  | .nil => 1
  | .ptr d => uptoBulk d + 1
  | .slice elems spare => uptoBulkAll elems + uptoBulkAll spare + 1
  | .agg parts => uptoBulkAll parts + 1
  | .iface _ d => uptoBulk d + 1
  | .map entries => uptoBulkEntries entries + 1
  | .held _ => 1
def uptoBulkAll {H : Type} : List (DataW H) → Nat
  | [] => 0
  | d :: r => uptoBulk d + uptoBulkAll r
def uptoBulkEntries {H : Type} : List (Lit × DataW H) → Nat
  | [] => 0
  | x :: r => uptoBulkEntry x + uptoBulkEntries r
def uptoBulkEntry {H : Type} : Lit × DataW H → Nat
  | (.string bytes, d) => bytes.length + uptoBulk d + 1
  | (_, d) => uptoBulk d + 1
 end
def uptoSmall : (H : Type) → List (DataW H) → Bool := fun _ ds => decide (uptoBulkAll ds ≤ 1048576)
def OpenSpec.upto (s : _root_.Go.ChangeSpec) : _root_.Go.OpenSpec := { _root_.Go.OpenSpec.ofChange s with cond := some uptoSmall }

/-- 'laws.FnExactWordsOf', WHERE WHAT IT READS IS OF BULK AT MOST 1048576: true; the input reads as it did. -/
def fnExactWordsOfUptoRow : OpenClaim := { program := "ytgeageanmhpfjaagreat", sum := "3f74652aca5a6810c5c5ddd4babcb819989e2315adb3d4754acf8ba06c2492dc", func := "loop.example/g01234/laws.FnExactWordsOf", spec := "fnExactWordsOf", inPlace := ["internal/abi.NoEscape", "internal/bytealg.MakeNoZero"], unfollowed := true, recurses := true, apart := false, narrowed := true }
def FnExactWordsOfUptoSaid : Prop := fnExactWordsOfUptoRow.holds Tryz.pinned (OpenSpec.upto fnExactWordsOfSpec)

/-- 'laws.FnExactIsSimpleAngle', WHERE WHAT IT READS IS OF BULK AT MOST 1048576: true; the input reads as it did. -/
def fnExactIsSimpleAngleUptoRow : OpenClaim := { program := "ytgeageanmhpfjaagreat", sum := "3f74652aca5a6810c5c5ddd4babcb819989e2315adb3d4754acf8ba06c2492dc", func := "loop.example/g01234/laws.FnExactIsSimpleAngle", spec := "fnExactIsSimpleAngle", inPlace := ["internal/abi.NoEscape", "internal/bytealg.MakeNoZero"], unfollowed := true, recurses := true, apart := false, narrowed := true }
def FnExactIsSimpleAngleUptoSaid : Prop := fnExactIsSimpleAngleUptoRow.holds Tryz.pinned (OpenSpec.upto fnExactIsSimpleAngleSpec)

/-- 'laws.FnExactIsRenormalizable', WHERE WHAT IT READS IS OF BULK AT MOST 1048576: true; the input reads as it did. -/
def fnExactIsRenormalizableUptoRow : OpenClaim := { program := "ytgeageanmhpfjaagreat", sum := "3f74652aca5a6810c5c5ddd4babcb819989e2315adb3d4754acf8ba06c2492dc", func := "loop.example/g01234/laws.FnExactIsRenormalizable", spec := "fnExactIsRenormalizable", inPlace := ["internal/abi.NoEscape", "internal/bytealg.MakeNoZero"], unfollowed := true, recurses := true, apart := false, narrowed := true }
def FnExactIsRenormalizableUptoSaid : Prop := fnExactIsRenormalizableUptoRow.holds Tryz.pinned (OpenSpec.upto fnExactIsRenormalizableSpec)

/-- 'laws.FnExactTunedWords', WHERE WHAT IT READS IS OF BULK AT MOST 1048576: true; the input reads as it did. -/
def fnExactTunedWordsUptoRow : OpenClaim := { program := "ytgeageanmhpfjaagreat", sum := "3f74652aca5a6810c5c5ddd4babcb819989e2315adb3d4754acf8ba06c2492dc", func := "loop.example/g01234/laws.FnExactTunedWords", spec := "fnExactTunedWords", inPlace := ["internal/abi.NoEscape", "internal/bytealg.MakeNoZero"], unfollowed := true, recurses := true, apart := false, narrowed := true }
def FnExactTunedWordsUptoSaid : Prop := fnExactTunedWordsUptoRow.holds Tryz.pinned (OpenSpec.upto fnExactTunedWordsSpec)

/-- 'laws.FnExactRenormalizationsOf', WHERE WHAT IT READS IS OF BULK AT MOST 1048576: true; the input reads as it did. -/
def fnExactRenormalizationsOfUptoRow : OpenClaim := { program := "ytgeageanmhpfjaagreat", sum := "3f74652aca5a6810c5c5ddd4babcb819989e2315adb3d4754acf8ba06c2492dc", func := "loop.example/g01234/laws.FnExactRenormalizationsOf", spec := "fnExactRenormalizationsOf", inPlace := ["internal/abi.NoEscape", "internal/bytealg.MakeNoZero"], unfollowed := true, recurses := true, apart := false, narrowed := true }
def FnExactRenormalizationsOfUptoSaid : Prop := fnExactRenormalizationsOfUptoRow.holds Tryz.pinned (OpenSpec.upto fnExactRenormalizationsOfSpec)

/-- 'laws.FnExactTuneAngle', WHERE WHAT IT READS IS OF BULK AT MOST 1048576: true; the input reads as it did. -/
def fnExactTuneAngleUptoRow : OpenClaim := { program := "ytgeageanmhpfjaagreat", sum := "3f74652aca5a6810c5c5ddd4babcb819989e2315adb3d4754acf8ba06c2492dc", func := "loop.example/g01234/laws.FnExactTuneAngle", spec := "fnExactTuneAngle", inPlace := ["internal/abi.NoEscape", "internal/bytealg.MakeNoZero", "internal/bytealg.IndexByteString", "internal/bytealg.IndexString"], unfollowed := true, recurses := true, named := ["internal/bytealg.MaxLen"], apart := false, narrowed := true }
def FnExactTuneAngleUptoSaid : Prop := fnExactTuneAngleUptoRow.holds Tryz.pinned (OpenSpec.upto fnExactTuneAngleSpec)

/-- 'laws.FnExactUntuneAngle', WHERE WHAT IT READS IS OF BULK AT MOST 1048576: true; the input reads as it did. -/
def fnExactUntuneAngleUptoRow : OpenClaim := { program := "ytgeageanmhpfjaagreat", sum := "3f74652aca5a6810c5c5ddd4babcb819989e2315adb3d4754acf8ba06c2492dc", func := "loop.example/g01234/laws.FnExactUntuneAngle", spec := "fnExactUntuneAngle", inPlace := ["internal/abi.NoEscape", "internal/bytealg.MakeNoZero", "internal/bytealg.IndexByteString", "internal/bytealg.IndexString"], unfollowed := true, recurses := true, named := ["internal/bytealg.MaxLen"], apart := false, narrowed := true }
def FnExactUntuneAngleUptoSaid : Prop := fnExactUntuneAngleUptoRow.holds Tryz.pinned (OpenSpec.upto fnExactUntuneAngleSpec)

/-- 'laws.FnExactTunePair', WHERE WHAT IT READS IS OF BULK AT MOST 1048576: true; the input reads as it did. -/
def fnExactTunePairUptoRow : OpenClaim := { program := "ytgeageanmhpfjaagreat", sum := "3f74652aca5a6810c5c5ddd4babcb819989e2315adb3d4754acf8ba06c2492dc", func := "loop.example/g01234/laws.FnExactTunePair", spec := "fnExactTunePair", inPlace := ["internal/abi.NoEscape", "internal/bytealg.MakeNoZero", "internal/bytealg.IndexByteString", "internal/bytealg.IndexString"], unfollowed := true, recurses := true, named := ["internal/bytealg.MaxLen"], apart := false, narrowed := true }
def FnExactTunePairUptoSaid : Prop := fnExactTunePairUptoRow.holds Tryz.pinned (OpenSpec.upto fnExactTunePairSpec)

/-- 'laws.FnWakes', WHERE WHAT IT READS IS OF BULK AT MOST 1048576: true; the input reads as it did. -/
def fnWakesUptoRow : OpenClaim := { program := "ytgeageanmhpfjaagreat", sum := "3f74652aca5a6810c5c5ddd4babcb819989e2315adb3d4754acf8ba06c2492dc", func := "loop.example/g01234/laws.FnWakes", spec := "fnWakes", unfollowed := true, recurses := true, apart := false, narrowed := true }
def FnWakesUptoSaid : Prop := fnWakesUptoRow.holds Tryz.pinned (OpenSpec.upto fnWakesSpec)

/-- 'laws.FnRayPairs', WHERE WHAT IT READS IS OF BULK AT MOST 1048576: true; the input reads as it did. -/
def fnRayPairsUptoRow : OpenClaim := { program := "ytgeageanmhpfjaagreat", sum := "3f74652aca5a6810c5c5ddd4babcb819989e2315adb3d4754acf8ba06c2492dc", func := "loop.example/g01234/laws.FnRayPairs", spec := "fnRayPairs", inPlace := ["internal/abi.NoEscape", "internal/bytealg.MakeNoZero"], unfollowed := true, recurses := true, apart := false, narrowed := true }
def FnRayPairsUptoSaid : Prop := fnRayPairsUptoRow.holds Tryz.pinned (OpenSpec.upto fnRayPairsSpec)

/-- 'laws.FnTuning', WHERE WHAT IT READS IS OF BULK AT MOST 1048576: true; the input reads as it did. -/
def fnTuningUptoRow : OpenClaim := { program := "ytgeageanmhpfjaagreat", sum := "3f74652aca5a6810c5c5ddd4babcb819989e2315adb3d4754acf8ba06c2492dc", func := "loop.example/g01234/laws.FnTuning", spec := "fnTuning", inPlace := ["internal/abi.NoEscape", "internal/bytealg.MakeNoZero", "internal/bytealg.IndexByteString", "internal/bytealg.IndexString"], unfollowed := true, recurses := true, named := ["internal/bytealg.MaxLen"], apart := false, narrowed := true }
def FnTuningUptoSaid : Prop := fnTuningUptoRow.holds Tryz.pinned (OpenSpec.upto fnTuningSpec)

/-- 'laws.FnTunedPairs', WHERE WHAT IT READS IS OF BULK AT MOST 1048576: true; the input reads as it did. -/
def fnTunedPairsUptoRow : OpenClaim := { program := "ytgeageanmhpfjaagreat", sum := "3f74652aca5a6810c5c5ddd4babcb819989e2315adb3d4754acf8ba06c2492dc", func := "loop.example/g01234/laws.FnTunedPairs", spec := "fnTunedPairs", inPlace := ["internal/abi.NoEscape", "internal/bytealg.MakeNoZero", "internal/bytealg.IndexByteString", "internal/bytealg.IndexString"], unfollowed := true, recurses := true, named := ["internal/bytealg.MaxLen"], apart := false, narrowed := true }
def FnTunedPairsUptoSaid : Prop := fnTunedPairsUptoRow.holds Tryz.pinned (OpenSpec.upto fnTunedPairsSpec)

end Rows
end Go.Proofs.YtgeageanmhpfjaaGreat
