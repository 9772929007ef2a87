/-
  No cell of these rows narrows 'for every input' (looked for: loops, veiled, ifaces, maps, wideKeys, modest, calm, conditions, laid).
  DERIVED. THE GIVEN ROWS OF THIS SEAT. 4 by the template 'for every input the law returns true; each argument reads behind the call as it read before'; 0 by the template 'total and deterministic' (their statements: YtnciaembgnoolaaGreatTotals.lean).
  GIVEN WITH THE SEED: the statements are not yours to turn. If you find one false, say at which input.
  Laid BY PROGRAM, IN A SANDBOX (cutbox-rows.mjs): the forced cells as the released guide's own fill.sh prints them over the translation e624ebec9ee9ba3b… (all of the seat's roots in one cut). By AI agents, Wed Nov 11 2026. No macro, syntax, notation, axiom, sorry.
-/
import Derived.Test.YtnciaembgnoolaaGreatChecked
import GoSem.Claim
import GoSem.ClaimJoined
import GoSem.ClaimMapViews
import Derived.JoinedTies
import Derived.KernelRfl
namespace Go.Proofs.YtnciaembgnoolaaGreat
/- THE CELL 'sum', in the pinned program and in every row, IS THE sha256 OF THE DUMP (.gsa) THAT YtnciaembgnoolaaGreatProg.lean LOADS. Nothing in Lean hashes anything: it is a label: what it is worth is what the hold of that sum in a sandbox is worth. -/
noncomputable def Tryz.pinned : Pinned := { name := "ytnciaembgnoolaagreat", sum := "e624ebec9ee9ba3b28f92946dd6345685f50e09fd79ef0195a24ac90eb14a447", checked := Tryz.checked }
namespace Rows
def none {H : Type} : Left H := { results := [], args := [] }

/-- 'laws.FnExpansions': WHATEVER THE INPUT: true; the input reads as it did. -/
def fnExpansionsSpec : ChangeSpec := { name := "fnExpansions", fn := fun _ => fun
  | [d] => { results := [.lit (.bool true)], args := [d] }
  | _ => none }
def fnExpansionsRow : OpenClaim := { program := "ytnciaembgnoolaagreat", sum := "e624ebec9ee9ba3b28f92946dd6345685f50e09fd79ef0195a24ac90eb14a447", func := "loop.example/g01234/laws.FnExpansions", spec := "fnExpansions", inPlace := ["internal/abi.NoEscape", "internal/bytealg.MakeNoZero", "internal/bytealg.IndexByteString", "internal/bytealg.IndexString"], unfollowed := true, recurses := true, named := ["internal/bytealg.MaxLen"], apart := false }
def FnExpansionsSaid : Prop := fnExpansionsRow.holds Tryz.pinned (OpenSpec.ofChange fnExpansionsSpec)

/-- ITS FALSE NEIGHBOUR: 'it returns false'. Refute it at one input. -/
def fnExpansionsWrong : ChangeSpec := { name := "fnExpansions", fn := fun _ => fun
  | [d] => { results := [.lit (.bool false)], args := [d] }
  | _ => none }
def FnExpansionsWrongFalsely : Prop := fnExpansionsRow.holds Tryz.pinned (OpenSpec.ofChange fnExpansionsWrong)

/-- 'laws.FnEnds': WHATEVER THE INPUT: true; the input reads as it did. -/
def fnEndsSpec : ChangeSpec := { name := "fnEnds", fn := fun _ => fun
  | [d] => { results := [.lit (.bool true)], args := [d] }
  | _ => none }
def fnEndsRow : OpenClaim := { program := "ytnciaembgnoolaagreat", sum := "e624ebec9ee9ba3b28f92946dd6345685f50e09fd79ef0195a24ac90eb14a447", func := "loop.example/g01234/laws.FnEnds", spec := "fnEnds", unfollowed := true, recurses := true, apart := false }
def FnEndsSaid : Prop := fnEndsRow.holds Tryz.pinned (OpenSpec.ofChange fnEndsSpec)

/-- ITS FALSE NEIGHBOUR: 'it returns false'. Refute it at one input. -/
def fnEndsWrong : ChangeSpec := { name := "fnEnds", fn := fun _ => fun
  | [d] => { results := [.lit (.bool false)], args := [d] }
  | _ => none }
def FnEndsWrongFalsely : Prop := fnEndsRow.holds Tryz.pinned (OpenSpec.ofChange fnEndsWrong)

/-- 'laws.FnMinors': WHATEVER THE INPUT: true; the input reads as it did. -/
def fnMinorsSpec : ChangeSpec := { name := "fnMinors", fn := fun _ => fun
  | [d] => { results := [.lit (.bool true)], args := [d] }
  | _ => none }
def fnMinorsRow : OpenClaim := { program := "ytnciaembgnoolaagreat", sum := "e624ebec9ee9ba3b28f92946dd6345685f50e09fd79ef0195a24ac90eb14a447", func := "loop.example/g01234/laws.FnMinors", spec := "fnMinors", inPlace := ["slices.overlaps[loop.example/g01234/impl.Leaf]"], unfollowed := true, recurses := true, apart := false }
def FnMinorsSaid : Prop := fnMinorsRow.holds Tryz.pinned (OpenSpec.ofChange fnMinorsSpec)

/-- ITS FALSE NEIGHBOUR: 'it returns false'. Refute it at one input. -/
def fnMinorsWrong : ChangeSpec := { name := "fnMinors", fn := fun _ => fun
  | [d] => { results := [.lit (.bool false)], args := [d] }
  | _ => none }
def FnMinorsWrongFalsely : Prop := fnMinorsRow.holds Tryz.pinned (OpenSpec.ofChange fnMinorsWrong)

/-- 'laws.FnAdmissible': WHATEVER THE INPUT: true; the input reads as it did. -/
def fnAdmissibleSpec : ChangeSpec := { name := "fnAdmissible", fn := fun _ => fun
  | [d] => { results := [.lit (.bool true)], args := [d] }
  | _ => none }
def fnAdmissibleRow : OpenClaim := { program := "ytnciaembgnoolaagreat", sum := "e624ebec9ee9ba3b28f92946dd6345685f50e09fd79ef0195a24ac90eb14a447", func := "loop.example/g01234/laws.FnAdmissible", spec := "fnAdmissible", inPlace := ["internal/abi.NoEscape", "internal/bytealg.MakeNoZero", "internal/bytealg.IndexByteString"], unfollowed := true, recurses := true, apart := false }
def FnAdmissibleSaid : Prop := fnAdmissibleRow.holds Tryz.pinned (OpenSpec.ofChange fnAdmissibleSpec)

/-- ITS FALSE NEIGHBOUR: 'it returns false'. Refute it at one input. -/
def fnAdmissibleWrong : ChangeSpec := { name := "fnAdmissible", fn := fun _ => fun
  | [d] => { results := [.lit (.bool false)], args := [d] }
  | _ => none }
def FnAdmissibleWrongFalsely : Prop := fnAdmissibleRow.holds Tryz.pinned (OpenSpec.ofChange fnAdmissibleWrong)

/- THE SECOND FORM. 'bulk': how many values and letters a reading holds, each counted each time it is reached (what is shared counts as often as it is met; a slice's spare places count too). A statement '..UptoSaid' is the law's where the arguments, and the package variables that the reading takes, are together of bulk at most 1048576: NARROWER than '..Said'. Prove '..Said' where nothing that the law and all that it calls make is longer than what came in: it says more and counts as full. Else prove '..UptoSaid'. A law counts once. -/
mutual
def uptoBulk {H : Type} : DataW H → Nat
  | .lit (.string bytes) => bytes.length + 1
  | .lit _ => 1
  | .nil => 1
  | .ptr d => uptoBulk d + 1
  | .slice elems spare => uptoBulkAll elems + uptoBulkAll spare + 1
  | .agg parts => uptoBulkAll parts + 1
  | .iface _ d => uptoBulk d + 1
  | .map entries => uptoBulkEntries entries + 1
  | .held _ => 1
def uptoBulkAll {H : Type} : List (DataW H) → Nat
  | [] => 0
  | d :: r => uptoBulk d + uptoBulkAll r
def uptoBulkEntries {H : Type} : List (Lit × DataW H) → Nat
  | [] => 0
  | x :: r => uptoBulkEntry x + uptoBulkEntries r
def uptoBulkEntry {H : Type} : Lit × DataW H → Nat
  | (.string bytes, d) => bytes.length + uptoBulk d + 1
  | (_, d) => uptoBulk d + 1
 end
def uptoSmall : (H : Type) → List (DataW H) → Bool := fun _ ds => decide (uptoBulkAll ds ≤ 1048576)
def OpenSpec.upto (s : _root_.Go.ChangeSpec) : _root_.Go.OpenSpec := { _root_.Go.OpenSpec.ofChange s with cond := some uptoSmall }

/-- 'laws.FnExpansions', WHERE WHAT IT READS IS OF BULK AT MOST 1048576: true; the input reads as it did. -/
def fnExpansionsUptoRow : OpenClaim := { program := "ytnciaembgnoolaagreat", sum := "e624ebec9ee9ba3b28f92946dd6345685f50e09fd79ef0195a24ac90eb14a447", func := "loop.example/g01234/laws.FnExpansions", spec := "fnExpansions", inPlace := ["internal/abi.NoEscape", "internal/bytealg.MakeNoZero", "internal/bytealg.IndexByteString", "internal/bytealg.IndexString"], unfollowed := true, recurses := true, named := ["internal/bytealg.MaxLen"], apart := false, narrowed := true }
def FnExpansionsUptoSaid : Prop := fnExpansionsUptoRow.holds Tryz.pinned (OpenSpec.upto fnExpansionsSpec)

/-- 'laws.FnEnds', WHERE WHAT IT READS IS OF BULK AT MOST 1048576: true; the input reads as it did. -/
def fnEndsUptoRow : OpenClaim := { program := "ytnciaembgnoolaagreat", sum := "e624ebec9ee9ba3b28f92946dd6345685f50e09fd79ef0195a24ac90eb14a447", func := "loop.example/g01234/laws.FnEnds", spec := "fnEnds", unfollowed := true, recurses := true, apart := false, narrowed := true }
def FnEndsUptoSaid : Prop := fnEndsUptoRow.holds Tryz.pinned (OpenSpec.upto fnEndsSpec)

/-- 'laws.FnMinors', WHERE WHAT IT READS IS OF BULK AT MOST 1048576: true; the input reads as it did. -/
def fnMinorsUptoRow : OpenClaim := { program := "ytnciaembgnoolaagreat", sum := "e624ebec9ee9ba3b28f92946dd6345685f50e09fd79ef0195a24ac90eb14a447", func := "loop.example/g01234/laws.FnMinors", spec := "fnMinors", inPlace := ["slices.overlaps[loop.example/g01234/impl.Leaf]"], unfollowed := true, recurses := true, apart := false, narrowed := true }
def FnMinorsUptoSaid : Prop := fnMinorsUptoRow.holds Tryz.pinned (OpenSpec.upto fnMinorsSpec)

/-- 'laws.FnAdmissible', WHERE WHAT IT READS IS OF BULK AT MOST 1048576: true; the input reads as it did. -/
def fnAdmissibleUptoRow : OpenClaim := { program := "ytnciaembgnoolaagreat", sum := "e624ebec9ee9ba3b28f92946dd6345685f50e09fd79ef0195a24ac90eb14a447", func := "loop.example/g01234/laws.FnAdmissible", spec := "fnAdmissible", inPlace := ["internal/abi.NoEscape", "internal/bytealg.MakeNoZero", "internal/bytealg.IndexByteString"], unfollowed := true, recurses := true, apart := false, narrowed := true }
def FnAdmissibleUptoSaid : Prop := fnAdmissibleUptoRow.holds Tryz.pinned (OpenSpec.upto fnAdmissibleSpec)

end Rows
end Go.Proofs.YtnciaembgnoolaaGreat
