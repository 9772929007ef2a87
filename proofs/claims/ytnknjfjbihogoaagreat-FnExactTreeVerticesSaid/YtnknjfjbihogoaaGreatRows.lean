/-
  No cell of these rows narrows 'for every input' (looked for: loops, veiled, ifaces, maps, wideKeys, modest, calm, conditions, laid).
  DERIVED. THE GIVEN ROWS OF THIS SEAT. 7 by the template 'for every input the law returns true; each argument reads behind the call as it read before'; 0 by the template 'total and deterministic' (their statements: YtnknjfjbihogoaaGreatTotals.lean).
  GIVEN WITH THE SEED: the statements are not yours to turn. If you find one false, say at which input.
  Laid BY PROGRAM, IN A SANDBOX (cutbox-rows.mjs): the forced cells as the released guide's own fill.sh prints them over the translation 4a6ad9871914b01e… (all of the seat's roots in one cut). By AI agents, Wed Nov 11 2026. No macro, syntax, notation, axiom, sorry.
-/
import Derived.Test.YtnknjfjbihogoaaGreatChecked
import GoSem.Claim
import GoSem.ClaimJoined
import GoSem.ClaimMapViews
import Derived.JoinedTies
import Derived.KernelRfl
namespace Go.Proofs.YtnknjfjbihogoaaGreat
/- THE CELL 'sum', in the pinned program and in every row, IS THE sha256 OF THE DUMP (.gsa) THAT YtnknjfjbihogoaaGreatProg.lean LOADS. Nothing in Lean hashes anything: it is a label: what it is worth is what the hold of that sum in a sandbox is worth. -/
noncomputable def Tryz.pinned : Pinned := { name := "ytnknjfjbihogoaagreat", sum := "4a6ad9871914b01eacb5b0c01ed2f92cf1c082316a745a606493d52814454949", checked := Tryz.checked }
namespace Rows
def none {H : Type} : Left H := { results := [], args := [] }

/-- 'laws.FnExactTreeVertices': WHATEVER THE INPUT: true; the input reads as it did. -/
def fnExactTreeVerticesSpec : ChangeSpec := { name := "fnExactTreeVertices", fn := fun _ => fun
  | [d] => { results := [.lit (.bool true)], args := [d] }
  | _ => none }
def fnExactTreeVerticesRow : OpenClaim := { program := "ytnknjfjbihogoaagreat", sum := "4a6ad9871914b01eacb5b0c01ed2f92cf1c082316a745a606493d52814454949", func := "loop.example/g01234/laws.FnExactTreeVertices", spec := "fnExactTreeVertices", inPlace := ["internal/abi.NoEscape", "internal/bytealg.MakeNoZero", "internal/bytealg.IndexByteString", "internal/bytealg.abigen_runtime_cmpstring"], unfollowed := true, recurses := true, plainKeys := false, apart := false }
def FnExactTreeVerticesSaid : Prop := fnExactTreeVerticesRow.holds Tryz.pinned (OpenSpec.ofChange fnExactTreeVerticesSpec)

/-- ITS FALSE NEIGHBOUR: 'it returns false'. Refute it at one input. -/
def fnExactTreeVerticesWrong : ChangeSpec := { name := "fnExactTreeVertices", fn := fun _ => fun
  | [d] => { results := [.lit (.bool false)], args := [d] }
  | _ => none }
def FnExactTreeVerticesWrongFalsely : Prop := fnExactTreeVerticesRow.holds Tryz.pinned (OpenSpec.ofChange fnExactTreeVerticesWrong)

/-- 'laws.FnExactTreeImage': WHATEVER THE INPUT: true; the input reads as it did. -/
def fnExactTreeImageSpec : ChangeSpec := { name := "fnExactTreeImage", fn := fun _ => fun
  | [d1, d2] => { results := [.lit (.bool true)], args := [d1, d2] }
  | _ => none }
def fnExactTreeImageRow : OpenClaim := { program := "ytnknjfjbihogoaagreat", sum := "4a6ad9871914b01eacb5b0c01ed2f92cf1c082316a745a606493d52814454949", func := "loop.example/g01234/laws.FnExactTreeImage", spec := "fnExactTreeImage", inPlace := ["internal/abi.NoEscape", "internal/bytealg.MakeNoZero", "internal/bytealg.IndexByteString", "internal/bytealg.abigen_runtime_cmpstring"], unfollowed := true, recurses := true, plainKeys := false, apart := false }
def FnExactTreeImageSaid : Prop := fnExactTreeImageRow.holds Tryz.pinned (OpenSpec.ofChange fnExactTreeImageSpec)

/-- ITS FALSE NEIGHBOUR: 'it returns false'. Refute it at one input. -/
def fnExactTreeImageWrong : ChangeSpec := { name := "fnExactTreeImage", fn := fun _ => fun
  | [d1, d2] => { results := [.lit (.bool false)], args := [d1, d2] }
  | _ => none }
def FnExactTreeImageWrongFalsely : Prop := fnExactTreeImageRow.holds Tryz.pinned (OpenSpec.ofChange fnExactTreeImageWrong)

/-- 'laws.FnExactArmsOf': WHATEVER THE INPUT: true; the input reads as it did. -/
def fnExactArmsOfSpec : ChangeSpec := { name := "fnExactArmsOf", fn := fun _ => fun
  | [d] => { results := [.lit (.bool true)], args := [d] }
  | _ => none }
def fnExactArmsOfRow : OpenClaim := { program := "ytnknjfjbihogoaagreat", sum := "4a6ad9871914b01eacb5b0c01ed2f92cf1c082316a745a606493d52814454949", func := "loop.example/g01234/laws.FnExactArmsOf", spec := "fnExactArmsOf", inPlace := ["internal/abi.NoEscape", "internal/bytealg.MakeNoZero", "internal/bytealg.IndexByteString", "internal/bytealg.abigen_runtime_cmpstring"], unfollowed := true, recurses := true, plainKeys := false, apart := false }
def FnExactArmsOfSaid : Prop := fnExactArmsOfRow.holds Tryz.pinned (OpenSpec.ofChange fnExactArmsOfSpec)

/-- ITS FALSE NEIGHBOUR: 'it returns false'. Refute it at one input. -/
def fnExactArmsOfWrong : ChangeSpec := { name := "fnExactArmsOf", fn := fun _ => fun
  | [d] => { results := [.lit (.bool false)], args := [d] }
  | _ => none }
def FnExactArmsOfWrongFalsely : Prop := fnExactArmsOfRow.holds Tryz.pinned (OpenSpec.ofChange fnExactArmsOfWrong)

/-- 'laws.FnExactTreeEnds': WHATEVER THE INPUT: true; the input reads as it did. -/
def fnExactTreeEndsSpec : ChangeSpec := { name := "fnExactTreeEnds", fn := fun _ => fun
  | [d] => { results := [.lit (.bool true)], args := [d] }
  | _ => none }
def fnExactTreeEndsRow : OpenClaim := { program := "ytnknjfjbihogoaagreat", sum := "4a6ad9871914b01eacb5b0c01ed2f92cf1c082316a745a606493d52814454949", func := "loop.example/g01234/laws.FnExactTreeEnds", spec := "fnExactTreeEnds", inPlace := ["internal/abi.NoEscape", "internal/bytealg.MakeNoZero", "internal/bytealg.IndexByteString", "internal/bytealg.abigen_runtime_cmpstring"], unfollowed := true, recurses := true, plainKeys := false, apart := false }
def FnExactTreeEndsSaid : Prop := fnExactTreeEndsRow.holds Tryz.pinned (OpenSpec.ofChange fnExactTreeEndsSpec)

/-- ITS FALSE NEIGHBOUR: 'it returns false'. Refute it at one input. -/
def fnExactTreeEndsWrong : ChangeSpec := { name := "fnExactTreeEnds", fn := fun _ => fun
  | [d] => { results := [.lit (.bool false)], args := [d] }
  | _ => none }
def FnExactTreeEndsWrongFalsely : Prop := fnExactTreeEndsRow.holds Tryz.pinned (OpenSpec.ofChange fnExactTreeEndsWrong)

/-- 'laws.FnExactTreeEdges': WHATEVER THE INPUT: true; the input reads as it did. -/
def fnExactTreeEdgesSpec : ChangeSpec := { name := "fnExactTreeEdges", fn := fun _ => fun
  | [d] => { results := [.lit (.bool true)], args := [d] }
  | _ => none }
def fnExactTreeEdgesRow : OpenClaim := { program := "ytnknjfjbihogoaagreat", sum := "4a6ad9871914b01eacb5b0c01ed2f92cf1c082316a745a606493d52814454949", func := "loop.example/g01234/laws.FnExactTreeEdges", spec := "fnExactTreeEdges", inPlace := ["internal/abi.NoEscape", "internal/bytealg.MakeNoZero", "internal/bytealg.IndexByteString", "internal/bytealg.abigen_runtime_cmpstring"], unfollowed := true, recurses := true, plainKeys := false, apart := false }
def FnExactTreeEdgesSaid : Prop := fnExactTreeEdgesRow.holds Tryz.pinned (OpenSpec.ofChange fnExactTreeEdgesSpec)

/-- ITS FALSE NEIGHBOUR: 'it returns false'. Refute it at one input. -/
def fnExactTreeEdgesWrong : ChangeSpec := { name := "fnExactTreeEdges", fn := fun _ => fun
  | [d] => { results := [.lit (.bool false)], args := [d] }
  | _ => none }
def FnExactTreeEdgesWrongFalsely : Prop := fnExactTreeEdgesRow.holds Tryz.pinned (OpenSpec.ofChange fnExactTreeEdgesWrong)

/-- 'laws.FnExactTreePath': WHATEVER THE INPUT: true; the input reads as it did. -/
def fnExactTreePathSpec : ChangeSpec := { name := "fnExactTreePath", fn := fun _ => fun
  | [d1, d2, d3] => { results := [.lit (.bool true)], args := [d1, d2, d3] }
  | _ => none }
def fnExactTreePathRow : OpenClaim := { program := "ytnknjfjbihogoaagreat", sum := "4a6ad9871914b01eacb5b0c01ed2f92cf1c082316a745a606493d52814454949", func := "loop.example/g01234/laws.FnExactTreePath", spec := "fnExactTreePath", inPlace := ["internal/abi.NoEscape", "internal/bytealg.MakeNoZero", "internal/bytealg.IndexByteString", "internal/bytealg.abigen_runtime_cmpstring"], unfollowed := true, recurses := true, plainKeys := false, apart := false }
def FnExactTreePathSaid : Prop := fnExactTreePathRow.holds Tryz.pinned (OpenSpec.ofChange fnExactTreePathSpec)

/-- ITS FALSE NEIGHBOUR: 'it returns false'. Refute it at one input. -/
def fnExactTreePathWrong : ChangeSpec := { name := "fnExactTreePath", fn := fun _ => fun
  | [d1, d2, d3] => { results := [.lit (.bool false)], args := [d1, d2, d3] }
  | _ => none }
def FnExactTreePathWrongFalsely : Prop := fnExactTreePathRow.holds Tryz.pinned (OpenSpec.ofChange fnExactTreePathWrong)

/-- 'laws.FnExactEdgeMatrix': WHATEVER THE INPUT: true; the input reads as it did. -/
def fnExactEdgeMatrixSpec : ChangeSpec := { name := "fnExactEdgeMatrix", fn := fun _ => fun
  | [d] => { results := [.lit (.bool true)], args := [d] }
  | _ => none }
def fnExactEdgeMatrixRow : OpenClaim := { program := "ytnknjfjbihogoaagreat", sum := "4a6ad9871914b01eacb5b0c01ed2f92cf1c082316a745a606493d52814454949", func := "loop.example/g01234/laws.FnExactEdgeMatrix", spec := "fnExactEdgeMatrix", inPlace := ["internal/abi.NoEscape", "internal/bytealg.MakeNoZero", "internal/bytealg.IndexByteString", "internal/bytealg.abigen_runtime_cmpstring"], unfollowed := true, recurses := true, plainKeys := false, apart := false }
def FnExactEdgeMatrixSaid : Prop := fnExactEdgeMatrixRow.holds Tryz.pinned (OpenSpec.ofChange fnExactEdgeMatrixSpec)

/-- ITS FALSE NEIGHBOUR: 'it returns false'. Refute it at one input. -/
def fnExactEdgeMatrixWrong : ChangeSpec := { name := "fnExactEdgeMatrix", fn := fun _ => fun
  | [d] => { results := [.lit (.bool false)], args := [d] }
  | _ => none }
def FnExactEdgeMatrixWrongFalsely : Prop := fnExactEdgeMatrixRow.holds Tryz.pinned (OpenSpec.ofChange fnExactEdgeMatrixWrong)

/- THE SECOND FORM. 'bulk': how many values and letters a reading holds, each counted each time it is reached (what is shared counts as often as it is met; a slice's spare places count too). A statement '..UptoSaid' is the law's where the arguments, and the package variables that the reading takes, are together of bulk at most 1048576: NARROWER than '..Said'. Prove '..Said' where nothing that the law and all that it calls make is longer than what came in: it says more and counts as full. Else prove '..UptoSaid'. A law counts once. -/
mutual
def uptoBulk {H : Type} : DataW H → Nat
  | .lit (.string bytes) => bytes.length + 1
  | .lit _ => 1
  | .nil => 1
  | .ptr d => uptoBulk d + 1
  | .slice elems spare => uptoBulkAll elems + uptoBulkAll spare + 1
  | .agg parts => uptoBulkAll parts + 1
  | .iface _ d => uptoBulk d + 1
  | .map entries => uptoBulkEntries entries + 1
  | .held _ => 1
def uptoBulkAll {H : Type} : List (DataW H) → Nat
  | [] => 0
  | d :: r => uptoBulk d + uptoBulkAll r
def uptoBulkEntries {H : Type} : List (Lit × DataW H) → Nat
  | [] => 0
  | x :: r => uptoBulkEntry x + uptoBulkEntries r
def uptoBulkEntry {H : Type} : Lit × DataW H → Nat
  | (.string bytes, d) => bytes.length + uptoBulk d + 1
  | (_, d) => uptoBulk d + 1
 end
def uptoSmall : (H : Type) → List (DataW H) → Bool := fun _ ds => decide (uptoBulkAll ds ≤ 1048576)
def OpenSpec.upto (s : _root_.Go.ChangeSpec) : _root_.Go.OpenSpec := { _root_.Go.OpenSpec.ofChange s with cond := some uptoSmall }

/-- 'laws.FnExactTreeVertices', WHERE WHAT IT READS IS OF BULK AT MOST 1048576: true; the input reads as it did. -/
def fnExactTreeVerticesUptoRow : OpenClaim := { program := "ytnknjfjbihogoaagreat", sum := "4a6ad9871914b01eacb5b0c01ed2f92cf1c082316a745a606493d52814454949", func := "loop.example/g01234/laws.FnExactTreeVertices", spec := "fnExactTreeVertices", inPlace := ["internal/abi.NoEscape", "internal/bytealg.MakeNoZero", "internal/bytealg.IndexByteString", "internal/bytealg.abigen_runtime_cmpstring"], unfollowed := true, recurses := true, plainKeys := false, apart := false, narrowed := true }
def FnExactTreeVerticesUptoSaid : Prop := fnExactTreeVerticesUptoRow.holds Tryz.pinned (OpenSpec.upto fnExactTreeVerticesSpec)

/-- 'laws.FnExactTreeImage', WHERE WHAT IT READS IS OF BULK AT MOST 1048576: true; the input reads as it did. -/
def fnExactTreeImageUptoRow : OpenClaim := { program := "ytnknjfjbihogoaagreat", sum := "4a6ad9871914b01eacb5b0c01ed2f92cf1c082316a745a606493d52814454949", func := "loop.example/g01234/laws.FnExactTreeImage", spec := "fnExactTreeImage", inPlace := ["internal/abi.NoEscape", "internal/bytealg.MakeNoZero", "internal/bytealg.IndexByteString", "internal/bytealg.abigen_runtime_cmpstring"], unfollowed := true, recurses := true, plainKeys := false, apart := false, narrowed := true }
def FnExactTreeImageUptoSaid : Prop := fnExactTreeImageUptoRow.holds Tryz.pinned (OpenSpec.upto fnExactTreeImageSpec)

/-- 'laws.FnExactArmsOf', WHERE WHAT IT READS IS OF BULK AT MOST 1048576: true; the input reads as it did. -/
def fnExactArmsOfUptoRow : OpenClaim := { program := "ytnknjfjbihogoaagreat", sum := "4a6ad9871914b01eacb5b0c01ed2f92cf1c082316a745a606493d52814454949", func := "loop.example/g01234/laws.FnExactArmsOf", spec := "fnExactArmsOf", inPlace := ["internal/abi.NoEscape", "internal/bytealg.MakeNoZero", "internal/bytealg.IndexByteString", "internal/bytealg.abigen_runtime_cmpstring"], unfollowed := true, recurses := true, plainKeys := false, apart := false, narrowed := true }
def FnExactArmsOfUptoSaid : Prop := fnExactArmsOfUptoRow.holds Tryz.pinned (OpenSpec.upto fnExactArmsOfSpec)

/-- 'laws.FnExactTreeEnds', WHERE WHAT IT READS IS OF BULK AT MOST 1048576: true; the input reads as it did. -/
def fnExactTreeEndsUptoRow : OpenClaim := { program := "ytnknjfjbihogoaagreat", sum := "4a6ad9871914b01eacb5b0c01ed2f92cf1c082316a745a606493d52814454949", func := "loop.example/g01234/laws.FnExactTreeEnds", spec := "fnExactTreeEnds", inPlace := ["internal/abi.NoEscape", "internal/bytealg.MakeNoZero", "internal/bytealg.IndexByteString", "internal/bytealg.abigen_runtime_cmpstring"], unfollowed := true, recurses := true, plainKeys := false, apart := false, narrowed := true }
def FnExactTreeEndsUptoSaid : Prop := fnExactTreeEndsUptoRow.holds Tryz.pinned (OpenSpec.upto fnExactTreeEndsSpec)

/-- 'laws.FnExactTreeEdges', WHERE WHAT IT READS IS OF BULK AT MOST 1048576: true; the input reads as it did. -/
def fnExactTreeEdgesUptoRow : OpenClaim := { program := "ytnknjfjbihogoaagreat", sum := "4a6ad9871914b01eacb5b0c01ed2f92cf1c082316a745a606493d52814454949", func := "loop.example/g01234/laws.FnExactTreeEdges", spec := "fnExactTreeEdges", inPlace := ["internal/abi.NoEscape", "internal/bytealg.MakeNoZero", "internal/bytealg.IndexByteString", "internal/bytealg.abigen_runtime_cmpstring"], unfollowed := true, recurses := true, plainKeys := false, apart := false, narrowed := true }
def FnExactTreeEdgesUptoSaid : Prop := fnExactTreeEdgesUptoRow.holds Tryz.pinned (OpenSpec.upto fnExactTreeEdgesSpec)

/-- 'laws.FnExactTreePath', WHERE WHAT IT READS IS OF BULK AT MOST 1048576: true; the input reads as it did. -/
def fnExactTreePathUptoRow : OpenClaim := { program := "ytnknjfjbihogoaagreat", sum := "4a6ad9871914b01eacb5b0c01ed2f92cf1c082316a745a606493d52814454949", func := "loop.example/g01234/laws.FnExactTreePath", spec := "fnExactTreePath", inPlace := ["internal/abi.NoEscape", "internal/bytealg.MakeNoZero", "internal/bytealg.IndexByteString", "internal/bytealg.abigen_runtime_cmpstring"], unfollowed := true, recurses := true, plainKeys := false, apart := false, narrowed := true }
def FnExactTreePathUptoSaid : Prop := fnExactTreePathUptoRow.holds Tryz.pinned (OpenSpec.upto fnExactTreePathSpec)

/-- 'laws.FnExactEdgeMatrix', WHERE WHAT IT READS IS OF BULK AT MOST 1048576: true; the input reads as it did. -/
def fnExactEdgeMatrixUptoRow : OpenClaim := { program := "ytnknjfjbihogoaagreat", sum := "4a6ad9871914b01eacb5b0c01ed2f92cf1c082316a745a606493d52814454949", func := "loop.example/g01234/laws.FnExactEdgeMatrix", spec := "fnExactEdgeMatrix", inPlace := ["internal/abi.NoEscape", "internal/bytealg.MakeNoZero", "internal/bytealg.IndexByteString", "internal/bytealg.abigen_runtime_cmpstring"], unfollowed := true, recurses := true, plainKeys := false, apart := false, narrowed := true }
def FnExactEdgeMatrixUptoSaid : Prop := fnExactEdgeMatrixUptoRow.holds Tryz.pinned (OpenSpec.upto fnExactEdgeMatrixSpec)

end Rows
end Go.Proofs.YtnknjfjbihogoaaGreat
