/- TreeVertices returns what the reference returns, for all arguments: the statement FnExactTreeVerticesSaid; no condition. -/
import Derived.Test.YtnknjfjbihogoaaGreatLink
import Derived.Test.YtnknjfjbihogoaaGreatFacts
import Derived.Test.YtnknjfjbihogoaaGreatP2
set_option linter.all false
set_option maxRecDepth 100000
set_option linter.all false
namespace Go.Proofs.YtnknjfjbihogoaaGreat
theorem len_of {s : List UInt8} (h : s.length ≤ maxLen) : s.length ≤ 9223372036854775807 := Nat.le_trans h (by decide)
open Go.K Go.K.Link Go.RowKit
open Go.K.Pure in
theorem lifted (os : Os) (started : os.Started) (H : Type) (enc : TypeId × Value → H) :
    ReturnsInHanded {} Tryz.checked os 3 .any (Rows.fnExactTreeVerticesSpec.pre6 enc Tryz.prog Tryz.f3 Rows.fnExactTreeVerticesRow.domain false) (Rows.fnExactTreeVerticesSpec.post enc Tryz.prog Tryz.f3 false true false false) := by
  refine returnsInHanded_of_change (C := Tryz.checked) Tryz.own started (by kernel_rfl) Tryz.func3
    (ChangeSpec.witness6 (enc := enc) (C := Tryz.checked) false ⟨#[], #[.agg #[.string ⟨#[]⟩, .string ⟨#[]⟩]], []⟩ 8 (by kernel_rfl) (by kernel_rfl) (by kernel_rfl) (by kernel_rfl)) ?_
  intro W base args ds gs before hval hW _ _
  exact law_contract (drI := drZ) Tryz.laidOut (mkCtx_ok (c := ⟨0, [], [], [], [], []⟩) (tab := []) seatOK) (s := Rows.fnExactTreeVerticesSpec) (Tb := 4) (ts := [.pair .str (.pair .str .unit)]) rfl (fun ds h => by
      match ds, h with
      | [d], _ => rfl) rfl Tryz.underlying4 rfl (by kernel_rfl) (by kernel_rfl) (gen := laws_FnExactTreeVertices_s.gen) (out := laws_FnExactTreeVertices_s.out) laws_FnExactTreeVertices_is (fun v hv => ⟨true, law_TreeVertices v.1 (len_of hv.1.1) (len_of hv.1.2.1), rfl⟩) args ds gs before base hval hW
theorem holds : Rows.FnExactTreeVerticesSaid :=
  OpenClaim.holds_of_wide 3 Tryz.f3 rfl rfl rfl rfl rfl rfl rfl ⟨rfl, rfl, rfl, rfl, rfl⟩ rfl rfl rfl rfl rfl named Tryz.func3 facts
    (of_decide_eq_true (by kernel_rfl)) (by unfold Func.isWrapper; first | (rw [if_pos (by decide +kernel)]; kernel_rfl) | (rw [if_neg (by decide +kernel)]; exact ⟨rfl, rfl⟩))
    (fun os started H enc _ => lifted os started H enc)
end Go.Proofs.YtnknjfjbihogoaaGreat

