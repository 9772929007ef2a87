/- The laws of ray pairs: partners are partners of each other with the same kneading sequence, and the pairs of a period do not cross: the statement FnRayPairsSaid; no condition. -/
import Derived.Test.YtgeageanmhpfjaaGreatCutE
import Derived.Test.YtgeageanmhpfjaaGreatFacts
import Derived.Test.YtgeageanmhpfjaaGreatP2
set_option linter.all false
set_option maxRecDepth 100000
set_option linter.all false
namespace Go.Proofs.YtgeageanmhpfjaaGreat
open Go.K Go.K.Link Go.RowKit
theorem byte_of {n : Int} (h : (Lit.int .u8 n).wf = true) : 0 ≤ n ∧ n < 256 := by
  simp only [Lit.wf, Bool.and_eq_true, decide_eq_true_eq] at h
  have h1 : IntKind.u8.min = 0 := by decide
  have h2 : IntKind.u8.max = 255 := by decide
  rw [h1, h2] at h
  exact ⟨h.1, by omega⟩
open Go.K.Pure in
theorem lifted (os : Os) (started : os.Started) (H : Type) (enc : TypeId × Value → H) :
    ReturnsInHanded {} Tryz.checked os 12 .any (Rows.fnRayPairsSpec.pre6 enc Tryz.prog Tryz.f12 Rows.fnRayPairsRow.domain false) (Rows.fnRayPairsSpec.post enc Tryz.prog Tryz.f12 false true false false) := by
  refine returnsInHanded_of_change (C := Tryz.checked) Tryz.own started (by kernel_rfl) Tryz.func12
    (ChangeSpec.witness6 (enc := enc) (C := Tryz.checked) false ⟨#[], #[.slice none 0 0], []⟩ 8 (by kernel_rfl) (by kernel_rfl) (by kernel_rfl) (by kernel_rfl)) ?_
  intro W base args ds gs before hval hW _ _
  exact law_contract (drI := drZ) Tryz.laidOut (mkCtx_ok (c := ⟨0, [], [], [], [], []⟩) (tab := []) seatOK) (s := Rows.fnRayPairsSpec) (Tb := 4) (ts := [.sl 5 (.int .u8)]) rfl (fun ds h => by
      match ds, h with
      | [d], _ => rfl) rfl Tryz.underlying4 rfl (by kernel_rfl) (by kernel_rfl) (gen := laws_FnRayPairs_s.gen) (out := laws_FnRayPairs_s.out) laws_FnRayPairs_is (fun v hv => ⟨true, law_RayPairs (code := v.1) (fun c hc => byte_of (hv.1.2 c hc)), rfl⟩) args ds gs before base hval hW
theorem holds : Rows.FnRayPairsSaid :=
  OpenClaim.holds_of_wide 12 Tryz.f12 rfl rfl rfl rfl rfl rfl rfl ⟨rfl, rfl, rfl, rfl, rfl⟩ rfl rfl rfl rfl rfl named Tryz.func12 facts
    (of_decide_eq_true (by kernel_rfl)) (by unfold Func.isWrapper; first | (rw [if_pos (by decide +kernel)]; kernel_rfl) | (rw [if_neg (by decide +kernel)]; exact ⟨rfl, rfl⟩))
    (fun os started H enc _ => lifted os started H enc)
end Go.Proofs.YtgeageanmhpfjaaGreat

