/- The laws of admissible sequences: the statement FnAdmissibleSaid; no condition. -/
import Derived.Test.YtnciaembgnoolaaGreatLink
import Derived.Test.YtnciaembgnoolaaGreatFacts
import Derived.Test.YtnciaembgnoolaaGreatP2
set_option linter.all false
set_option maxRecDepth 100000
set_option linter.all false
namespace Go.Proofs.YtnciaembgnoolaaGreat
open Go.K Go.K.Link Go.RowKit
theorem byte_of {n : Int} (h : (Lit.int .u8 n).wf = true) : 0 ≤ n ∧ n < 256 := by
  simp only [Lit.wf, Bool.and_eq_true, decide_eq_true_eq] at h
  have h1 : IntKind.u8.min = 0 := by decide
  have h2 : IntKind.u8.max = 255 := by decide
  rw [h1, h2] at h
  exact ⟨h.1, by omega⟩
open Go.K.Pure in
theorem lifted (os : Os) (started : os.Started) (H : Type) (enc : TypeId × Value → H) :
    ReturnsInHanded {} Tryz.checked os 6 .any (Rows.fnAdmissibleSpec.pre6 enc Tryz.prog Tryz.f6 Rows.fnAdmissibleRow.domain false) (Rows.fnAdmissibleSpec.post enc Tryz.prog Tryz.f6 false true false false) := by
  refine returnsInHanded_of_change (C := Tryz.checked) Tryz.own started (by kernel_rfl) Tryz.func6
    (ChangeSpec.witness6 (enc := enc) (C := Tryz.checked) false ⟨#[], #[.slice none 0 0], []⟩ 8 (by kernel_rfl) (by kernel_rfl) (by kernel_rfl) (by kernel_rfl)) ?_
  intro W base args ds gs before hval hW _ _
  exact law_contract (drI := drZ) Tryz.laidOut (mkCtx_ok (c := ⟨0, [], [], [], [], []⟩) (tab := []) seatOK) (s := Rows.fnAdmissibleSpec) (Tb := 4) (ts := [.sl 5 (.int .u8)]) rfl (fun ds h => by
      match ds, h with
      | [d], _ => rfl) rfl Tryz.underlying4 rfl (by kernel_rfl) (by kernel_rfl) (gen := laws_FnAdmissible_s.gen) (out := laws_FnAdmissible_s.out) laws_FnAdmissible_is (fun v hv => ⟨true, law_Admissible (code := v.1) (fun c hc => byte_of (hv.1.2 c hc)), rfl⟩) args ds gs before base hval hW
theorem holds : Rows.FnAdmissibleSaid :=
  OpenClaim.holds_of_wide 6 Tryz.f6 rfl rfl rfl rfl rfl rfl rfl ⟨rfl, rfl, rfl, rfl, rfl⟩ rfl rfl rfl rfl rfl named Tryz.func6 facts
    (of_decide_eq_true (by kernel_rfl)) (by unfold Func.isWrapper; first | (rw [if_pos (by decide +kernel)]; kernel_rfl) | (rw [if_neg (by decide +kernel)]; exact ⟨rfl, rfl⟩))
    (fun os started H enc _ => lifted os started H enc)
end Go.Proofs.YtnciaembgnoolaaGreat

