/- PortraitOf returns what the reference returns, for all arguments: the statement FnExactPortraitOfSaid; no condition. -/
import Derived.Test.YtephljhjgceclaaLink
import Derived.Test.YtephljhjgceclaaFacts
import Derived.Test.YtephljhjgceclaaP2
set_option linter.all false
set_option maxRecDepth 100000
set_option linter.all false
namespace Go.Proofs.Ytephljhjgceclaa
open Go.K Go.K.Link Go.RowKit
theorem inI_of {n : Int} (h : (Lit.int .i64 n).wf = true) : Go.K.Pure.InI n := by
  simp only [Lit.wf, Bool.and_eq_true, decide_eq_true_eq] at h
  have h1 : IntKind.i64.min = -9223372036854775808 := by decide
  have h2 : IntKind.i64.max = 9223372036854775807 := by decide
  rw [h1, h2] at h
  exact ⟨h.1, by omega⟩
theorem inA_of {a : Go.K.Pure.Ang} (h : Fits Two a) : Go.K.Pure.InA a := ⟨inI_of h.1, inI_of h.2.1⟩
open Go.K.Pure in
theorem lifted (os : Os) (started : os.Started) (H : Type) (enc : TypeId × Value → H) :
    ReturnsInHanded {} Try.checked os 3 .any (Rows.fnExactPortraitOfSpec.pre6 enc Try.prog Try.f3 Rows.fnExactPortraitOfRow.domain false) (Rows.fnExactPortraitOfSpec.post enc Try.prog Try.f3 false true false false) := by
  refine returnsInHanded_of_change (C := Try.checked) Try.own started (by kernel_rfl) Try.func3
    (ChangeSpec.witness6 (enc := enc) (C := Try.checked) false ⟨#[], #[.agg #[.int .i64 0, .int .i64 0], .agg #[.int .i64 0, .int .i64 0]], []⟩ 8 (by kernel_rfl) (by kernel_rfl) (by kernel_rfl) (by kernel_rfl)) ?_
  intro W base args ds gs before hval hW _ _
  exact law_contract Try.laidOut (mkCtx_ok (c := ⟨0, [], [], [], [], []⟩) (tab := []) seatOK) (s := Rows.fnExactPortraitOfSpec) (Tb := 4) (ts := [Two, Two]) rfl (fun ds h => by
      match ds, h with
      | [d, e], _ => rfl) rfl Try.underlying4 rfl (by kernel_rfl) (by kernel_rfl) (gen := laws_FnExactPortraitOf_s.gen) (out := laws_FnExactPortraitOf_s.out) laws_FnExactPortraitOf_is (fun v hv => ⟨true, law_PortraitOf (a := v.1) (b := v.2.1) (inA_of hv.1) (inA_of hv.2.1), rfl⟩) args ds gs before base hval hW
theorem holds : Rows.FnExactPortraitOfSaid :=
  OpenClaim.holds_of_wide 3 Try.f3 rfl rfl rfl rfl rfl rfl rfl ⟨rfl, rfl, rfl, rfl, rfl⟩ rfl rfl rfl rfl rfl named Try.func3 facts
    (of_decide_eq_true (by kernel_rfl)) (by unfold Func.isWrapper; first | (rw [if_pos (by decide +kernel)]; kernel_rfl) | (rw [if_neg (by decide +kernel)]; exact ⟨rfl, rfl⟩))
    (fun os started H enc _ => lifted os started H enc)
end Go.Proofs.Ytephljhjgceclaa

