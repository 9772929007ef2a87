/- LaminationOf returns what the reference returns, for all arguments: the statement FnExactLaminationOfSaid; no condition. -/
import Derived.Test.YtkddnpjcceolbaaLink
import Derived.Test.YtkddnpjcceolbaaP2
set_option linter.all false
set_option maxRecDepth 100000
set_option linter.all false
namespace Go.Proofs.Ytkddnpjcceolbaa
open Go.K Go.K.Link Go.RowKit
theorem inI_of {n : Int} (h : (Lit.int .i64 n).wf = true) : Go.K.Pure.InI n := by
  simp only [Lit.wf, Bool.and_eq_true, decide_eq_true_eq] at h
  have h1 : IntKind.i64.min = -9223372036854775808 := by decide
  have h2 : IntKind.i64.max = 9223372036854775807 := by decide
  rw [h1, h2] at h
  exact ⟨h.1, by omega⟩
abbrev LfT : Ty := .pair Two (.pair Two .unit)
theorem inA_of {a : Go.K.Pure.Ang} (h : Fits Two a) : Go.K.Pure.InA a := ⟨inI_of h.1, inI_of h.2.1⟩
theorem inL_of {a : Go.K.Pure.Lf} (h : Fits LfT a) : Go.K.Pure.InL a := ⟨inA_of h.1, inA_of h.2.1⟩
open Go.K.Pure in
theorem lifted (os : Os) (started : os.Started) (H : Type) (enc : TypeId × Value → H) :
    ReturnsInHanded {} Try.checked os 4 .any (Rows.fnExactLaminationOfSpec.pre6 enc Try.prog Try.f4 Rows.fnExactLaminationOfRow.domain false) (Rows.fnExactLaminationOfSpec.post enc Try.prog Try.f4 false true false false) := by
  refine returnsInHanded_of_change (C := Try.checked) Try.own started (by kernel_rfl) Try.func4
    (ChangeSpec.witness6 (enc := enc) (C := Try.checked) false ⟨#[], #[.agg #[.int .i64 0, .int .i64 0, .int .i64 0, .int .i64 0], .int .i64 0], []⟩ 8 (by kernel_rfl) (by kernel_rfl) (by kernel_rfl) (by kernel_rfl)) ?_
  intro W base args ds gs before hval hW _ _
  exact law_contract Try.laidOut (mkCtx_ok (c := ⟨0, [], [], [], [], []⟩) (tab := []) seatOK) (s := Rows.fnExactLaminationOfSpec) (Tb := 4) (ts := [LfT, .int .i64]) rfl (fun ds h => by
      match ds, h with
      | [d, e], _ => rfl) rfl Try.underlying4 rfl (by kernel_rfl) (by kernel_rfl) (gen := laws_FnExactLaminationOf_s.gen) (out := laws_FnExactLaminationOf_s.out) laws_FnExactLaminationOf_is (fun v hv => ⟨true, law_LaminationOf (aM := v.1) (aK := v.2.1) (inL_of hv.1), rfl⟩) args ds gs before base hval hW
theorem holds : Rows.FnExactLaminationOfSaid :=
  OpenClaim.holds_of_wide 4 Try.f4 rfl rfl rfl rfl rfl rfl rfl ⟨rfl, rfl, rfl, rfl, rfl⟩ rfl rfl rfl rfl rfl (by kernel_rfl) Try.func4 (by kernel_rfl)
    (of_decide_eq_true (by kernel_rfl)) (by unfold Func.isWrapper; first | (rw [if_pos (by decide +kernel)]; kernel_rfl) | (rw [if_neg (by decide +kernel)]; exact ⟨rfl, rfl⟩))
    (fun os started H enc _ => lifted os started H enc)
end Go.Proofs.Ytkddnpjcceolbaa

