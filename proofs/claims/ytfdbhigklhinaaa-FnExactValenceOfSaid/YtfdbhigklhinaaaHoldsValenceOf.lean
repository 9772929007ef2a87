/- The program's ValenceOf returns what the reference's returns, for all arguments: the statement FnExactValenceOfSaid; no condition. -/
import Derived.Test.YtfdbhigklhinaaaLink
import Derived.Test.YtfdbhigklhinaaaP2
set_option linter.all false
set_option maxRecDepth 100000
set_option linter.all false
namespace Go.Proofs.Ytfdbhigklhinaaa
open Go.K Go.K.Link Go.RowKit
theorem inI_of {n : Int} (h : (Lit.int .i64 n).wf = true) : Go.K.Pure.InI n := by
  simp only [Lit.wf, Bool.and_eq_true, decide_eq_true_eq] at h
  have h1 : IntKind.i64.min = -9223372036854775808 := by decide
  have h2 : IntKind.i64.max = 9223372036854775807 := by decide
  rw [h1, h2] at h
  exact ⟨h.1, by omega⟩
theorem inA_of {a : Go.K.Pure.Ang} (h : Fits Two a) : Go.K.Pure.InA a := ⟨inI_of h.1, inI_of h.2.1⟩
open Go.K.Pure in
theorem lifted (os : Os) (started : os.Started) (H : Type) (enc : TypeId × Value → H) :
    ReturnsInHanded {} Try.checked os 5 .any (Rows.fnExactValenceOfSpec.pre6 enc Try.prog Try.f5 Rows.fnExactValenceOfRow.domain false) (Rows.fnExactValenceOfSpec.post enc Try.prog Try.f5 false true false false) := by
  refine returnsInHanded_of_change (C := Try.checked) Try.own started (by kernel_rfl) Try.func5
    (ChangeSpec.witness6 (enc := enc) (C := Try.checked) false ⟨#[], #[.slice none 0 0], []⟩ 8 (by kernel_rfl) (by kernel_rfl) (by kernel_rfl) (by kernel_rfl)) ?_
  intro W base args ds gs before hval hW _ _
  exact law_contract Try.laidOut (mkCtx_ok (c := ⟨0, [], [], [], []⟩) (tab := []) seatOK) (s := Rows.fnExactValenceOfSpec) (Tb := 4) (ts := [.sl 48 (.sl 42 Two)]) rfl (fun ds h => by
      match ds, h with
      | [d], _ => rfl) rfl Try.underlying4 rfl (by kernel_rfl) (by kernel_rfl) (gen := laws_FnExactValenceOf_s.gen) (out := laws_FnExactValenceOf_s.out) laws_FnExactValenceOf_is (fun v hv => ⟨true, law_ValenceOf (S := v.1) (fun s hs x hx => inA_of ((hv.1.2 s hs).2 x hx)) (Nat.lt_of_le_of_lt hv.1.1 (by decide)) (fun s hs => Nat.lt_of_le_of_lt (hv.1.2 s hs).1 (by decide)), rfl⟩) args ds gs before base hval hW
theorem holds : Rows.FnExactValenceOfSaid :=
  OpenClaim.holds_of_wide 5 Try.f5 rfl rfl rfl rfl rfl rfl rfl ⟨rfl, rfl, rfl, rfl, rfl⟩ rfl rfl rfl rfl rfl (by kernel_rfl) Try.func5 (by kernel_rfl)
    (of_decide_eq_true (by kernel_rfl)) (by unfold Func.isWrapper; first | (rw [if_pos (by decide +kernel)]; kernel_rfl) | (rw [if_neg (by decide +kernel)]; exact ⟨rfl, rfl⟩))
    (fun os started H enc _ => lifted os started H enc)
end Go.Proofs.Ytfdbhigklhinaaa

