/- What the law's own function gives, proved node by node; no condition. -/
import Derived.Test.YtgeageanmhpfjaaGreatCutB
set_option linter.all false
set_option maxRecDepth 100000
set_option maxHeartbeats 4000000
set_option linter.all false
namespace Go.K.Link
open Go.K.Pure
noncomputable def rb2q0 (p : rL17) : rO := oEls (rb2 p)
attribute [irreducible] rb2q0
theorem rb2ma (p : rL17) : oC (rb2 p) = some ((rC10 p.1.1.1.1.1.1).2 != (0 : Int)) := by kernel_rfl
theorem rb2mt (p : rL17) : (oThn (rb2 p)).run = some (laws_FnRayPairs_s.out (show Bool from (((rC10 p.1.1.1.1.1.1).1.1 == (0 : Int)) && (((rC10 p.1.1.1.1.1.1).1.2.1 == (0 : Int)) && true)))) := by kernel_rfl
theorem rb2m (p : rL17) : (rb2 p).run = bif ((rC10 p.1.1.1.1.1.1).2 != (0 : Int)) then some (laws_FnRayPairs_s.out (show Bool from (((rC10 p.1.1.1.1.1.1).1.1 == (0 : Int)) && (((rC10 p.1.1.1.1.1.1).1.2.1 == (0 : Int)) && true)))) else (rb2q0 p).run := by
  rw [run_br _ _ (rb2ma p), rb2mt, rb2q0]
theorem rb2h0 (p : rL17) : oTy (rb2q0 p) = (rA × Int) := by kernel_rfl
theorem rb2x0 (p : rL17) : (oB (rb2q0 p), cast (congrArg Option (rb2h0 p)) (oX (rb2q0 p))) = (true, impl_PartnerOf (rC10 p.1.1.1.1.1.1).1) := by kernel_rfl
abbrev rb2l1 : Type := (p : rL17) × oTy (rb2q0 p)
noncomputable def rb2c0 (p : rb2l1) : (rA × Int) := cast (rb2h0 p.1) p.2
noncomputable def rb2q1 (p : rb2l1) : rO := oKo (rb2q0 p.1) p.2
attribute [irreducible] rb2q1 rb2c0
theorem rb2h1 (p : rb2l1) : oTy (rb2q1 p) = (rS × Int) := by kernel_rfl
theorem rb2x1 (p : rb2l1) : (oB (rb2q1 p), cast (congrArg Option (rb2h1 p)) (oX (rb2q1 p))) = (true, impl_KneadingOf (rC9 p.1.1.1.1.1.1.1.1)) := by kernel_rfl
abbrev rb2l2 : Type := (p : rb2l1) × oTy (rb2q1 p)
noncomputable def rb2c1 (p : rb2l2) : (rS × Int) := cast (rb2h1 p.1) p.2
noncomputable def rb2q2 (p : rb2l2) : rO := oKo (rb2q1 p.1) p.2
attribute [irreducible] rb2q2 rb2c1
theorem rb2h2 (p : rb2l2) : oTy (rb2q2 p) = (rS × Int) := by kernel_rfl
theorem rb2x2 (p : rb2l2) : (oB (rb2q2 p), cast (congrArg Option (rb2h2 p)) (oX (rb2q2 p))) = (true, impl_KneadingOf (rC10 p.1.1.1.1.1.1.1.1).1) := by kernel_rfl
abbrev rb2l3 : Type := (p : rb2l2) × oTy (rb2q2 p)
noncomputable def rb2c2 (p : rb2l3) : (rS × Int) := cast (rb2h2 p.1) p.2
noncomputable def rb2q3 (p : rb2l3) : rO := oKo (rb2q2 p.1) p.2
attribute [irreducible] rb2q3 rb2c2
theorem rb2h3 (p : rb2l3) : oTy (rb2q3 p) = Bool := by kernel_rfl
theorem rb2x3 (p : rb2l3) : (oB (rb2q3 p), cast (congrArg Option (rb2h3 p)) (oX (rb2q3 p))) = (true, laws_less9 (rC10 p.1.1.1.1.1.1.1.1.1).1 (rC9 p.1.1.1.1.1.1.1.1.1.1)) := by kernel_rfl
abbrev rb2l4 : Type := (p : rb2l3) × oTy (rb2q3 p)
noncomputable def rb2c3 (p : rb2l4) : Bool := cast (rb2h3 p.1) p.2
noncomputable def rb2q4 (p : rb2l4) : rO := oKo (rb2q3 p.1) p.2
attribute [irreducible] rb2q4 rb2c3
theorem rb2ba (p : rb2l4) : oC (rb2q4 p) = some (rb2c3 p) := by kernel_rfl
theorem rb2t (p : rb2l4) : (oThn (rb2q4 p)).run = (laws_FnRayPairs_F (rC9 p.1.1.1.1.1.1.1.1.1.1.1) (rC12 p.1.1.1.1.1.1.1.1).1 (rC12 p.1.1.1.1.1.1.1.1).2 (rb2c0 p.1.1.1) (rb2c1 p.1.1) (rb2c2 p.1) (rC10 p.1.1.1.1.1.1.1.1.1.1).1 (rC9 p.1.1.1.1.1.1.1.1.1.1.1)).bind fun y : Bool => some (laws_FnRayPairs_s.out y) := by
  simp only [laws_FnRayPairs_F, kb_ite, kb_some, kb_none, kb_bind, kb_alt]
  kernel_rfl
theorem rb2f (p : rb2l4) : (oEls (rb2q4 p)).run = (laws_FnRayPairs_F (rC9 p.1.1.1.1.1.1.1.1.1.1.1) (rC12 p.1.1.1.1.1.1.1.1).1 (rC12 p.1.1.1.1.1.1.1.1).2 (rb2c0 p.1.1.1) (rb2c1 p.1.1) (rb2c2 p.1) (rC9 p.1.1.1.1.1.1.1.1.1.1.1) (rC10 p.1.1.1.1.1.1.1.1.1.1).1).bind fun y : Bool => some (laws_FnRayPairs_s.out y) := by
  simp only [laws_FnRayPairs_F, kb_ite, kb_some, kb_none, kb_bind, kb_alt]
  kernel_rfl
theorem rb2e (p : rL17) : (rb2 p).run = (laws_FnRayPairs_R (rC9 p.1.1.1.1.1.1.1) (rC10 p.1.1.1.1.1.1).1 (rC10 p.1.1.1.1.1.1).2 (rC12 p.1.1.1.1).1 (rC12 p.1.1.1.1).2).bind fun y : Bool => some (laws_FnRayPairs_s.out y) := by
  rw [rb2m, laws_FnRayPairs_R, kb_ite]
  congr 1
  simp only [kb_bind]
  rw [run_opt _ (rb2h0 p) _ (rb2x0 p)]
  refine congrArg _ (funext fun v0 => ?_)
  rw [show oKo (rb2q0 p) (cast (rb2h0 p).symm v0) = rb2q1 ⟨p, cast (rb2h0 p).symm v0⟩ by rw [rb2q1]]
  rw [run_opt _ (rb2h1 ⟨p, cast (rb2h0 p).symm v0⟩) _ (rb2x1 ⟨p, cast (rb2h0 p).symm v0⟩)]
  refine congrArg _ (funext fun v1 => ?_)
  rw [show oKo (rb2q1 ⟨p, cast (rb2h0 p).symm v0⟩) (cast (rb2h1 ⟨p, cast (rb2h0 p).symm v0⟩).symm v1) = rb2q2 ⟨⟨p, cast (rb2h0 p).symm v0⟩, cast (rb2h1 ⟨p, cast (rb2h0 p).symm v0⟩).symm v1⟩ by rw [rb2q2]]
  rw [run_opt _ (rb2h2 ⟨⟨p, cast (rb2h0 p).symm v0⟩, cast (rb2h1 ⟨p, cast (rb2h0 p).symm v0⟩).symm v1⟩) _ (rb2x2 ⟨⟨p, cast (rb2h0 p).symm v0⟩, cast (rb2h1 ⟨p, cast (rb2h0 p).symm v0⟩).symm v1⟩)]
  refine congrArg _ (funext fun v2 => ?_)
  rw [show oKo (rb2q2 ⟨⟨p, cast (rb2h0 p).symm v0⟩, cast (rb2h1 ⟨p, cast (rb2h0 p).symm v0⟩).symm v1⟩) (cast (rb2h2 ⟨⟨p, cast (rb2h0 p).symm v0⟩, cast (rb2h1 ⟨p, cast (rb2h0 p).symm v0⟩).symm v1⟩).symm v2) = rb2q3 ⟨⟨⟨p, cast (rb2h0 p).symm v0⟩, cast (rb2h1 ⟨p, cast (rb2h0 p).symm v0⟩).symm v1⟩, cast (rb2h2 ⟨⟨p, cast (rb2h0 p).symm v0⟩, cast (rb2h1 ⟨p, cast (rb2h0 p).symm v0⟩).symm v1⟩).symm v2⟩ by rw [rb2q3]]
  rw [run_opt _ (rb2h3 ⟨⟨⟨p, cast (rb2h0 p).symm v0⟩, cast (rb2h1 ⟨p, cast (rb2h0 p).symm v0⟩).symm v1⟩, cast (rb2h2 ⟨⟨p, cast (rb2h0 p).symm v0⟩, cast (rb2h1 ⟨p, cast (rb2h0 p).symm v0⟩).symm v1⟩).symm v2⟩) _ (rb2x3 ⟨⟨⟨p, cast (rb2h0 p).symm v0⟩, cast (rb2h1 ⟨p, cast (rb2h0 p).symm v0⟩).symm v1⟩, cast (rb2h2 ⟨⟨p, cast (rb2h0 p).symm v0⟩, cast (rb2h1 ⟨p, cast (rb2h0 p).symm v0⟩).symm v1⟩).symm v2⟩)]
  refine congrArg _ (funext fun v3 => ?_)
  rw [show oKo (rb2q3 ⟨⟨⟨p, cast (rb2h0 p).symm v0⟩, cast (rb2h1 ⟨p, cast (rb2h0 p).symm v0⟩).symm v1⟩, cast (rb2h2 ⟨⟨p, cast (rb2h0 p).symm v0⟩, cast (rb2h1 ⟨p, cast (rb2h0 p).symm v0⟩).symm v1⟩).symm v2⟩) (cast (rb2h3 ⟨⟨⟨p, cast (rb2h0 p).symm v0⟩, cast (rb2h1 ⟨p, cast (rb2h0 p).symm v0⟩).symm v1⟩, cast (rb2h2 ⟨⟨p, cast (rb2h0 p).symm v0⟩, cast (rb2h1 ⟨p, cast (rb2h0 p).symm v0⟩).symm v1⟩).symm v2⟩).symm v3) = rb2q4 ⟨⟨⟨⟨p, cast (rb2h0 p).symm v0⟩, cast (rb2h1 ⟨p, cast (rb2h0 p).symm v0⟩).symm v1⟩, cast (rb2h2 ⟨⟨p, cast (rb2h0 p).symm v0⟩, cast (rb2h1 ⟨p, cast (rb2h0 p).symm v0⟩).symm v1⟩).symm v2⟩, cast (rb2h3 ⟨⟨⟨p, cast (rb2h0 p).symm v0⟩, cast (rb2h1 ⟨p, cast (rb2h0 p).symm v0⟩).symm v1⟩, cast (rb2h2 ⟨⟨p, cast (rb2h0 p).symm v0⟩, cast (rb2h1 ⟨p, cast (rb2h0 p).symm v0⟩).symm v1⟩).symm v2⟩).symm v3⟩ by rw [rb2q4]]
  rw [run_br _ _ (rb2ba ⟨⟨⟨⟨p, cast (rb2h0 p).symm v0⟩, cast (rb2h1 ⟨p, cast (rb2h0 p).symm v0⟩).symm v1⟩, cast (rb2h2 ⟨⟨p, cast (rb2h0 p).symm v0⟩, cast (rb2h1 ⟨p, cast (rb2h0 p).symm v0⟩).symm v1⟩).symm v2⟩, cast (rb2h3 ⟨⟨⟨p, cast (rb2h0 p).symm v0⟩, cast (rb2h1 ⟨p, cast (rb2h0 p).symm v0⟩).symm v1⟩, cast (rb2h2 ⟨⟨p, cast (rb2h0 p).symm v0⟩, cast (rb2h1 ⟨p, cast (rb2h0 p).symm v0⟩).symm v1⟩).symm v2⟩).symm v3⟩), rb2t, rb2f]
  simp only [rb2c0, rb2c1, rb2c2, rb2c3, cast_cast, cast_eq, kb_ite]
end Go.K.Link

