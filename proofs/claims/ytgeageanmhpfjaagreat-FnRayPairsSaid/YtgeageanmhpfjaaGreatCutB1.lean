/- What the law's own function gives, proved node by node; no condition. -/
import Derived.Test.YtgeageanmhpfjaaGreatCutB
set_option linter.all false
set_option maxRecDepth 100000
set_option maxHeartbeats 4000000
set_option linter.all false
namespace Go.K.Link
open Go.K.Pure
noncomputable def rb1q0 (p : rbl1) : rO := oEls (rb1 p)
attribute [irreducible] rb1q0
theorem rb1ma (p : rbl1) : oC (rb1 p) = some ((rbu p).2.2.1 != (0 : Int)) := by kernel_rfl
theorem rb1mt (p : rbl1) : (oThn (rb1 p)).run = some (laws_FnRayPairs_s.out (show Bool from (((rbu p).2.1.1 == (0 : Int)) && (((rbu p).2.1.2.1 == (0 : Int)) && true)))) := by kernel_rfl
theorem rb1m (p : rbl1) : (rb1 p).run = bif ((rbu p).2.2.1 != (0 : Int)) then some (laws_FnRayPairs_s.out (show Bool from (((rbu p).2.1.1 == (0 : Int)) && (((rbu p).2.1.2.1 == (0 : Int)) && true)))) else (rb1q0 p).run := by
  rw [run_br _ _ (rb1ma p), rb1mt, rb1q0]
theorem rb1h0 (p : rbl1) : oTy (rb1q0 p) = (rA × Int) := by kernel_rfl
theorem rb1x0 (p : rbl1) : (oB (rb1q0 p), cast (congrArg Option (rb1h0 p)) (oX (rb1q0 p))) = (true, impl_PartnerOf (rbu p).2.1) := by kernel_rfl
abbrev rb1l1 : Type := (p : rbl1) × oTy (rb1q0 p)
noncomputable def rb1c0 (p : rb1l1) : (rA × Int) := cast (rb1h0 p.1) p.2
noncomputable def rb1q1 (p : rb1l1) : rO := oKo (rb1q0 p.1) p.2
attribute [irreducible] rb1q1 rb1c0
theorem rb1h1 (p : rb1l1) : oTy (rb1q1 p) = (rS × Int) := by kernel_rfl
theorem rb1x1 (p : rb1l1) : (oB (rb1q1 p), cast (congrArg Option (rb1h1 p)) (oX (rb1q1 p))) = (true, impl_KneadingOf (rbu p.1).1) := by kernel_rfl
abbrev rb1l2 : Type := (p : rb1l1) × oTy (rb1q1 p)
noncomputable def rb1c1 (p : rb1l2) : (rS × Int) := cast (rb1h1 p.1) p.2
noncomputable def rb1q2 (p : rb1l2) : rO := oKo (rb1q1 p.1) p.2
attribute [irreducible] rb1q2 rb1c1
theorem rb1h2 (p : rb1l2) : oTy (rb1q2 p) = (rS × Int) := by kernel_rfl
theorem rb1x2 (p : rb1l2) : (oB (rb1q2 p), cast (congrArg Option (rb1h2 p)) (oX (rb1q2 p))) = (true, impl_KneadingOf (rbu p.1.1).2.1) := by kernel_rfl
abbrev rb1l3 : Type := (p : rb1l2) × oTy (rb1q2 p)
noncomputable def rb1c2 (p : rb1l3) : (rS × Int) := cast (rb1h2 p.1) p.2
noncomputable def rb1q3 (p : rb1l3) : rO := oKo (rb1q2 p.1) p.2
attribute [irreducible] rb1q3 rb1c2
theorem rb1h3 (p : rb1l3) : oTy (rb1q3 p) = Bool := by kernel_rfl
theorem rb1x3 (p : rb1l3) : (oB (rb1q3 p), cast (congrArg Option (rb1h3 p)) (oX (rb1q3 p))) = (true, laws_less9 (rbu p.1.1.1).2.1 (rbu p.1.1.1).1) := by kernel_rfl
abbrev rb1l4 : Type := (p : rb1l3) × oTy (rb1q3 p)
noncomputable def rb1c3 (p : rb1l4) : Bool := cast (rb1h3 p.1) p.2
noncomputable def rb1q4 (p : rb1l4) : rO := oKo (rb1q3 p.1) p.2
attribute [irreducible] rb1q4 rb1c3
theorem rb1ba (p : rb1l4) : oC (rb1q4 p) = some (rb1c3 p) := by kernel_rfl
theorem rb1t (p : rb1l4) : (oThn (rb1q4 p)).run = (laws_FnRayPairs_F (rbu p.1.1.1.1).1 (rbu p.1.1.1.1).2.2.2.1 (rbu p.1.1.1.1).2.2.2.2.1 (rb1c0 p.1.1.1) (rb1c1 p.1.1) (rb1c2 p.1) (rbu p.1.1.1.1).2.1 (rbu p.1.1.1.1).1).bind fun y : Bool => some (laws_FnRayPairs_s.out y) := by
  simp only [laws_FnRayPairs_F, kb_ite, kb_some, kb_none, kb_bind, kb_alt]
  kernel_rfl
theorem rb1f (p : rb1l4) : (oEls (rb1q4 p)).run = (laws_FnRayPairs_F (rbu p.1.1.1.1).1 (rbu p.1.1.1.1).2.2.2.1 (rbu p.1.1.1.1).2.2.2.2.1 (rb1c0 p.1.1.1) (rb1c1 p.1.1) (rb1c2 p.1) (rbu p.1.1.1.1).1 (rbu p.1.1.1.1).2.1).bind fun y : Bool => some (laws_FnRayPairs_s.out y) := by
  simp only [laws_FnRayPairs_F, kb_ite, kb_some, kb_none, kb_bind, kb_alt]
  kernel_rfl
theorem rb1e (p : rbl1) : (rb1 p).run = (laws_FnRayPairs_R (rbu p).1 (rbu p).2.1 (rbu p).2.2.1 (rbu p).2.2.2.1 (rbu p).2.2.2.2.1).bind fun y : Bool => some (laws_FnRayPairs_s.out y) := by
  rw [rb1m, laws_FnRayPairs_R, kb_ite]
  congr 1
  simp only [kb_bind]
  rw [run_opt _ (rb1h0 p) _ (rb1x0 p)]
  refine congrArg _ (funext fun v0 => ?_)
  rw [show oKo (rb1q0 p) (cast (rb1h0 p).symm v0) = rb1q1 ⟨p, cast (rb1h0 p).symm v0⟩ by rw [rb1q1]]
  rw [run_opt _ (rb1h1 ⟨p, cast (rb1h0 p).symm v0⟩) _ (rb1x1 ⟨p, cast (rb1h0 p).symm v0⟩)]
  refine congrArg _ (funext fun v1 => ?_)
  rw [show oKo (rb1q1 ⟨p, cast (rb1h0 p).symm v0⟩) (cast (rb1h1 ⟨p, cast (rb1h0 p).symm v0⟩).symm v1) = rb1q2 ⟨⟨p, cast (rb1h0 p).symm v0⟩, cast (rb1h1 ⟨p, cast (rb1h0 p).symm v0⟩).symm v1⟩ by rw [rb1q2]]
  rw [run_opt _ (rb1h2 ⟨⟨p, cast (rb1h0 p).symm v0⟩, cast (rb1h1 ⟨p, cast (rb1h0 p).symm v0⟩).symm v1⟩) _ (rb1x2 ⟨⟨p, cast (rb1h0 p).symm v0⟩, cast (rb1h1 ⟨p, cast (rb1h0 p).symm v0⟩).symm v1⟩)]
  refine congrArg _ (funext fun v2 => ?_)
  rw [show oKo (rb1q2 ⟨⟨p, cast (rb1h0 p).symm v0⟩, cast (rb1h1 ⟨p, cast (rb1h0 p).symm v0⟩).symm v1⟩) (cast (rb1h2 ⟨⟨p, cast (rb1h0 p).symm v0⟩, cast (rb1h1 ⟨p, cast (rb1h0 p).symm v0⟩).symm v1⟩).symm v2) = rb1q3 ⟨⟨⟨p, cast (rb1h0 p).symm v0⟩, cast (rb1h1 ⟨p, cast (rb1h0 p).symm v0⟩).symm v1⟩, cast (rb1h2 ⟨⟨p, cast (rb1h0 p).symm v0⟩, cast (rb1h1 ⟨p, cast (rb1h0 p).symm v0⟩).symm v1⟩).symm v2⟩ by rw [rb1q3]]
  rw [run_opt _ (rb1h3 ⟨⟨⟨p, cast (rb1h0 p).symm v0⟩, cast (rb1h1 ⟨p, cast (rb1h0 p).symm v0⟩).symm v1⟩, cast (rb1h2 ⟨⟨p, cast (rb1h0 p).symm v0⟩, cast (rb1h1 ⟨p, cast (rb1h0 p).symm v0⟩).symm v1⟩).symm v2⟩) _ (rb1x3 ⟨⟨⟨p, cast (rb1h0 p).symm v0⟩, cast (rb1h1 ⟨p, cast (rb1h0 p).symm v0⟩).symm v1⟩, cast (rb1h2 ⟨⟨p, cast (rb1h0 p).symm v0⟩, cast (rb1h1 ⟨p, cast (rb1h0 p).symm v0⟩).symm v1⟩).symm v2⟩)]
  refine congrArg _ (funext fun v3 => ?_)
  rw [show oKo (rb1q3 ⟨⟨⟨p, cast (rb1h0 p).symm v0⟩, cast (rb1h1 ⟨p, cast (rb1h0 p).symm v0⟩).symm v1⟩, cast (rb1h2 ⟨⟨p, cast (rb1h0 p).symm v0⟩, cast (rb1h1 ⟨p, cast (rb1h0 p).symm v0⟩).symm v1⟩).symm v2⟩) (cast (rb1h3 ⟨⟨⟨p, cast (rb1h0 p).symm v0⟩, cast (rb1h1 ⟨p, cast (rb1h0 p).symm v0⟩).symm v1⟩, cast (rb1h2 ⟨⟨p, cast (rb1h0 p).symm v0⟩, cast (rb1h1 ⟨p, cast (rb1h0 p).symm v0⟩).symm v1⟩).symm v2⟩).symm v3) = rb1q4 ⟨⟨⟨⟨p, cast (rb1h0 p).symm v0⟩, cast (rb1h1 ⟨p, cast (rb1h0 p).symm v0⟩).symm v1⟩, cast (rb1h2 ⟨⟨p, cast (rb1h0 p).symm v0⟩, cast (rb1h1 ⟨p, cast (rb1h0 p).symm v0⟩).symm v1⟩).symm v2⟩, cast (rb1h3 ⟨⟨⟨p, cast (rb1h0 p).symm v0⟩, cast (rb1h1 ⟨p, cast (rb1h0 p).symm v0⟩).symm v1⟩, cast (rb1h2 ⟨⟨p, cast (rb1h0 p).symm v0⟩, cast (rb1h1 ⟨p, cast (rb1h0 p).symm v0⟩).symm v1⟩).symm v2⟩).symm v3⟩ by rw [rb1q4]]
  rw [run_br _ _ (rb1ba ⟨⟨⟨⟨p, cast (rb1h0 p).symm v0⟩, cast (rb1h1 ⟨p, cast (rb1h0 p).symm v0⟩).symm v1⟩, cast (rb1h2 ⟨⟨p, cast (rb1h0 p).symm v0⟩, cast (rb1h1 ⟨p, cast (rb1h0 p).symm v0⟩).symm v1⟩).symm v2⟩, cast (rb1h3 ⟨⟨⟨p, cast (rb1h0 p).symm v0⟩, cast (rb1h1 ⟨p, cast (rb1h0 p).symm v0⟩).symm v1⟩, cast (rb1h2 ⟨⟨p, cast (rb1h0 p).symm v0⟩, cast (rb1h1 ⟨p, cast (rb1h0 p).symm v0⟩).symm v1⟩).symm v2⟩).symm v3⟩), rb1t, rb1f]
  simp only [rb1c0, rb1c1, rb1c2, rb1c3, cast_cast, cast_eq, kb_ite]
end Go.K.Link

