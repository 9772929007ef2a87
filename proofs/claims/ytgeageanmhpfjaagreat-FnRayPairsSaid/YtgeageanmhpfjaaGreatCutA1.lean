/- What the law's own function gives, proved node by node; no condition. -/
import Derived.Test.YtgeageanmhpfjaaGreatCutA
set_option linter.all false
set_option maxRecDepth 100000
set_option maxHeartbeats 4000000
set_option linter.all false
namespace Go.K.Link
open Go.K.Pure
noncomputable def ra1q0 (p : ral1) : rO := oEls (ra1 p)
attribute [irreducible] ra1q0
theorem ra1ma (p : ral1) : oC (ra1 p) = some ((rau p).2.2.1 != (0 : Int)) := by kernel_rfl
theorem ra1mt (p : ral1) : (oThn (ra1 p)).run = some (laws_FnRayPairs_s.out (show Bool from (((rau p).2.1.1 == (0 : Int)) && (((rau p).2.1.2.1 == (0 : Int)) && true)))) := by kernel_rfl
theorem ra1m (p : ral1) : (ra1 p).run = bif ((rau p).2.2.1 != (0 : Int)) then some (laws_FnRayPairs_s.out (show Bool from (((rau p).2.1.1 == (0 : Int)) && (((rau p).2.1.2.1 == (0 : Int)) && true)))) else (ra1q0 p).run := by
  rw [run_br _ _ (ra1ma p), ra1mt, ra1q0]
theorem ra1h0 (p : ral1) : oTy (ra1q0 p) = (rA × Int) := by kernel_rfl
theorem ra1x0 (p : ral1) : (oB (ra1q0 p), cast (congrArg Option (ra1h0 p)) (oX (ra1q0 p))) = (true, impl_PartnerOf (rau p).2.1) := by kernel_rfl
abbrev ra1l1 : Type := (p : ral1) × oTy (ra1q0 p)
noncomputable def ra1c0 (p : ra1l1) : (rA × Int) := cast (ra1h0 p.1) p.2
noncomputable def ra1q1 (p : ra1l1) : rO := oKo (ra1q0 p.1) p.2
attribute [irreducible] ra1q1 ra1c0
theorem ra1h1 (p : ra1l1) : oTy (ra1q1 p) = (rS × Int) := by kernel_rfl
theorem ra1x1 (p : ra1l1) : (oB (ra1q1 p), cast (congrArg Option (ra1h1 p)) (oX (ra1q1 p))) = (true, impl_KneadingOf (rau p.1).1) := by kernel_rfl
abbrev ra1l2 : Type := (p : ra1l1) × oTy (ra1q1 p)
noncomputable def ra1c1 (p : ra1l2) : (rS × Int) := cast (ra1h1 p.1) p.2
noncomputable def ra1q2 (p : ra1l2) : rO := oKo (ra1q1 p.1) p.2
attribute [irreducible] ra1q2 ra1c1
theorem ra1h2 (p : ra1l2) : oTy (ra1q2 p) = (rS × Int) := by kernel_rfl
theorem ra1x2 (p : ra1l2) : (oB (ra1q2 p), cast (congrArg Option (ra1h2 p)) (oX (ra1q2 p))) = (true, impl_KneadingOf (rau p.1.1).2.1) := by kernel_rfl
abbrev ra1l3 : Type := (p : ra1l2) × oTy (ra1q2 p)
noncomputable def ra1c2 (p : ra1l3) : (rS × Int) := cast (ra1h2 p.1) p.2
noncomputable def ra1q3 (p : ra1l3) : rO := oKo (ra1q2 p.1) p.2
attribute [irreducible] ra1q3 ra1c2
theorem ra1h3 (p : ra1l3) : oTy (ra1q3 p) = Bool := by kernel_rfl
theorem ra1x3 (p : ra1l3) : (oB (ra1q3 p), cast (congrArg Option (ra1h3 p)) (oX (ra1q3 p))) = (true, laws_less9 (rau p.1.1.1).2.1 (rau p.1.1.1).1) := by kernel_rfl
abbrev ra1l4 : Type := (p : ra1l3) × oTy (ra1q3 p)
noncomputable def ra1c3 (p : ra1l4) : Bool := cast (ra1h3 p.1) p.2
noncomputable def ra1q4 (p : ra1l4) : rO := oKo (ra1q3 p.1) p.2
attribute [irreducible] ra1q4 ra1c3
theorem ra1ba (p : ra1l4) : oC (ra1q4 p) = some (ra1c3 p) := by kernel_rfl
theorem ra1t (p : ra1l4) : (oThn (ra1q4 p)).run = (laws_FnRayPairs_F (rau p.1.1.1.1).1 (rau p.1.1.1.1).2.2.2.1 (rau p.1.1.1.1).2.2.2.2.1 (ra1c0 p.1.1.1) (ra1c1 p.1.1) (ra1c2 p.1) (rau p.1.1.1.1).2.1 (rau p.1.1.1.1).1).bind fun y : Bool => some (laws_FnRayPairs_s.out y) := by
  simp only [laws_FnRayPairs_F, kb_ite, kb_some, kb_none, kb_bind, kb_alt]
  kernel_rfl
theorem ra1f (p : ra1l4) : (oEls (ra1q4 p)).run = (laws_FnRayPairs_F (rau p.1.1.1.1).1 (rau p.1.1.1.1).2.2.2.1 (rau p.1.1.1.1).2.2.2.2.1 (ra1c0 p.1.1.1) (ra1c1 p.1.1) (ra1c2 p.1) (rau p.1.1.1.1).1 (rau p.1.1.1.1).2.1).bind fun y : Bool => some (laws_FnRayPairs_s.out y) := by
  simp only [laws_FnRayPairs_F, kb_ite, kb_some, kb_none, kb_bind, kb_alt]
  kernel_rfl
theorem ra1e (p : ral1) : (ra1 p).run = (laws_FnRayPairs_R (rau p).1 (rau p).2.1 (rau p).2.2.1 (rau p).2.2.2.1 (rau p).2.2.2.2.1).bind fun y : Bool => some (laws_FnRayPairs_s.out y) := by
  rw [ra1m, laws_FnRayPairs_R, kb_ite]
  congr 1
  simp only [kb_bind]
  rw [run_opt _ (ra1h0 p) _ (ra1x0 p)]
  refine congrArg _ (funext fun v0 => ?_)
  rw [show oKo (ra1q0 p) (cast (ra1h0 p).symm v0) = ra1q1 ⟨p, cast (ra1h0 p).symm v0⟩ by rw [ra1q1]]
  rw [run_opt _ (ra1h1 ⟨p, cast (ra1h0 p).symm v0⟩) _ (ra1x1 ⟨p, cast (ra1h0 p).symm v0⟩)]
  refine congrArg _ (funext fun v1 => ?_)
  rw [show oKo (ra1q1 ⟨p, cast (ra1h0 p).symm v0⟩) (cast (ra1h1 ⟨p, cast (ra1h0 p).symm v0⟩).symm v1) = ra1q2 ⟨⟨p, cast (ra1h0 p).symm v0⟩, cast (ra1h1 ⟨p, cast (ra1h0 p).symm v0⟩).symm v1⟩ by rw [ra1q2]]
  rw [run_opt _ (ra1h2 ⟨⟨p, cast (ra1h0 p).symm v0⟩, cast (ra1h1 ⟨p, cast (ra1h0 p).symm v0⟩).symm v1⟩) _ (ra1x2 ⟨⟨p, cast (ra1h0 p).symm v0⟩, cast (ra1h1 ⟨p, cast (ra1h0 p).symm v0⟩).symm v1⟩)]
  refine congrArg _ (funext fun v2 => ?_)
  rw [show oKo (ra1q2 ⟨⟨p, cast (ra1h0 p).symm v0⟩, cast (ra1h1 ⟨p, cast (ra1h0 p).symm v0⟩).symm v1⟩) (cast (ra1h2 ⟨⟨p, cast (ra1h0 p).symm v0⟩, cast (ra1h1 ⟨p, cast (ra1h0 p).symm v0⟩).symm v1⟩).symm v2) = ra1q3 ⟨⟨⟨p, cast (ra1h0 p).symm v0⟩, cast (ra1h1 ⟨p, cast (ra1h0 p).symm v0⟩).symm v1⟩, cast (ra1h2 ⟨⟨p, cast (ra1h0 p).symm v0⟩, cast (ra1h1 ⟨p, cast (ra1h0 p).symm v0⟩).symm v1⟩).symm v2⟩ by rw [ra1q3]]
  rw [run_opt _ (ra1h3 ⟨⟨⟨p, cast (ra1h0 p).symm v0⟩, cast (ra1h1 ⟨p, cast (ra1h0 p).symm v0⟩).symm v1⟩, cast (ra1h2 ⟨⟨p, cast (ra1h0 p).symm v0⟩, cast (ra1h1 ⟨p, cast (ra1h0 p).symm v0⟩).symm v1⟩).symm v2⟩) _ (ra1x3 ⟨⟨⟨p, cast (ra1h0 p).symm v0⟩, cast (ra1h1 ⟨p, cast (ra1h0 p).symm v0⟩).symm v1⟩, cast (ra1h2 ⟨⟨p, cast (ra1h0 p).symm v0⟩, cast (ra1h1 ⟨p, cast (ra1h0 p).symm v0⟩).symm v1⟩).symm v2⟩)]
  refine congrArg _ (funext fun v3 => ?_)
  rw [show oKo (ra1q3 ⟨⟨⟨p, cast (ra1h0 p).symm v0⟩, cast (ra1h1 ⟨p, cast (ra1h0 p).symm v0⟩).symm v1⟩, cast (ra1h2 ⟨⟨p, cast (ra1h0 p).symm v0⟩, cast (ra1h1 ⟨p, cast (ra1h0 p).symm v0⟩).symm v1⟩).symm v2⟩) (cast (ra1h3 ⟨⟨⟨p, cast (ra1h0 p).symm v0⟩, cast (ra1h1 ⟨p, cast (ra1h0 p).symm v0⟩).symm v1⟩, cast (ra1h2 ⟨⟨p, cast (ra1h0 p).symm v0⟩, cast (ra1h1 ⟨p, cast (ra1h0 p).symm v0⟩).symm v1⟩).symm v2⟩).symm v3) = ra1q4 ⟨⟨⟨⟨p, cast (ra1h0 p).symm v0⟩, cast (ra1h1 ⟨p, cast (ra1h0 p).symm v0⟩).symm v1⟩, cast (ra1h2 ⟨⟨p, cast (ra1h0 p).symm v0⟩, cast (ra1h1 ⟨p, cast (ra1h0 p).symm v0⟩).symm v1⟩).symm v2⟩, cast (ra1h3 ⟨⟨⟨p, cast (ra1h0 p).symm v0⟩, cast (ra1h1 ⟨p, cast (ra1h0 p).symm v0⟩).symm v1⟩, cast (ra1h2 ⟨⟨p, cast (ra1h0 p).symm v0⟩, cast (ra1h1 ⟨p, cast (ra1h0 p).symm v0⟩).symm v1⟩).symm v2⟩).symm v3⟩ by rw [ra1q4]]
  rw [run_br _ _ (ra1ba ⟨⟨⟨⟨p, cast (ra1h0 p).symm v0⟩, cast (ra1h1 ⟨p, cast (ra1h0 p).symm v0⟩).symm v1⟩, cast (ra1h2 ⟨⟨p, cast (ra1h0 p).symm v0⟩, cast (ra1h1 ⟨p, cast (ra1h0 p).symm v0⟩).symm v1⟩).symm v2⟩, cast (ra1h3 ⟨⟨⟨p, cast (ra1h0 p).symm v0⟩, cast (ra1h1 ⟨p, cast (ra1h0 p).symm v0⟩).symm v1⟩, cast (ra1h2 ⟨⟨p, cast (ra1h0 p).symm v0⟩, cast (ra1h1 ⟨p, cast (ra1h0 p).symm v0⟩).symm v1⟩).symm v2⟩).symm v3⟩), ra1t, ra1f]
  simp only [ra1c0, ra1c1, ra1c2, ra1c3, cast_cast, cast_eq, kb_ite]
end Go.K.Link

