/- What the law's own function gives, proved node by node; no condition. -/
import Derived.Test.YtgeageanmhpfjaaGreatCutA
set_option linter.all false
set_option maxRecDepth 100000
set_option maxHeartbeats 4000000
set_option linter.all false
namespace Go.K.Link
open Go.K.Pure
noncomputable def ra2q0 (p : rL18) : rO := oEls (ra2 p)
attribute [irreducible] ra2q0
theorem ra2ma (p : rL18) : oC (ra2 p) = some ((rC10 p.1.1.1.1.1.1.1).2 != (0 : Int)) := by kernel_rfl
theorem ra2mt (p : rL18) : (oThn (ra2 p)).run = some (laws_FnRayPairs_s.out (show Bool from (((rC10 p.1.1.1.1.1.1.1).1.1 == (0 : Int)) && (((rC10 p.1.1.1.1.1.1.1).1.2.1 == (0 : Int)) && true)))) := by kernel_rfl
theorem ra2m (p : rL18) : (ra2 p).run = bif ((rC10 p.1.1.1.1.1.1.1).2 != (0 : Int)) then some (laws_FnRayPairs_s.out (show Bool from (((rC10 p.1.1.1.1.1.1.1).1.1 == (0 : Int)) && (((rC10 p.1.1.1.1.1.1.1).1.2.1 == (0 : Int)) && true)))) else (ra2q0 p).run := by
  rw [run_br _ _ (ra2ma p), ra2mt, ra2q0]
theorem ra2h0 (p : rL18) : oTy (ra2q0 p) = (rA × Int) := by kernel_rfl
theorem ra2x0 (p : rL18) : (oB (ra2q0 p), cast (congrArg Option (ra2h0 p)) (oX (ra2q0 p))) = (true, impl_PartnerOf (rC10 p.1.1.1.1.1.1.1).1) := by kernel_rfl
abbrev ra2l1 : Type := (p : rL18) × oTy (ra2q0 p)
noncomputable def ra2c0 (p : ra2l1) : (rA × Int) := cast (ra2h0 p.1) p.2
noncomputable def ra2q1 (p : ra2l1) : rO := oKo (ra2q0 p.1) p.2
attribute [irreducible] ra2q1 ra2c0
theorem ra2h1 (p : ra2l1) : oTy (ra2q1 p) = (rS × Int) := by kernel_rfl
theorem ra2x1 (p : ra2l1) : (oB (ra2q1 p), cast (congrArg Option (ra2h1 p)) (oX (ra2q1 p))) = (true, impl_KneadingOf (rC9 p.1.1.1.1.1.1.1.1.1)) := by kernel_rfl
abbrev ra2l2 : Type := (p : ra2l1) × oTy (ra2q1 p)
noncomputable def ra2c1 (p : ra2l2) : (rS × Int) := cast (ra2h1 p.1) p.2
noncomputable def ra2q2 (p : ra2l2) : rO := oKo (ra2q1 p.1) p.2
attribute [irreducible] ra2q2 ra2c1
theorem ra2h2 (p : ra2l2) : oTy (ra2q2 p) = (rS × Int) := by kernel_rfl
theorem ra2x2 (p : ra2l2) : (oB (ra2q2 p), cast (congrArg Option (ra2h2 p)) (oX (ra2q2 p))) = (true, impl_KneadingOf (rC10 p.1.1.1.1.1.1.1.1.1).1) := by kernel_rfl
abbrev ra2l3 : Type := (p : ra2l2) × oTy (ra2q2 p)
noncomputable def ra2c2 (p : ra2l3) : (rS × Int) := cast (ra2h2 p.1) p.2
noncomputable def ra2q3 (p : ra2l3) : rO := oKo (ra2q2 p.1) p.2
attribute [irreducible] ra2q3 ra2c2
theorem ra2h3 (p : ra2l3) : oTy (ra2q3 p) = Bool := by kernel_rfl
theorem ra2x3 (p : ra2l3) : (oB (ra2q3 p), cast (congrArg Option (ra2h3 p)) (oX (ra2q3 p))) = (true, laws_less9 (rC10 p.1.1.1.1.1.1.1.1.1.1).1 (rC9 p.1.1.1.1.1.1.1.1.1.1.1)) := by kernel_rfl
abbrev ra2l4 : Type := (p : ra2l3) × oTy (ra2q3 p)
noncomputable def ra2c3 (p : ra2l4) : Bool := cast (ra2h3 p.1) p.2
noncomputable def ra2q4 (p : ra2l4) : rO := oKo (ra2q3 p.1) p.2
attribute [irreducible] ra2q4 ra2c3
theorem ra2ba (p : ra2l4) : oC (ra2q4 p) = some (ra2c3 p) := by kernel_rfl
theorem ra2t (p : ra2l4) : (oThn (ra2q4 p)).run = (laws_FnRayPairs_F (rC9 p.1.1.1.1.1.1.1.1.1.1.1.1) (rC12 p.1.1.1.1.1.1.1.1.1).1 (rC12 p.1.1.1.1.1.1.1.1.1).2 (ra2c0 p.1.1.1) (ra2c1 p.1.1) (ra2c2 p.1) (rC10 p.1.1.1.1.1.1.1.1.1.1.1).1 (rC9 p.1.1.1.1.1.1.1.1.1.1.1.1)).bind fun y : Bool => some (laws_FnRayPairs_s.out y) := by
  simp only [laws_FnRayPairs_F, kb_ite, kb_some, kb_none, kb_bind, kb_alt]
  kernel_rfl
theorem ra2f (p : ra2l4) : (oEls (ra2q4 p)).run = (laws_FnRayPairs_F (rC9 p.1.1.1.1.1.1.1.1.1.1.1.1) (rC12 p.1.1.1.1.1.1.1.1.1).1 (rC12 p.1.1.1.1.1.1.1.1.1).2 (ra2c0 p.1.1.1) (ra2c1 p.1.1) (ra2c2 p.1) (rC9 p.1.1.1.1.1.1.1.1.1.1.1.1) (rC10 p.1.1.1.1.1.1.1.1.1.1.1).1).bind fun y : Bool => some (laws_FnRayPairs_s.out y) := by
  simp only [laws_FnRayPairs_F, kb_ite, kb_some, kb_none, kb_bind, kb_alt]
  kernel_rfl
theorem ra2e (p : rL18) : (ra2 p).run = (laws_FnRayPairs_R (rC9 p.1.1.1.1.1.1.1.1) (rC10 p.1.1.1.1.1.1.1).1 (rC10 p.1.1.1.1.1.1.1).2 (rC12 p.1.1.1.1.1).1 (rC12 p.1.1.1.1.1).2).bind fun y : Bool => some (laws_FnRayPairs_s.out y) := by
  rw [ra2m, laws_FnRayPairs_R, kb_ite]
  congr 1
  simp only [kb_bind]
  rw [run_opt _ (ra2h0 p) _ (ra2x0 p)]
  refine congrArg _ (funext fun v0 => ?_)
  rw [show oKo (ra2q0 p) (cast (ra2h0 p).symm v0) = ra2q1 ⟨p, cast (ra2h0 p).symm v0⟩ by rw [ra2q1]]
  rw [run_opt _ (ra2h1 ⟨p, cast (ra2h0 p).symm v0⟩) _ (ra2x1 ⟨p, cast (ra2h0 p).symm v0⟩)]
  refine congrArg _ (funext fun v1 => ?_)
  rw [show oKo (ra2q1 ⟨p, cast (ra2h0 p).symm v0⟩) (cast (ra2h1 ⟨p, cast (ra2h0 p).symm v0⟩).symm v1) = ra2q2 ⟨⟨p, cast (ra2h0 p).symm v0⟩, cast (ra2h1 ⟨p, cast (ra2h0 p).symm v0⟩).symm v1⟩ by rw [ra2q2]]
  rw [run_opt _ (ra2h2 ⟨⟨p, cast (ra2h0 p).symm v0⟩, cast (ra2h1 ⟨p, cast (ra2h0 p).symm v0⟩).symm v1⟩) _ (ra2x2 ⟨⟨p, cast (ra2h0 p).symm v0⟩, cast (ra2h1 ⟨p, cast (ra2h0 p).symm v0⟩).symm v1⟩)]
  refine congrArg _ (funext fun v2 => ?_)
  rw [show oKo (ra2q2 ⟨⟨p, cast (ra2h0 p).symm v0⟩, cast (ra2h1 ⟨p, cast (ra2h0 p).symm v0⟩).symm v1⟩) (cast (ra2h2 ⟨⟨p, cast (ra2h0 p).symm v0⟩, cast (ra2h1 ⟨p, cast (ra2h0 p).symm v0⟩).symm v1⟩).symm v2) = ra2q3 ⟨⟨⟨p, cast (ra2h0 p).symm v0⟩, cast (ra2h1 ⟨p, cast (ra2h0 p).symm v0⟩).symm v1⟩, cast (ra2h2 ⟨⟨p, cast (ra2h0 p).symm v0⟩, cast (ra2h1 ⟨p, cast (ra2h0 p).symm v0⟩).symm v1⟩).symm v2⟩ by rw [ra2q3]]
  rw [run_opt _ (ra2h3 ⟨⟨⟨p, cast (ra2h0 p).symm v0⟩, cast (ra2h1 ⟨p, cast (ra2h0 p).symm v0⟩).symm v1⟩, cast (ra2h2 ⟨⟨p, cast (ra2h0 p).symm v0⟩, cast (ra2h1 ⟨p, cast (ra2h0 p).symm v0⟩).symm v1⟩).symm v2⟩) _ (ra2x3 ⟨⟨⟨p, cast (ra2h0 p).symm v0⟩, cast (ra2h1 ⟨p, cast (ra2h0 p).symm v0⟩).symm v1⟩, cast (ra2h2 ⟨⟨p, cast (ra2h0 p).symm v0⟩, cast (ra2h1 ⟨p, cast (ra2h0 p).symm v0⟩).symm v1⟩).symm v2⟩)]
  refine congrArg _ (funext fun v3 => ?_)
  rw [show oKo (ra2q3 ⟨⟨⟨p, cast (ra2h0 p).symm v0⟩, cast (ra2h1 ⟨p, cast (ra2h0 p).symm v0⟩).symm v1⟩, cast (ra2h2 ⟨⟨p, cast (ra2h0 p).symm v0⟩, cast (ra2h1 ⟨p, cast (ra2h0 p).symm v0⟩).symm v1⟩).symm v2⟩) (cast (ra2h3 ⟨⟨⟨p, cast (ra2h0 p).symm v0⟩, cast (ra2h1 ⟨p, cast (ra2h0 p).symm v0⟩).symm v1⟩, cast (ra2h2 ⟨⟨p, cast (ra2h0 p).symm v0⟩, cast (ra2h1 ⟨p, cast (ra2h0 p).symm v0⟩).symm v1⟩).symm v2⟩).symm v3) = ra2q4 ⟨⟨⟨⟨p, cast (ra2h0 p).symm v0⟩, cast (ra2h1 ⟨p, cast (ra2h0 p).symm v0⟩).symm v1⟩, cast (ra2h2 ⟨⟨p, cast (ra2h0 p).symm v0⟩, cast (ra2h1 ⟨p, cast (ra2h0 p).symm v0⟩).symm v1⟩).symm v2⟩, cast (ra2h3 ⟨⟨⟨p, cast (ra2h0 p).symm v0⟩, cast (ra2h1 ⟨p, cast (ra2h0 p).symm v0⟩).symm v1⟩, cast (ra2h2 ⟨⟨p, cast (ra2h0 p).symm v0⟩, cast (ra2h1 ⟨p, cast (ra2h0 p).symm v0⟩).symm v1⟩).symm v2⟩).symm v3⟩ by rw [ra2q4]]
  rw [run_br _ _ (ra2ba ⟨⟨⟨⟨p, cast (ra2h0 p).symm v0⟩, cast (ra2h1 ⟨p, cast (ra2h0 p).symm v0⟩).symm v1⟩, cast (ra2h2 ⟨⟨p, cast (ra2h0 p).symm v0⟩, cast (ra2h1 ⟨p, cast (ra2h0 p).symm v0⟩).symm v1⟩).symm v2⟩, cast (ra2h3 ⟨⟨⟨p, cast (ra2h0 p).symm v0⟩, cast (ra2h1 ⟨p, cast (ra2h0 p).symm v0⟩).symm v1⟩, cast (ra2h2 ⟨⟨p, cast (ra2h0 p).symm v0⟩, cast (ra2h1 ⟨p, cast (ra2h0 p).symm v0⟩).symm v1⟩).symm v2⟩).symm v3⟩), ra2t, ra2f]
  simp only [ra2c0, ra2c1, ra2c2, ra2c3, cast_cast, cast_eq, kb_ite]
end Go.K.Link

