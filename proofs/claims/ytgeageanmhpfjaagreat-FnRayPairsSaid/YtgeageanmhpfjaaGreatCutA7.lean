/- What the law's own function gives, proved node by node; no condition. -/
import Derived.Test.YtgeageanmhpfjaaGreatCutA
set_option linter.all false
set_option maxRecDepth 100000
set_option maxHeartbeats 4000000
set_option linter.all false
namespace Go.K.Link
open Go.K.Pure
noncomputable def ra7q0 (p : rL18) : rO := oEls (ra7 p)
attribute [irreducible] ra7q0
theorem ra7ma (p : rL18) : oC (ra7 p) = some ((rC10 p.1.1.1.1.1.1.1).2 != (0 : Int)) := by kernel_rfl
theorem ra7mt (p : rL18) : (oThn (ra7 p)).run = some (laws_FnRayPairs_s.out (show Bool from (((rC10 p.1.1.1.1.1.1.1).1.1 == (0 : Int)) && (((rC10 p.1.1.1.1.1.1.1).1.2.1 == (0 : Int)) && true)))) := by kernel_rfl
theorem ra7m (p : rL18) : (ra7 p).run = bif ((rC10 p.1.1.1.1.1.1.1).2 != (0 : Int)) then some (laws_FnRayPairs_s.out (show Bool from (((rC10 p.1.1.1.1.1.1.1).1.1 == (0 : Int)) && (((rC10 p.1.1.1.1.1.1.1).1.2.1 == (0 : Int)) && true)))) else (ra7q0 p).run := by
  rw [run_br _ _ (ra7ma p), ra7mt, ra7q0]
theorem ra7h0 (p : rL18) : oTy (ra7q0 p) = (rA × Int) := by kernel_rfl
theorem ra7x0 (p : rL18) : (oB (ra7q0 p), cast (congrArg Option (ra7h0 p)) (oX (ra7q0 p))) = (true, impl_PartnerOf (rC10 p.1.1.1.1.1.1.1).1) := by kernel_rfl
abbrev ra7l1 : Type := (p : rL18) × oTy (ra7q0 p)
noncomputable def ra7c0 (p : ra7l1) : (rA × Int) := cast (ra7h0 p.1) p.2
noncomputable def ra7q1 (p : ra7l1) : rO := oKo (ra7q0 p.1) p.2
attribute [irreducible] ra7q1 ra7c0
theorem ra7h1 (p : ra7l1) : oTy (ra7q1 p) = (rS × Int) := by kernel_rfl
theorem ra7x1 (p : ra7l1) : (oB (ra7q1 p), cast (congrArg Option (ra7h1 p)) (oX (ra7q1 p))) = (true, impl_KneadingOf (rC9 p.1.1.1.1.1.1.1.1.1)) := by kernel_rfl
abbrev ra7l2 : Type := (p : ra7l1) × oTy (ra7q1 p)
noncomputable def ra7c1 (p : ra7l2) : (rS × Int) := cast (ra7h1 p.1) p.2
noncomputable def ra7q2 (p : ra7l2) : rO := oKo (ra7q1 p.1) p.2
attribute [irreducible] ra7q2 ra7c1
theorem ra7h2 (p : ra7l2) : oTy (ra7q2 p) = (rS × Int) := by kernel_rfl
theorem ra7x2 (p : ra7l2) : (oB (ra7q2 p), cast (congrArg Option (ra7h2 p)) (oX (ra7q2 p))) = (true, impl_KneadingOf (rC10 p.1.1.1.1.1.1.1.1.1).1) := by kernel_rfl
abbrev ra7l3 : Type := (p : ra7l2) × oTy (ra7q2 p)
noncomputable def ra7c2 (p : ra7l3) : (rS × Int) := cast (ra7h2 p.1) p.2
noncomputable def ra7q3 (p : ra7l3) : rO := oKo (ra7q2 p.1) p.2
attribute [irreducible] ra7q3 ra7c2
theorem ra7h3 (p : ra7l3) : oTy (ra7q3 p) = Bool := by kernel_rfl
theorem ra7x3 (p : ra7l3) : (oB (ra7q3 p), cast (congrArg Option (ra7h3 p)) (oX (ra7q3 p))) = (true, laws_less9 (rC10 p.1.1.1.1.1.1.1.1.1.1).1 (rC9 p.1.1.1.1.1.1.1.1.1.1.1)) := by kernel_rfl
abbrev ra7l4 : Type := (p : ra7l3) × oTy (ra7q3 p)
noncomputable def ra7c3 (p : ra7l4) : Bool := cast (ra7h3 p.1) p.2
noncomputable def ra7q4 (p : ra7l4) : rO := oKo (ra7q3 p.1) p.2
attribute [irreducible] ra7q4 ra7c3
theorem ra7ba (p : ra7l4) : oC (ra7q4 p) = some (ra7c3 p) := by kernel_rfl
theorem ra7t (p : ra7l4) : (oThn (ra7q4 p)).run = (laws_FnRayPairs_F (rC9 p.1.1.1.1.1.1.1.1.1.1.1.1) (rC12 p.1.1.1.1.1.1.1.1.1).1 (rC12 p.1.1.1.1.1.1.1.1.1).2 (ra7c0 p.1.1.1) (ra7c1 p.1.1) (ra7c2 p.1) (rC10 p.1.1.1.1.1.1.1.1.1.1.1).1 (rC9 p.1.1.1.1.1.1.1.1.1.1.1.1)).bind fun y : Bool => some (laws_FnRayPairs_s.out y) := by
  simp only [laws_FnRayPairs_F, kb_ite, kb_some, kb_none, kb_bind, kb_alt]
  kernel_rfl
theorem ra7f (p : ra7l4) : (oEls (ra7q4 p)).run = (laws_FnRayPairs_F (rC9 p.1.1.1.1.1.1.1.1.1.1.1.1) (rC12 p.1.1.1.1.1.1.1.1.1).1 (rC12 p.1.1.1.1.1.1.1.1.1).2 (ra7c0 p.1.1.1) (ra7c1 p.1.1) (ra7c2 p.1) (rC9 p.1.1.1.1.1.1.1.1.1.1.1.1) (rC10 p.1.1.1.1.1.1.1.1.1.1.1).1).bind fun y : Bool => some (laws_FnRayPairs_s.out y) := by
  simp only [laws_FnRayPairs_F, kb_ite, kb_some, kb_none, kb_bind, kb_alt]
  kernel_rfl
theorem ra7e (p : rL18) : (ra7 p).run = (laws_FnRayPairs_R (rC9 p.1.1.1.1.1.1.1.1) (rC10 p.1.1.1.1.1.1.1).1 (rC10 p.1.1.1.1.1.1.1).2 (rC12 p.1.1.1.1.1).1 (rC12 p.1.1.1.1.1).2).bind fun y : Bool => some (laws_FnRayPairs_s.out y) := by
  rw [ra7m, laws_FnRayPairs_R, kb_ite]
  congr 1
  simp only [kb_bind]
  rw [run_opt _ (ra7h0 p) _ (ra7x0 p)]
  refine congrArg _ (funext fun v0 => ?_)
  rw [show oKo (ra7q0 p) (cast (ra7h0 p).symm v0) = ra7q1 ⟨p, cast (ra7h0 p).symm v0⟩ by rw [ra7q1]]
  rw [run_opt _ (ra7h1 ⟨p, cast (ra7h0 p).symm v0⟩) _ (ra7x1 ⟨p, cast (ra7h0 p).symm v0⟩)]
  refine congrArg _ (funext fun v1 => ?_)
  rw [show oKo (ra7q1 ⟨p, cast (ra7h0 p).symm v0⟩) (cast (ra7h1 ⟨p, cast (ra7h0 p).symm v0⟩).symm v1) = ra7q2 ⟨⟨p, cast (ra7h0 p).symm v0⟩, cast (ra7h1 ⟨p, cast (ra7h0 p).symm v0⟩).symm v1⟩ by rw [ra7q2]]
  rw [run_opt _ (ra7h2 ⟨⟨p, cast (ra7h0 p).symm v0⟩, cast (ra7h1 ⟨p, cast (ra7h0 p).symm v0⟩).symm v1⟩) _ (ra7x2 ⟨⟨p, cast (ra7h0 p).symm v0⟩, cast (ra7h1 ⟨p, cast (ra7h0 p).symm v0⟩).symm v1⟩)]
  refine congrArg _ (funext fun v2 => ?_)
  rw [show oKo (ra7q2 ⟨⟨p, cast (ra7h0 p).symm v0⟩, cast (ra7h1 ⟨p, cast (ra7h0 p).symm v0⟩).symm v1⟩) (cast (ra7h2 ⟨⟨p, cast (ra7h0 p).symm v0⟩, cast (ra7h1 ⟨p, cast (ra7h0 p).symm v0⟩).symm v1⟩).symm v2) = ra7q3 ⟨⟨⟨p, cast (ra7h0 p).symm v0⟩, cast (ra7h1 ⟨p, cast (ra7h0 p).symm v0⟩).symm v1⟩, cast (ra7h2 ⟨⟨p, cast (ra7h0 p).symm v0⟩, cast (ra7h1 ⟨p, cast (ra7h0 p).symm v0⟩).symm v1⟩).symm v2⟩ by rw [ra7q3]]
  rw [run_opt _ (ra7h3 ⟨⟨⟨p, cast (ra7h0 p).symm v0⟩, cast (ra7h1 ⟨p, cast (ra7h0 p).symm v0⟩).symm v1⟩, cast (ra7h2 ⟨⟨p, cast (ra7h0 p).symm v0⟩, cast (ra7h1 ⟨p, cast (ra7h0 p).symm v0⟩).symm v1⟩).symm v2⟩) _ (ra7x3 ⟨⟨⟨p, cast (ra7h0 p).symm v0⟩, cast (ra7h1 ⟨p, cast (ra7h0 p).symm v0⟩).symm v1⟩, cast (ra7h2 ⟨⟨p, cast (ra7h0 p).symm v0⟩, cast (ra7h1 ⟨p, cast (ra7h0 p).symm v0⟩).symm v1⟩).symm v2⟩)]
  refine congrArg _ (funext fun v3 => ?_)
  rw [show oKo (ra7q3 ⟨⟨⟨p, cast (ra7h0 p).symm v0⟩, cast (ra7h1 ⟨p, cast (ra7h0 p).symm v0⟩).symm v1⟩, cast (ra7h2 ⟨⟨p, cast (ra7h0 p).symm v0⟩, cast (ra7h1 ⟨p, cast (ra7h0 p).symm v0⟩).symm v1⟩).symm v2⟩) (cast (ra7h3 ⟨⟨⟨p, cast (ra7h0 p).symm v0⟩, cast (ra7h1 ⟨p, cast (ra7h0 p).symm v0⟩).symm v1⟩, cast (ra7h2 ⟨⟨p, cast (ra7h0 p).symm v0⟩, cast (ra7h1 ⟨p, cast (ra7h0 p).symm v0⟩).symm v1⟩).symm v2⟩).symm v3) = ra7q4 ⟨⟨⟨⟨p, cast (ra7h0 p).symm v0⟩, cast (ra7h1 ⟨p, cast (ra7h0 p).symm v0⟩).symm v1⟩, cast (ra7h2 ⟨⟨p, cast (ra7h0 p).symm v0⟩, cast (ra7h1 ⟨p, cast (ra7h0 p).symm v0⟩).symm v1⟩).symm v2⟩, cast (ra7h3 ⟨⟨⟨p, cast (ra7h0 p).symm v0⟩, cast (ra7h1 ⟨p, cast (ra7h0 p).symm v0⟩).symm v1⟩, cast (ra7h2 ⟨⟨p, cast (ra7h0 p).symm v0⟩, cast (ra7h1 ⟨p, cast (ra7h0 p).symm v0⟩).symm v1⟩).symm v2⟩).symm v3⟩ by rw [ra7q4]]
  rw [run_br _ _ (ra7ba ⟨⟨⟨⟨p, cast (ra7h0 p).symm v0⟩, cast (ra7h1 ⟨p, cast (ra7h0 p).symm v0⟩).symm v1⟩, cast (ra7h2 ⟨⟨p, cast (ra7h0 p).symm v0⟩, cast (ra7h1 ⟨p, cast (ra7h0 p).symm v0⟩).symm v1⟩).symm v2⟩, cast (ra7h3 ⟨⟨⟨p, cast (ra7h0 p).symm v0⟩, cast (ra7h1 ⟨p, cast (ra7h0 p).symm v0⟩).symm v1⟩, cast (ra7h2 ⟨⟨p, cast (ra7h0 p).symm v0⟩, cast (ra7h1 ⟨p, cast (ra7h0 p).symm v0⟩).symm v1⟩).symm v2⟩).symm v3⟩), ra7t, ra7f]
  simp only [ra7c0, ra7c1, ra7c2, ra7c3, cast_cast, cast_eq, kb_ite]
end Go.K.Link

