/- What the law's own function gives, proved node by node; no condition. -/
import Derived.Test.YtgeageanmhpfjaaGreatCutB
set_option linter.all false
set_option maxRecDepth 100000
set_option maxHeartbeats 4000000
set_option linter.all false
namespace Go.K.Link
open Go.K.Pure
noncomputable def rb7q0 (p : rL17) : rO := oEls (rb7 p)
attribute [irreducible] rb7q0
theorem rb7ma (p : rL17) : oC (rb7 p) = some ((rC10 p.1.1.1.1.1.1).2 != (0 : Int)) := by kernel_rfl
theorem rb7mt (p : rL17) : (oThn (rb7 p)).run = some (laws_FnRayPairs_s.out (show Bool from (((rC10 p.1.1.1.1.1.1).1.1 == (0 : Int)) && (((rC10 p.1.1.1.1.1.1).1.2.1 == (0 : Int)) && true)))) := by kernel_rfl
theorem rb7m (p : rL17) : (rb7 p).run = bif ((rC10 p.1.1.1.1.1.1).2 != (0 : Int)) then some (laws_FnRayPairs_s.out (show Bool from (((rC10 p.1.1.1.1.1.1).1.1 == (0 : Int)) && (((rC10 p.1.1.1.1.1.1).1.2.1 == (0 : Int)) && true)))) else (rb7q0 p).run := by
  rw [run_br _ _ (rb7ma p), rb7mt, rb7q0]
theorem rb7h0 (p : rL17) : oTy (rb7q0 p) = (rA × Int) := by kernel_rfl
theorem rb7x0 (p : rL17) : (oB (rb7q0 p), cast (congrArg Option (rb7h0 p)) (oX (rb7q0 p))) = (true, impl_PartnerOf (rC10 p.1.1.1.1.1.1).1) := by kernel_rfl
abbrev rb7l1 : Type := (p : rL17) × oTy (rb7q0 p)
noncomputable def rb7c0 (p : rb7l1) : (rA × Int) := cast (rb7h0 p.1) p.2
noncomputable def rb7q1 (p : rb7l1) : rO := oKo (rb7q0 p.1) p.2
attribute [irreducible] rb7q1 rb7c0
theorem rb7h1 (p : rb7l1) : oTy (rb7q1 p) = (rS × Int) := by kernel_rfl
theorem rb7x1 (p : rb7l1) : (oB (rb7q1 p), cast (congrArg Option (rb7h1 p)) (oX (rb7q1 p))) = (true, impl_KneadingOf (rC9 p.1.1.1.1.1.1.1.1)) := by kernel_rfl
abbrev rb7l2 : Type := (p : rb7l1) × oTy (rb7q1 p)
noncomputable def rb7c1 (p : rb7l2) : (rS × Int) := cast (rb7h1 p.1) p.2
noncomputable def rb7q2 (p : rb7l2) : rO := oKo (rb7q1 p.1) p.2
attribute [irreducible] rb7q2 rb7c1
theorem rb7h2 (p : rb7l2) : oTy (rb7q2 p) = (rS × Int) := by kernel_rfl
theorem rb7x2 (p : rb7l2) : (oB (rb7q2 p), cast (congrArg Option (rb7h2 p)) (oX (rb7q2 p))) = (true, impl_KneadingOf (rC10 p.1.1.1.1.1.1.1.1).1) := by kernel_rfl
abbrev rb7l3 : Type := (p : rb7l2) × oTy (rb7q2 p)
noncomputable def rb7c2 (p : rb7l3) : (rS × Int) := cast (rb7h2 p.1) p.2
noncomputable def rb7q3 (p : rb7l3) : rO := oKo (rb7q2 p.1) p.2
attribute [irreducible] rb7q3 rb7c2
theorem rb7h3 (p : rb7l3) : oTy (rb7q3 p) = Bool := by kernel_rfl
theorem rb7x3 (p : rb7l3) : (oB (rb7q3 p), cast (congrArg Option (rb7h3 p)) (oX (rb7q3 p))) = (true, laws_less9 (rC10 p.1.1.1.1.1.1.1.1.1).1 (rC9 p.1.1.1.1.1.1.1.1.1.1)) := by kernel_rfl
abbrev rb7l4 : Type := (p : rb7l3) × oTy (rb7q3 p)
noncomputable def rb7c3 (p : rb7l4) : Bool := cast (rb7h3 p.1) p.2
noncomputable def rb7q4 (p : rb7l4) : rO := oKo (rb7q3 p.1) p.2
attribute [irreducible] rb7q4 rb7c3
theorem rb7ba (p : rb7l4) : oC (rb7q4 p) = some (rb7c3 p) := by kernel_rfl
theorem rb7t (p : rb7l4) : (oThn (rb7q4 p)).run = (laws_FnRayPairs_F (rC9 p.1.1.1.1.1.1.1.1.1.1.1) (rC12 p.1.1.1.1.1.1.1.1).1 (rC12 p.1.1.1.1.1.1.1.1).2 (rb7c0 p.1.1.1) (rb7c1 p.1.1) (rb7c2 p.1) (rC10 p.1.1.1.1.1.1.1.1.1.1).1 (rC9 p.1.1.1.1.1.1.1.1.1.1.1)).bind fun y : Bool => some (laws_FnRayPairs_s.out y) := by
  simp only [laws_FnRayPairs_F, kb_ite, kb_some, kb_none, kb_bind, kb_alt]
  kernel_rfl
theorem rb7f (p : rb7l4) : (oEls (rb7q4 p)).run = (laws_FnRayPairs_F (rC9 p.1.1.1.1.1.1.1.1.1.1.1) (rC12 p.1.1.1.1.1.1.1.1).1 (rC12 p.1.1.1.1.1.1.1.1).2 (rb7c0 p.1.1.1) (rb7c1 p.1.1) (rb7c2 p.1) (rC9 p.1.1.1.1.1.1.1.1.1.1.1) (rC10 p.1.1.1.1.1.1.1.1.1.1).1).bind fun y : Bool => some (laws_FnRayPairs_s.out y) := by
  simp only [laws_FnRayPairs_F, kb_ite, kb_some, kb_none, kb_bind, kb_alt]
  kernel_rfl
theorem rb7e (p : rL17) : (rb7 p).run = (laws_FnRayPairs_R (rC9 p.1.1.1.1.1.1.1) (rC10 p.1.1.1.1.1.1).1 (rC10 p.1.1.1.1.1.1).2 (rC12 p.1.1.1.1).1 (rC12 p.1.1.1.1).2).bind fun y : Bool => some (laws_FnRayPairs_s.out y) := by
  rw [rb7m, laws_FnRayPairs_R, kb_ite]
  congr 1
  simp only [kb_bind]
  rw [run_opt _ (rb7h0 p) _ (rb7x0 p)]
  refine congrArg _ (funext fun v0 => ?_)
  rw [show oKo (rb7q0 p) (cast (rb7h0 p).symm v0) = rb7q1 ⟨p, cast (rb7h0 p).symm v0⟩ by rw [rb7q1]]
  rw [run_opt _ (rb7h1 ⟨p, cast (rb7h0 p).symm v0⟩) _ (rb7x1 ⟨p, cast (rb7h0 p).symm v0⟩)]
  refine congrArg _ (funext fun v1 => ?_)
  rw [show oKo (rb7q1 ⟨p, cast (rb7h0 p).symm v0⟩) (cast (rb7h1 ⟨p, cast (rb7h0 p).symm v0⟩).symm v1) = rb7q2 ⟨⟨p, cast (rb7h0 p).symm v0⟩, cast (rb7h1 ⟨p, cast (rb7h0 p).symm v0⟩).symm v1⟩ by rw [rb7q2]]
  rw [run_opt _ (rb7h2 ⟨⟨p, cast (rb7h0 p).symm v0⟩, cast (rb7h1 ⟨p, cast (rb7h0 p).symm v0⟩).symm v1⟩) _ (rb7x2 ⟨⟨p, cast (rb7h0 p).symm v0⟩, cast (rb7h1 ⟨p, cast (rb7h0 p).symm v0⟩).symm v1⟩)]
  refine congrArg _ (funext fun v2 => ?_)
  rw [show oKo (rb7q2 ⟨⟨p, cast (rb7h0 p).symm v0⟩, cast (rb7h1 ⟨p, cast (rb7h0 p).symm v0⟩).symm v1⟩) (cast (rb7h2 ⟨⟨p, cast (rb7h0 p).symm v0⟩, cast (rb7h1 ⟨p, cast (rb7h0 p).symm v0⟩).symm v1⟩).symm v2) = rb7q3 ⟨⟨⟨p, cast (rb7h0 p).symm v0⟩, cast (rb7h1 ⟨p, cast (rb7h0 p).symm v0⟩).symm v1⟩, cast (rb7h2 ⟨⟨p, cast (rb7h0 p).symm v0⟩, cast (rb7h1 ⟨p, cast (rb7h0 p).symm v0⟩).symm v1⟩).symm v2⟩ by rw [rb7q3]]
  rw [run_opt _ (rb7h3 ⟨⟨⟨p, cast (rb7h0 p).symm v0⟩, cast (rb7h1 ⟨p, cast (rb7h0 p).symm v0⟩).symm v1⟩, cast (rb7h2 ⟨⟨p, cast (rb7h0 p).symm v0⟩, cast (rb7h1 ⟨p, cast (rb7h0 p).symm v0⟩).symm v1⟩).symm v2⟩) _ (rb7x3 ⟨⟨⟨p, cast (rb7h0 p).symm v0⟩, cast (rb7h1 ⟨p, cast (rb7h0 p).symm v0⟩).symm v1⟩, cast (rb7h2 ⟨⟨p, cast (rb7h0 p).symm v0⟩, cast (rb7h1 ⟨p, cast (rb7h0 p).symm v0⟩).symm v1⟩).symm v2⟩)]
  refine congrArg _ (funext fun v3 => ?_)
  rw [show oKo (rb7q3 ⟨⟨⟨p, cast (rb7h0 p).symm v0⟩, cast (rb7h1 ⟨p, cast (rb7h0 p).symm v0⟩).symm v1⟩, cast (rb7h2 ⟨⟨p, cast (rb7h0 p).symm v0⟩, cast (rb7h1 ⟨p, cast (rb7h0 p).symm v0⟩).symm v1⟩).symm v2⟩) (cast (rb7h3 ⟨⟨⟨p, cast (rb7h0 p).symm v0⟩, cast (rb7h1 ⟨p, cast (rb7h0 p).symm v0⟩).symm v1⟩, cast (rb7h2 ⟨⟨p, cast (rb7h0 p).symm v0⟩, cast (rb7h1 ⟨p, cast (rb7h0 p).symm v0⟩).symm v1⟩).symm v2⟩).symm v3) = rb7q4 ⟨⟨⟨⟨p, cast (rb7h0 p).symm v0⟩, cast (rb7h1 ⟨p, cast (rb7h0 p).symm v0⟩).symm v1⟩, cast (rb7h2 ⟨⟨p, cast (rb7h0 p).symm v0⟩, cast (rb7h1 ⟨p, cast (rb7h0 p).symm v0⟩).symm v1⟩).symm v2⟩, cast (rb7h3 ⟨⟨⟨p, cast (rb7h0 p).symm v0⟩, cast (rb7h1 ⟨p, cast (rb7h0 p).symm v0⟩).symm v1⟩, cast (rb7h2 ⟨⟨p, cast (rb7h0 p).symm v0⟩, cast (rb7h1 ⟨p, cast (rb7h0 p).symm v0⟩).symm v1⟩).symm v2⟩).symm v3⟩ by rw [rb7q4]]
  rw [run_br _ _ (rb7ba ⟨⟨⟨⟨p, cast (rb7h0 p).symm v0⟩, cast (rb7h1 ⟨p, cast (rb7h0 p).symm v0⟩).symm v1⟩, cast (rb7h2 ⟨⟨p, cast (rb7h0 p).symm v0⟩, cast (rb7h1 ⟨p, cast (rb7h0 p).symm v0⟩).symm v1⟩).symm v2⟩, cast (rb7h3 ⟨⟨⟨p, cast (rb7h0 p).symm v0⟩, cast (rb7h1 ⟨p, cast (rb7h0 p).symm v0⟩).symm v1⟩, cast (rb7h2 ⟨⟨p, cast (rb7h0 p).symm v0⟩, cast (rb7h1 ⟨p, cast (rb7h0 p).symm v0⟩).symm v1⟩).symm v2⟩).symm v3⟩), rb7t, rb7f]
  simp only [rb7c0, rb7c1, rb7c2, rb7c3, cast_cast, cast_eq, kb_ite]
end Go.K.Link

