/- What the law's own function gives, proved node by node; no condition. -/
import Derived.Test.YtgeageanmhpfjaaGreatCut0
set_option linter.all false
set_option maxRecDepth 100000
set_option maxHeartbeats 4000000
set_option linter.all false
namespace Go.K.Link
open Go.K.Pure
noncomputable def ra2 (p : rL18) : rO := oEls (oEls (oEls (rA0 p)))
noncomputable def raN (p : rL18) : rO := oThn (oThn (rA0 p))
noncomputable def ra7 (p : rL18) : rO := oEls (raN p)
noncomputable def raL (p : rL18) : rO := oThn (raN p)
attribute [irreducible] ra2 raN ra7 raL
theorem rama (p : rL18) : oC (rA0 p) = some ((rC6 p.1.1.1.1.1.1.1.1.1.1.1).2 == (0 : Int)) := by kernel_rfl
theorem ramb (p : rL18) : oC (oThn (rA0 p)) = some true := by kernel_rfl
theorem ramc (p : rL18) : oC (raN p) = some (decide ((rC5 p.1.1.1.1.1.1.1.1.1.1.1.1) < (7 : Int))) := by kernel_rfl
theorem ramd (p : rL18) : oC (oEls (rA0 p)) = some false := by kernel_rfl
theorem ramf (p : rL18) : oC (oEls (oEls (rA0 p))) = some false := by kernel_rfl
theorem ram (p : rL18) : (rA0 p).run = bif ((rC6 p.1.1.1.1.1.1.1.1.1.1.1).2 == (0 : Int)) then (bif (decide ((rC5 p.1.1.1.1.1.1.1.1.1.1.1.1) < (7 : Int))) then (raL p).run else (ra7 p).run) else (ra2 p).run := by
  rw [run_br _ _ (rama p), run_br _ _ (ramb p), run_br _ _ (ramd p), run_br _ _ (ramf p), cond_true, cond_false, cond_false]
  rw [show oThn (oThn (rA0 p)) = raN p by rw [raN], run_br _ _ (ramc p), raL, ra7, ra2]
theorem rahL (p : rL18) : oTy (raL p) = ((Bool × Unit) ⊕ (rA × rA × Int × rP × Int × Unit)) := by kernel_rfl
theorem raxL (p : rL18) : (oB (raL p), cast (congrArg Option (rahL p)) (oX (raL p))) = (true, loop laws_FnRayPairs_l0 ((rC6 p.1.1.1.1.1.1.1.1.1.1.1).1, (rC9 p.1.1.1.1.1.1.1.1), (rC10 p.1.1.1.1.1.1.1).1, (rC10 p.1.1.1.1.1.1.1).2, (rC12 p.1.1.1.1.1).1, (rC12 p.1.1.1.1.1).2, (0 : Int), ())) := by kernel_rfl
abbrev ralL : Type := (p : rL18) × oTy (raL p)
noncomputable def racL (p : ralL) : ((Bool × Unit) ⊕ (rA × rA × Int × rP × Int × Unit)) := cast (rahL p.1) p.2
noncomputable def raS (p : ralL) : rO := oKo (raL p.1) p.2
attribute [irreducible] raS racL
theorem rah1 (p : ralL) : oT1 (raS p) = (Bool × Unit) := by kernel_rfl
theorem rah2 (p : ralL) : oT2 (raS p) = (rA × rA × Int × rP × Int × Unit) := by kernel_rfl
theorem raxS (p : ralL) : cast (sum_ty (rah1 p) (rah2 p)) (oS (raS p)) = some (racL p) := by kernel_rfl
theorem ray1 (p : ralL) (y : oT1 (raS p)) : (oK1 (raS p) y).run = some (laws_FnRayPairs_s.out (show Bool from (cast (rah1 p) y).1)) := by kernel_rfl
abbrev ral1 : Type := (p : ralL) × oT2 (raS p)
noncomputable def rau (p : ral1) : (rA × rA × Int × rP × Int × Unit) := cast (rah2 p.1) p.2
noncomputable def ra1 (p : ral1) : rO := oK2 (raS p.1) p.2
attribute [irreducible] ra1 rau
end Go.K.Link

