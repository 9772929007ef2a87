/- What the law's own function gives, proved node by node; no condition. -/
import Derived.Test.YtgeageanmhpfjaaGreatCut0
set_option linter.all false
set_option maxRecDepth 100000
set_option maxHeartbeats 4000000
set_option linter.all false
namespace Go.K.Link
open Go.K.Pure
noncomputable def rb2 (p : rL17) : rO := oEls (oEls (oEls (rB p)))
noncomputable def rbN (p : rL17) : rO := oThn (oThn (rB p))
noncomputable def rb7 (p : rL17) : rO := oEls (rbN p)
noncomputable def rbL (p : rL17) : rO := oThn (rbN p)
attribute [irreducible] rb2 rbN rb7 rbL
theorem rbma (p : rL17) : oC (rB p) = some ((rC6 p.1.1.1.1.1.1.1.1.1.1).2 == (0 : Int)) := by kernel_rfl
theorem rbmb (p : rL17) : oC (oThn (rB p)) = some true := by kernel_rfl
theorem rbmc (p : rL17) : oC (rbN p) = some (decide ((rC5 p.1.1.1.1.1.1.1.1.1.1.1) < (7 : Int))) := by kernel_rfl
theorem rbmd (p : rL17) : oC (oEls (rB p)) = some false := by kernel_rfl
theorem rbmf (p : rL17) : oC (oEls (oEls (rB p))) = some false := by kernel_rfl
theorem rbm (p : rL17) : (rB p).run = bif ((rC6 p.1.1.1.1.1.1.1.1.1.1).2 == (0 : Int)) then (bif (decide ((rC5 p.1.1.1.1.1.1.1.1.1.1.1) < (7 : Int))) then (rbL p).run else (rb7 p).run) else (rb2 p).run := by
  rw [run_br _ _ (rbma p), run_br _ _ (rbmb p), run_br _ _ (rbmd p), run_br _ _ (rbmf p), cond_true, cond_false, cond_false]
  rw [show oThn (oThn (rB p)) = rbN p by rw [rbN], run_br _ _ (rbmc p), rbL, rb7, rb2]
theorem rbhL (p : rL17) : oTy (rbL p) = ((Bool × Unit) ⊕ (rA × rA × Int × rP × Int × Unit)) := by kernel_rfl
theorem rbxL (p : rL17) : (oB (rbL p), cast (congrArg Option (rbhL p)) (oX (rbL p))) = (true, loop laws_FnRayPairs_l0 ((rC6 p.1.1.1.1.1.1.1.1.1.1).1, (rC9 p.1.1.1.1.1.1.1), (rC10 p.1.1.1.1.1.1).1, (rC10 p.1.1.1.1.1.1).2, (rC12 p.1.1.1.1).1, (rC12 p.1.1.1.1).2, (0 : Int), ())) := by kernel_rfl
abbrev rblL : Type := (p : rL17) × oTy (rbL p)
noncomputable def rbcL (p : rblL) : ((Bool × Unit) ⊕ (rA × rA × Int × rP × Int × Unit)) := cast (rbhL p.1) p.2
noncomputable def rbS (p : rblL) : rO := oKo (rbL p.1) p.2
attribute [irreducible] rbS rbcL
theorem rbh1 (p : rblL) : oT1 (rbS p) = (Bool × Unit) := by kernel_rfl
theorem rbh2 (p : rblL) : oT2 (rbS p) = (rA × rA × Int × rP × Int × Unit) := by kernel_rfl
theorem rbxS (p : rblL) : cast (sum_ty (rbh1 p) (rbh2 p)) (oS (rbS p)) = some (rbcL p) := by kernel_rfl
theorem rby1 (p : rblL) (y : oT1 (rbS p)) : (oK1 (rbS p) y).run = some (laws_FnRayPairs_s.out (show Bool from (cast (rbh1 p) y).1)) := by kernel_rfl
abbrev rbl1 : Type := (p : rblL) × oT2 (rbS p)
noncomputable def rbu (p : rbl1) : (rA × rA × Int × rP × Int × Unit) := cast (rbh2 p.1) p.2
noncomputable def rb1 (p : rbl1) : rO := oK2 (rbS p.1) p.2
attribute [irreducible] rb1 rbu
end Go.K.Link

