/- What the law's own function gives, proved node by node; no condition. -/
import Derived.Test.YtgeageanmhpfjaaGreatLink
set_option linter.all false
set_option maxRecDepth 100000
set_option maxHeartbeats 4000000
set_option linter.all false
namespace Go.K.Link
open Go.K.Pure
abbrev rA : Type := Int × (Int × Unit)
abbrev rP : Type := rA × (rA × Unit)
abbrev rS : Type := (List UInt8) × ((List UInt8) × Unit)
abbrev rO : Type 1 := Out (List Arg × List Arg)
def oThn {α : Type} : Out α → Out α | .br _ t _ => t | _ => .bad
def oEls {α : Type} : Out α → Out α | .br _ _ e => e | _ => .bad
def oTy {α : Type} : Out α → Type | .opt (β := β) _ _ => β | _ => Unit
def oX {α : Type} : (o : Out α) → Option (oTy o) | .opt x _ => x | .done _ => none | .br _ _ _ => none | .bad => none | .alt _ _ _ => none
def oB {α : Type} : Out α → Bool | .opt _ _ => true | _ => false
def oKo {α : Type} : (o : Out α) → oTy o → Out α | .opt _ k, r => k r | .done _, _ => .bad | .br _ _ _, _ => .bad | .bad, _ => .bad | .alt _ _ _, _ => .bad
theorem run_opt {α β : Type} (o : Out α) (h : oTy o = β) (x : Option β) (hx : (oB o, cast (congrArg Option h) (oX o)) = (true, x)) : o.run = x.bind fun v => (oKo o (cast h.symm v)).run := by
  cases h
  cases o with
  | opt x k => cases hx; rfl
  | _ => simp [oB] at hx
def oT1 {α : Type} : Out α → Type | .alt (β := β) _ _ _ => β | _ => Unit
def oT2 {α : Type} : Out α → Type | .alt (γ := γ) _ _ _ => γ | _ => Unit
def oS {α : Type} : (o : Out α) → Option (oT1 o ⊕ oT2 o) | .alt x _ _ => some x | .done _ => none | .br _ _ _ => none | .bad => none | .opt _ _ => none
def oK1 {α : Type} : (o : Out α) → oT1 o → Out α | .alt _ k _, r => k r | .done _, _ => .bad | .br _ _ _, _ => .bad | .bad, _ => .bad | .opt _ _, _ => .bad
def oK2 {α : Type} : (o : Out α) → oT2 o → Out α | .alt _ _ l, r => l r | .done _, _ => .bad | .br _ _ _, _ => .bad | .bad, _ => .bad | .opt _ _, _ => .bad
def oC {α : Type} : Out α → Option Bool | .br c _ _ => some c | _ => none
theorem run_br {α : Type} (o : Out α) (c : Bool) (h : oC o = some c) : o.run = bif c then (oThn o).run else (oEls o).run := by
  cases o with
  | br b t e => cases h; rfl
  | _ => cases h
theorem sum_ty {a b c d : Type} (h : a = c) (g : b = d) : Option (a ⊕ b) = Option (c ⊕ d) := by cases h; cases g; rfl
theorem run_alt {α β γ : Type} (o : Out α) (h : oT1 o = β) (g : oT2 o = γ) (s : β ⊕ γ) (hs : cast (sum_ty h g) (oS o) = some s) : o.run = alt s (fun y => (oK1 o (cast h.symm y)).run) (fun u => (oK2 o (cast g.symm u)).run) := by
  cases h; cases g
  cases o with
  | alt x k l => cases hs; rfl
  | _ => cases hs
abbrev rL0 : Type := List Int
noncomputable def rT0 (p : rL0) : rO := evFn (mkCtx Go.K.Link.seat laws_FnRayPairs_c laws_FnRayPairs_tab) (sums laws_FnRayPairs_ls) 12 Go.Proofs.Tryz.f12 (encL laws_FnRayPairs_s.a (show denL laws_FnRayPairs_s.a from (p, ())))
attribute [irreducible] oThn oEls oC oTy oX oB oKo oT1 oT2 oS oK1 oK2 rT0
theorem rH0 (p : rL0) : oTy (rT0 p) = Bool := by kernel_rfl
theorem rX0 (p : rL0) : (oB (rT0 p), cast (congrArg Option (rH0 p)) (oX (rT0 p))) = (true, laws_big p) := by kernel_rfl
abbrev rL1 : Type := (p : rL0) × oTy (rT0 p)
noncomputable def rC0 (p : rL1) : Bool := cast (rH0 p.1) p.2
noncomputable def rT1 (p : rL1) : rO := oEls (oKo (rT0 p.1) p.2)
attribute [irreducible] rT1 rC0
theorem rM0 (p : rL1) : (oKo (rT0 p.1) p.2).run = bif (rC0 p) then some (laws_FnRayPairs_s.out (show Bool from true)) else (rT1 p).run := by kernel_rfl
theorem rH1 (p : rL1) : oTy (rT1 p) = Int := by kernel_rfl
theorem rX1 (p : rL1) : (oB (rT1 p), cast (congrArg Option (rH1 p)) (oX (rT1 p))) = (true, spec_DrawAnglesOfPeriod p.1) := by kernel_rfl
abbrev rL2 : Type := (p : rL1) × oTy (rT1 p)
noncomputable def rC1 (p : rL2) : Int := cast (rH1 p.1) p.2
noncomputable def rT2 (p : rL2) : rO := oKo (rT1 p.1) p.2
attribute [irreducible] rT2 rC1
theorem rH2 (p : rL2) : oTy (rT2 p) = ((List rA) × Int) := by kernel_rfl
theorem rX2 (p : rL2) : (oB (rT2 p), cast (congrArg Option (rH2 p)) (oX (rT2 p))) = (true, impl_AnglesOfPeriod (rC1 p)) := by kernel_rfl
abbrev rL3 : Type := (p : rL2) × oTy (rT2 p)
noncomputable def rC2 (p : rL3) : ((List rA) × Int) := cast (rH2 p.1) p.2
noncomputable def rT3 (p : rL3) : rO := oKo (rT2 p.1) p.2
attribute [irreducible] rT3 rC2
theorem rH3 (p : rL3) : oTy (rT3 p) = ((List rA) × Int) := by kernel_rfl
theorem rX3 (p : rL3) : (oB (rT3 p), cast (congrArg Option (rH3 p)) (oX (rT3 p))) = (true, spec_AnglesOfPeriod (rC1 p.1)) := by kernel_rfl
abbrev rL4 : Type := (p : rL3) × oTy (rT3 p)
noncomputable def rC3 (p : rL4) : ((List rA) × Int) := cast (rH3 p.1) p.2
noncomputable def rT4 (p : rL4) : rO := oEls (oEls (oEls (oKo (rT3 p.1) p.2)))
attribute [irreducible] rT4 rC3
theorem rM3 (p : rL4) : (oKo (rT3 p.1) p.2).run = bif ((rC2 p.1).2 != (rC3 p).2) then some (laws_FnRayPairs_s.out (show Bool from false)) else (rT4 p).run := by kernel_rfl
theorem rH4 (p : rL4) : oTy (rT4 p) = Bool := by kernel_rfl
theorem rX4 (p : rL4) : (oB (rT4 p), cast (congrArg Option (rH4 p)) (oX (rT4 p))) = (true, laws_angles9 (rC2 p.1).1 (rC3 p).1) := by kernel_rfl
abbrev rL5 : Type := (p : rL4) × oTy (rT4 p)
noncomputable def rC4 (p : rL5) : Bool := cast (rH4 p.1) p.2
noncomputable def rT5 (p : rL5) : rO := oEls (oEls (oKo (rT4 p.1) p.2))
attribute [irreducible] rT5 rC4
theorem rM4 (p : rL5) : (oKo (rT4 p.1) p.2).run = bif (!(rC4 p)) then some (laws_FnRayPairs_s.out (show Bool from false)) else (rT5 p).run := by kernel_rfl
theorem rH5 (p : rL5) : oTy (rT5 p) = Int := by kernel_rfl
theorem rX5 (p : rL5) : (oB (rT5 p), cast (congrArg Option (rH5 p)) (oX (rT5 p))) = (true, spec_DrawPairsOfPeriod p.1.1.1.1.1) := by kernel_rfl
abbrev rL6 : Type := (p : rL5) × oTy (rT5 p)
noncomputable def rC5 (p : rL6) : Int := cast (rH5 p.1) p.2
noncomputable def rT6 (p : rL6) : rO := oKo (rT5 p.1) p.2
attribute [irreducible] rT6 rC5
theorem rH6 (p : rL6) : oTy (rT6 p) = ((List rP) × Int) := by kernel_rfl
theorem rX6 (p : rL6) : (oB (rT6 p), cast (congrArg Option (rH6 p)) (oX (rT6 p))) = (true, impl_PairsOfPeriod (rC5 p)) := by kernel_rfl
abbrev rL7 : Type := (p : rL6) × oTy (rT6 p)
noncomputable def rC6 (p : rL7) : ((List rP) × Int) := cast (rH6 p.1) p.2
noncomputable def rT7 (p : rL7) : rO := oKo (rT6 p.1) p.2
attribute [irreducible] rT7 rC6
theorem rH7 (p : rL7) : oTy (rT7 p) = ((List rP) × Int) := by kernel_rfl
theorem rX7 (p : rL7) : (oB (rT7 p), cast (congrArg Option (rH7 p)) (oX (rT7 p))) = (true, spec_PairsOfPeriod_v2 (rC5 p.1)) := by kernel_rfl
abbrev rL8 : Type := (p : rL7) × oTy (rT7 p)
noncomputable def rC7 (p : rL8) : ((List rP) × Int) := cast (rH7 p.1) p.2
noncomputable def rT8 (p : rL8) : rO := oEls (oEls (oEls (oKo (rT7 p.1) p.2)))
attribute [irreducible] rT8 rC7
theorem rM7 (p : rL8) : (oKo (rT7 p.1) p.2).run = bif ((rC6 p.1).2 != (rC7 p).2) then some (laws_FnRayPairs_s.out (show Bool from false)) else (rT8 p).run := by kernel_rfl
theorem rH8 (p : rL8) : oTy (rT8 p) = Bool := by kernel_rfl
theorem rX8 (p : rL8) : (oB (rT8 p), cast (congrArg Option (rH8 p)) (oX (rT8 p))) = (true, laws_pairs9 (rC6 p.1).1 (rC7 p).1) := by kernel_rfl
abbrev rL9 : Type := (p : rL8) × oTy (rT8 p)
noncomputable def rC8 (p : rL9) : Bool := cast (rH8 p.1) p.2
noncomputable def rT9 (p : rL9) : rO := oEls (oEls (oKo (rT8 p.1) p.2))
attribute [irreducible] rT9 rC8
theorem rM8 (p : rL9) : (oKo (rT8 p.1) p.2).run = bif (!(rC8 p)) then some (laws_FnRayPairs_s.out (show Bool from false)) else (rT9 p).run := by kernel_rfl
theorem rH9 (p : rL9) : oTy (rT9 p) = rA := by kernel_rfl
theorem rX9 (p : rL9) : (oB (rT9 p), cast (congrArg Option (rH9 p)) (oX (rT9 p))) = (true, spec_DrawPartnerOf p.1.1.1.1.1.1.1.1.1) := by kernel_rfl
abbrev rL10 : Type := (p : rL9) × oTy (rT9 p)
noncomputable def rC9 (p : rL10) : rA := cast (rH9 p.1) p.2
noncomputable def rT10 (p : rL10) : rO := oKo (rT9 p.1) p.2
attribute [irreducible] rT10 rC9
theorem rH10 (p : rL10) : oTy (rT10 p) = (rA × Int) := by kernel_rfl
theorem rX10 (p : rL10) : (oB (rT10 p), cast (congrArg Option (rH10 p)) (oX (rT10 p))) = (true, impl_PartnerOf (rC9 p)) := by kernel_rfl
abbrev rL11 : Type := (p : rL10) × oTy (rT10 p)
noncomputable def rC10 (p : rL11) : (rA × Int) := cast (rH10 p.1) p.2
noncomputable def rT11 (p : rL11) : rO := oKo (rT10 p.1) p.2
attribute [irreducible] rT11 rC10
theorem rH11 (p : rL11) : oTy (rT11 p) = (rA × Int) := by kernel_rfl
theorem rX11 (p : rL11) : (oB (rT11 p), cast (congrArg Option (rH11 p)) (oX (rT11 p))) = (true, spec_PartnerOf (rC9 p.1)) := by kernel_rfl
abbrev rL12 : Type := (p : rL11) × oTy (rT11 p)
noncomputable def rC11 (p : rL12) : (rA × Int) := cast (rH11 p.1) p.2
noncomputable def rT12 (p : rL12) : rO := oEls (oEls (oEls (oEls (oKo (rT11 p.1) p.2))))
attribute [irreducible] rT12 rC11
theorem rM11 (p : rL12) : (oKo (rT11 p.1) p.2).run = bif ((rC10 p.1).2 != (rC11 p).2) then some (laws_FnRayPairs_s.out (show Bool from false)) else bif (!(((rC10 p.1).1.1 == (rC11 p).1.1) && (((rC10 p.1).1.2.1 == (rC11 p).1.2.1) && true))) then some (laws_FnRayPairs_s.out (show Bool from false)) else (rT12 p).run := by kernel_rfl
theorem rH12 (p : rL12) : oTy (rT12 p) = (rP × Int) := by kernel_rfl
theorem rX12 (p : rL12) : (oB (rT12 p), cast (congrArg Option (rH12 p)) (oX (rT12 p))) = (true, impl_PairOf (rC9 p.1.1)) := by kernel_rfl
abbrev rL13 : Type := (p : rL12) × oTy (rT12 p)
noncomputable def rC12 (p : rL13) : (rP × Int) := cast (rH12 p.1) p.2
noncomputable def rT13 (p : rL13) : rO := oKo (rT12 p.1) p.2
attribute [irreducible] rT13 rC12
theorem rH13 (p : rL13) : oTy (rT13 p) = (rP × Int) := by kernel_rfl
theorem rX13 (p : rL13) : (oB (rT13 p), cast (congrArg Option (rH13 p)) (oX (rT13 p))) = (true, spec_PairOf (rC9 p.1.1.1)) := by kernel_rfl
abbrev rL14 : Type := (p : rL13) × oTy (rT13 p)
noncomputable def rC13 (p : rL14) : (rP × Int) := cast (rH13 p.1) p.2
noncomputable def rT14 (p : rL14) : rO := oEls (oEls (oEls (oEls (oKo (rT13 p.1) p.2))))
attribute [irreducible] rT14 rC13
theorem rM13 (p : rL14) : (oKo (rT13 p.1) p.2).run = bif ((rC12 p.1).2 != (rC13 p).2) then some (laws_FnRayPairs_s.out (show Bool from false)) else bif (!((((rC12 p.1).1.1.1 == (rC13 p).1.1.1) && (((rC12 p.1).1.1.2.1 == (rC13 p).1.1.2.1) && true)) && ((((rC12 p.1).1.2.1.1 == (rC13 p).1.2.1.1) && (((rC12 p.1).1.2.1.2.1 == (rC13 p).1.2.1.2.1) && true)) && true))) then some (laws_FnRayPairs_s.out (show Bool from false)) else (rT14 p).run := by kernel_rfl
theorem rH14 (p : rL14) : oTy (rT14 p) = (rP × rP) := by kernel_rfl
theorem rX14 (p : rL14) : (oB (rT14 p), cast (congrArg Option (rH14 p)) (oX (rT14 p))) = (true, spec_DrawArePairsCrossing p.1.1.1.1.1.1.1.1.1.1.1.1.1.1) := by kernel_rfl
abbrev rL15 : Type := (p : rL14) × oTy (rT14 p)
noncomputable def rC14 (p : rL15) : (rP × rP) := cast (rH14 p.1) p.2
noncomputable def rT15 (p : rL15) : rO := oKo (rT14 p.1) p.2
attribute [irreducible] rT15 rC14
theorem rH15 (p : rL15) : oTy (rT15 p) = (Bool × Int) := by kernel_rfl
theorem rX15 (p : rL15) : (oB (rT15 p), cast (congrArg Option (rH15 p)) (oX (rT15 p))) = (true, impl_ArePairsCrossing (rC14 p).1 (rC14 p).2) := by kernel_rfl
abbrev rL16 : Type := (p : rL15) × oTy (rT15 p)
noncomputable def rC15 (p : rL16) : (Bool × Int) := cast (rH15 p.1) p.2
noncomputable def rT16 (p : rL16) : rO := oKo (rT15 p.1) p.2
attribute [irreducible] rT16 rC15
theorem rH16 (p : rL16) : oTy (rT16 p) = (Bool × Int) := by kernel_rfl
theorem rX16 (p : rL16) : (oB (rT16 p), cast (congrArg Option (rH16 p)) (oX (rT16 p))) = (true, spec_ArePairsCrossing (rC14 p.1).1 (rC14 p.1).2) := by kernel_rfl
abbrev rL17 : Type := (p : rL16) × oTy (rT16 p)
noncomputable def rC16 (p : rL17) : (Bool × Int) := cast (rH16 p.1) p.2
noncomputable def rT17 (p : rL17) : rO := oEls (oEls (oEls (oEls (oKo (rT16 p.1) p.2))))
attribute [irreducible] rT17 rC16
theorem rM16 (p : rL17) : (oKo (rT16 p.1) p.2).run = bif ((rC15 p.1).2 != (rC16 p).2) then some (laws_FnRayPairs_s.out (show Bool from false)) else bif (!((rC15 p.1).1 == (rC16 p).1)) then some (laws_FnRayPairs_s.out (show Bool from false)) else (rT17 p).run := by kernel_rfl
noncomputable def rB (p : rL17) : rO := oEls (rT17 p)
noncomputable def rTA (p : rL17) : rO := oThn (rT17 p)
attribute [irreducible] rB rTA
theorem rM17 (p : rL17) : (rT17 p).run = bif ((rC15 p.1).2 == (0 : Int)) then (rTA p).run else (rB p).run := by kernel_rfl
theorem rH17 (p : rL17) : oTy (rTA p) = (Bool × Int) := by kernel_rfl
theorem rX17 (p : rL17) : (oB (rTA p), cast (congrArg Option (rH17 p)) (oX (rTA p))) = (true, impl_ArePairsCrossing (rC14 p.1.1).2 (rC14 p.1.1).1) := by kernel_rfl
abbrev rL18 : Type := (p : rL17) × oTy (rTA p)
noncomputable def rC17 (p : rL18) : (Bool × Int) := cast (rH17 p.1) p.2
noncomputable def rA0 (p : rL18) : rO := oEls (oEls (oKo (rTA p.1) p.2))
attribute [irreducible] rA0 rC17
theorem rMA (p : rL18) : (oKo (rTA p.1) p.2).run = bif (rC17 p).2 != (0 : Int) then some (laws_FnRayPairs_s.out (show Bool from false)) else bif (!((rC17 p).1 == (rC15 p.1.1).1)) then some (laws_FnRayPairs_s.out (show Bool from false)) else (rA0 p).run := by kernel_rfl
end Go.K.Link

