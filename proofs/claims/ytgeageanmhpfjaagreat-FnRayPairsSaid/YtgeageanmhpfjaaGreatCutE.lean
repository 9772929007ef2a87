/- What the law's own function gives, proved node by node; no condition. -/
import Derived.Test.YtgeageanmhpfjaaGreatCutB1
import Derived.Test.YtgeageanmhpfjaaGreatCutB2
import Derived.Test.YtgeageanmhpfjaaGreatCutB7
import Derived.Test.YtgeageanmhpfjaaGreatCutA1
import Derived.Test.YtgeageanmhpfjaaGreatCutA2
import Derived.Test.YtgeageanmhpfjaaGreatCutA7
set_option linter.all false
set_option maxRecDepth 100000
set_option maxHeartbeats 4000000
set_option linter.all false
namespace Go.K.Link
open Go.K.Pure
theorem rbe (p : rL17) : (rB p).run = (laws_FnRayPairs_M (rC5 p.1.1.1.1.1.1.1.1.1.1.1) (rC6 p.1.1.1.1.1.1.1.1.1.1) (rC9 p.1.1.1.1.1.1.1) (rC10 p.1.1.1.1.1.1) (rC12 p.1.1.1.1)).bind fun y : Bool => some (laws_FnRayPairs_s.out y) := by
  rw [rbm, rb2e, rb7e, laws_FnRayPairs_M, kb_ite, kb_ite]
  congr 2
  rw [kb_bind, run_opt _ (rbhL p) _ (rbxL p)]
  refine congrArg _ (funext fun s => ?_)
  rw [show oKo (rbL p) (cast (rbhL p).symm s) = rbS ⟨p, cast (rbhL p).symm s⟩ by rw [rbS]]
  rw [kb_alt, run_alt _ (rbh1 ⟨p, cast (rbhL p).symm s⟩) (rbh2 ⟨p, cast (rbhL p).symm s⟩) _ (rbxS ⟨p, cast (rbhL p).symm s⟩)]
  have hc : rbcL ⟨p, cast (rbhL p).symm s⟩ = s := by simp only [rbcL, cast_cast, cast_eq]
  rw [hc]
  congr 1
  · funext y
    rw [rby1, cast_cast, cast_eq, kb_some]
  · funext u
    rw [show oK2 (rbS ⟨p, cast (rbhL p).symm s⟩) (cast (rbh2 ⟨p, cast (rbhL p).symm s⟩).symm u) = rb1 ⟨⟨p, cast (rbhL p).symm s⟩, cast (rbh2 ⟨p, cast (rbhL p).symm s⟩).symm u⟩ by rw [rb1], rb1e]
    simp only [rbu, cast_cast, cast_eq]
theorem rae (p : rL18) : (rA0 p).run = (laws_FnRayPairs_M (rC5 p.1.1.1.1.1.1.1.1.1.1.1.1) (rC6 p.1.1.1.1.1.1.1.1.1.1.1) (rC9 p.1.1.1.1.1.1.1.1) (rC10 p.1.1.1.1.1.1.1) (rC12 p.1.1.1.1.1)).bind fun y : Bool => some (laws_FnRayPairs_s.out y) := by
  rw [ram, ra2e, ra7e, laws_FnRayPairs_M, kb_ite, kb_ite]
  congr 2
  rw [kb_bind, run_opt _ (rahL p) _ (raxL p)]
  refine congrArg _ (funext fun s => ?_)
  rw [show oKo (raL p) (cast (rahL p).symm s) = raS ⟨p, cast (rahL p).symm s⟩ by rw [raS]]
  rw [kb_alt, run_alt _ (rah1 ⟨p, cast (rahL p).symm s⟩) (rah2 ⟨p, cast (rahL p).symm s⟩) _ (raxS ⟨p, cast (rahL p).symm s⟩)]
  have hc : racL ⟨p, cast (rahL p).symm s⟩ = s := by simp only [racL, cast_cast, cast_eq]
  rw [hc]
  congr 1
  · funext y
    rw [ray1, cast_cast, cast_eq, kb_some]
  · funext u
    rw [show oK2 (raS ⟨p, cast (rahL p).symm s⟩) (cast (rah2 ⟨p, cast (rahL p).symm s⟩).symm u) = ra1 ⟨⟨p, cast (rahL p).symm s⟩, cast (rah2 ⟨p, cast (rahL p).symm s⟩).symm u⟩ by rw [ra1], ra1e]
    simp only [rau, cast_cast, cast_eq]
noncomputable def rZ17 (r5 : Int) (r6 : ((List rP) × Int)) (r9 : rA) (r10 : (rA × Int)) (r12 : (rP × Int)) (r14 : (rP × rP)) (r15 : (Bool × Int)) : Option Bool := bif (r15.2 == (0 : Int)) then (impl_ArePairsCrossing r14.2 r14.1).bind fun r17 => bif (r17.2 != (0 : Int)) then some false else bif (!(r17.1 == r15.1)) then some false else laws_FnRayPairs_M r5 r6 r9 r10 r12 else laws_FnRayPairs_M r5 r6 r9 r10 r12
noncomputable def rZ16 (r5 : Int) (r6 : ((List rP) × Int)) (r9 : rA) (r10 : (rA × Int)) (r12 : (rP × Int)) (r14 : (rP × rP)) (r15 : (Bool × Int)) : Option Bool := (spec_ArePairsCrossing r14.1 r14.2).bind fun r16 => bif (r15.2 != r16.2) then some false else bif (!(r15.1 == r16.1)) then some false else rZ17 r5 r6 r9 r10 r12 r14 r15
noncomputable def rZ15 (r5 : Int) (r6 : ((List rP) × Int)) (r9 : rA) (r10 : (rA × Int)) (r12 : (rP × Int)) (r14 : (rP × rP)) : Option Bool := (impl_ArePairsCrossing r14.1 r14.2).bind fun r15 => rZ16 r5 r6 r9 r10 r12 r14 r15
noncomputable def rZ14 (code : List Int) (r5 : Int) (r6 : ((List rP) × Int)) (r9 : rA) (r10 : (rA × Int)) (r12 : (rP × Int)) : Option Bool := (spec_DrawArePairsCrossing code).bind fun r14 => rZ15 r5 r6 r9 r10 r12 r14
noncomputable def rZ13 (code : List Int) (r5 : Int) (r6 : ((List rP) × Int)) (r9 : rA) (r10 : (rA × Int)) (r12 : (rP × Int)) : Option Bool := (spec_PairOf r9).bind fun r13 => bif (r12.2 != r13.2) then some false else bif (!((((r12.1.1).1 == (r13.1.1).1) && (((r12.1.1).2.1 == (r13.1.1).2.1) && true)) && ((((r12.1.2.1).1 == (r13.1.2.1).1) && (((r12.1.2.1).2.1 == (r13.1.2.1).2.1) && true)) && true))) then some false else rZ14 code r5 r6 r9 r10 r12
noncomputable def rZ12 (code : List Int) (r5 : Int) (r6 : ((List rP) × Int)) (r9 : rA) (r10 : (rA × Int)) : Option Bool := (impl_PairOf r9).bind fun r12 => rZ13 code r5 r6 r9 r10 r12
noncomputable def rZ11 (code : List Int) (r5 : Int) (r6 : ((List rP) × Int)) (r9 : rA) (r10 : (rA × Int)) : Option Bool := (spec_PartnerOf r9).bind fun r11 => bif (r10.2 != r11.2) then some false else bif (!(((r10.1).1 == (r11.1).1) && (((r10.1).2.1 == (r11.1).2.1) && true))) then some false else rZ12 code r5 r6 r9 r10
noncomputable def rZ10 (code : List Int) (r5 : Int) (r6 : ((List rP) × Int)) (r9 : rA) : Option Bool := (impl_PartnerOf r9).bind fun r10 => rZ11 code r5 r6 r9 r10
noncomputable def rZ9 (code : List Int) (r5 : Int) (r6 : ((List rP) × Int)) : Option Bool := (spec_DrawPartnerOf code).bind fun r9 => rZ10 code r5 r6 r9
noncomputable def rZ8 (code : List Int) (r5 : Int) (r6 : ((List rP) × Int)) (r7 : ((List rP) × Int)) : Option Bool := (laws_pairs9 r6.1 r7.1).bind fun r8 => bif (!r8) then some false else rZ9 code r5 r6
noncomputable def rZ7 (code : List Int) (r5 : Int) (r6 : ((List rP) × Int)) : Option Bool := (spec_PairsOfPeriod_v2 r5).bind fun r7 => bif (r6.2 != r7.2) then some false else rZ8 code r5 r6 r7
noncomputable def rZ6 (code : List Int) (r5 : Int) : Option Bool := (impl_PairsOfPeriod r5).bind fun r6 => rZ7 code r5 r6
noncomputable def rZ5 (code : List Int) : Option Bool := (spec_DrawPairsOfPeriod code).bind fun r5 => rZ6 code r5
noncomputable def rZ4 (code : List Int) (r2 : ((List rA) × Int)) (r3 : ((List rA) × Int)) : Option Bool := (laws_angles9 r2.1 r3.1).bind fun r4 => bif (!r4) then some false else rZ5 code
noncomputable def rZ3 (code : List Int) (r1 : Int) (r2 : ((List rA) × Int)) : Option Bool := (spec_AnglesOfPeriod r1).bind fun r3 => bif (r2.2 != r3.2) then some false else rZ4 code r2 r3
noncomputable def rZ2 (code : List Int) (r1 : Int) : Option Bool := (impl_AnglesOfPeriod r1).bind fun r2 => rZ3 code r1 r2
noncomputable def rZ1 (code : List Int) : Option Bool := (spec_DrawAnglesOfPeriod code).bind fun r1 => rZ2 code r1
noncomputable def rZ0 (code : List Int) : Option Bool := (laws_big code).bind fun r0 => bif r0 then some true else rZ1 code
theorem rE17 (p : rL17) : (rT17 p).run = (rZ17 (rC5 p.1.1.1.1.1.1.1.1.1.1.1) (rC6 p.1.1.1.1.1.1.1.1.1.1) (rC9 p.1.1.1.1.1.1.1) (rC10 p.1.1.1.1.1.1) (rC12 p.1.1.1.1) (rC14 p.1.1) (rC15 p.1)).bind fun y : Bool => some (laws_FnRayPairs_s.out y) := by
  rw [rM17, rbe, rZ17, kb_ite]
  congr 1
  rw [kb_bind, run_opt _ (rH17 p) _ (rX17 p)]
  refine congrArg _ (funext fun v => ?_)
  have hc : rC17 (⟨p, cast (rH17 p).symm v⟩ : rL18) = v := by simp only [rC17, cast_cast, cast_eq]
  refine (rMA (⟨p, cast (rH17 p).symm v⟩ : rL18)).trans ?_
  rw [hc, rae, kb_ite, kb_ite, kb_some]
theorem rE16 (p : rL16) : (rT16 p).run = (rZ16 (rC5 p.1.1.1.1.1.1.1.1.1.1) (rC6 p.1.1.1.1.1.1.1.1.1) (rC9 p.1.1.1.1.1.1) (rC10 p.1.1.1.1.1) (rC12 p.1.1.1) (rC14 p.1) (rC15 p)).bind fun y : Bool => some (laws_FnRayPairs_s.out y) := by
  rw [rZ16, kb_bind, run_opt _ (rH16 p) _ (rX16 p)]
  refine congrArg _ (funext fun v => ?_)
  have hc : rC16 (⟨p, cast (rH16 p).symm v⟩ : rL17) = v := by simp only [rC16, cast_cast, cast_eq]
  refine (rM16 (⟨p, cast (rH16 p).symm v⟩ : rL17)).trans ?_
  rw [rE17]
  simp only [hc, kb_ite, kb_some]
theorem rE15 (p : rL15) : (rT15 p).run = (rZ15 (rC5 p.1.1.1.1.1.1.1.1.1) (rC6 p.1.1.1.1.1.1.1.1) (rC9 p.1.1.1.1.1) (rC10 p.1.1.1.1) (rC12 p.1.1) (rC14 p)).bind fun y : Bool => some (laws_FnRayPairs_s.out y) := by
  rw [rZ15, kb_bind, run_opt _ (rH15 p) _ (rX15 p)]
  refine congrArg _ (funext fun v => ?_)
  have hc : rC15 (⟨p, cast (rH15 p).symm v⟩ : rL16) = v := by simp only [rC15, cast_cast, cast_eq]
  have h1 : rT16 (⟨p, cast (rH15 p).symm v⟩ : rL16) = oKo (rT15 p) (cast (rH15 p).symm v) := by rw [rT16]
  rw [← h1]
  rw [rE16]
  simp only [hc, kb_ite, kb_some]
theorem rE14 (p : rL14) : (rT14 p).run = (rZ14 p.1.1.1.1.1.1.1.1.1.1.1.1.1.1 (rC5 p.1.1.1.1.1.1.1.1) (rC6 p.1.1.1.1.1.1.1) (rC9 p.1.1.1.1) (rC10 p.1.1.1) (rC12 p.1)).bind fun y : Bool => some (laws_FnRayPairs_s.out y) := by
  rw [rZ14, kb_bind, run_opt _ (rH14 p) _ (rX14 p)]
  refine congrArg _ (funext fun v => ?_)
  have hc : rC14 (⟨p, cast (rH14 p).symm v⟩ : rL15) = v := by simp only [rC14, cast_cast, cast_eq]
  have h1 : rT15 (⟨p, cast (rH14 p).symm v⟩ : rL15) = oKo (rT14 p) (cast (rH14 p).symm v) := by rw [rT15]
  rw [← h1]
  rw [rE15]
  simp only [hc, kb_ite, kb_some]
theorem rE13 (p : rL13) : (rT13 p).run = (rZ13 p.1.1.1.1.1.1.1.1.1.1.1.1.1 (rC5 p.1.1.1.1.1.1.1) (rC6 p.1.1.1.1.1.1) (rC9 p.1.1.1) (rC10 p.1.1) (rC12 p)).bind fun y : Bool => some (laws_FnRayPairs_s.out y) := by
  rw [rZ13, kb_bind, run_opt _ (rH13 p) _ (rX13 p)]
  refine congrArg _ (funext fun v => ?_)
  have hc : rC13 (⟨p, cast (rH13 p).symm v⟩ : rL14) = v := by simp only [rC13, cast_cast, cast_eq]
  refine (rM13 (⟨p, cast (rH13 p).symm v⟩ : rL14)).trans ?_
  rw [rE14]
  simp only [hc, kb_ite, kb_some]
theorem rE12 (p : rL12) : (rT12 p).run = (rZ12 p.1.1.1.1.1.1.1.1.1.1.1.1 (rC5 p.1.1.1.1.1.1) (rC6 p.1.1.1.1.1) (rC9 p.1.1) (rC10 p.1)).bind fun y : Bool => some (laws_FnRayPairs_s.out y) := by
  rw [rZ12, kb_bind, run_opt _ (rH12 p) _ (rX12 p)]
  refine congrArg _ (funext fun v => ?_)
  have hc : rC12 (⟨p, cast (rH12 p).symm v⟩ : rL13) = v := by simp only [rC12, cast_cast, cast_eq]
  have h1 : rT13 (⟨p, cast (rH12 p).symm v⟩ : rL13) = oKo (rT12 p) (cast (rH12 p).symm v) := by rw [rT13]
  rw [← h1]
  rw [rE13]
  simp only [hc, kb_ite, kb_some]
theorem rE11 (p : rL11) : (rT11 p).run = (rZ11 p.1.1.1.1.1.1.1.1.1.1.1 (rC5 p.1.1.1.1.1) (rC6 p.1.1.1.1) (rC9 p.1) (rC10 p)).bind fun y : Bool => some (laws_FnRayPairs_s.out y) := by
  rw [rZ11, kb_bind, run_opt _ (rH11 p) _ (rX11 p)]
  refine congrArg _ (funext fun v => ?_)
  have hc : rC11 (⟨p, cast (rH11 p).symm v⟩ : rL12) = v := by simp only [rC11, cast_cast, cast_eq]
  refine (rM11 (⟨p, cast (rH11 p).symm v⟩ : rL12)).trans ?_
  rw [rE12]
  simp only [hc, kb_ite, kb_some]
theorem rE10 (p : rL10) : (rT10 p).run = (rZ10 p.1.1.1.1.1.1.1.1.1.1 (rC5 p.1.1.1.1) (rC6 p.1.1.1) (rC9 p)).bind fun y : Bool => some (laws_FnRayPairs_s.out y) := by
  rw [rZ10, kb_bind, run_opt _ (rH10 p) _ (rX10 p)]
  refine congrArg _ (funext fun v => ?_)
  have hc : rC10 (⟨p, cast (rH10 p).symm v⟩ : rL11) = v := by simp only [rC10, cast_cast, cast_eq]
  have h1 : rT11 (⟨p, cast (rH10 p).symm v⟩ : rL11) = oKo (rT10 p) (cast (rH10 p).symm v) := by rw [rT11]
  rw [← h1]
  rw [rE11]
  simp only [hc, kb_ite, kb_some]
theorem rE9 (p : rL9) : (rT9 p).run = (rZ9 p.1.1.1.1.1.1.1.1.1 (rC5 p.1.1.1) (rC6 p.1.1)).bind fun y : Bool => some (laws_FnRayPairs_s.out y) := by
  rw [rZ9, kb_bind, run_opt _ (rH9 p) _ (rX9 p)]
  refine congrArg _ (funext fun v => ?_)
  have hc : rC9 (⟨p, cast (rH9 p).symm v⟩ : rL10) = v := by simp only [rC9, cast_cast, cast_eq]
  have h1 : rT10 (⟨p, cast (rH9 p).symm v⟩ : rL10) = oKo (rT9 p) (cast (rH9 p).symm v) := by rw [rT10]
  rw [← h1]
  rw [rE10]
  simp only [hc, kb_ite, kb_some]
theorem rE8 (p : rL8) : (rT8 p).run = (rZ8 p.1.1.1.1.1.1.1.1 (rC5 p.1.1) (rC6 p.1) (rC7 p)).bind fun y : Bool => some (laws_FnRayPairs_s.out y) := by
  rw [rZ8, kb_bind, run_opt _ (rH8 p) _ (rX8 p)]
  refine congrArg _ (funext fun v => ?_)
  have hc : rC8 (⟨p, cast (rH8 p).symm v⟩ : rL9) = v := by simp only [rC8, cast_cast, cast_eq]
  refine (rM8 (⟨p, cast (rH8 p).symm v⟩ : rL9)).trans ?_
  rw [rE9]
  simp only [hc, kb_ite, kb_some]
theorem rE7 (p : rL7) : (rT7 p).run = (rZ7 p.1.1.1.1.1.1.1 (rC5 p.1) (rC6 p)).bind fun y : Bool => some (laws_FnRayPairs_s.out y) := by
  rw [rZ7, kb_bind, run_opt _ (rH7 p) _ (rX7 p)]
  refine congrArg _ (funext fun v => ?_)
  have hc : rC7 (⟨p, cast (rH7 p).symm v⟩ : rL8) = v := by simp only [rC7, cast_cast, cast_eq]
  refine (rM7 (⟨p, cast (rH7 p).symm v⟩ : rL8)).trans ?_
  rw [rE8]
  simp only [hc, kb_ite, kb_some]
theorem rE6 (p : rL6) : (rT6 p).run = (rZ6 p.1.1.1.1.1.1 (rC5 p)).bind fun y : Bool => some (laws_FnRayPairs_s.out y) := by
  rw [rZ6, kb_bind, run_opt _ (rH6 p) _ (rX6 p)]
  refine congrArg _ (funext fun v => ?_)
  have hc : rC6 (⟨p, cast (rH6 p).symm v⟩ : rL7) = v := by simp only [rC6, cast_cast, cast_eq]
  have h1 : rT7 (⟨p, cast (rH6 p).symm v⟩ : rL7) = oKo (rT6 p) (cast (rH6 p).symm v) := by rw [rT7]
  rw [← h1]
  rw [rE7]
  simp only [hc, kb_ite, kb_some]
theorem rE5 (p : rL5) : (rT5 p).run = (rZ5 p.1.1.1.1.1).bind fun y : Bool => some (laws_FnRayPairs_s.out y) := by
  rw [rZ5, kb_bind, run_opt _ (rH5 p) _ (rX5 p)]
  refine congrArg _ (funext fun v => ?_)
  have hc : rC5 (⟨p, cast (rH5 p).symm v⟩ : rL6) = v := by simp only [rC5, cast_cast, cast_eq]
  have h1 : rT6 (⟨p, cast (rH5 p).symm v⟩ : rL6) = oKo (rT5 p) (cast (rH5 p).symm v) := by rw [rT6]
  rw [← h1]
  rw [rE6]
  simp only [hc, kb_ite, kb_some]
theorem rE4 (p : rL4) : (rT4 p).run = (rZ4 p.1.1.1.1 (rC2 p.1) (rC3 p)).bind fun y : Bool => some (laws_FnRayPairs_s.out y) := by
  rw [rZ4, kb_bind, run_opt _ (rH4 p) _ (rX4 p)]
  refine congrArg _ (funext fun v => ?_)
  have hc : rC4 (⟨p, cast (rH4 p).symm v⟩ : rL5) = v := by simp only [rC4, cast_cast, cast_eq]
  refine (rM4 (⟨p, cast (rH4 p).symm v⟩ : rL5)).trans ?_
  rw [rE5]
  simp only [hc, kb_ite, kb_some]
theorem rE3 (p : rL3) : (rT3 p).run = (rZ3 p.1.1.1 (rC1 p.1) (rC2 p)).bind fun y : Bool => some (laws_FnRayPairs_s.out y) := by
  rw [rZ3, kb_bind, run_opt _ (rH3 p) _ (rX3 p)]
  refine congrArg _ (funext fun v => ?_)
  have hc : rC3 (⟨p, cast (rH3 p).symm v⟩ : rL4) = v := by simp only [rC3, cast_cast, cast_eq]
  refine (rM3 (⟨p, cast (rH3 p).symm v⟩ : rL4)).trans ?_
  rw [rE4]
  simp only [hc, kb_ite, kb_some]
theorem rE2 (p : rL2) : (rT2 p).run = (rZ2 p.1.1 (rC1 p)).bind fun y : Bool => some (laws_FnRayPairs_s.out y) := by
  rw [rZ2, kb_bind, run_opt _ (rH2 p) _ (rX2 p)]
  refine congrArg _ (funext fun v => ?_)
  have hc : rC2 (⟨p, cast (rH2 p).symm v⟩ : rL3) = v := by simp only [rC2, cast_cast, cast_eq]
  have h1 : rT3 (⟨p, cast (rH2 p).symm v⟩ : rL3) = oKo (rT2 p) (cast (rH2 p).symm v) := by rw [rT3]
  rw [← h1]
  rw [rE3]
  simp only [hc, kb_ite, kb_some]
theorem rE1 (p : rL1) : (rT1 p).run = (rZ1 p.1).bind fun y : Bool => some (laws_FnRayPairs_s.out y) := by
  rw [rZ1, kb_bind, run_opt _ (rH1 p) _ (rX1 p)]
  refine congrArg _ (funext fun v => ?_)
  have hc : rC1 (⟨p, cast (rH1 p).symm v⟩ : rL2) = v := by simp only [rC1, cast_cast, cast_eq]
  have h1 : rT2 (⟨p, cast (rH1 p).symm v⟩ : rL2) = oKo (rT1 p) (cast (rH1 p).symm v) := by rw [rT2]
  rw [← h1]
  rw [rE2]
  simp only [hc, kb_ite, kb_some]
theorem rE0 (p : rL0) : (rT0 p).run = (rZ0 p).bind fun y : Bool => some (laws_FnRayPairs_s.out y) := by
  rw [rZ0, kb_bind, run_opt _ (rH0 p) _ (rX0 p)]
  refine congrArg _ (funext fun v => ?_)
  have hc : rC0 (⟨p, cast (rH0 p).symm v⟩ : rL1) = v := by simp only [rC0, cast_cast, cast_eq]
  refine (rM0 (⟨p, cast (rH0 p).symm v⟩ : rL1)).trans ?_
  rw [rE1]
  simp only [hc, kb_ite, kb_some]
theorem rT0_eq (p : List Int) : rT0 p = evFn (mkCtx Go.K.Link.seat laws_FnRayPairs_c laws_FnRayPairs_tab) (sums laws_FnRayPairs_ls) 12 Go.Proofs.Tryz.f12 (encL laws_FnRayPairs_s.a (show denL laws_FnRayPairs_s.a from (p, ()))) := by rw [rT0]
theorem laws_FnRayPairs_e : ∀ v, (evFn (mkCtx Go.K.Link.seat laws_FnRayPairs_c laws_FnRayPairs_tab) (sums laws_FnRayPairs_ls) 12 Go.Proofs.Tryz.f12 (encL laws_FnRayPairs_s.a v)).run = (laws_FnRayPairs_s.gen v).bind fun y => some (laws_FnRayPairs_s.out y) := by
  rintro ⟨code, _⟩
  refine (show _ from (congrArg Out.run (rT0_eq code)).symm.trans (rE0 code)).trans ?_
  change _ = (laws_FnRayPairs code).bind fun y : Bool => some (laws_FnRayPairs_s.out y)
  simp only [laws_FnRayPairs, rZ0, rZ1, rZ2, rZ3, rZ4, rZ5, rZ6, rZ7, rZ8, rZ9, rZ10, rZ11, rZ12, rZ13, rZ14, rZ15, rZ16, rZ17]
theorem laws_FnRayPairs_is : FnIs (drI := drZ) Go.Proofs.Tryz.prog 12 (modeOf []) (phi [laws_FnRayPairs_s]) := spec_is (drI := drZ) (c := laws_FnRayPairs_c) seatOK laws_FnRayPairs_t Go.Proofs.Tryz.func12 rfl (code := laws_FnRayPairs_code) rfl rfl laws_FnRayPairs_rs laws_FnRayPairs_e
end Go.K.Link

