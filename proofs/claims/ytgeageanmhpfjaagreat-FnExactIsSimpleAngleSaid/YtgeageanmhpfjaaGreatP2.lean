/- Part 2 of the plain law: the functions of the program as plain functions on lists and numbers, and what is shown of them; no condition. -/
import Derived.Test.YtgeageanmhpfjaaGreatP1
set_option linter.all false
/- Plain laws of ray pairs, part M: the law of IsSimpleAngle. -/
set_option linter.all false
namespace Go.K.Pure
open Classical
theorem toA (a : Ang) : laws_toAngle a = some a := rfl
theorem impl_all {L : List Ang} (h : ∀ a ∈ L, InA a) (hl : L.length < 1000000) : impl_areAll_impl_Angle L = some (decide (∀ a ∈ L, isA a)) := by
  unfold impl_areAll_impl_Angle slices_ContainsFunc__impl_Angle_impl_Angle slices_IndexFunc__impl_Angle_impl_Angle
  have := loop_fidx (step := slices_IndexFunc__impl_Angle_impl_Angle_l0) (fun i => (L, (), (((), ()), ()), ((L.length : Nat) : Int), (i : Int), ())) L dA0 (fun a => !decide (isA a)) (fun i => ((i : Int), ())) (fun i hi => by
    have hm : L.getD i dA0 ∈ L := by rw [getD_at hi]; exact List.getElem_mem hi
    have hw : w64 ((i : Int) + 1) = ((i + 1 : Nat) : Int) := w64_succ (by omega)
    have hf : impl_areAll_impl_Angle_f1 (L.getD i dA0) = some (!decide (isA (L.getD i dA0))) := by
      unfold impl_areAll_impl_Angle_f1
      rw [impl_isA (h _ hm)]; rfl
    simp only [slices_IndexFunc__impl_Angle_impl_Angle_l0, ltb hi, cond_true, inb hi, Int.toNat_natCast, hf, Option.bind_some, hw, nn0 i, Bool.and_true, Bool.true_and]
    cases decide (isA (L.getD i dA0)) <;> rfl) (by
    simp only [slices_IndexFunc__impl_Angle_impl_Angle_l0, nltb (Nat.lt_irrefl _), cond_false])
  have e : loop slices_IndexFunc__impl_Angle_impl_Angle_l0 (L, (), (((), ()), ()), ((L.length : Nat) : Int), (0 : Int), ()) = _ := this
  rw [e]
  cases hf : L.findIdx? fun a => !decide (isA a) with
  | none =>
    have hn := List.findIdx?_eq_none_iff.1 hf
    have : ∀ a ∈ L, isA a := fun a ha => by
      have := hn a ha
      by_cases hA : isA a
      · exact hA
      · simp [hA] at this
    rw [decide_eq_true this]
    simp [alt]
  | some k =>
    obtain ⟨h1, h2, _⟩ := List.findIdx?_eq_some_iff_getElem.1 hf
    have : ¬ ∀ a ∈ L, isA a := fun hA => by
      have := hA _ (List.getElem_mem h1)
      rw [decide_eq_true this] at h2; cases h2
    rw [decide_eq_false this]
    simp [alt]
theorem impl_code {L : List Ang} (h : ∀ a ∈ L, InA a) (hl : L.length < 1000000) : impl_anglesCode L = some (if ∀ a ∈ L, isA a then 0 else 1) := by
  unfold impl_anglesCode
  rw [impl_all h hl]
  by_cases hA : ∀ a ∈ L, isA a
  · rw [decide_eq_true hA, if_pos hA]; rfl
  · rw [decide_eq_false hA, if_neg hA]; rfl
theorem law_IsSimpleAngle {a : Ang} (h : InA a) : laws_FnExactIsSimpleAngle a = some true := by
  have key : ∃ r, spec_IsSimpleAngle a = some r ∧ impl_IsSimpleAngle a = some r := by
    unfold spec_IsSimpleAngle impl_IsSimpleAngle spec_l04Code
    rw [spec_isA h, impl_code (L := [a]) (by simpa using h) (by simp)]
    by_cases hA : isA a
    · have hL : ∀ x ∈ [a], isA x := by simpa using hA
      rw [if_pos hL, decide_eq_true hA]
      have hp := ps_pg hA
      simp only [Option.bind_some, Bool.not_true, cond_false, spec_period hA, impl_period hA, spec_in, impl_in, impl_isPeriod]
      by_cases hr : 2 ≤ ps a ∧ ps a ≤ 8
      · have hpg : pg a = ps a := by rw [hp, if_pos hr.2]
        have hP : isP a (pg a) := ⟨hA, rfl, by omega⟩
        have d1 : decide ((2 : Int) ≤ (ps a : Int) ∧ (ps a : Int) ≤ 8) = true := decide_eq_true (by omega)
        have hw : w64 (((pg a : Nat) : Int) - 1) = ((pg a - 1 : Nat) : Int) := by rw [w64_id (by omega) (by omega)]; omega
        have e0 : ((0 : Int) != 0) = false := rfl
        have hl : ((sq a (pg a)).2.1.length : Nat) = pg a := WD_len
        rw [hpg] at *
        simp only [d1, Bool.not_true, cond_false, Option.bind_some, e0, hP.spec, hP.impl, hl, hw]
        rw [impl_renorm (n := ps a - 1) (by omega) hP]
        simp only [Option.bind_some]
        by_cases h2 : ps a = 2
        · have d2 : decide (((ps a - 1 : Nat) : Int) < 2) = true := decide_eq_true (by omega)
          have : RN (sq a (ps a)) (ps a - 1) = [] := by rw [h2]; simp [RN]
          rw [d2, this]
          exact ⟨_, rfl, rfl⟩
        · have d2 : decide (((ps a - 1 : Nat) : Int) < 2) = false := decide_eq_false (by omega)
          rw [d2, spec_all (n := ps a - 1) (by omega) hP]
          refine ⟨_, rfl, ?_⟩
          congr 2
          have hm := RN_mem (s := sq a (ps a)) (n := ps a - 1) (by omega)
          have hiff : (RN (sq a (ps a)) (ps a - 1)).length = 0 ↔ (((UP (ps a - 1)).map aP).filter (mkd (sq a (ps a)))).length = 0 := by
            rw [List.length_eq_zero_iff, List.length_eq_zero_iff, List.eq_nil_iff_forall_not_mem, List.eq_nil_iff_forall_not_mem]
            exact forall_congr' fun x => not_congr (hm x)
          generalize (RN (sq a (ps a)) (ps a - 1)).length = u at *
          generalize (((UP (ps a - 1)).map aP).filter (mkd (sq a (ps a)))).length = v at *
          by_cases hu : u = 0
          · rw [hu, hiff.1 hu]
          · have hv : ¬ v = 0 := fun e => hu (hiff.2 e)
            have b1 : (((u : Nat) : Int) == 0) = false := by simp only [beq_eq_false_iff_ne, ne_eq]; omega
            have b2 : (((v : Nat) : Int) == 0) = false := by simp only [beq_eq_false_iff_ne, ne_eq]; omega
            rw [b1, b2]
      · have d1 : decide ((2 : Int) ≤ (ps a : Int) ∧ (ps a : Int) ≤ 8) = false := decide_eq_false (by omega)
        have d2 : decide ((2 : Int) ≤ (pg a : Int) ∧ (pg a : Int) ≤ 8) = false := decide_eq_false (by
          rw [hp]
          split <;> omega)
        have e0 : ((0 : Int) != 0) = false := rfl
        have e2 : ((2 : Int) != 0) = true := rfl
        simp only [d1, d2, Bool.not_false, cond_true, Option.bind_some, e0, e2, cond_false]
        exact ⟨_, rfl, rfl⟩
    · have hL : ¬ ∀ x ∈ [a], isA x := by simpa using hA
      rw [if_neg hL, decide_eq_false hA]
      exact ⟨_, rfl, rfl⟩
  obtain ⟨r, h1, h2⟩ := key
  unfold laws_FnExactIsSimpleAngle
  rw [toA]
  simp only [Option.bind_some]
  rw [h1, h2]
  simp
end Go.K.Pure

