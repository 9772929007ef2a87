/- Part 2 of the plain law: the functions of the program as plain functions on lists and numbers, and what is shown of them; no condition. -/
import Derived.Test.YtfdbhigklhinaaaP1
set_option linter.all false
/- Plain laws of portraits, part J: the laws. -/
set_option linter.unusedVariables false
set_option linter.unusedSimpArgs false
namespace Go.K.Pure
open Classical

theorem flat_take_drop {S : AA} : ((S.take ((S.length : Nat) : Int).toNat).drop (1 : Int).toNat) = S.drop 1 := by
  rw [Int.toNat_natCast, List.take_length]; rfl
/-- The first condition that fails is the same. -/
theorem fails_same {S : AA} (g : Good S) : ∃ c : Int, impl_fails S = some c ∧ spec_l07Fails S = some c ∧ (c = 0 → ∀ i, i < S.length → Lead (sa S i) (nx S i)) := by
  have h12 := g.most
  have h1 := g.one
  have h64 := g.all
  unfold impl_fails spec_l07Fails
  rw [concat_ok (by omega) (by omega), spec_apart (by omega) (by omega)]
  simp only [Option.bind_some]
  obtain ⟨zs, z1, z2⟩ := sorted_len g.flat (by omega)
  rw [z1]
  simp only [Option.bind_some, bne, eq_nat]
  rw [g.apart] at z2
  by_cases hap : ApartS S
  rotate_left
  · rw [decide_eq_false (fun h => hap (z2.1 h)), decide_eq_false hap]
    exact ⟨1, rfl, rfl, fun h => by omega⟩
  rw [decide_eq_true (z2.2 hap), decide_eq_true hap]
  simp only [Bool.not_true, cond_false]
  have c1 : (((decide ((0 : Int) ≤ (1 : Int))) && (decide ((1 : Int) ≤ ((S.length : Nat) : Int)))) && (decide (((S.length : Nat) : Int) ≤ ((S.length : Nat) : Int)))) = true := by
    simp only [Bool.and_eq_true, decide_eq_true_eq]; omega
  have c2 : (decide ((0 : Int) ≤ (0 : Int)) && decide ((0 : Int) < ((S.length : Nat) : Int))) = true := inb h1
  have hcl : slices_Clone___impl_Angle__impl_Angle (S.drop 1) = some (S.drop 1) := by
    unfold slices_Clone___impl_Angle__impl_Angle cloneOf
    have : decide ((S.drop 1).length * 24 ≤ 140737488355328) = true := decide_eq_true (by simp; omega)
    rw [this]; rfl
  rw [c1, cond_true, flat_take_drop, hcl]
  simp only [Option.bind_some]
  rw [c2, cond_true]
  have c3 : decide (((S.drop 1).length + [S.getD (0 : Int).toNat []].length) * 24 ≤ 140737488355328) = true := decide_eq_true (by simp; omega)
  rw [c3, cond_true]
  rw [show loop impl_fails_l0 (S, S.flatten, S.drop 1 ++ [S.getD (0 : Int).toNat []], S, ((S.length : Nat) : Int), (0 : Int), ()) = _ from impl_led2 g, spec_led2 g, sel_congr (led_iff g)]
  by_cases h2 : ∃ i, i < S.length ∧ ¬ Lead (sa S i) (nx S i)
  · rw [sel_pos h2, sel_pos h2]
    exact ⟨2, rfl, rfl, fun h => by omega⟩
  rw [sel_neg h2, sel_neg h2]
  have hd : ∀ i, i < S.length → Lead (sa S i) (nx S i) := fun i hi => Classical.byContradiction fun h => h2 ⟨i, hi, h⟩
  simp only [Option.bind_some, alt]
  rw [impl_keep3 g hd, spec_keep3 g hd]
  by_cases h3 : ∃ i, i < S.length ∧ ¬ Keep (sa S i) (nx S i)
  · rw [sel_pos h3, sel_pos h3]
    exact ⟨3, rfl, rfl, fun h => by omega⟩
  rw [sel_neg h3, sel_neg h3]
  simp only [Option.bind_some, alt]
  rw [impl_periodic_ok g.flat (by omega) (flat_pos g), spec_per4 g, sel_congr (per_iff _)]
  simp only [Option.bind_some]
  by_cases h4 : ∀ x ∈ S.flatten, PerOK x (ob (ea S.flatten 0)).1.length
  rotate_left
  · rw [decide_eq_false h4, sel_pos h4]
    exact ⟨4, rfl, rfl, fun h => by omega⟩
  rw [decide_eq_true h4, sel_neg (fun h => h h4)]
  simp only [Bool.not_true, cond_false, Option.bind_some, alt]
  rw [impl_link5 g hap, spec_link5 g, sel_congr (link_iff g hap)]
  by_cases h5 : ∃ i, i < S.length ∧ ∃ k, k < S.length ∧ i ≠ k ∧ ((sa S k).length ≠ 1 ∧ Lnk (sa S i) (sa S k))
  · rw [sel_pos h5]
    exact ⟨5, rfl, rfl, fun h => by omega⟩
  · rw [sel_neg h5]
    exact ⟨0, rfl, rfl, fun _ => hd⟩
section
variable {S : AA} (hS : ∀ s ∈ S, ∀ x ∈ s, InA x) (hl : S.length ≤ 1048576) (hJ : S.flatten.length ≤ 1048576)
include hS hl hJ
/-- What the reference's tests give, and what the program's gives. -/
theorem told_same : ∃ l : Int, spec_l07Lists S = some l ∧ (l = 0 → Good S) ∧ (∀ c : Int, l = 0 → spec_l07Fails S = some c → impl_PortraitThatFails S = some (c, 0)) ∧ (l ≠ 0 → impl_PortraitThatFails S = some (0, l)) := by
  have hx : ∀ x ∈ S.flatten, InA x := fun x hx => by
    obtain ⟨s, hs, hx⟩ := List.mem_flatten.1 hx
    exact hS s hs x hx
  rw [spec_lists hS hl hJ]
  have e : ∀ o, impl_PortraitThatFails S = o ↔ ((impl_anglesCode S.flatten).bind fun r1 => bif (r1 != (0 : Int)) then some ((0 : Int), r1) else (impl_areSets S).bind fun r2 => bif (!r2) then some ((0 : Int), (2 : Int)) else (impl_fails S).bind fun r3 => some (r3, (0 : Int))) = o := by
    intro o
    unfold impl_PortraitThatFails
    rw [concat_ok hl hJ]
    rfl
  by_cases hall : ∀ s ∈ S, ∀ x ∈ s, isA x
  rotate_left
  · rw [sel_neg hall]
    refine ⟨1, rfl, fun h => by omega, fun _ h => by omega, fun _ => ?_⟩
    rw [e, impl_code hx hJ, sel_neg (fun h => hall fun s hs x hx => h x (List.mem_flatten.2 ⟨s, hs, hx⟩))]
    rfl
  rw [sel_pos hall]
  have hc : impl_anglesCode S.flatten = some 0 := by
    rw [impl_code hx hJ, sel_pos (fun x hx => by
      obtain ⟨s, hs, hx⟩ := List.mem_flatten.1 hx
      exact hall s hs x hx)]
  by_cases hg : 1 ≤ S.length ∧ S.length ≤ 12 ∧ S.flatten.length ≤ 64 ∧ SetsOK S
  rotate_left
  · rw [sel_neg hg]
    refine ⟨2, rfl, fun h => by omega, fun _ h => by omega, fun _ => ?_⟩
    rw [e, hc]
    simp only [Option.bind_some, bne_self_eq_false, cond_false]
    rw [impl_sets hall hl hJ, decide_eq_false hg]
    rfl
  rw [sel_pos hg]
  have g : Good S := ⟨hall, hg.1, hg.2.1, hg.2.2.1, hg.2.2.2⟩
  refine ⟨0, rfl, fun _ => g, fun c _ hf => ?_, fun h => absurd rfl h⟩
  rw [e, hc]
  simp only [Option.bind_some, bne_self_eq_false, cond_false]
  rw [impl_sets hall hl hJ, decide_eq_true hg]
  obtain ⟨c', c1, c2, _⟩ := fails_same g
  rw [c2] at hf
  cases hf
  simp only [Option.bind_some, Bool.not_true, cond_false, c1]
theorem fails_told : ∃ r : Int × Int, spec_PortraitThatFails S = some r ∧ impl_PortraitThatFails S = some r := by
  obtain ⟨l, l1, l2, l3, l4⟩ := told_same hS hl hJ
  unfold spec_PortraitThatFails
  rw [l1]
  simp only [Option.bind_some]
  by_cases h : l = 0
  · subst h
    obtain ⟨c, c1, c2, _⟩ := fails_same (l2 rfl)
    rw [c2]
    exact ⟨(c, 0), rfl, l3 c rfl c2⟩
  · have : (l != 0) = true := by simpa using h
    rw [this]
    exact ⟨(0, l), rfl, l4 h⟩
theorem is_told : ∃ b : Bool, spec_IsPortrait S = some b ∧ impl_IsPortrait S = some b := by
  obtain ⟨l, l1, l2, l3, l4⟩ := told_same hS hl hJ
  unfold spec_IsPortrait spec_l07Is impl_IsPortrait
  rw [l1]
  simp only [Option.bind_some]
  by_cases h : l = 0
  · subst h
    obtain ⟨c, c1, c2, _⟩ := fails_same (l2 rfl)
    rw [c2, l3 c rfl c2]
    exact ⟨c == 0, rfl, rfl⟩
  · have : (l == 0) = false := by simpa using h
    rw [l4 h]
    simp only [Option.bind_some, this]
    exact ⟨false, rfl, rfl⟩
/-- The codes are the same. -/
theorem code_told : ∃ c : Int, spec_l07Code S = some c ∧ impl_portraitCode S = some c ∧ (c = 0 → Good S) := by
  obtain ⟨l, l1, l2, l3, l4⟩ := told_same hS hl hJ
  unfold spec_l07Code impl_portraitCode
  rw [l1]
  simp only [Option.bind_some]
  by_cases h : l = 0
  · subst h
    obtain ⟨c, c1, c2, _⟩ := fails_same (l2 rfl)
    rw [c2, l3 c rfl c2]
    simp only [Option.bind_some, BEq.rfl, cond_true]
    by_cases hc : c = 0
    · subst hc
      exact ⟨0, rfl, rfl, fun _ => l2 rfl⟩
    · have : (c != 0) = true := by simpa using hc
      rw [this]
      exact ⟨2, rfl, rfl, fun h => by omega⟩
  · have : (l == 0) = false := by simpa using h
    rw [l4 h]
    simp only [Option.bind_some, this]
    exact ⟨l, rfl, rfl, fun h' => absurd h' h⟩
theorem valence_told : ∃ r : Int × Int, spec_ValenceOf S = some r ∧ impl_ValenceOf S = some r := by
  obtain ⟨c, c1, c2, c3⟩ := code_told hS hl hJ
  unfold spec_ValenceOf impl_ValenceOf
  rw [c1, c2]
  simp only [Option.bind_some]
  by_cases hc : c = 0
  · subst hc
    have g := c3 rfl
    have b : (decide ((0 : Int) ≤ (0 : Int)) && decide ((0 : Int) < ((S.length : Nat) : Int))) = true := inb g.one
    simp only [bne_self_eq_false, cond_false, b, cond_true, impl_length_impl_Angle, Option.bind_some]
    exact ⟨_, rfl, rfl⟩
  · have : (c != 0) = true := by simpa using hc
    rw [this]
    exact ⟨_, rfl, rfl⟩
omit hS hl hJ in
theorem angle_same {num den : Int} (h1 : 0 < den) (h2 : den ≤ 67092481) (h3 : -67092481 ≤ num) (h4 : num ≤ 67092481) : impl_angle num den = spec_l01Of num den := by
  have e0 : (den == 0) = false := by simpa using (by omega : ¬ den = 0)
  have m1 : -den < num.tmod den := Int.lt_tmod_of_pos num h1
  have m2 : num.tmod den < den := Int.tmod_lt_of_pos num h1
  have m3 : 0 ≤ (num.tmod den + den).tmod den := Int.tmod_nonneg _ (by omega)
  unfold impl_angle spec_l01Of
  simp only [e0, Bool.not_false, cond_true]
  rw [w64_id (n := num.tmod den + den) (by omega) (by omega), impl_div (by omega) m3, spec_div m3 (by omega), Int.gcd_comm]
theorem rotation_told : ∃ r : Ang × Int, spec_RotationNumber S = some r ∧ impl_RotationNumber S = some r := by
  obtain ⟨c, c1, c2, c3⟩ := code_told hS hl hJ
  unfold spec_RotationNumber impl_RotationNumber
  rw [c1, c2]
  simp only [Option.bind_some]
  by_cases hc : c = 0
  rotate_left
  · have : (c != 0) = true := by simpa using hc
    rw [this]
    exact ⟨_, rfl, rfl⟩
  subst hc
  have g := c3 rfl
  have h12 := g.most
  have b : (decide ((0 : Int) ≤ (0 : Int)) && decide ((0 : Int) < ((S.length : Nat) : Int))) = true := inb g.one
  have hne := g.ne g.one
  have hlen := g.len g.one
  have b2 : (decide ((0 : Int) ≤ (0 : Int)) && decide ((0 : Int) < (((S.getD (0 : Int).toNat []).length : Nat) : Int))) = true := inb (m := (sa S 0).length) hne
  have hA : isA (ea (sa S 0) 0) := g.isA g.one hne
  have k1 : loop spec_RotationNumber_l0 (S, ((0 : Int), (0 : Int), ()), (S.getD (0 : Int).toNat []).getD (0 : Int).toNat dA, (0 : Int), ()) = some (S, ((0 : Int), (0 : Int), ()), dblN (ea (sa S 0) 0) S.length, ()) :=
    loop_count (step := spec_RotationNumber_l0) (fun n => (S, ((0 : Int), (0 : Int), ()), dblN (ea (sa S 0) 0) n, (n : Int), ())) S.length (S, ((0 : Int), (0 : Int), ()), dblN (ea (sa S 0) 0) S.length, ()) (by
      intro n hn
      simp only [spec_RotationNumber_l0, ltb hn, cond_true]
      rw [spec_dbl (dblN_isA hA n)]
      simp only [Option.bind_some]
      rw [w64_succ (by omega)]
      rfl) (by simp only [spec_RotationNumber_l0, nltb (Nat.lt_irrefl S.length), cond_false]) 0 (Nat.zero_le _)
  have k2 : loop impl_RotationNumber_l0 (S, ((0 : Int), (0 : Int), ()), (S.getD (0 : Int).toNat []).getD (0 : Int).toNat dA, ((S.length : Nat) : Int), (0 : Int), ()) = some (S, ((0 : Int), (0 : Int), ()), dblN (ea (sa S 0) 0) S.length, ()) :=
    loop_count (step := impl_RotationNumber_l0) (fun n => (S, ((0 : Int), (0 : Int), ()), dblN (ea (sa S 0) 0) n, ((S.length : Nat) : Int), (n : Int), ())) S.length (S, ((0 : Int), (0 : Int), ()), dblN (ea (sa S 0) 0) S.length, ()) (by
      intro n hn
      simp only [impl_RotationNumber_l0, ltb hn, cond_true]
      rw [impl_dbl (dblN_isA hA n)]
      simp only [Option.bind_some]
      rw [w64_succ (by omega)]
      rfl) (by simp only [impl_RotationNumber_l0, nltb (Nat.lt_irrefl S.length), cond_false]) 0 (Nat.zero_le _)
  simp only [bne_self_eq_false, cond_false, b, b2, cond_true]
  rw [k1, k2]
  simp only [Option.bind_some, b, cond_true, impl_length_impl_Angle]
  rw [show spec_l07Place (S.getD (0 : Int).toNat []) (dblN (ea (sa S 0) 0) S.length) = some (plc (sa S 0) (dblN (ea (sa S 0) 0) S.length)) from spec_place (xs := sa S 0) (by omega), show slices_Index__impl_Angle_impl_Angle (S.getD (0 : Int).toNat []) (dblN (ea (sa S 0) 0) S.length) = some (plc (sa S 0) (dblN (ea (sa S 0) 0) S.length)) from impl_index (xs := sa S 0) (by omega)]
  simp only [Option.bind_some]
  have hp : -1 ≤ plc (sa S 0) (dblN (ea (sa S 0) 0) S.length) ∧ plc (sa S 0) (dblN (ea (sa S 0) 0) S.length) ≤ 64 := by
    unfold plc
    split
    · rename_i hm
      have := (fi_spec hm).1
      omega
    · omega
  have hs := angle_same (num := plc (sa S 0) (dblN (ea (sa S 0) 0) S.length)) (den := ((sa S 0).length : Int)) (by omega) (by omega) (by omega) (by omega)
  obtain ⟨_, n, d, _, _, _, _, _, _, ha⟩ := angle_ok (num := plc (sa S 0) (dblN (ea (sa S 0) 0) S.length)) (den := ((sa S 0).length : Int)) (by omega) (by omega) (by omega) (by omega)
  rw [show spec_l01Of (plc (sa S 0) (dblN (ea (sa S 0) 0) S.length)) (((S.getD (0 : Int).toNat []).length : Nat) : Int) = _ from hs.symm, show impl_angle (plc (sa S 0) (dblN (ea (sa S 0) 0) S.length)) (((S.getD (0 : Int).toNat []).length : Nat) : Int) = _ from ha, ha]
  exact ⟨_, rfl, rfl⟩
end
section
variable {S : AA} (hS : ∀ s ∈ S, ∀ x ∈ s, InA x) (hl : S.length < 9223372036854775808) (hs : ∀ s ∈ S, s.length < 9223372036854775808)
include hl hs
theorem pre_ok : ∃ r, laws_szAngleSS S 1048576 = some r ∧ (decide (r < 0) = true ∨ (decide (r < 0) = false ∧ laws_toAngleSS S = some S ∧ laws_eqAngleSS S S = some true ∧ S.length ≤ 1048576 ∧ S.flatten.length ≤ 1048576)) := by
  obtain ⟨r, r1, r2⟩ := sz_ok hl hs
  refine ⟨r, r1, ?_⟩
  by_cases h : r < 0
  · exact .inl (decide_eq_true h)
  · obtain ⟨h1, h2⟩ := r2 (by omega)
    have h3 : ∀ s ∈ S, s.length ≤ 1048576 := fun s hs => by
      obtain ⟨i, hi, rfl⟩ := mem_sa hs
      have := len_fl hi
      omega
    exact .inr ⟨decide_eq_false h, to_angleSS h1 h3, eq_angleSS h1 h3, h1, h2⟩
include hS
theorem law_PortraitThatFails : laws_FnExactPortraitThatFails S = some true := by
  unfold laws_FnExactPortraitThatFails
  obtain ⟨r, r1, h⟩ := pre_ok hl hs
  rw [r1]
  simp only [Option.bind_some]
  rcases h with h | ⟨h, h1, h2, h3, h4⟩
  · rw [h]; rfl
  · obtain ⟨c, c1, c2⟩ := fails_told hS h3 h4
    rw [h, cond_false, h1]
    simp only [Option.bind_some, c1, c2, bne_self_eq_false, cond_false, h2, Bool.not_true]
theorem law_IsPortrait : laws_FnExactIsPortrait S = some true := by
  unfold laws_FnExactIsPortrait
  obtain ⟨r, r1, h⟩ := pre_ok hl hs
  rw [r1]
  simp only [Option.bind_some]
  rcases h with h | ⟨h, h1, h2, h3, h4⟩
  · rw [h]; rfl
  · obtain ⟨c, c1, c2⟩ := is_told hS h3 h4
    rw [h, cond_false, h1]
    simp only [Option.bind_some, c1, c2, BEq.rfl, Bool.not_true, cond_false, h2]
theorem law_ValenceOf : laws_FnExactValenceOf S = some true := by
  unfold laws_FnExactValenceOf
  obtain ⟨r, r1, h⟩ := pre_ok hl hs
  rw [r1]
  simp only [Option.bind_some]
  rcases h with h | ⟨h, h1, h2, h3, h4⟩
  · rw [h]; rfl
  · obtain ⟨c, c1, c2⟩ := valence_told hS h3 h4
    rw [h, cond_false, h1]
    simp only [Option.bind_some, c1, c2, bne_self_eq_false, cond_false, h2, Bool.not_true]
theorem law_RotationNumber : laws_FnExactRotationNumber S = some true := by
  unfold laws_FnExactRotationNumber
  obtain ⟨r, r1, h⟩ := pre_ok hl hs
  rw [r1]
  simp only [Option.bind_some]
  rcases h with h | ⟨h, h1, h2, h3, h4⟩
  · rw [h]; rfl
  · obtain ⟨c, c1, c2⟩ := rotation_told hS h3 h4
    rw [h, cond_false, h1]
    simp only [Option.bind_some, c1, c2, eq_angle, bne_self_eq_false, cond_false, h2, Bool.not_true]
end
end Go.K.Pure

