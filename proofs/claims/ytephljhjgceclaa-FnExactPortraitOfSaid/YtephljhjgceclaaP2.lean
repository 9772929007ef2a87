/- Part 2 of the plain law: the functions of the program as plain functions on lists and numbers, and what is shown of them; no condition. -/
import Derived.Test.YtephljhjgceclaaP1
set_option linter.all false
/- Plain laws of portraits, part I: sets that are linked. -/
set_option linter.unusedVariables false
set_option linter.unusedSimpArgs false
set_option linter.unusedSectionVars false
namespace Go.K.Pure
open Classical

/-- x is in the arc from a to b. -/
def Arc (a b x : Ang) : Prop := val a < val b ∧ val a < val x ∧ val x < val b ∨ ¬ val a < val b ∧ (val a < val x ∨ val x < val b)
theorem impl_order_arc {a b x : Ang} (ha : isA a) (hb : isA b) (hx : isA x) (h1 : val a ≠ val b) (h2 : val x ≠ val a) (h3 : val x ≠ val b) : ∃ o : Int, impl_order a x b = some o ∧ (o = 1 ↔ Arc a b x) := by
  refine ⟨_, impl_order_ok ha hx hb, ?_⟩
  have n1 : ¬ (a = x ∨ x = b ∨ a = b) := by
    rintro (e | e | e)
    · exact h2 (by rw [e])
    · exact h3 (by rw [e])
    · exact h1 (by rw [e])
  rw [if_neg n1]
  have a0 := val_nonneg ha
  have a1 := val_lt_KK ha
  have b0 := val_nonneg hb
  have b1 := val_lt_KK hb
  have x0 := val_nonneg hx
  have x1 := val_lt_KK hx
  unfold dv Arc
  split <;> split <;> (try split) <;> constructor <;> intro h <;> omega
theorem spec_within_arc {a b x : Ang} (ha : isA a) (hb : isA b) (hx : isA x) : spec_l01Within x a b = some (decide (Arc a b x)) := by
  have t1 := lt_val ha hb
  have t2 := lt_val ha hx
  have t3 := lt_val hx hb
  by_cases h : lt a b
  · rw [spec_within hx ha hb h]
    congr 1
    apply decide_eq_decide.2
    rw [t2, t3]
    rw [t1] at h
    unfold Arc
    constructor
    · intro h'; exact .inl ⟨h, h'.1, h'.2⟩
    · rintro (h' | h')
      · exact h'.2
      · exact absurd h h'.1
  · unfold spec_l01Within
    rw [spec_less ha hb, decide_eq_false h]
    simp only [Option.bind_some, cond_false]
    rw [spec_less ha hx]
    simp only [Option.bind_some]
    rw [t1] at h
    by_cases h2 : lt a x
    · rw [decide_eq_true h2, cond_true]
      congr 1
      exact (decide_eq_true (.inr ⟨h, .inl (t2.1 h2)⟩)).symm
    · rw [decide_eq_false h2, cond_false, spec_less hx hb]
      simp only [Option.bind_some]
      congr 1
      apply decide_eq_decide.2
      rw [t3]
      rw [t2] at h2
      unfold Arc
      constructor
      · intro h'; exact .inr ⟨h, .inr h'⟩
      · rintro (h' | h')
        · exact absurd h'.1 h
        · exact h'.2.elim (fun h' => absurd h' h2) id
/-- The arc behind a place. -/
def AtArc (o : List Ang) (i : Nat) (x : Ang) : Prop := Arc (ea o i) (ea o ((i + 1) % o.length)) x
section
variable {o : List Ang} (ho : AscL o) (hn : 2 ≤ o.length)
include ho hn
theorem atArc_mid {i : Nat} {x : Ang} (hi : i + 1 < o.length) : AtArc o i x ↔ val (ea o i) < val x ∧ val x < val (ea o (i + 1)) := by
  have := ho i hi
  unfold AtArc Arc
  rw [Nat.mod_eq_of_lt hi]
  omega
theorem atArc_last {x : Ang} : AtArc o (o.length - 1) x ↔ val (ea o (o.length - 1)) < val x ∨ val x < val (ea o 0) := by
  have := ascL_lt ho (i := 0) (j := o.length - 1) (by omega) (by omega)
  unfold AtArc Arc
  rw [show o.length - 1 + 1 = o.length by omega, Nat.mod_self]
  omega
theorem arc_some {x : Ang} (hx : ∀ j, j < o.length → val x ≠ val (ea o j)) : ∃ i, i < o.length ∧ AtArc o i x := by
  by_cases h0 : val (ea o 0) < val x
  · have key : ∀ k, k < o.length → (∃ i, i < k ∧ val (ea o i) < val x ∧ val x < val (ea o (i + 1))) ∨ val (ea o k) < val x := by
      intro k
      induction k with
      | zero => intro _; exact .inr h0
      | succ k ih =>
        intro hk
        rcases ih (by omega) with ⟨i, hi, h1, h2⟩ | h
        · exact .inl ⟨i, by omega, h1, h2⟩
        · by_cases h' : val (ea o (k + 1)) < val x
          · exact .inr h'
          · have := hx (k + 1) hk
            exact .inl ⟨k, by omega, h, by omega⟩
    rcases key (o.length - 1) (by omega) with ⟨i, hi, h1, h2⟩ | h
    · exact ⟨i, by omega, (atArc_mid ho hn (by omega)).2 ⟨h1, h2⟩⟩
    · exact ⟨o.length - 1, by omega, (atArc_last ho hn).2 (.inl h)⟩
  · have := hx 0 (by omega)
    exact ⟨o.length - 1, by omega, (atArc_last ho hn).2 (.inr (by omega))⟩
theorem arc_le {i j : Nat} (hij : i ≤ j) (hj : j < o.length) : val (ea o i) ≤ val (ea o j) := by
  rcases Nat.eq_or_lt_of_le hij with rfl | h
  · exact Int.le_refl _
  · exact Int.le_of_lt (ascL_lt ho h hj)
theorem arc_one {x : Ang} {i j : Nat} (hi : i < o.length) (hj : j < o.length) (h1 : AtArc o i x) (h2 : AtArc o j x) : i = j := by
  have key : ∀ i j, i < j → j < o.length → AtArc o i x → AtArc o j x → False := by
    intro i j hij hj h1 h2
    obtain ⟨p1, p2⟩ := (atArc_mid ho hn (show i + 1 < o.length by omega)).1 h1
    by_cases hl : j + 1 < o.length
    · obtain ⟨q1, q2⟩ := (atArc_mid ho hn hl).1 h2
      have := arc_le ho hn (show i + 1 ≤ j by omega) hj
      omega
    · have e : j = o.length - 1 := by omega
      subst e
      have r1 := arc_le ho hn (show i + 1 ≤ o.length - 1 by omega) (by omega)
      have r2 := arc_le ho hn (show 0 ≤ i by omega) (by omega)
      rcases (atArc_last ho hn).1 h2 with h | h <;> omega
  rcases Nat.lt_trichotomy i j with h | h | h
  · exact (key i j h hj h1 h2).elim
  · exact h
  · exact (key j i h hi h2 h1).elim
end
/-- All of a set are in one arc of another one. -/
def Unl (s o : List Ang) : Prop := ∃ i, i < o.length ∧ ∀ x ∈ s, AtArc o i x
theorem impl_allArc {xs : List Ang} {a b : Ang} (hv : ∀ x ∈ xs, isA x) (ha : isA a) (hb : isA b) (h1 : val a ≠ val b) (h2 : ∀ x ∈ xs, val x ≠ val a ∧ val x ≠ val b) (hl : xs.length ≤ 1048576) : impl_areAll_impl_Angle_v4 xs a b = some (decide (∀ x ∈ xs, Arc a b x)) := by
  unfold impl_areAll_impl_Angle_v4 slices_ContainsFunc__impl_Angle_impl_Angle_v4 slices_IndexFunc__impl_Angle_impl_Angle_v4
  have hL := loop_first (step := slices_IndexFunc__impl_Angle_impl_Angle_v4_l0) (fun i => (xs, (), (((), a, b, ()), ()), ((xs.length : Nat) : Int), (i : Int), ())) xs.length (.inr ()) (fun i => .inl ((i : Int), ())) (fun i => ¬ Arc a b (ea xs i)) (by
    intro i hi _
    simp only [slices_IndexFunc__impl_Angle_impl_Angle_v4_l0, impl_areAll_impl_Angle_f1_v4, impl_areUnlinked_f1, ltb hi, nn, Bool.and_self, cond_true, Int.toNat_natCast]
    have hm := h2 _ (ea_mem hi)
    obtain ⟨v, v1, v2⟩ := impl_order_arc ha hb (hv _ (ea_mem hi)) h1 hm.1 hm.2
    rw [show impl_order a (xs.getD i dA) b = some v from v1]
    simp only [Option.bind_some]
    by_cases h : Arc a b (ea xs i)
    · rw [sel_neg (fun h' => h' h), v2.2 h]
      rw [w64_succ (by omega)]
      rfl
    · have c : (v == 1) = false := beq_eq_false_iff_ne.2 fun e => h (v2.1 e)
      rw [sel_pos h, c]
      rfl) (by
    intro _
    simp only [slices_IndexFunc__impl_Angle_impl_Angle_v4_l0, nltb (Nat.lt_irrefl xs.length), cond_false])
  rcases hL with ⟨i, hi, hp, hL⟩ | ⟨hp, hL⟩
  · have t' : loop slices_IndexFunc__impl_Angle_impl_Angle_v4_l0 (xs, (), (((), a, b, ()), ()), ((xs.length : Nat) : Int), (0 : Int), ()) = _ := hL
    rw [t', decide_eq_false (fun h => hp (h _ (ea_mem hi)))]
    simp only [Option.bind_some, alt]
    have : decide ((i : Int) ≥ 0) = true := decide_eq_true (by omega)
    rw [this]; rfl
  · have t' : loop slices_IndexFunc__impl_Angle_impl_Angle_v4_l0 (xs, (), (((), a, b, ()), ()), ((xs.length : Nat) : Int), (0 : Int), ()) = _ := hL
    rw [t', decide_eq_true (fun x hx => by
      obtain ⟨i, hi, rfl⟩ := mem_ea hx
      exact Classical.byContradiction (hp i hi))]
    rfl
theorem impl_unl {s o : List Ang} (hs : ∀ x ∈ s, isA x) (ho : Asc o) (h0 : 0 < o.length) (hsl : s.length ≤ 64) (hol : o.length ≤ 64) (hd : ∀ x ∈ s, ¬ x ∈ o) : impl_areUnlinked s o = some (decide (o.length = 1 ∨ Unl s o)) := by
  unfold impl_areUnlinked
  have e1 : (((o.length : Nat) : Int) == 1) = decide (o.length = 1) := eq_nat (m := 1)
  rw [e1]
  by_cases h1 : o.length = 1
  · rw [decide_eq_true h1, cond_true, decide_eq_true (Or.inl h1)]
  rw [decide_eq_false h1, cond_false]
  have hA := (asc_iff ho.1).1 ho
  have hx : ∀ x ∈ s, ∀ j, j < o.length → val x ≠ val (ea o j) := fun x hx j hj e => hd x hx (by rw [val_inj (hs x hx) (ho.1 _ (ea_mem hj)) e]; exact ea_mem hj)
  have hL := loop_any (step := impl_areUnlinked_l0) (fun i => (s, o, o, ((o.length : Nat) : Int), (i : Int), ())) o.length (.inr ()) (.inl (true, ())) (fun i => ∀ x ∈ s, AtArc o i x) (by
    intro i hi _
    have hm : (i + 1) % o.length < o.length := Nat.mod_lt _ h0
    simp only [impl_areUnlinked_l0, ltb hi, nn, Bool.and_self, cond_true, Int.toNat_natCast, w64_succ (show i < 4611686018427387904 by omega)]
    rw [impl_at_ok h0]
    simp only [Option.bind_some]
    have hne : val (ea o i) ≠ val (ea o ((i + 1) % o.length)) := fun e => by
      have e2 := asc_at ho hi hm (val_inj (ho.1 _ (ea_mem hi)) (ho.1 _ (ea_mem hm)) e)
      by_cases hl : i + 1 < o.length
      · rw [Nat.mod_eq_of_lt hl] at e2; omega
      · rw [show i + 1 = o.length by omega, Nat.mod_self] at e2; omega
    rw [show impl_areAll_impl_Angle_v4 s (o.getD i dA) (ea o ((i + 1) % o.length)) = some (decide (∀ x ∈ s, AtArc o i x)) from impl_allArc hs (ho.1 _ (ea_mem hi)) (ho.1 _ (ea_mem hm)) hne (fun x hx' => ⟨hx x hx' i hi, hx x hx' _ hm⟩) (by omega)]
    simp only [Option.bind_some]
    by_cases h : ∀ x ∈ s, AtArc o i x
    · rw [sel_pos h, decide_eq_true h, cond_true]
    · rw [sel_neg h, decide_eq_false h, cond_false]) (by
    intro _
    simp only [impl_areUnlinked_l0, nltb (Nat.lt_irrefl o.length), cond_false])
  have t' : loop impl_areUnlinked_l0 (s, o, o, ((o.length : Nat) : Int), (0 : Int), ()) = some (sel (Unl s o) (.inl (true, ())) (.inr ())) := hL
  rw [t']
  by_cases h : Unl s o
  · rw [sel_pos h, decide_eq_true (Or.inr h)]; rfl
  · rw [sel_neg h, decide_eq_false (fun h' => h'.elim h1 h)]; rfl
/-- How many of the first are in an arc. -/
noncomputable def cn (p : Ang → Prop) (s : List Ang) : Nat → Nat
  | 0 => 0
  | k + 1 => cn p s k + sel (p (ea s k)) 1 0
theorem cn_le {p : Ang → Prop} {s : List Ang} : ∀ k, cn p s k ≤ k ∧ (0 < cn p s k ↔ ∃ j, j < k ∧ p (ea s j)) ∧ (cn p s k < k ↔ ∃ j, j < k ∧ ¬ p (ea s j))
  | 0 => ⟨Nat.le_refl _, ⟨fun h => absurd h (Nat.lt_irrefl 0), fun ⟨j, h, _⟩ => by omega⟩, ⟨fun h => by omega, fun ⟨j, h, _⟩ => by omega⟩⟩
  | k + 1 => by
    obtain ⟨h1, h2, h3⟩ := cn_le (p := p) (s := s) k
    by_cases h : p (ea s k)
    · have e : cn p s (k + 1) = cn p s k + 1 := by rw [cn, sel_pos h]
      rw [e]
      refine ⟨by omega, ⟨fun _ => ⟨k, by omega, h⟩, fun _ => by omega⟩, ?_⟩
      rw [Nat.add_lt_add_iff_right, h3]
      constructor
      · rintro ⟨j, hj, h'⟩; exact ⟨j, by omega, h'⟩
      · rintro ⟨j, hj, h'⟩
        by_cases e2 : j = k
        · subst e2; exact absurd h h'
        · exact ⟨j, by omega, h'⟩
    · have e : cn p s (k + 1) = cn p s k := by rw [cn, sel_neg h, Nat.add_zero]
      rw [e]
      refine ⟨by omega, ?_, ⟨fun _ => ⟨k, by omega, h⟩, fun _ => by omega⟩⟩
      rw [h2]
      constructor
      · rintro ⟨j, hj, h'⟩; exact ⟨j, by omega, h'⟩
      · rintro ⟨j, hj, h'⟩
        by_cases e2 : j = k
        · subst e2; exact absurd h' h
        · exact ⟨j, by omega, h'⟩
def Lnk (s o : List Ang) : Prop := ∃ i, i < o.length ∧ (∃ j, j < s.length ∧ AtArc o i (ea s j)) ∧ ∃ j, j < s.length ∧ ¬ AtArc o i (ea s j)
theorem spec_lnk {s o : List Ang} (hs : ∀ x ∈ s, isA x) (ho : ∀ x ∈ o, isA x) (h0 : 0 < o.length) (hsl : s.length ≤ 64) (hol : o.length ≤ 64) : spec_l07Linked s o = some (decide (o.length ≠ 1 ∧ Lnk s o)) := by
  unfold spec_l07Linked
  have e1 : (((o.length : Nat) : Int) == 1) = decide (o.length = 1) := eq_nat (m := 1)
  rw [e1]
  by_cases h1 : o.length = 1
  · rw [decide_eq_true h1, cond_true, decide_eq_false (fun h => h.1 h1)]
  rw [decide_eq_false h1, cond_false]
  have hin : ∀ i, i < o.length → loop spec_l07Linked_l1 (s, o, ((o.length : Nat) : Int), (i : Int), (0 : Int), (0 : Int), ()) = some (s, o, ((o.length : Nat) : Int), (i : Int), ((cn (AtArc o i) s s.length : Nat) : Int), ()) := by
    intro i hi
    have hm : (i + 1) % o.length < o.length := Nat.mod_lt _ h0
    exact loop_count (step := spec_l07Linked_l1) (fun k => (s, o, ((o.length : Nat) : Int), (i : Int), ((cn (AtArc o i) s k : Nat) : Int), (k : Int), ())) s.length (s, o, ((o.length : Nat) : Int), (i : Int), ((cn (AtArc o i) s s.length : Nat) : Int), ()) (by
      intro k hk
      have hc := (cn_le (p := AtArc o i) (s := s) k).1
      simp only [spec_l07Linked_l1, ltb hk, ltb hi, nn, Bool.and_self, cond_true, Int.toNat_natCast, w64_succ (show i < 4611686018427387904 by omega), e0_false h0, Bool.not_false, tmod_nat, ltb hm]
      rw [show spec_l01Within (s.getD k dA) (o.getD i dA) (o.getD ((i + 1) % o.length) dA) = some (decide (AtArc o i (ea s k))) from spec_within_arc (ho _ (ea_mem hi)) (ho _ (ea_mem hm)) (hs _ (ea_mem hk))]
      simp only [Option.bind_some]
      by_cases h : AtArc o i (ea s k)
      · rw [decide_eq_true h, cond_true, w64_succ (by omega), w64_succ (by omega)]
        have e : cn (AtArc o i) s (k + 1) = cn (AtArc o i) s k + 1 := by rw [cn, sel_pos h]
        rw [e]
      · rw [decide_eq_false h, cond_false, w64_succ (by omega)]
        have e : cn (AtArc o i) s (k + 1) = cn (AtArc o i) s k := by rw [cn, sel_neg h, Nat.add_zero]
        rw [e]) (by simp only [spec_l07Linked_l1, nltb (Nat.lt_irrefl s.length), cond_false]) 0 (Nat.zero_le _)
  have hL := loop_any (step := spec_l07Linked_l0) (fun i => (s, o, ((o.length : Nat) : Int), (i : Int), ())) o.length (.inr ()) (.inl (true, ())) (fun i => (∃ j, j < s.length ∧ AtArc o i (ea s j)) ∧ ∃ j, j < s.length ∧ ¬ AtArc o i (ea s j)) (by
    intro i hi _
    simp only [spec_l07Linked_l0, ltb hi, cond_true]
    rw [hin i hi]
    obtain ⟨c1, c2, c3⟩ := cn_le (p := AtArc o i) (s := s) s.length
    simp only [Option.bind_some]
    by_cases hp : 0 < cn (AtArc o i) s s.length
    · rw [decide_eq_true (show ((cn (AtArc o i) s s.length : Nat) : Int) > 0 by omega), cond_true]
      by_cases hq : cn (AtArc o i) s s.length < s.length
      · rw [ltb hq, cond_true, sel_pos ⟨c2.1 hp, c3.1 hq⟩]
      · rw [nltb hq, cond_false, sel_neg (fun h => hq (c3.2 h.2)), w64_succ (by omega)]
    · rw [decide_eq_false (show ¬ ((cn (AtArc o i) s s.length : Nat) : Int) > 0 by omega), cond_false, sel_neg (fun h => hp (c2.2 h.1)), w64_succ (by omega)]) (by
    intro _
    simp only [spec_l07Linked_l0, nltb (Nat.lt_irrefl o.length), cond_false])
  have t' : loop spec_l07Linked_l0 (s, o, ((o.length : Nat) : Int), (0 : Int), ()) = some (sel (Lnk s o) (.inl (true, ())) (.inr ())) := hL
  rw [t']
  by_cases h : Lnk s o
  · rw [sel_pos h, decide_eq_true (And.intro h1 h)]; rfl
  · rw [sel_neg h, decide_eq_false (fun h' => h h'.2)]; rfl
theorem unl_lnk {s o : List Ang} (hs : ∀ x ∈ s, isA x) (ho : Asc o) (h0 : 0 < o.length) (hs0 : 0 < s.length) (hd : ∀ x ∈ s, ¬ x ∈ o) : (o.length = 1 ∨ Unl s o) ↔ ¬ (o.length ≠ 1 ∧ Lnk s o) := by
  by_cases h1 : o.length = 1
  · exact ⟨fun _ h => h.1 h1, fun _ => .inl h1⟩
  have hn : 2 ≤ o.length := by omega
  have hA := (asc_iff ho.1).1 ho
  have hx : ∀ x ∈ s, ∀ j, j < o.length → val x ≠ val (ea o j) := fun x hx j hj e => hd x hx (by rw [val_inj (hs x hx) (ho.1 _ (ea_mem hj)) e]; exact ea_mem hj)
  constructor
  · rintro (h | ⟨i, hi, h⟩) ⟨_, i', hi', ⟨j, hj, hj2⟩, k, hk, hk2⟩
    · exact h1 h
    · have := arc_one hA hn hi hi' (h _ (ea_mem hj)) hj2
      subst this
      exact hk2 (h _ (ea_mem hk))
  · intro h
    right
    obtain ⟨i, hi, hi2⟩ := arc_some hA hn (hx _ (ea_mem hs0))
    refine ⟨i, hi, fun x hx' => ?_⟩
    obtain ⟨j, hj, rfl⟩ := mem_ea hx'
    exact Classical.byContradiction fun hn => h ⟨h1, i, hi, ⟨0, hs0, hi2⟩, j, hj, hn⟩
section
variable {S : AA} (g : Good S) (hap : ApartS S)
include g hap
theorem apart2 {i k : Nat} (hi : i < S.length) (hk : k < S.length) (hne : i ≠ k) : ∀ x ∈ sa S i, ¬ x ∈ sa S k := by
  intro x hx hxk
  obtain ⟨j, hj, rfl⟩ := mem_ea hx
  rcases Nat.lt_or_gt_of_ne hne with h | h
  · obtain ⟨j', hj', e⟩ := mem_ea hxk
    exact hap k hk i h j' hj' (by rw [e]; exact ea_mem hj)
  · exact hap i hi k h j hj hxk
theorem impl_link5 : loop impl_fails_l2 (S, S, ((S.length : Nat) : Int), (0 : Int), ()) = some (sel (∃ i, i < S.length ∧ ∃ k, k < S.length ∧ i ≠ k ∧ ¬ ((sa S k).length = 1 ∨ Unl (sa S i) (sa S k))) (.inl (5, ())) (.inr ())) := by
  have h12 := g.most
  have hin : ∀ i, i < S.length → loop impl_fails_l3 (S, (i : Int), sa S i, S, ((S.length : Nat) : Int), (i : Int), sa S i, sa S i, S, ((S.length : Nat) : Int), (0 : Int), ()) = some (sel (∃ k, k < S.length ∧ i ≠ k ∧ ¬ ((sa S k).length = 1 ∨ Unl (sa S i) (sa S k))) (.inl (5, ())) (.inr (S, S, ((S.length : Nat) : Int), (i : Int), ()))) := by
    intro i hi
    exact loop_any (step := impl_fails_l3) (fun k => (S, (i : Int), sa S i, S, ((S.length : Nat) : Int), (i : Int), sa S i, sa S i, S, ((S.length : Nat) : Int), (k : Int), ())) S.length (.inr (S, S, ((S.length : Nat) : Int), (i : Int), ())) (.inl (5, ())) (fun k => i ≠ k ∧ ¬ ((sa S k).length = 1 ∨ Unl (sa S i) (sa S k))) (by
      intro k hk _
      simp only [impl_fails_l3, ltb hk, nn, Bool.and_self, cond_true, Int.toNat_natCast, bne, eq_nat]
      by_cases he : i = k
      · rw [decide_eq_true he, Bool.not_true, cond_false, sel_neg (fun h => h.1 he), w64_succ (by omega)]
      · rw [decide_eq_false he, Bool.not_false, cond_true]
        rw [show impl_areUnlinked (sa S i) (S.getD k []) = some (decide ((sa S k).length = 1 ∨ Unl (sa S i) (sa S k))) from impl_unl (fun x hx => g.ang _ (sa_mem hi) x hx) (g.asc hk) (g.ne hk) (g.len hi) (g.len hk) (apart2 g hap hi hk he)]
        simp only [Option.bind_some]
        by_cases h : (sa S k).length = 1 ∨ Unl (sa S i) (sa S k)
        · rw [decide_eq_true h, Bool.not_true, cond_false, sel_neg (fun h' => h'.2 h), w64_succ (by omega)]
        · rw [decide_eq_false h, Bool.not_false, cond_true, sel_pos ⟨he, h⟩]) (by
      intro _
      simp only [impl_fails_l3, nltb (Nat.lt_irrefl S.length), cond_false])
  exact loop_any (step := impl_fails_l2) (fun i => (S, S, ((S.length : Nat) : Int), (i : Int), ())) S.length (.inr ()) (.inl (5, ())) (fun i => ∃ k, k < S.length ∧ i ≠ k ∧ ¬ ((sa S k).length = 1 ∨ Unl (sa S i) (sa S k))) (by
    intro i hi _
    simp only [impl_fails_l2, ltb hi, nn, Bool.and_self, cond_true, Int.toNat_natCast]
    rw [show loop impl_fails_l3 (S, (i : Int), S.getD i [], S, ((S.length : Nat) : Int), (i : Int), S.getD i [], S.getD i [], S, ((S.length : Nat) : Int), (0 : Int), ()) = _ from hin i hi]
    by_cases h : ∃ k, k < S.length ∧ i ≠ k ∧ ¬ ((sa S k).length = 1 ∨ Unl (sa S i) (sa S k))
    · rw [sel_pos h, sel_pos h]; rfl
    · rw [sel_neg h, sel_neg h]
      simp only [Option.bind_some, alt]
      rw [w64_succ (by omega)]) (by
    intro _
    simp only [impl_fails_l2, nltb (Nat.lt_irrefl S.length), cond_false])
omit hap in
theorem spec_link5 : loop spec_l07Fails_l4 (S, ((S.length : Nat) : Int), (0 : Int), ()) = some (sel (∃ i, i < S.length ∧ ∃ k, k < S.length ∧ i ≠ k ∧ ((sa S k).length ≠ 1 ∧ Lnk (sa S i) (sa S k))) (.inl (5, ())) (.inr ())) := by
  have h12 := g.most
  have hin : ∀ i, i < S.length → loop spec_l07Fails_l5 (S, ((S.length : Nat) : Int), (i : Int), (0 : Int), ()) = some (sel (∃ k, k < S.length ∧ i ≠ k ∧ ((sa S k).length ≠ 1 ∧ Lnk (sa S i) (sa S k))) (.inl (5, ())) (.inr (S, ((S.length : Nat) : Int), (i : Int), ()))) := by
    intro i hi
    exact loop_any (step := spec_l07Fails_l5) (fun k => (S, ((S.length : Nat) : Int), (i : Int), (k : Int), ())) S.length (.inr (S, ((S.length : Nat) : Int), (i : Int), ())) (.inl (5, ())) (fun k => i ≠ k ∧ ((sa S k).length ≠ 1 ∧ Lnk (sa S i) (sa S k))) (by
      intro k hk _
      simp only [spec_l07Fails_l5, ltb hk, ltb hi, nn, Bool.and_self, cond_true, Int.toNat_natCast, bne, eq_nat]
      by_cases he : i = k
      · rw [decide_eq_true he, Bool.not_true, cond_false, sel_neg (fun h => h.1 he), w64_succ (by omega)]
      · rw [decide_eq_false he, Bool.not_false, cond_true]
        rw [show spec_l07Linked (S.getD i []) (S.getD k []) = some (decide ((sa S k).length ≠ 1 ∧ Lnk (sa S i) (sa S k))) from spec_lnk (fun x hx => g.ang _ (sa_mem hi) x hx) (fun x hx => g.ang _ (sa_mem hk) x hx) (g.ne hk) (g.len hi) (g.len hk)]
        simp only [Option.bind_some]
        by_cases h : (sa S k).length ≠ 1 ∧ Lnk (sa S i) (sa S k)
        · rw [decide_eq_true h, cond_true, sel_pos ⟨he, h⟩]
        · rw [decide_eq_false h, cond_false, sel_neg (fun h' => h h'.2), w64_succ (by omega)]) (by
      intro _
      simp only [spec_l07Fails_l5, nltb (Nat.lt_irrefl S.length), cond_false])
  exact loop_any (step := spec_l07Fails_l4) (fun i => (S, ((S.length : Nat) : Int), (i : Int), ())) S.length (.inr ()) (.inl (5, ())) (fun i => ∃ k, k < S.length ∧ i ≠ k ∧ ((sa S k).length ≠ 1 ∧ Lnk (sa S i) (sa S k))) (by
    intro i hi _
    simp only [spec_l07Fails_l4, ltb hi, cond_true]
    rw [hin i hi]
    by_cases h : ∃ k, k < S.length ∧ i ≠ k ∧ ((sa S k).length ≠ 1 ∧ Lnk (sa S i) (sa S k))
    · rw [sel_pos h, sel_pos h]; rfl
    · rw [sel_neg h, sel_neg h]
      simp only [Option.bind_some, alt]
      rw [w64_succ (by omega)]) (by
    intro _
    simp only [spec_l07Fails_l4, nltb (Nat.lt_irrefl S.length), cond_false])
theorem link_iff : (∃ i, i < S.length ∧ ∃ k, k < S.length ∧ i ≠ k ∧ ¬ ((sa S k).length = 1 ∨ Unl (sa S i) (sa S k))) ↔ ∃ i, i < S.length ∧ ∃ k, k < S.length ∧ i ≠ k ∧ ((sa S k).length ≠ 1 ∧ Lnk (sa S i) (sa S k)) := by
  constructor
  · rintro ⟨i, hi, k, hk, he, h⟩
    have := unl_lnk (fun x hx => g.ang _ (sa_mem hi) x hx) (g.asc hk) (g.ne hk) (g.ne hi) (apart2 g hap hi hk he)
    exact ⟨i, hi, k, hk, he, Classical.byContradiction fun h' => h (this.2 h')⟩
  · rintro ⟨i, hi, k, hk, he, h⟩
    have := unl_lnk (fun x hx => g.ang _ (sa_mem hi) x hx) (g.asc hk) (g.ne hk) (g.ne hi) (apart2 g hap hi hk he)
    exact ⟨i, hi, k, hk, he, fun h' => this.1 h' h⟩
end
end Go.K.Pure

/- Plain laws of portraits, part Jp: what fails is the same. -/
set_option linter.unusedVariables false
set_option linter.unusedSimpArgs false
namespace Go.K.Pure
open Classical

theorem flat_take_drop {S : AA} : ((S.take ((S.length : Nat) : Int).toNat).drop (1 : Int).toNat) = S.drop 1 := by
  rw [Int.toNat_natCast, List.take_length]; rfl
/-- The first condition that fails is the same. -/
theorem fails_same {S : AA} (g : Good S) : ∃ c : Int, impl_fails S = some c ∧ spec_l07Fails S = some c ∧ (c = 0 → ∀ i, i < S.length → Lead (sa S i) (nx S i)) := by
  have h12 := g.most
  have h1 := g.one
  have h64 := g.all
  unfold impl_fails spec_l07Fails
  rw [concat_ok (by omega) (by omega), spec_apart (by omega) (by omega)]
  simp only [Option.bind_some]
  obtain ⟨zs, z1, z2⟩ := sorted_len g.flat (by omega)
  rw [z1]
  simp only [Option.bind_some, bne, eq_nat]
  rw [g.apart] at z2
  by_cases hap : ApartS S
  rotate_left
  · rw [decide_eq_false (fun h => hap (z2.1 h)), decide_eq_false hap]
    exact ⟨1, rfl, rfl, fun h => by omega⟩
  rw [decide_eq_true (z2.2 hap), decide_eq_true hap]
  simp only [Bool.not_true, cond_false]
  have c1 : (((decide ((0 : Int) ≤ (1 : Int))) && (decide ((1 : Int) ≤ ((S.length : Nat) : Int)))) && (decide (((S.length : Nat) : Int) ≤ ((S.length : Nat) : Int)))) = true := by
    simp only [Bool.and_eq_true, decide_eq_true_eq]; omega
  have c2 : (decide ((0 : Int) ≤ (0 : Int)) && decide ((0 : Int) < ((S.length : Nat) : Int))) = true := inb h1
  have hcl : slices_Clone___impl_Angle__impl_Angle (S.drop 1) = some (S.drop 1) := by
    unfold slices_Clone___impl_Angle__impl_Angle cloneOf
    have : decide ((S.drop 1).length * 24 ≤ 140737488355328) = true := decide_eq_true (by simp; omega)
    rw [this]; rfl
  rw [c1, cond_true, flat_take_drop, hcl]
  simp only [Option.bind_some]
  rw [c2, cond_true]
  have c3 : decide (((S.drop 1).length + [S.getD (0 : Int).toNat []].length) * 24 ≤ 140737488355328) = true := decide_eq_true (by simp; omega)
  rw [c3, cond_true]
  rw [show loop impl_fails_l0 (S, S.flatten, S.drop 1 ++ [S.getD (0 : Int).toNat []], S, ((S.length : Nat) : Int), (0 : Int), ()) = _ from impl_led2 g, spec_led2 g, sel_congr (led_iff g)]
  by_cases h2 : ∃ i, i < S.length ∧ ¬ Lead (sa S i) (nx S i)
  · rw [sel_pos h2, sel_pos h2]
    exact ⟨2, rfl, rfl, fun h => by omega⟩
  rw [sel_neg h2, sel_neg h2]
  have hd : ∀ i, i < S.length → Lead (sa S i) (nx S i) := fun i hi => Classical.byContradiction fun h => h2 ⟨i, hi, h⟩
  simp only [Option.bind_some, alt]
  rw [impl_keep3 g hd, spec_keep3 g hd]
  by_cases h3 : ∃ i, i < S.length ∧ ¬ Keep (sa S i) (nx S i)
  · rw [sel_pos h3, sel_pos h3]
    exact ⟨3, rfl, rfl, fun h => by omega⟩
  rw [sel_neg h3, sel_neg h3]
  simp only [Option.bind_some, alt]
  rw [impl_periodic_ok g.flat (by omega) (flat_pos g), spec_per4 g, sel_congr (per_iff _)]
  simp only [Option.bind_some]
  by_cases h4 : ∀ x ∈ S.flatten, PerOK x (ob (ea S.flatten 0)).1.length
  rotate_left
  · rw [decide_eq_false h4, sel_pos h4]
    exact ⟨4, rfl, rfl, fun h => by omega⟩
  rw [decide_eq_true h4, sel_neg (fun h => h h4)]
  simp only [Bool.not_true, cond_false, Option.bind_some, alt]
  rw [impl_link5 g hap, spec_link5 g, sel_congr (link_iff g hap)]
  by_cases h5 : ∃ i, i < S.length ∧ ∃ k, k < S.length ∧ i ≠ k ∧ ((sa S k).length ≠ 1 ∧ Lnk (sa S i) (sa S k))
  · rw [sel_pos h5]
    exact ⟨5, rfl, rfl, fun h => by omega⟩
  · rw [sel_neg h5]
    exact ⟨0, rfl, rfl, fun _ => hd⟩
section
variable {S : AA} (hS : ∀ s ∈ S, ∀ x ∈ s, InA x) (hl : S.length ≤ 1048576) (hJ : S.flatten.length ≤ 1048576)
include hS hl hJ
/-- What the reference's tests give, and what the program's gives. -/
theorem told_same : ∃ l : Int, spec_l07Lists S = some l ∧ (l = 0 → Good S) ∧ (∀ c : Int, l = 0 → spec_l07Fails S = some c → impl_PortraitThatFails S = some (c, 0)) ∧ (l ≠ 0 → impl_PortraitThatFails S = some (0, l)) := by
  have hx : ∀ x ∈ S.flatten, InA x := fun x hx => by
    obtain ⟨s, hs, hx⟩ := List.mem_flatten.1 hx
    exact hS s hs x hx
  rw [spec_lists hS hl hJ]
  have e : ∀ o, impl_PortraitThatFails S = o ↔ ((impl_anglesCode S.flatten).bind fun r1 => bif (r1 != (0 : Int)) then some ((0 : Int), r1) else (impl_areSets S).bind fun r2 => bif (!r2) then some ((0 : Int), (2 : Int)) else (impl_fails S).bind fun r3 => some (r3, (0 : Int))) = o := by
    intro o
    unfold impl_PortraitThatFails
    rw [concat_ok hl hJ]
    rfl
  by_cases hall : ∀ s ∈ S, ∀ x ∈ s, isA x
  rotate_left
  · rw [sel_neg hall]
    refine ⟨1, rfl, fun h => by omega, fun _ h => by omega, fun _ => ?_⟩
    rw [e, impl_code hx hJ, sel_neg (fun h => hall fun s hs x hx => h x (List.mem_flatten.2 ⟨s, hs, hx⟩))]
    rfl
  rw [sel_pos hall]
  have hc : impl_anglesCode S.flatten = some 0 := by
    rw [impl_code hx hJ, sel_pos (fun x hx => by
      obtain ⟨s, hs, hx⟩ := List.mem_flatten.1 hx
      exact hall s hs x hx)]
  by_cases hg : 1 ≤ S.length ∧ S.length ≤ 12 ∧ S.flatten.length ≤ 64 ∧ SetsOK S
  rotate_left
  · rw [sel_neg hg]
    refine ⟨2, rfl, fun h => by omega, fun _ h => by omega, fun _ => ?_⟩
    rw [e, hc]
    simp only [Option.bind_some, bne_self_eq_false, cond_false]
    rw [impl_sets hall hl hJ, decide_eq_false hg]
    rfl
  rw [sel_pos hg]
  have g : Good S := ⟨hall, hg.1, hg.2.1, hg.2.2.1, hg.2.2.2⟩
  refine ⟨0, rfl, fun _ => g, fun c _ hf => ?_, fun h => absurd rfl h⟩
  rw [e, hc]
  simp only [Option.bind_some, bne_self_eq_false, cond_false]
  rw [impl_sets hall hl hJ, decide_eq_true hg]
  obtain ⟨c', c1, c2, _⟩ := fails_same g
  rw [c2] at hf
  cases hf
  simp only [Option.bind_some, Bool.not_true, cond_false, c1]
theorem l07_told : ∃ b : Bool, spec_l07Is S = some b ∧ impl_IsPortrait S = some b := by
  obtain ⟨l, l1, l2, l3, l4⟩ := told_same hS hl hJ
  unfold spec_l07Is impl_IsPortrait
  rw [l1]
  simp only [Option.bind_some]
  by_cases h : l = 0
  · subst h
    obtain ⟨c, c1, c2, _⟩ := fails_same (l2 rfl)
    rw [c2, l3 c rfl c2]
    exact ⟨c == 0, rfl, rfl⟩
  · have : (l == 0) = false := by simpa using h
    rw [l4 h]
    simp only [Option.bind_some, this]
    exact ⟨false, rfl, rfl⟩
end
end Go.K.Pure

/- Plain laws of portraits, part Mi: an angle put into a list in order. -/
set_option linter.all false
namespace Go.K.Pure
open Classical
theorem spec_insert {xs : List Ang} {a : Ang} (hx : Asc xs) (ha : isA a) (hl : xs.length ≤ 1000000) : ∃ ys, spec_l01Insert xs a = some ys ∧ Asc ys ∧ (∀ b, b ∈ ys ↔ b ∈ xs ∨ b = a) ∧ ys.length ≤ xs.length + 1 ∧ xs.length ≤ ys.length := by
  -- where it belongs
  obtain ⟨r, h1, k, hk, rfl, h2, h3⟩ := loop_inv (step := spec_l01Insert_l0) (fun s => ∃ k : Nat, k ≤ xs.length ∧ s = (xs, a, (k : Int), ()) ∧ ∀ j, j < k → val (ea xs j) < val a) (fun s => xs.length - s.2.2.1.toNat)
    (fun b => ∃ k : Nat, k ≤ xs.length ∧ b = (xs, a, (k : Int), ()) ∧ (∀ j, j < k → val (ea xs j) < val a) ∧ (k < xs.length → ¬ val (ea xs k) < val a)) (by
    rintro _ ⟨k, hk, rfl, hj⟩
    by_cases h : k < xs.length
    · simp only [spec_l01Insert_l0, ltb h, nn, Bool.and_self, cond_true, Int.toNat_natCast]
      rw [spec_less (hx.1 _ (ea_mem h)) ha]
      simp only [Option.bind_some]
      have hv := lt_val (hx.1 _ (ea_mem h)) ha
      by_cases hlt : lt (ea xs k) a
      · right
        refine ⟨_, by rw [decide_eq_true hlt, cond_true, w64_succ (by omega)], ⟨k + 1, by omega, rfl, fun j hj' => ?_⟩, by simp; omega⟩
        by_cases e : j = k
        · subst e; exact hv.1 hlt
        · exact hj j (by omega)
      · left
        exact ⟨_, by rw [decide_eq_false hlt, cond_false], k, hk, rfl, hj, fun _ hh => hlt (hv.2 hh)⟩
    · left
      have : k = xs.length := by omega
      subst this
      exact ⟨_, by simp only [spec_l01Insert_l0, nltb h, cond_false], _, Nat.le_refl _, rfl, hj, fun hh => absurd hh h⟩) (xs, a, (0 : Int), ()) ⟨0, by omega, rfl, fun j h => by omega⟩
  have hlow : ∀ x ∈ xs.take k, val x < val a := by
    intro x hx'
    obtain ⟨j, hj, rfl⟩ := List.getElem_of_mem hx'
    have hj1 : j < k := by simp at hj; omega
    have := h2 j hj1
    rw [ea, getD_at (by omega)] at this
    simpa using this
  have hput : ∀ (hne : k < xs.length → ea xs k ≠ a), Asc (xs.take k ++ (a :: xs.drop k)) ∧ (∀ b, b ∈ xs.take k ++ (a :: xs.drop k) ↔ b ∈ xs ∨ b = a) := by
    intro hne
    have hmem : ∀ b, b ∈ xs.take k ++ (a :: xs.drop k) ↔ b ∈ xs ∨ b = a := by
      intro b
      conv => rhs; rw [← List.take_append_drop k xs]
      simp only [List.mem_append, List.mem_cons]
      constructor
      · rintro (h | h | h)
        · exact .inl (.inl h)
        · exact .inr h
        · exact .inl (.inr h)
      · rintro ((h | h) | h)
        · exact .inl h
        · exact .inr (.inr h)
        · exact .inr (.inl h)
    have hhigh : ∀ x ∈ xs.drop k, val a < val x := by
      intro x hx'
      have hkl : k < xs.length := by
        rcases Nat.lt_or_ge k xs.length with h | h
        · exact h
        · rw [List.drop_of_length_le h] at hx'; cases hx'
      have h4 := h3 hkl
      have h5 : val (ea xs k) ≠ val a := fun e => hne hkl (val_inj (hx.1 _ (ea_mem hkl)) ha e)
      rw [List.drop_eq_getElem_cons hkl] at hx'
      have e1 : ea xs k = xs[k] := getD_at hkl
      rcases List.mem_cons.1 hx' with h | h
      · rw [h, ← e1]; omega
      · have hp := hx.2
        rw [← List.take_append_drop k xs, List.drop_eq_getElem_cons hkl, List.pairwise_append] at hp
        have := (List.pairwise_cons.1 hp.2.1).1 x h
        rw [← e1] at this
        omega
    refine ⟨⟨fun x hx' => ?_, ?_⟩, hmem⟩
    · rcases (hmem x).1 hx' with h | h
      · exact hx.1 x h
      · rw [h]; exact ha
    · rw [List.pairwise_append]
      have hp := hx.2
      rw [← List.take_append_drop k xs, List.pairwise_append] at hp
      refine ⟨hp.1, List.pairwise_cons.2 ⟨hhigh, hp.2.1⟩, fun x hx' y hy => ?_⟩
      rcases List.mem_cons.1 hy with h | h
      · rw [h]; exact hlow x hx'
      · exact hp.2.2 x hx' y h
  have hres : ∀ (hne : k < xs.length → ea xs k ≠ a) {o : Option (List Ang)}, o = some (xs.take k ++ (a :: xs.drop k)) → ∃ ys, o = some ys ∧ Asc ys ∧ (∀ b, b ∈ ys ↔ b ∈ xs ∨ b = a) ∧ ys.length ≤ xs.length + 1 ∧ xs.length ≤ ys.length := by
    intro hne o ho
    obtain ⟨p1, p2⟩ := hput hne
    exact ⟨_, ho, p1, p2, by simp; omega, by simp; omega⟩
  have c1 : (((decide ((0 : Int) ≤ (k : Int))) && (decide ((k : Int) ≤ ((xs.length : Nat) : Int)))) && (decide (((xs.length : Nat) : Int) ≤ ((xs.length : Nat) : Int)))) = true := by
    simp only [Bool.and_eq_true, decide_eq_true_eq]; omega
  have c2 : (((decide ((0 : Int) ≤ (0 : Int))) && (decide ((0 : Int) ≤ (k : Int)))) && (decide ((k : Int) ≤ ((xs.length : Nat) : Int)))) = true := by
    simp only [Bool.and_eq_true, decide_eq_true_eq]; omega
  have e1 : (xs.take ((xs.length : Nat) : Int).toNat).drop (k : Int).toNat = xs.drop k := by simp
  have e2 : (xs.take (k : Int).toNat).drop (0 : Int).toNat = xs.take k := by simp
  unfold spec_l01Insert
  rw [h1]
  simp only [Option.bind_some]
  rw [c1, c2, e1, e2]
  simp only [cond_true]
  have d1 : decide (([a].length + (xs.drop k).length) * 16 ≤ 140737488355328) = true := by
    simp only [decide_eq_true_eq, List.length_singleton, List.length_drop]; omega
  have d2 : decide ((([] : List Ang).length + (xs.take k).length) * 16 ≤ 140737488355328) = true := by
    simp only [decide_eq_true_eq, List.length_nil, List.length_take]; omega
  have d3 : decide (((([] : List Ang) ++ xs.take k).length + ([a] ++ xs.drop k).length) * 16 ≤ 140737488355328) = true := by
    simp only [decide_eq_true_eq, List.length_append, List.length_nil, List.length_singleton, List.length_take, List.length_drop]; omega
  rw [d1, d2, d3]
  simp only [cond_true]
  by_cases hkl : k < xs.length
  · simp only [ltb hkl, nn, Bool.and_self, cond_true, Int.toNat_natCast]
    rw [beqA]
    by_cases he : ea xs k = a
    · rw [decide_eq_true he, cond_true]
      exact ⟨xs, rfl, hx, fun b => ⟨.inl, fun h => h.elim id fun h => by rw [h, ← he]; exact ea_mem hkl⟩, by omega, Nat.le_refl _⟩
    · rw [decide_eq_false he, cond_false]
      exact hres (fun _ => he) (by simp)
  · simp only [nltb hkl, cond_false]
    exact hres (fun h => absurd h hkl) (by simp)

end Go.K.Pure

/- Plain laws of portraits, part P: angles that hang together by pairs. -/
set_option linter.all false
namespace Go.K.Pure
open Classical
/-- Hanging together by pairs. -/
inductive Cn (L : List (Ang × Ang)) : Ang → Ang → Prop
  | rf (a : Ang) : Cn L a a
  | fw {a b c : Ang} : Cn L a b → (b, c) ∈ L → Cn L a c
  | bw {a b c : Ang} : Cn L a b → (c, b) ∈ L → Cn L a c
theorem Cn.trans {L : List (Ang × Ang)} {a b c : Ang} (h : Cn L a b) (g : Cn L b c) : Cn L a c := by
  induction g with
  | rf => exact h
  | fw _ m ih => exact .fw ih m
  | bw _ m ih => exact .bw ih m
theorem Cn.symm {L : List (Ang × Ang)} {a b : Ang} (h : Cn L a b) : Cn L b a := by
  induction h with
  | rf => exact .rf _
  | fw _ m ih => exact (Cn.bw (.rf _) m).trans ih
  | bw _ m ih => exact (Cn.fw (.rf _) m).trans ih
theorem Cn.mono {L M : List (Ang × Ang)} (hs : ∀ p ∈ L, p ∈ M) {a b : Ang} (h : Cn L a b) : Cn M a b := by
  induction h with
  | rf => exact .rf _
  | fw _ m ih => exact .fw ih (hs _ m)
  | bw _ m ih => exact .bw ih (hs _ m)
/-- What is closed under the pairs holds all that hangs together with what it holds. -/
theorem Cn.closed {L : List (Ang × Ang)} {P : Ang → Prop} (h1 : ∀ p ∈ L, P p.1 → P p.2) (h2 : ∀ p ∈ L, P p.2 → P p.1) {a b : Ang} (h : Cn L a b) (ha : P a) : P b := by
  induction h with
  | rf => exact ha
  | fw _ m ih => exact h1 _ m ih
  | bw _ m ih => exact h2 _ m ih
/-- The sets after some pairs. -/
structure Pt (L : List (Ang × Ang)) (S : AA) : Prop where
  asc : ∀ s ∈ S, Asc s
  conn : ∀ s ∈ S, ∀ u ∈ s, ∀ v ∈ s, Cn L u v
  cov : ∀ p ∈ L, ∃ s ∈ S, p.1 ∈ s ∧ p.2 ∈ s
  disj : S.Pairwise fun s t => ∀ u ∈ s, ¬ u ∈ t
  ends : ∀ s ∈ S, ∀ u ∈ s, ∃ p ∈ L, u = p.1 ∨ u = p.2
theorem Pt.nil : Pt [] [] := ⟨fun _ h => (List.not_mem_nil h).elim, fun _ h => (List.not_mem_nil h).elim, fun _ h => (List.not_mem_nil h).elim, List.Pairwise.nil, fun _ h => (List.not_mem_nil h).elim⟩
theorem pair_same {S : AA} (h : S.Pairwise fun s t => ∀ u ∈ s, ¬ u ∈ t) {s t : List Ang} (hs : s ∈ S) (ht : t ∈ S) {u : Ang} (h1 : u ∈ s) (h2 : u ∈ t) : s = t := by
  induction h with
  | nil => cases hs
  | cons hd _ ih =>
    rcases List.mem_cons.1 hs with rfl | hs' <;> rcases List.mem_cons.1 ht with rfl | ht'
    · rfl
    · exact absurd h2 (hd _ ht' _ h1)
    · exact absurd h1 (hd _ hs' _ h2)
    · exact ih hs' ht'
/-- A set that holds an angle holds what hangs together with it. -/
theorem Pt.comp {L : List (Ang × Ang)} {S : AA} (h : Pt L S) {s : List Ang} (hs : s ∈ S) {u : Ang} (hu : u ∈ s) : ∀ v, v ∈ s ↔ Cn L u v := fun v => by
  refine ⟨fun hv => h.conn s hs u hu v hv, fun hc => ?_⟩
  refine Cn.closed (P := fun v => v ∈ s) (fun p hp h1 => ?_) (fun p hp h1 => ?_) hc hu
  · obtain ⟨t, ht, h2, h3⟩ := h.cov p hp
    rw [pair_same h.disj hs ht h1 h2]; exact h3
  · obtain ⟨t, ht, h2, h3⟩ := h.cov p hp
    rw [pair_same h.disj hs ht h1 h3]; exact h2
/-- One pair more: the sets that hold one of both become one. -/
theorem Pt.step {L : List (Ang × Ang)} {S : AA} (h : Pt L S) {x y : Ang} {own : List Ang} (ho : Asc own) (hm : ∀ b, b ∈ own ↔ b = x ∨ b = y ∨ ∃ s ∈ S, (x ∈ s ∨ y ∈ s) ∧ b ∈ s) :
    Pt (L ++ [(x, y)]) (S.filter (fun s => decide (¬ x ∈ s ∧ ¬ y ∈ s)) ++ [own]) := by
  have hsub : ∀ p ∈ L, p ∈ L ++ [(x, y)] := fun p hp => List.mem_append_left _ hp
  have hxy : Cn (L ++ [(x, y)]) x y := .fw (.rf _) (by simp)
  have hin : ∀ s, s ∈ S.filter (fun s => decide (¬ x ∈ s ∧ ¬ y ∈ s)) ↔ s ∈ S ∧ ¬ x ∈ s ∧ ¬ y ∈ s := fun s => by
    rw [List.mem_filter, decide_eq_true_eq]
  have hx : ∀ b ∈ own, Cn (L ++ [(x, y)]) x b := fun b hb => by
    rcases (hm b).1 hb with rfl | rfl | ⟨s, hs, hxs | hys, hb⟩
    · exact .rf _
    · exact hxy
    · exact (h.conn s hs _ hxs _ hb).mono hsub
    · exact hxy.trans ((h.conn s hs _ hys _ hb).mono hsub)
  refine ⟨fun s hs => ?_, fun s hs u hu v hv => ?_, fun p hp => ?_, ?_, fun s hs u hu => ?_⟩
  · rcases List.mem_append.1 hs with hs | hs
    · exact h.asc s ((hin s).1 hs).1
    · rw [List.mem_singleton.1 hs]; exact ho
  · rcases List.mem_append.1 hs with hs | hs
    · exact (h.conn s ((hin s).1 hs).1 u hu v hv).mono hsub
    · rw [List.mem_singleton.1 hs] at hu hv
      exact (hx u hu).symm.trans (hx v hv)
  · rcases List.mem_append.1 hp with hp | hp
    · obtain ⟨s, hs, h1, h2⟩ := h.cov p hp
      by_cases hc : x ∈ s ∨ y ∈ s
      · exact ⟨own, List.mem_append_right _ (by simp), (hm _).2 (.inr (.inr ⟨s, hs, hc, h1⟩)), (hm _).2 (.inr (.inr ⟨s, hs, hc, h2⟩))⟩
      · exact ⟨s, List.mem_append_left _ ((hin s).2 ⟨hs, fun h => hc (.inl h), fun h => hc (.inr h)⟩), h1, h2⟩
    · rw [List.mem_singleton.1 hp]
      exact ⟨own, List.mem_append_right _ (by simp), (hm _).2 (.inl rfl), (hm _).2 (.inr (.inl rfl))⟩
  · rw [List.pairwise_append]
    refine ⟨h.disj.filter _, by simp, fun s hs t ht u hu hut => ?_⟩
    rw [List.mem_singleton.1 ht] at hut
    obtain ⟨hs1, hs2, hs3⟩ := (hin s).1 hs
    rcases (hm u).1 hut with rfl | rfl | ⟨r, hr, hc, hur⟩
    · exact hs2 hu
    · exact hs3 hu
    · have := pair_same h.disj hs1 hr hu hur
      subst this
      rcases hc with hc | hc
      · exact hs2 hc
      · exact hs3 hc
  · rcases List.mem_append.1 hs with hs | hs
    · obtain ⟨p, hp, e⟩ := h.ends s ((hin s).1 hs).1 u hu
      exact ⟨p, hsub p hp, e⟩
    · rw [List.mem_singleton.1 hs] at hu
      rcases (hm u).1 hu with rfl | rfl | ⟨r, hr, _, hur⟩
      · exact ⟨_, List.mem_append_right _ (List.mem_singleton.2 rfl), .inl rfl⟩
      · exact ⟨_, List.mem_append_right _ (List.mem_singleton.2 rfl), .inr rfl⟩
      · obtain ⟨p, hp, e⟩ := h.ends r hr u hur
        exact ⟨p, hsub p hp, e⟩
/-- All that hangs together with an angle, in order. -/
noncomputable def cmpS (L : List (Ang × Ang)) (u : Ang) : List Ang := if h : ∃ s, Asc s ∧ ∀ v, v ∈ s ↔ Cn L u v then Classical.choose h else []
theorem cmpS_eq {L : List (Ang × Ang)} {u : Ang} {s : List Ang} (h1 : Asc s) (h2 : ∀ v, v ∈ s ↔ Cn L u v) : cmpS L u = s := by
  have h : ∃ s, Asc s ∧ ∀ v, v ∈ s ↔ Cn L u v := ⟨s, h1, h2⟩
  unfold cmpS
  rw [dif_pos h]
  exact asc_ext (Classical.choose_spec h).1 h1 fun a => by rw [(Classical.choose_spec h).2, h2]
/-- The sets of the first angles of a list. -/
noncomputable def rsS (L : List (Ang × Ang)) (x : Nat → Ang) : Nat → AA
  | 0 => []
  | k + 1 => rsS L x k ++ [cmpS L (x k)]
end Go.K.Pure

/- Plain laws of portraits, part Q: the reference's sets of two orbits. -/
set_option linter.all false
namespace Go.K.Pure
open Classical
section
variable {one two : List Ang} {sets : AA}
/-- The pairs of the first angles. -/
def prs (one two : List Ang) (i : Nat) : List (Ang × Ang) := (List.range i).map fun k => (ea one k, ea two k)
theorem prs_succ {i : Nat} : prs one two (i + 1) = prs one two i ++ [(ea one i, ea two i)] := by simp [prs, List.range_succ]
theorem prs_mem {i : Nat} {p : Ang × Ang} : p ∈ prs one two i ↔ ∃ k, k < i ∧ p = (ea one k, ea two k) := by
  unfold prs
  rw [List.mem_map]
  constructor
  · rintro ⟨k, hk, rfl⟩; exact ⟨k, List.mem_range.1 hk, rfl⟩
  · rintro ⟨k, hk, rfl⟩; exact ⟨k, List.mem_range.2 hk, rfl⟩
theorem ge_zero {s : List Ang} {x : Ang} : decide (plc s x ≥ 0) = decide (x ∈ s) := by
  by_cases h : x ∈ s
  · rw [decide_eq_true h, decide_eq_true ((plc_nonneg).2 h)]
  · rw [decide_eq_false h, decide_eq_false (fun h2 => h ((plc_nonneg).1 h2))]
theorem lt_zero {s : List Ang} {x : Ang} : decide (plc s x < 0) = decide (¬ x ∈ s) := by
  by_cases h : x ∈ s
  · have h2 := (plc_nonneg (xs := s) (a := x)).2 h
    rw [decide_eq_false (show ¬ plc s x < 0 by omega), decide_eq_false (fun h3 => h3 h)]
  · have h2 : ¬ 0 ≤ plc s x := fun h3 => h ((plc_nonneg).1 h3)
    rw [decide_eq_true (show plc s x < 0 by omega), decide_eq_true h]
theorem join_l2 {rest : AA} {own : List Ang} {i k : Nat} (hk : k < sets.length) (ho : Asc own) (hs : Asc (sa sets k)) (hb : own.length + (sa sets k).length ≤ 100000) :
    ∃ own', loop spec_l07Joined_l2 (one, two, sets, (i : Int), own, rest, (k : Int), (0 : Int), ()) = some (one, two, sets, (i : Int), own', rest, (k : Int), ()) ∧ Asc own' ∧ (∀ b, b ∈ own' ↔ b ∈ own ∨ b ∈ sa sets k) ∧ own'.length ≤ own.length + (sa sets k).length := by
  obtain ⟨r, h1, own', rfl, h2, h3, h4⟩ := loop_inv (step := spec_l07Joined_l2) (fun st => ∃ (j : Nat) (o : List Ang), j ≤ (sa sets k).length ∧ st = (one, two, sets, (i : Int), o, rest, (k : Int), (j : Int), ()) ∧ Asc o ∧ (∀ b, b ∈ o ↔ b ∈ own ∨ ∃ m, m < j ∧ ea (sa sets k) m = b) ∧ o.length ≤ own.length + j)
    (fun st => (sa sets k).length - st.2.2.2.2.2.2.2.1.toNat)
    (fun r => ∃ o : List Ang, r = (one, two, sets, (i : Int), o, rest, (k : Int), ()) ∧ Asc o ∧ (∀ b, b ∈ o ↔ b ∈ own ∨ b ∈ sa sets k) ∧ o.length ≤ own.length + (sa sets k).length) (by
    rintro _ ⟨j, o, hj, rfl, h2, h3, h4⟩
    by_cases h : j < (sa sets k).length
    · right
      obtain ⟨ys, y1, y2, y3, y4, _⟩ := spec_insert (xs := o) (a := ea (sa sets k) j) h2 (hs.1 _ (ea_mem h)) (by omega)
      have e : sets.getD ((k : Int)).toNat ([] : List Ang) = sa sets k := rfl
      refine ⟨_, by simp only [spec_l07Joined_l2, ltb hk, nn, Bool.and_self, cond_true, e, ltb h, Int.toNat_natCast]; rw [show (sets.getD k []).getD j (0, 0, ()) = ea (sa sets k) j from rfl, y1]; simp only [Option.bind_some, w64_succ (show j < 4611686018427387904 by omega)], ⟨j + 1, ys, by omega, rfl, y2, fun b => ?_, by omega⟩, by simp only [Int.toNat_natCast]; omega⟩
      rw [y3, h3]
      constructor
      · rintro ((hb' | ⟨m, hm, e⟩) | rfl)
        · exact .inl hb'
        · exact .inr ⟨m, by omega, e⟩
        · exact .inr ⟨j, by omega, rfl⟩
      · rintro (hb' | ⟨m, hm, e⟩)
        · exact .inl (.inl hb')
        · rcases Nat.lt_or_ge m j with c | c
          · exact .inl (.inr ⟨m, c, e⟩)
          · have : m = j := by omega
            subst this
            exact .inr e.symm
    · left
      have e : sets.getD ((k : Int)).toNat ([] : List Ang) = sa sets k := rfl
      refine ⟨_, by simp only [spec_l07Joined_l2, ltb hk, nn, Bool.and_self, cond_true, e, nltb h, cond_false], o, rfl, h2, fun b => ?_, by omega⟩
      rw [h3]
      refine or_congr Iff.rfl ⟨?_, fun hb' => ?_⟩
      · rintro ⟨m, hm, e'⟩
        rw [← e']
        exact ea_mem (by omega)
      · obtain ⟨m, hm, e'⟩ := mem_ea hb'
        exact ⟨m, by omega, e'⟩) (one, two, sets, (i : Int), own, rest, (k : Int), (0 : Int), ()) ⟨0, own, Nat.zero_le _, rfl, ho, fun b => by simp, by omega⟩
  exact ⟨own', h1, h2, h3, h4⟩
/-- The sets that hold neither of two angles. -/
noncomputable def nei (x y : Ang) (S : AA) : AA := S.filter fun s => decide (¬ x ∈ s ∧ ¬ y ∈ s)
theorem nei_snoc {x y : Ang} {S : AA} {s : List Ang} : nei x y (S ++ [s]) = if ¬ x ∈ s ∧ ¬ y ∈ s then nei x y S ++ [s] else nei x y S := by
  unfold nei
  rw [List.filter_append]
  by_cases h : ¬ x ∈ s ∧ ¬ y ∈ s
  · rw [if_pos h]; simp [h]
  · rw [if_neg h]; simp [h]
theorem take_snoc {S : AA} {k : Nat} (h : k < S.length) : S.take (k + 1) = S.take k ++ [sa S k] := by
  rw [List.take_succ_eq_append_getElem h, sa, getD_at h]
theorem join_l1 {own : List Ang} {i : Nat} (hi : i < one.length) (hi2 : i < two.length) (ho : Asc own) (hs : ∀ s ∈ sets, Asc s) (hb : own.length + sets.flatten.length ≤ 50000) (hl : sets.length ≤ 50000) :
    ∃ own' rest, loop spec_l07Joined_l1 (one, two, sets, (i : Int), own, ([] : AA), (0 : Int), ()) = some (one, two, (i : Int), own', rest, ()) ∧ rest = nei (ea one i) (ea two i) sets ∧ Asc own' ∧
      (∀ b, b ∈ own' ↔ b ∈ own ∨ ∃ s ∈ sets, (ea one i ∈ s ∨ ea two i ∈ s) ∧ b ∈ s) ∧ own'.length + rest.flatten.length ≤ own.length + sets.flatten.length := by
  obtain ⟨r, h1, own', rest, rfl, h2, h3, h4, h5⟩ := loop_inv (step := spec_l07Joined_l1) (fun st => ∃ (k : Nat) (o : List Ang) (rest : AA), k ≤ sets.length ∧ st = (one, two, sets, (i : Int), o, rest, (k : Int), ()) ∧ rest = nei (ea one i) (ea two i) (sets.take k) ∧ Asc o ∧
      (∀ b, b ∈ o ↔ b ∈ own ∨ ∃ s ∈ sets.take k, (ea one i ∈ s ∨ ea two i ∈ s) ∧ b ∈ s) ∧ o.length + rest.flatten.length ≤ own.length + (fl sets k).length)
    (fun st => sets.length - st.2.2.2.2.2.2.1.toNat)
    (fun r => ∃ (o : List Ang) (rest : AA), r = (one, two, (i : Int), o, rest, ()) ∧ rest = nei (ea one i) (ea two i) sets ∧ Asc o ∧
      (∀ b, b ∈ o ↔ b ∈ own ∨ ∃ s ∈ sets, (ea one i ∈ s ∨ ea two i ∈ s) ∧ b ∈ s) ∧ o.length + rest.flatten.length ≤ own.length + sets.flatten.length) (by
    rintro _ ⟨k, o, rest, hk, rfl, hr, h2, h3, h4⟩
    have hfl : (fl sets k).length ≤ sets.flatten.length := by rw [← fl_all sets]; exact fl_mono hk
    by_cases h : k < sets.length
    · right
      have hf1 := fl_succ h
      have hsk := hs _ (sa_mem h)
      have hlk : (sa sets k).length ≤ sets.flatten.length := len_fl h
      have p1 : spec_l07Place (sa sets k) (ea one i) = some (plc (sa sets k) (ea one i)) := spec_place (by omega)
      have p2 : spec_l07Place (sa sets k) (ea two i) = some (plc (sa sets k) (ea two i)) := spec_place (by omega)
      have e : sets.getD ((k : Int)).toNat ([] : List Ang) = sa sets k := rfl
      have e1 : one.getD ((i : Int)).toNat (0, 0, ()) = ea one i := rfl
      have e2 : two.getD ((i : Int)).toNat (0, 0, ()) = ea two i := rfl
      have hw : w64 ((k : Int) + 1) = ((k + 1 : Nat) : Int) := w64_succ (by omega)
      by_cases hc : ¬ ea one i ∈ sa sets k ∧ ¬ ea two i ∈ sa sets k
      · have hrl : rest.length ≤ 50000 := by
          rw [hr]
          have := List.length_filter_le (fun s => decide (¬ ea one i ∈ s ∧ ¬ ea two i ∈ s)) (sets.take k)
          rw [List.length_take] at this
          exact Nat.le_trans this (by omega)
        have d1 : decide ((rest.length + [sa sets k].length) * 24 ≤ 140737488355328) = true := decide_eq_true (by simp only [List.length_cons, List.length_nil]; omega)
        refine ⟨(one, two, sets, (i : Int), o, rest ++ [sa sets k], ((k + 1 : Nat) : Int), ()), ?_, ⟨k + 1, o, rest ++ [sa sets k], by omega, rfl, ?_, h2, fun b => ?_, ?_⟩, by simp only [Int.toNat_natCast]; omega⟩
        · simp only [spec_l07Joined_l1, ltb h, ltb hi, ltb hi2, nn, Bool.and_self, cond_true, e, e1, e2, p1, p2, Option.bind_some, lt_zero, decide_eq_true hc.1, decide_eq_true hc.2, d1, hw]
        · rw [take_snoc h, nei_snoc, if_pos hc, ← hr]
        · rw [h3, take_snoc h]
          refine or_congr Iff.rfl ⟨?_, ?_⟩
          · rintro ⟨s, hs1, hs2, hs3⟩
            exact ⟨s, List.mem_append_left _ hs1, hs2, hs3⟩
          · rintro ⟨s, hs1, hs2, hs3⟩
            rcases List.mem_append.1 hs1 with hs1 | hs1
            · exact ⟨s, hs1, hs2, hs3⟩
            · rw [List.mem_singleton.1 hs1] at hs2
              rcases hs2 with hs2 | hs2
              · exact absurd hs2 hc.1
              · exact absurd hs2 hc.2
        · rw [hf1, List.length_append, List.flatten_append, List.length_append]
          simp only [List.flatten_cons, List.flatten_nil, List.append_nil]
          omega
      · have hb2 : o.length + (sa sets k).length ≤ 100000 := by
          have : (fl sets (k + 1)).length ≤ sets.flatten.length := by rw [← fl_all sets]; exact fl_mono (by omega)
          omega
        obtain ⟨o', q1, q2, q3, q4⟩ := join_l2 (one := one) (two := two) (sets := sets) (rest := rest) (own := o) (i := i) (k := k) h h2 hsk hb2
        have hc' : ea one i ∈ sa sets k ∨ ea two i ∈ sa sets k := by
          by_cases c1 : ea one i ∈ sa sets k
          · exact .inl c1
          · by_cases c2 : ea two i ∈ sa sets k
            · exact .inr c2
            · exact absurd ⟨c1, c2⟩ hc
        refine ⟨(one, two, sets, (i : Int), o', rest, ((k + 1 : Nat) : Int), ()), ?_, ⟨k + 1, o', rest, by omega, rfl, ?_, q2, fun b => ?_, ?_⟩, by simp only [Int.toNat_natCast]; omega⟩
        · by_cases c1 : ea one i ∈ sa sets k
          · simp only [spec_l07Joined_l1, ltb h, ltb hi, ltb hi2, nn, Bool.and_self, cond_true, cond_false, e, e1, e2, p1, Option.bind_some, lt_zero, decide_eq_false (fun h : ¬ ea one i ∈ sa sets k => h c1), q1, hw]
          · have c2 : ea two i ∈ sa sets k := hc'.resolve_left c1
            simp only [spec_l07Joined_l1, ltb h, ltb hi, ltb hi2, nn, Bool.and_self, cond_true, cond_false, e, e1, e2, p1, p2, Option.bind_some, lt_zero, decide_eq_true c1, decide_eq_false (fun h : ¬ ea two i ∈ sa sets k => h c2), q1, hw]
        · rw [take_snoc h, nei_snoc, if_neg hc, ← hr]
        · rw [q3, h3, take_snoc h]
          constructor
          · rintro ((hb' | ⟨s, hs1, hs2, hs3⟩) | hb')
            · exact .inl hb'
            · exact .inr ⟨s, List.mem_append_left _ hs1, hs2, hs3⟩
            · exact .inr ⟨_, List.mem_append_right _ (List.mem_singleton.2 rfl), hc', hb'⟩
          · rintro (hb' | ⟨s, hs1, hs2, hs3⟩)
            · exact .inl (.inl hb')
            · rcases List.mem_append.1 hs1 with hs1 | hs1
              · exact .inl (.inr ⟨s, hs1, hs2, hs3⟩)
              · rw [List.mem_singleton.1 hs1] at hs3
                exact .inr hs3
        · rw [hf1, List.length_append]
          omega
    · left
      have hk' : k = sets.length := by omega
      subst hk'
      rw [List.take_length] at hr h3
      rw [fl_all] at h4
      exact ⟨_, by simp only [spec_l07Joined_l1, nltb (Nat.lt_irrefl _), cond_false], o, rest, rfl, hr, h2, h3, h4⟩) (one, two, sets, (i : Int), own, ([] : AA), (0 : Int), ()) ⟨0, own, [], Nat.zero_le _, rfl, rfl, ho, fun b => by simp, by simp [fl_zero]⟩
  exact ⟨own', rest, h1, h2, h3, h4, h5⟩
end
/-- The reference's sets. -/
theorem join_l0 {one two : List Ang} (h1 : ∀ x ∈ one, isA x) (h2 : ∀ x ∈ two, isA x) (he : one.length = two.length) (hl : one.length ≤ 64) :
    ∃ S : AA, loop spec_l07Joined_l0 (one, two, ([] : AA), (0 : Int), ()) = some (one, S, ()) ∧ Pt (prs one two one.length) S ∧ S.length ≤ 64 ∧ S.flatten.length ≤ 128 := by
  obtain ⟨r, g1, S, rfl, g2, g3, g4⟩ := loop_inv (step := spec_l07Joined_l0) (fun st => ∃ (i : Nat) (S : AA), i ≤ one.length ∧ st = (one, two, S, (i : Int), ()) ∧ Pt (prs one two i) S ∧ S.length ≤ i ∧ S.flatten.length ≤ 2 * i)
    (fun st => one.length - st.2.2.2.1.toNat) (fun r => ∃ S : AA, r = (one, S, ()) ∧ Pt (prs one two one.length) S ∧ S.length ≤ 64 ∧ S.flatten.length ≤ 128) (by
    rintro _ ⟨i, S, hi, rfl, hp, hs, hf⟩
    by_cases h : i < one.length
    · right
      have hi2 : i < two.length := by omega
      obtain ⟨ys, y1, y2, y3, y4, _⟩ := spec_insert (xs := []) (a := ea one i) ⟨fun _ h => (List.not_mem_nil h).elim, List.Pairwise.nil⟩ (h1 _ (ea_mem h)) (by simp)
      obtain ⟨zs, z1, z2, z3, z4, _⟩ := spec_insert (xs := ys) (a := ea two i) y2 (h2 _ (ea_mem hi2)) (by simp at y4; omega)
      simp only [List.length_nil] at y4
      obtain ⟨own, rest, o1, o2, o3, o4, o5⟩ := join_l1 (one := one) (two := two) (sets := S) (own := zs) (i := i) h hi2 z2 hp.asc (by omega) (by omega)
      have hrl : rest.length ≤ S.length := by rw [o2]; exact List.length_filter_le _ _
      have d1 : decide ((rest.length + [own].length) * 24 ≤ 140737488355328) = true := decide_eq_true (by simp only [List.length_cons, List.length_nil]; omega)
      have e1 : one.getD ((i : Int)).toNat (0, 0, ()) = ea one i := rfl
      have e2 : two.getD ((i : Int)).toNat (0, 0, ()) = ea two i := rfl
      refine ⟨(one, two, rest ++ [own], ((i + 1 : Nat) : Int), ()), ?_, ⟨i + 1, rest ++ [own], by omega, rfl, ?_, ?_, ?_⟩, by simp only [Int.toNat_natCast]; omega⟩
      · simp only [spec_l07Joined_l0, ltb h, ltb hi2, nn, Bool.and_self, cond_true, e1, e2, y1, z1, Option.bind_some, o1, d1, w64_succ (show i < 4611686018427387904 by omega)]
      · rw [prs_succ, o2]
        refine hp.step o3 fun b => ?_
        rw [o4, z3, y3]
        simp only [List.not_mem_nil, false_or]
        constructor
        · rintro ((h | h) | h)
          · exact .inl h
          · exact .inr (.inl h)
          · exact .inr (.inr h)
        · rintro (h | h | h)
          · exact .inl (.inl h)
          · exact .inl (.inr h)
          · exact .inr h
      · rw [List.length_append, List.length_singleton]; omega
      · rw [List.flatten_append, List.length_append]
        simp only [List.flatten_cons, List.flatten_nil, List.append_nil]
        omega
    · left
      have hk' : i = one.length := by omega
      subst hk'
      exact ⟨_, by simp only [spec_l07Joined_l0, nltb (Nat.lt_irrefl _), cond_false], S, rfl, hp, by omega, by omega⟩) (one, two, ([] : AA), (0 : Int), ()) ⟨0, [], Nat.zero_le _, rfl, by simpa [prs] using Pt.nil, by simp, by simp⟩
  exact ⟨S, g1, g2, g3, g4⟩
end Go.K.Pure

/- Plain laws of portraits, part R: the reference's sets in the order of doubling. -/
set_option linter.all false
namespace Go.K.Pure
open Classical
theorem ob_ok2 {a : Ang} (h : isA a) (hk : (ob a).2.2 = true) : ∃ m, m ≤ 64 ∧ pre a < m ∧ Dis a m ∧ dblN a m = dblN a (pre a) ∧ ob a = (orbL a m, (pre a : Int), true) := by
  have key : impl_Angle_orbit a = some (ob a) := ob_impl h
  unfold impl_Angle_orbit at key
  rcases orbit_loops h 64 0 rfl (by omega) (fun i j h1 h2 => by omega) with ⟨m, m1, m2, m3, m4, m5, _⟩ | ⟨l, _, m5, _⟩
  · have e : loop impl_Angle_orbit_l0 (a, ([] : List Ang), ()) = _ := m5
    rw [e] at key
    simp only [Option.bind_some, alt] at key
    exact ⟨m, m1, m2, m3, m4, (Option.some.inj key).symm⟩
  · have e : loop impl_Angle_orbit_l0 (a, ([] : List Ang), ()) = _ := m5
    rw [e] at key
    simp only [Option.bind_some, alt] at key
    rw [← Option.some.inj key] at hk
    cases hk
/-- The sets of the first angles of an orbit. -/
theorem rsS_len {L : List (Ang × Ang)} {x : Nat → Ang} : ∀ k, (rsS L x k).length = k
  | 0 => rfl
  | k + 1 => by rw [rsS, List.length_append, rsS_len k]; rfl
theorem rsS_mem {L : List (Ang × Ang)} {x : Nat → Ang} {s : List Ang} : ∀ {k}, s ∈ rsS L x k ↔ ∃ j, j < k ∧ s = cmpS L (x j)
  | 0 => by simp [rsS]
  | k + 1 => by
    rw [rsS, List.mem_append, rsS_mem (k := k), List.mem_singleton]
    constructor
    · rintro (⟨j, h1, h2⟩ | h)
      · exact ⟨j, by omega, h2⟩
      · exact ⟨k, by omega, h⟩
    · rintro ⟨j, h1, h2⟩
      rcases Nat.lt_or_ge j k with c | c
      · exact .inl ⟨j, c, h2⟩
      · have : j = k := by omega
        subst this
        exact .inr h2
/-- An angle that was met: it is in one of the sets before. -/
def Met (L : List (Ang × Ang)) (x : Nat → Ang) (k : Nat) : Prop := ∃ s ∈ rsS L x k, x k ∈ s
/-- The one set that holds an angle. -/
theorem one_set {S : AA} (hd : S.Pairwise fun s t => ∀ u ∈ s, ¬ u ∈ t) {s : List Ang} {x : Ang} (hs : s ∈ S) (hx : x ∈ s) : S.filter (fun t => decide (x ∈ t)) = [s] := by
  induction hd with
  | nil => cases hs
  | @cons t l hd hp ih =>
    by_cases c : x ∈ t
    · have hts : s = t := by
        rcases List.mem_cons.1 hs with h | h
        · exact h
        · exact absurd hx (hd _ h _ c)
      subst hts
      rw [List.filter_cons_of_pos (by simpa using c)]
      congr 1
      rw [List.filter_eq_nil_iff]
      intro u hu
      simpa using hd u hu x hx
    · have hs' : s ∈ l := by
        rcases List.mem_cons.1 hs with h | h
        · subst h; exact absurd hx c
        · exact h
      rw [List.filter_cons_of_neg (by simpa using c)]
      exact ih hs'
section
variable {L : List (Ang × Ang)} {S : AA} (hP : Pt L S) (hl : S.length ≤ 64) (hf : S.flatten.length ≤ 128)
include hP hl hf
theorem set_len {s : List Ang} (hs : s ∈ S) : s.length ≤ 128 := by
  obtain ⟨i, hi, rfl⟩ := mem_sa hs
  exact Nat.le_trans (len_fl hi) hf
/-- Which set it is. -/
theorem set_is {x y : Ang} (hx : (x, y) ∈ L) : cmpS L x ∈ S ∧ x ∈ cmpS L x := by
  obtain ⟨s, hs, h1, h2⟩ := hP.cov _ hx
  have e : cmpS L x = s := cmpS_eq (hP.asc s hs) (hP.comp hs h1)
  rw [e]
  exact ⟨hs, h1⟩
theorem ord_l4 {x : Ang} {out : AA} (ho : out.length ≤ 100) (ho2 : ∀ s ∈ out, s.length ≤ 128) :
    loop spec_l07Joined_l4 (S, out, x, (0 : Int), ()) = some (sel (∃ i, i < out.length ∧ x ∈ sa out i) (.inl (out, ())) (.inr (S, out, x, ()))) :=
  loop_any (step := spec_l07Joined_l4) (fun i => (S, out, x, (i : Int), ())) out.length (.inr (S, out, x, ())) (.inl (out, ())) (fun i => x ∈ sa out i) (by
    intro i hi _
    have p : spec_l07Place (sa out i) x = some (plc (sa out i) x) := spec_place (by have := ho2 _ (sa_mem hi); omega)
    have e : out.getD ((i : Int)).toNat ([] : List Ang) = sa out i := rfl
    simp only [spec_l07Joined_l4, ltb hi, nn, Bool.and_self, cond_true, e, p, Option.bind_some, ge_zero, w64_succ (show i < 4611686018427387904 by omega)]
    by_cases c : x ∈ sa out i
    · rw [decide_eq_true c, cond_true, sel_pos c]
    · rw [decide_eq_false c, cond_false, sel_neg c]) (by
    intro _
    simp only [spec_l07Joined_l4, nltb (Nat.lt_irrefl _), cond_false])
theorem ord_l5 {x : Ang} {out : AA} (ho : out.length ≤ 100) :
    loop spec_l07Joined_l5 (S, out, x, (0 : Int), ()) = some (S, out ++ S.filter (fun t => decide (x ∈ t)), x, ()) := by
  have := loop_count (step := spec_l07Joined_l5) (fun i => (S, out ++ (S.take i).filter (fun t => decide (x ∈ t)), x, (i : Int), ())) S.length (S, out ++ S.filter (fun t => decide (x ∈ t)), x, ()) (by
    intro i hi
    have p : spec_l07Place (sa S i) x = some (plc (sa S i) x) := spec_place (by have := set_len hP hl hf (sa_mem hi); omega)
    have e : S.getD ((i : Int)).toNat ([] : List Ang) = sa S i := rfl
    have hlen : ((S.take i).filter (fun t => decide (x ∈ t))).length ≤ 64 := by
      have := List.length_filter_le (fun t => decide (x ∈ t)) (S.take i)
      rw [List.length_take] at this
      omega
    have d : decide (((out ++ (S.take i).filter (fun t => decide (x ∈ t))).length + [sa S i].length) * 24 ≤ 140737488355328) = true := decide_eq_true (by
      rw [List.length_append]; simp only [List.length_cons, List.length_nil]; omega)
    simp only [spec_l07Joined_l5, ltb hi, nn, Bool.and_self, cond_true, e, p, Option.bind_some, ge_zero, d, w64_succ (show i < 4611686018427387904 by omega), take_snoc hi, List.filter_append]
    by_cases c : x ∈ sa S i
    · have f : [sa S i].filter (fun t => decide (x ∈ t)) = [sa S i] := List.filter_cons_of_pos (p := fun t => decide (x ∈ t)) (decide_eq_true c)
      rw [decide_eq_true c, cond_true, f, List.append_assoc]
    · have f : [sa S i].filter (fun t => decide (x ∈ t)) = [] := List.filter_cons_of_neg (p := fun t => decide (x ∈ t)) (by rw [decide_eq_false c]; decide)
      rw [decide_eq_false c, cond_false, f, List.append_nil]) (by simp only [spec_l07Joined_l5, nltb (Nat.lt_irrefl _), cond_false, List.take_length]) 0 (Nat.zero_le _)
  simpa using this
/-- The order's loop: it ends at the first angle that was met. -/
theorem ord_l3 {a : Ang} (ha : isA a) {y : Nat → Ang} {K : Nat} (hy : ∀ k, k < K → (dblN a k, y k) ∈ L) (hK : K ≤ 64) (hm : Met L (dblN a) K) (hn : ∀ k, k < K → ¬ Met L (dblN a) k) :
    loop spec_l07Joined_l3 (S, ([] : AA), a, ()) = some (rsS L (dblN a) K, ()) := by
  have hin : ∀ {k s}, k ≤ K → s ∈ rsS L (dblN a) k → s ∈ S := fun {k s} hk hs => by
    obtain ⟨j, hj, rfl⟩ := rsS_mem.1 hs
    exact (set_is hP hl hf (hy j (by omega))).1
  have hmet : ∀ k, (∃ i, i < (rsS L (dblN a) k).length ∧ dblN a k ∈ sa (rsS L (dblN a) k) i) ↔ Met L (dblN a) k := fun k => by
    constructor
    · rintro ⟨i, hi, h⟩; exact ⟨_, sa_mem hi, h⟩
    · rintro ⟨s, hs, h⟩
      obtain ⟨i, hi, rfl⟩ := mem_sa hs
      exact ⟨i, hi, h⟩
  refine loop_count (step := spec_l07Joined_l3) (fun k => (S, rsS L (dblN a) k, dblN a k, ())) K (rsS L (dblN a) K, ()) ?_ ?_ 0 (Nat.zero_le _)
  · intro k hk
    have h4 := ord_l4 hP hl hf (x := dblN a k) (out := rsS L (dblN a) k) (by rw [rsS_len]; omega) (fun s hs => set_len hP hl hf (hin (by omega) hs))
    rw [sel_congr (hmet k), sel_neg (hn k hk)] at h4
    have h5 := ord_l5 hP hl hf (x := dblN a k) (out := rsS L (dblN a) k) (by rw [rsS_len]; omega)
    obtain ⟨c1, c2⟩ := set_is hP hl hf (hy k hk)
    rw [one_set hP.disj c1 c2] at h5
    simp only [spec_l07Joined_l3, h4, Option.bind_some, alt, h5, spec_dbl (dblN_isA ha k)]
    rfl
  · have h4 := ord_l4 hP hl hf (x := dblN a K) (out := rsS L (dblN a) K) (by rw [rsS_len]; omega) (fun s hs => set_len hP hl hf (hin (Nat.le_refl _) hs))
    rw [sel_congr (hmet K), sel_pos hm] at h4
    simp only [spec_l07Joined_l3, h4, Option.bind_some, alt]
end
end Go.K.Pure

/- Plain laws of portraits, part S: the program's angles that hang together. -/
set_option linter.all false
namespace Go.K.Pure
open Classical
noncomputable def addL (o : List Ang) (x : Ang) : List Ang := if x ∈ o then o else o ++ [x]
theorem addL_in {o : List Ang} {x : Ang} : x ∈ addL o x := by
  unfold addL; split
  · assumption
  · simp
theorem addL_old {o : List Ang} {x v : Ang} (h : v ∈ o) : v ∈ addL o x := by
  unfold addL; split
  · exact h
  · exact List.mem_append_left _ h
theorem addL_mem {o : List Ang} {x v : Ang} (h : v ∈ addL o x) : v ∈ o ∨ v = x := by
  unfold addL at h; split at h
  · exact .inl h
  · simpa using h
theorem addL_len {o : List Ang} {x : Ang} : o.length ≤ (addL o x).length ∧ (addL o x).length ≤ o.length + 1 := by
  unfold addL; split <;> simp
theorem addL_at {o : List Ang} {x : Ang} {j : Nat} (h : j < o.length) : ea (addL o x) j = ea o j := by
  unfold addL; split
  · rfl
  · rw [ea, ea, getD_at (by simp; omega), getD_at h, List.getElem_append_left h]
theorem addL_nd {o : List Ang} {x : Ang} (h : o.Nodup) : (addL o x).Nodup := by
  unfold addL; split
  · exact h
  · rename_i hx
    rw [List.nodup_append]
    exact ⟨h, by simp, fun u hu v hv e => hx (by rw [← List.mem_singleton.1 hv, ← e]; exact hu)⟩
structure Hg (L : List (Ang × Ang)) (a : Ang) (o : List Ang) : Prop where
  nd : o.Nodup
  cn : ∀ v ∈ o, Cn L a v
  me : a ∈ o
  en : ∀ v ∈ o, v = a ∨ ∃ p ∈ L, v = p.1 ∨ v = p.2
theorem Hg.add {L : List (Ang × Ang)} {a : Ang} {o : List Ang} (h : Hg L a o) {x : Ang} (hc : Cn L a x) (he : ∃ p ∈ L, x = p.1 ∨ x = p.2) : Hg L a (addL o x) :=
  ⟨addL_nd h.nd, fun v hv => (addL_mem hv).elim (h.cn v) (fun e => e ▸ hc), addL_old h.me, fun v hv => (addL_mem hv).elim (h.en v) (fun e => .inr (e ▸ he))⟩
theorem Hg.len {L : List (Ang × Ang)} {a : Ang} {o : List Ang} (h : Hg L a o) : o.length ≤ 2 * L.length + 1 := by
  have h1 := sub_len (zs := o) (t := a :: L.flatMap fun p => [p.1, p.2]) h.nd (fun b hb => by
    rcases h.en b hb with rfl | ⟨p, hp, e | e⟩
    · simp
    · exact List.mem_cons_of_mem _ (List.mem_flatMap.2 ⟨p, hp, by simp [e]⟩)
    · exact List.mem_cons_of_mem _ (List.mem_flatMap.2 ⟨p, hp, by simp [e]⟩))
  have h2 : ∀ L : List (Ang × Ang), (L.flatMap fun p => [p.1, p.2]).length = 2 * L.length := fun L => by
    induction L with
    | nil => rfl
    | cons p L ih => rw [List.flatMap_cons, List.length_append, ih]; simp; omega
  rw [List.length_cons, h2] at h1
  exact h1
/-- What a pair adds. -/
noncomputable def st1 (o : List Ang) (c u v : Ang) : List Ang := if u = c then addL o v else o
noncomputable def st2 (o : List Ang) (c u v : Ang) : List Ang := st1 (st1 o c u v) c v u
theorem st1_at {o : List Ang} {c u v : Ang} {j : Nat} (h : j < o.length) : ea (st1 o c u v) j = ea o j := by
  unfold st1; split
  · exact addL_at h
  · rfl
theorem st1_len {o : List Ang} {c u v : Ang} : o.length ≤ (st1 o c u v).length ∧ (st1 o c u v).length ≤ o.length + 1 := by
  unfold st1; split
  · exact addL_len
  · exact ⟨Nat.le_refl _, Nat.le_succ _⟩
theorem st1_old {o : List Ang} {c u v w : Ang} (h : w ∈ o) : w ∈ st1 o c u v := by
  unfold st1; split
  · exact addL_old h
  · exact h
theorem impl_has {xs : List Ang} {a : Ang} (hl : xs.length < 4611686018427387904) : slices_Contains__impl_Angle_impl_Angle xs a = some (decide (a ∈ xs)) := by
  unfold slices_Contains__impl_Angle_impl_Angle
  rw [impl_index hl]
  simp only [Option.bind_some, ge_zero]
section
variable {P t19 : AA} {t20 t21 : Int}
/-- One comparison of a pair. -/
theorem hang_one {o : List Ang} {i k : Nat} {u v : Ang} {p q : List Ang} (hi : i < o.length) (hl : o.length ≤ 1000) (hk : k < 2) (hp : q.getD k dA = u) (hq : p.getD (1 - k) dA = v) :
    impl_hang_l2 (P, o, (i : Int), p, t19, t20, t21, q, (k : Int), ()) = some (.next (P, st1 o (ea o i) u v, (i : Int), p, t19, t20, t21, q, ((k + 1 : Nat) : Int), ())) := by
  have e1 : w64 ((1 : Int) - (k : Int)) = ((1 - k : Nat) : Int) := by rw [w64_id (by omega) (by omega)]; omega
  have e2 : decide ((k : Int) < 2) = true := decide_eq_true (by omega)
  have e3 : decide ((((1 - k : Nat)) : Int) < ((2 : Nat) : Int)) = true := decide_eq_true (by omega)
  have e4 : decide ((k : Int) < ((2 : Nat) : Int)) = true := decide_eq_true (by omega)
  have e5 : o.getD ((i : Int)).toNat (0, 0, ()) = ea o i := rfl
  have e6 : q.getD ((k : Int)).toNat (0, 0, ()) = u := hp
  have e7 : p.getD (((1 - k : Nat) : Int)).toNat (0, 0, ()) = v := hq
  have e8 : decide ((o.length + [v].length) * 16 ≤ 140737488355328) = true := decide_eq_true (by simp only [List.length_cons, List.length_nil]; omega)
  simp only [impl_hang_l2, e2, nn, e4, Bool.and_self, cond_true, ltb hi, e5, e6, beqA, e1, e3, e7, impl_has (show o.length < 4611686018427387904 by omega), Option.bind_some, e8, w64_succ (show k < 4611686018427387904 by omega)]
  unfold st1
  by_cases c : u = ea o i
  · rw [decide_eq_true c, cond_true, if_pos c]
    unfold addL
    by_cases d : v ∈ o
    · rw [decide_eq_true d, if_pos d]; rfl
    · rw [decide_eq_false d, if_neg d]; rfl
  · rw [decide_eq_false c, cond_false, if_neg c]
theorem hang_l2 {o : List Ang} {i : Nat} {u v : Ang} (hi : i < o.length) (hl : o.length ≤ 900) :
    loop impl_hang_l2 (P, o, (i : Int), [u, v], t19, t20, t21, [u, v], (0 : Int), ()) = some (P, st2 o (ea o i) u v, (i : Int), t19, t20, t21, ()) := by
  have h0 := hang_one (P := P) (t19 := t19) (t20 := t20) (t21 := t21) (o := o) (i := i) (k := 0) (u := u) (v := v) (p := [u, v]) (q := [u, v]) hi (by omega) (by omega) rfl rfl
  have l1 := st1_len (o := o) (c := ea o i) (u := u) (v := v)
  have h1 := hang_one (P := P) (t19 := t19) (t20 := t20) (t21 := t21) (o := st1 o (ea o i) u v) (i := i) (k := 1) (u := v) (v := u) (p := [u, v]) (q := [u, v]) (by omega) (by omega) (by omega) rfl rfl
  rw [st1_at hi] at h1
  rw [loop_eq, show ((0 : Int)) = ((0 : Nat) : Int) from rfl, h0]
  simp only
  rw [loop_eq, h1]
  simp only
  rw [loop_eq]
  rfl
end
/-- What is wanted of a pair at an angle. -/
def Sat (o : List Ang) (c : Ang) (p : Ang × Ang) : Prop := (p.1 = c → p.2 ∈ o) ∧ (p.2 = c → p.1 ∈ o)
theorem st2_sat {o : List Ang} {c u v : Ang} : Sat (st2 o c u v) c (u, v) := by
  constructor
  · intro h
    have h1 : v ∈ st1 o c u v := by unfold st1; rw [if_pos h]; exact addL_in
    exact st1_old h1
  · intro h
    show u ∈ st1 (st1 o c u v) c v u
    unfold st1
    rw [if_pos (show v = c from h)]
    exact addL_in
theorem Sat.mono {o o' : List Ang} {c : Ang} {p : Ang × Ang} (h : Sat o c p) (ho : ∀ v ∈ o, v ∈ o') : Sat o' c p := ⟨fun e => ho _ (h.1 e), fun e => ho _ (h.2 e)⟩
theorem Hg.st2 {L : List (Ang × Ang)} {a : Ang} {o : List Ang} (h : Hg L a o) {c u v : Ang} (hc : c ∈ o) (hp : (u, v) ∈ L) : Hg L a (st2 o c u v) := by
  have h1 : Hg L a (st1 o c u v) := by
    unfold st1; split
    · rename_i e
      exact h.add (.fw (h.cn _ (e ▸ hc : u ∈ o)) hp) ⟨_, hp, .inr rfl⟩
    · exact h
  have hc1 : c ∈ st1 o c u v := st1_old hc
  unfold K.Pure.st2
  show Hg L a (st1 (st1 o c u v) c v u)
  generalize st1 o c u v = o1 at h1 hc1
  unfold st1; split
  · rename_i e
    exact h1.add (.bw (h1.cn _ (e ▸ hc1 : v ∈ o1)) hp) ⟨_, hp, .inl rfl⟩
  · exact h1
section
variable {L : List (Ang × Ang)} {a : Ang}
/-- The pairs as the program has them. -/
def pls (L : List (Ang × Ang)) : AA := L.map fun p => [p.1, p.2]
theorem pls_at {m : Nat} (h : m < L.length) : (pls L).getD m (List.replicate 2 ((0 : Int), (0 : Int), ())) = [L[m].1, L[m].2] := by
  rw [getD_at (by simpa [pls] using h)]
  simp [pls]
theorem hang_l1 (hL : L.length ≤ 100) {o : List Ang} (ho : Hg L a o) {i : Nat} (hi : i < o.length) :
    ∃ o', loop impl_hang_l1 (pls L, o, (i : Int), pls L, (((pls L).length : Nat) : Int), (0 : Int), ()) = some (pls L, o', (i : Int), ()) ∧ Hg L a o' ∧ (∀ v ∈ o, v ∈ o') ∧ o.length ≤ o'.length ∧ (∀ j, j < o.length → ea o' j = ea o j) ∧ ∀ p ∈ L, Sat o' (ea o i) p := by
  have hpl : (pls L).length = L.length := by simp [pls]
  obtain ⟨r, h1, o', rfl, h2⟩ := loop_inv (step := impl_hang_l1) (fun st => ∃ (m : Nat) (o' : List Ang), m ≤ L.length ∧ st = (pls L, o', (i : Int), pls L, (((pls L).length : Nat) : Int), (m : Int), ()) ∧ Hg L a o' ∧ (∀ v ∈ o, v ∈ o') ∧ o.length ≤ o'.length ∧ (∀ j, j < o.length → ea o' j = ea o j) ∧ ∀ j, (h : j < L.length) → j < m → Sat o' (ea o i) L[j])
    (fun st => L.length - st.2.2.2.2.2.1.toNat) (fun r => ∃ o' : List Ang, r = (pls L, o', (i : Int), ()) ∧ Hg L a o' ∧ (∀ v ∈ o, v ∈ o') ∧ o.length ≤ o'.length ∧ (∀ j, j < o.length → ea o' j = ea o j) ∧ ∀ p ∈ L, Sat o' (ea o i) p) (by
    rintro _ ⟨m, o', hm, rfl, g1, g2, g3, g4, g5⟩
    have hlen := g1.len
    by_cases h : m < L.length
    · right
      have hi' : i < o'.length := by omega
      have e := hang_l2 (P := pls L) (t19 := pls L) (t20 := (((pls L).length : Nat) : Int)) (t21 := (m : Int)) (o := o') (i := i) (u := L[m].1) (v := L[m].2) hi' (by omega)
      have hm' : m < (pls L).length := by omega
      have hin : ea o' i ∈ o' := ea_mem hi'
      have sl1 := st1_len (o := o') (c := ea o' i) (u := L[m].1) (v := L[m].2)
      have sl2 := st1_len (o := st1 o' (ea o' i) L[m].1 L[m].2) (c := ea o' i) (u := L[m].2) (v := L[m].1)
      have hold : ∀ v ∈ o', v ∈ st2 o' (ea o' i) L[m].1 L[m].2 := fun v hv => st1_old (st1_old hv)
      refine ⟨(pls L, st2 o' (ea o' i) L[m].1 L[m].2, (i : Int), pls L, (((pls L).length : Nat) : Int), ((m + 1 : Nat) : Int), ()), ?_, ⟨m + 1, _, by omega, rfl, g1.st2 hin (List.getElem_mem h), fun v hv => hold v (g2 v hv), ?_, fun j hj => ?_, fun j hj hjm => ?_⟩, by simp only [Int.toNat_natCast]; omega⟩
      · simp only [impl_hang_l1, ltb hm', nn, Bool.and_self, cond_true, Int.toNat_natCast, pls_at h, e, Option.bind_some, w64_succ (show m < 4611686018427387904 by omega)]
      · show o.length ≤ (st1 (st1 o' (ea o' i) L[m].1 L[m].2) (ea o' i) L[m].2 L[m].1).length
        omega
      · show ea (st1 (st1 o' (ea o' i) L[m].1 L[m].2) (ea o' i) L[m].2 L[m].1) j = _
        rw [st1_at (by omega), st1_at (by omega), g4 j hj]
      · rcases Nat.lt_or_ge j m with c | c
        · exact (g5 j hj c).mono hold
        · have : j = m := by omega
          subst this
          have := st2_sat (o := o') (c := ea o' i) (u := L[j].1) (v := L[j].2)
          rw [g4 i hi] at this ⊢
          exact this
    · left
      have hk : m = L.length := by omega
      subst hk
      refine ⟨_, by simp only [impl_hang_l1, hpl, nltb (Nat.lt_irrefl _), cond_false], o', rfl, g1, g2, g3, g4, fun p hp => ?_⟩
      obtain ⟨j, hj, rfl⟩ := List.getElem_of_mem hp
      exact g5 j hj hj) (pls L, o, (i : Int), pls L, (((pls L).length : Nat) : Int), (0 : Int), ()) ⟨0, o, Nat.zero_le _, rfl, ho, fun _ h => h, Nat.le_refl _, fun _ _ => rfl, fun j _ h => by omega⟩
  exact ⟨o', h1, h2⟩
/-- All that hangs together with an angle. -/
theorem hang_ok (hL : L.length ≤ 100) (hv : ∀ p ∈ L, isA p.1 ∧ isA p.2) (ha : isA a) : impl_hang a (pls L) = some (cmpS L a) ∧ Asc (cmpS L a) ∧ ∀ v, v ∈ cmpS L a ↔ Cn L a v := by
  obtain ⟨r, h1, o', rfl, h2, h3⟩ := loop_inv (step := impl_hang_l0) (fun st => ∃ (i : Nat) (o : List Ang), i ≤ o.length ∧ st = (pls L, o, (i : Int), ()) ∧ Hg L a o ∧ ∀ j, j < i → ∀ p ∈ L, Sat o (ea o j) p)
    (fun st => 2 * L.length + 1 - st.2.2.1.toNat) (fun r => ∃ o : List Ang, r = (o, ()) ∧ Hg L a o ∧ ∀ c ∈ o, ∀ p ∈ L, Sat o c p) (by
    rintro _ ⟨i, o, hi, rfl, g1, g2⟩
    have hlen := g1.len
    by_cases h : i < o.length
    · right
      obtain ⟨o', q1, q2, q3, q4, q5, q6⟩ := hang_l1 hL g1 h
      refine ⟨(pls L, o', ((i + 1 : Nat) : Int), ()), by simp only [impl_hang_l0, ltb h, cond_true, q1, Option.bind_some, w64_succ (show i < 4611686018427387904 by omega)], ⟨i + 1, o', by omega, rfl, q2, fun j hj p hp => ?_⟩, by simp only [Int.toNat_natCast]; omega⟩
      rcases Nat.lt_or_ge j i with c | c
      · rw [q5 j (by omega)]
        exact (g2 j c p hp).mono q3
      · have : j = i := by omega
        subst this
        rw [q5 j h]
        exact q6 p hp
    · left
      have hk : i = o.length := by omega
      subst hk
      refine ⟨_, by simp only [impl_hang_l0, nltb (Nat.lt_irrefl _), cond_false], o, rfl, g1, fun c hc p hp => ?_⟩
      obtain ⟨j, hj, rfl⟩ := mem_ea hc
      exact g2 j hj p hp) (pls L, [a], (0 : Int), ()) ⟨0, [a], by simp, rfl, ⟨by simp, fun v hv => by rw [List.mem_singleton.1 hv]; exact .rf _, by simp, fun v hv => .inl (List.mem_singleton.1 hv)⟩, fun j h => by omega⟩
  have hcl : ∀ v, v ∈ o' ↔ Cn L a v := fun v => ⟨h2.cn v, fun hc => Cn.closed (P := fun v => v ∈ o') (fun p hp hx => (h3 _ hx p hp).1 rfl) (fun p hp hx => (h3 _ hx p hp).2 rfl) hc h2.me⟩
  have hA : ∀ v ∈ o', isA v := fun v hvo => by
    rcases h2.en v hvo with rfl | ⟨p, hp, rfl | rfl⟩
    · exact ha
    · exact (hv p hp).1
    · exact (hv p hp).2
  have hlen := h2.len
  obtain ⟨zs, z1, z2, z3, _⟩ := impl_sorted_ok hA (by omega)
  have hz : ∀ v, v ∈ zs ↔ Cn L a v := fun v => by rw [z3, hcl]
  have e := cmpS_eq z2 hz
  refine ⟨?_, by rw [e]; exact z2, by rw [e]; exact hz⟩
  unfold impl_hang
  rw [h1]
  simp only [Option.bind_some, z1, e]
end
end Go.K.Pure

/- Plain laws of portraits, part U: marks (turned from the parts of EndClasses). -/
set_option linter.unusedVariables false
set_option linter.unusedSimpArgs false
namespace Go.K.Pure
open Classical
def mk (k : Int) (n : Nat) : List Ang := tab (fun p => (k + 2 * (p : Int), k + 2 * (p : Int) + 1, ())) n
theorem mark_angles {a : List Ang} {k : Int} (h : a.length ≤ 1000) (h1 : 0 ≤ k) (h2 : k ≤ 100000000) : laws_markAngleS a k = some (k + 2 * (a.length : Int), mk k a.length) := by
  unfold laws_markAngleS
  have := loop_count (step := laws_markAngleS_l0) (fun n => (tab (fun p => if p < n then ((k + 2 * (p : Int), k + 2 * (p : Int) + 1, ()) : Ang) else a.getD p dA) a.length, k + 2 * (n : Int), (n : Int), ())) a.length (tab (fun p => if p < a.length then ((k + 2 * (p : Int), k + 2 * (p : Int) + 1, ()) : Ang) else a.getD p dA) a.length, k + 2 * (a.length : Int), ()) (by
    intro n hn
    simp only [laws_markAngleS_l0, List.length_set, tab_len, ltb hn, nn, Bool.and_self, cond_true, Int.toNat_natCast]
    rw [w64_add1 (n := k + 2 * (n : Int)) (by omega) (by omega), w64_add1 (n := k + 2 * (n : Int) + 1) (by omega) (by omega), w64_succ (by omega)]
    rw [tab_set hn]
    simp only [tab_at hn, if_true, Nat.lt_irrefl, if_false]
    rw [tab_set hn, show k + 2 * (n : Int) + 1 + 1 = k + 2 * ((n + 1 : Nat) : Int) by omega]
    congr 3
    apply tab_ext
    intro p hp
    by_cases e : p = n
    · subst e; simp
    · by_cases e2 : p < n
      · have : p < n + 1 := by omega
        simp [e, e2, this]
      · have : ¬ p < n + 1 := by omega
        simp [e, e2, this]) (by simp only [laws_markAngleS_l0, tab_len, nltb (Nat.lt_irrefl a.length), cond_false]) 0 (Nat.zero_le _)
  have e0 : tab (fun p => if p < 0 then ((k + 2 * (p : Int), k + 2 * (p : Int) + 1, ()) : Ang) else a.getD p dA) a.length = a := (tab_ext fun p hp => by simp).trans (tab_self (d := dA) a)
  rw [e0] at this
  have t2 : loop laws_markAngleS_l0 (a, k, (0 : Int), ()) = some (tab (fun p => if p < a.length then ((k + 2 * (p : Int), k + 2 * (p : Int) + 1, ()) : Ang) else a.getD p dA) a.length, k + 2 * (a.length : Int), ()) := by
    rw [← this]; congr 2; simp
  rw [t2]
  simp only [Option.bind_some]
  congr 2
  exact tab_ext fun p hp => by simp [hp]
theorem held_angles {k : Int} {N : Nat} (h : N ≤ 1000) (h1 : 0 ≤ k) (h2 : k ≤ 100000000) : laws_heldAngleS (mk k N) k = some (k + 2 * (N : Int)) := by
  unfold laws_heldAngleS
  have := loop_count (step := laws_heldAngleS_l0) (fun n => (mk k N, k + 2 * (n : Int), (n : Int), ())) N (.inr (k + 2 * (N : Int), ())) (by
    intro n hn
    unfold mk
    simp only [laws_heldAngleS_l0, tab_len, ltb hn, nn, Bool.and_self, cond_true, Int.toNat_natCast]
    rw [w64_add1 (n := k + 2 * (n : Int)) (by omega) (by omega), w64_add1 (n := k + 2 * (n : Int) + 1) (by omega) (by omega), w64_succ (by omega)]
    rw [tab_at hn]
    simp only [bne_self_eq_false, cond_false]
    rw [show k + 2 * (n : Int) + 1 + 1 = k + 2 * ((n + 1 : Nat) : Int) by omega]) (by
    unfold mk
    simp only [laws_heldAngleS_l0, tab_len, nltb (Nat.lt_irrefl N), cond_false]) 0 (Nat.zero_le _)
  have t2 : loop laws_heldAngleS_l0 (mk k N, k, (0 : Int), ()) = some (.inr (k + 2 * (N : Int), ())) := by
    rw [← this]; congr 2; simp
  rw [t2]
  rfl
def off (k : Int) (ls : List (List Ang)) : Nat → Int
  | 0 => k
  | n + 1 => off k ls n + 2 * ((ls.getD n []).length : Int)
theorem off_bnd {k : Int} {ls : List (List Ang)} (hk : 0 ≤ k) (hc : ∀ c ∈ ls, c.length ≤ 400) : ∀ n, n ≤ ls.length → 0 ≤ off k ls n ∧ off k ls n ≤ k + 800 * (n : Int)
  | 0, _ => by simp only [off]; omega
  | n + 1, h => by
    have ih := off_bnd hk hc n (by omega)
    have : (ls.getD n []).length ≤ 400 := by rw [getD_at (by omega)]; exact hc _ (List.getElem_mem _)
    simp only [off]
    omega
def mks (k : Int) (ls : List (List Ang)) : List (List Ang) := tab (fun p => mk (off k ls p) (ls.getD p []).length) ls.length
theorem mark_lists {ls : List (List Ang)} (hl : ls.length ≤ 400) (hc : ∀ c ∈ ls, c.length ≤ 400) : laws_markAngleSS ls 1 = some (off 1 ls ls.length, mks 1 ls) := by
  unfold laws_markAngleSS
  have := loop_count (step := laws_markAngleSS_l0) (fun n => (tab (fun p => if p < n then mk (off 1 ls p) (ls.getD p []).length else ls.getD p []) ls.length, off 1 ls n, (n : Int), ())) ls.length (tab (fun p => if p < ls.length then mk (off 1 ls p) (ls.getD p []).length else ls.getD p []) ls.length, off 1 ls ls.length, ()) (by
    intro n hn
    have hb := off_bnd (k := 1) (by omega) hc n (by omega)
    have hln : (ls.getD n []).length ≤ 400 := by rw [getD_at hn]; exact hc _ (List.getElem_mem _)
    simp only [laws_markAngleSS_l0, tab_len, ltb hn, nn, Bool.and_self, cond_true, Int.toNat_natCast]
    rw [tab_at hn]
    simp only [Nat.lt_irrefl, if_false]
    rw [mark_angles (by omega) (by omega) (by omega)]
    simp only [Option.bind_some]
    rw [tab_set hn, w64_succ (by omega)]
    congr 3
    apply tab_ext
    intro p hp
    by_cases e : p = n
    · subst e; simp
    · by_cases e2 : p < n
      · have : p < n + 1 := by omega
        simp [e, e2, this]
      · have : ¬ p < n + 1 := by omega
        simp [e, e2, this]) (by simp only [laws_markAngleSS_l0, tab_len, nltb (Nat.lt_irrefl ls.length), cond_false]) 0 (Nat.zero_le _)
  have e0 : tab (fun p => if p < 0 then mk (off 1 ls p) (ls.getD p []).length else ls.getD p []) ls.length = ls := (tab_ext fun p hp => by simp).trans (tab_self (d := []) ls)
  rw [e0] at this
  have t2 : loop laws_markAngleSS_l0 (ls, (1 : Int), (0 : Int), ()) = some (tab (fun p => if p < ls.length then mk (off 1 ls p) (ls.getD p []).length else ls.getD p []) ls.length, off 1 ls ls.length, ()) := this
  rw [t2]
  simp only [Option.bind_some]
  congr 2
  exact tab_ext fun p hp => by simp [hp]
theorem held_lists {ls : List (List Ang)} (hl : ls.length ≤ 400) (hc : ∀ c ∈ ls, c.length ≤ 400) : laws_heldAngleSS (mks 1 ls) 1 = some (off 1 ls ls.length) := by
  unfold laws_heldAngleSS
  have := loop_count (step := laws_heldAngleSS_l0) (fun n => (mks 1 ls, off 1 ls n, (n : Int), ())) ls.length (.inr (off 1 ls ls.length, ())) (by
    intro n hn
    have hb := off_bnd (k := 1) (by omega) hc n (by omega)
    have hln : (ls.getD n []).length ≤ 400 := by rw [getD_at hn]; exact hc _ (List.getElem_mem _)
    unfold mks
    simp only [laws_heldAngleSS_l0, tab_len, ltb hn, nn, Bool.and_self, cond_true, Int.toNat_natCast]
    rw [tab_at hn, held_angles (by omega) (by omega) (by omega)]
    simp only [Option.bind_some]
    have : decide (off 1 ls n + 2 * ((ls.getD n []).length : Int) < 0) = false := decide_eq_false (by omega)
    rw [this, cond_false, w64_succ (by omega)]
    rfl) (by
    unfold mks
    simp only [laws_heldAngleSS_l0, tab_len, nltb (Nat.lt_irrefl ls.length), cond_false]) 0 (Nat.zero_le _)
  have t2 : loop laws_heldAngleSS_l0 (mks 1 ls, (1 : Int), (0 : Int), ()) = some (.inr (off 1 ls ls.length, ())) := this
  rw [t2]
  rfl
end Go.K.Pure

/- Plain laws of portraits, part T: PortraitOf. -/
set_option linter.all false
namespace Go.K.Pure
open Classical
theorem has_set {S : AA} {x : Ang} (hl : S.length ≤ 1000) (hs : ∀ s ∈ S, s.length ≤ 1000) : slices_ContainsFunc___impl_Angle__impl_Angle_v2 S x = some (decide (∃ s ∈ S, x ∈ s)) := by
  unfold slices_ContainsFunc___impl_Angle__impl_Angle_v2 slices_IndexFunc___impl_Angle__impl_Angle_v2
  have hL := loop_first (step := slices_IndexFunc___impl_Angle__impl_Angle_v2_l0) (fun i => (S, (), (x, ()), ((S.length : Nat) : Int), (i : Int), ())) S.length (.inr ()) (fun i => .inl ((i : Int), ())) (fun i => x ∈ sa S i) (by
    intro i hi _
    have e : S.getD ((i : Int)).toNat ([] : List Ang) = sa S i := rfl
    have := hs _ (sa_mem hi)
    simp only [slices_IndexFunc___impl_Angle__impl_Angle_v2_l0, impl_PortraitOf_f1, ltb hi, nn, Bool.and_self, cond_true, e, impl_has (show (sa S i).length < 4611686018427387904 by omega), Option.bind_some, w64_succ (show i < 4611686018427387904 by omega)]
    by_cases h : x ∈ sa S i
    · rw [sel_pos h, decide_eq_true h, cond_true]
    · rw [sel_neg h, decide_eq_false h, cond_false]) (by
    intro _
    simp only [slices_IndexFunc___impl_Angle__impl_Angle_v2_l0, nltb (Nat.lt_irrefl S.length), cond_false])
  rcases hL with ⟨i, hi, hp, hL⟩ | ⟨hp, hL⟩
  · have t' : loop slices_IndexFunc___impl_Angle__impl_Angle_v2_l0 (S, (), (x, ()), ((S.length : Nat) : Int), (0 : Int), ()) = _ := hL
    rw [t', decide_eq_true ⟨_, sa_mem hi, hp⟩]
    simp only [Option.bind_some, alt]
    have : decide ((i : Int) ≥ 0) = true := decide_eq_true (by omega)
    rw [this]
  · have t' : loop slices_IndexFunc___impl_Angle__impl_Angle_v2_l0 (S, (), (x, ()), ((S.length : Nat) : Int), (0 : Int), ()) = _ := hL
    rw [t', decide_eq_false (fun ⟨s, hs, hx⟩ => by
      obtain ⟨i, hi, rfl⟩ := mem_sa hs
      exact hp i hi hx)]
    rfl
theorem flat_bnd : ∀ {S : AA} {b : Nat}, (∀ s ∈ S, s.length ≤ b) → S.flatten.length ≤ S.length * b
  | [], b, _ => by simp
  | s :: S, b, h => by
    have := flat_bnd (S := S) (b := b) (fun t ht => h t (List.mem_cons_of_mem _ ht))
    have h1 := h s (by simp)
    rw [List.flatten_cons, List.length_append, List.length_cons, Nat.add_mul]
    omega
/-- The pairs of two orbits. -/
theorem pairs_l0 {x y : List Ang} (h : x.length = y.length) (hl : x.length ≤ 64) : loop impl_PortraitOf_l0 (x, y, ([] : AA), ((x.length : Nat) : Int), (0 : Int), ()) = some (x, pls (prs x y x.length), ()) := by
  have := loop_count (step := impl_PortraitOf_l0) (fun i => (x, y, pls (prs x y i), ((x.length : Nat) : Int), (i : Int), ())) x.length (x, pls (prs x y x.length), ()) (by
    intro i hi
    have e1 : x.getD ((i : Int)).toNat (0, 0, ()) = ea x i := rfl
    have e2 : y.getD ((i : Int)).toNat (0, 0, ()) = ea y i := rfl
    have hpl : (pls (prs x y i)).length = i := by simp [pls, prs]
    have e3 : pls (prs x y (i + 1)) = pls (prs x y i) ++ [[ea x i, ea y i]] := by rw [prs_succ]; simp [pls]
    have d : decide (((pls (prs x y i)).length + [[ea x i, ea y i]].length) * 32 ≤ 140737488355328) = true := decide_eq_true (by rw [hpl]; simp only [List.length_cons, List.length_nil]; omega)
    simp only [impl_PortraitOf_l0, ltb hi, ltb (show i < y.length by omega), nn, Bool.and_self, cond_true, e1, e2, d, e3, w64_succ (show i < 4611686018427387904 by omega)]) (by simp only [impl_PortraitOf_l0, nltb (Nat.lt_irrefl _), cond_false]) 0 (Nat.zero_le _)
  exact this
section
variable {L : List (Ang × Ang)} {a : Ang} {n K : Nat} (ha : isA a) (hL : L.length ≤ 100) (hv : ∀ p ∈ L, isA p.1 ∧ isA p.2) (hK : K ≤ n) (hn : n ≤ 64)
include ha hL hv hK hn
theorem cmp_len {j : Nat} (hb : ∀ j, j < K → (cmpS L (dblN a j)).length ≤ 128) : ∀ s ∈ rsS L (dblN a) K, s.length ≤ 128 := fun s hs => by
  obtain ⟨j, hj, rfl⟩ := rsS_mem.1 hs
  exact hb j hj
/-- The program's sets. -/
theorem sets_l1 (hb : ∀ j, j < K → (cmpS L (dblN a j)).length ≤ 128) (hm : Met L (dblN a) K) (hnm : ∀ k, k < K → ¬ Met L (dblN a) k) :
    loop impl_PortraitOf_l1 (orbL a n, pls L, ([] : AA), (0 : Int), (((orbL a n).length : Nat) : Int), (0 : Int), ()) = some (rsS L (dblN a) K, (((rsS L (dblN a) K).flatten.length : Nat) : Int), ()) := by
  rw [orbL_len]
  have hbk : ∀ k, k ≤ K → ∀ s ∈ rsS L (dblN a) k, s.length ≤ 128 := fun k hk s hs => by
    obtain ⟨j, hj, rfl⟩ := rsS_mem.1 hs
    exact hb j (by omega)
  have hfk : ∀ k, k ≤ K → (rsS L (dblN a) k).flatten.length ≤ 64 * 128 := fun k hk => by
    have := flat_bnd (hbk k hk)
    rw [rsS_len] at this
    exact Nat.le_trans this (Nat.mul_le_mul (by omega) (Nat.le_refl _))
  have := loop_count (step := impl_PortraitOf_l1) (fun k => (orbL a n, pls L, rsS L (dblN a) k, (((rsS L (dblN a) k).flatten.length : Nat) : Int), ((n : Nat) : Int), (k : Int), ())) K (rsS L (dblN a) K, (((rsS L (dblN a) K).flatten.length : Nat) : Int), ()) (by
    intro k hk
    have hkn : k < n := by omega
    have hko : k < (orbL a n).length := by rw [orbL_len]; exact hkn
    have e1 : (orbL a n).getD ((k : Int)).toNat (0, 0, ()) = dblN a k := orbL_at hkn
    have hs := has_set (S := rsS L (dblN a) k) (x := dblN a k) (by rw [rsS_len]; omega) (fun s hs => Nat.le_trans (hbk k (by omega) s hs) (by omega))
    rw [decide_eq_false (show ¬ (∃ s ∈ rsS L (dblN a) k, dblN a k ∈ s) from hnm k hk)] at hs
    have hg := (hang_ok (a := dblN a k) hL hv (dblN_isA ha k)).1
    have hlen : (rsS L (dblN a) k).length = k := rsS_len k
    have hl1 : (rsS L (dblN a) k ++ [cmpS L (dblN a k)]).length = k + 1 := by rw [List.length_append, hlen]; rfl
    have d : decide (((rsS L (dblN a) k).length + [cmpS L (dblN a k)].length) * 24 ≤ 140737488355328) = true := decide_eq_true (by rw [hlen]; simp only [List.length_cons, List.length_nil]; omega)
    have hw : w64 (((k + 1 : Nat) : Int) - 1) = (k : Int) := by rw [w64_id (by omega) (by omega)]; omega
    have e2 : (rsS L (dblN a) k ++ [cmpS L (dblN a k)]).getD ((k : Int)).toNat ([] : List Ang) = cmpS L (dblN a k) := by
      rw [Int.toNat_natCast, getD_at (by rw [hl1]; omega), List.getElem_append_right (by omega)]
      simp [hlen]
    have hf1 : (rsS L (dblN a) (k + 1)).flatten.length = (rsS L (dblN a) k).flatten.length + (cmpS L (dblN a k)).length := by
      rw [rsS, List.flatten_append, List.length_append]; simp
    have hb1 := hfk k (by omega)
    have hb2 := hb k hk
    have hw2 : w64 ((((rsS L (dblN a) k).flatten.length : Nat) : Int) + (((cmpS L (dblN a k)).length : Nat) : Int)) = (((rsS L (dblN a) (k + 1)).flatten.length : Nat) : Int) := by
      rw [w64_id (by omega) (by omega), hf1]; omega
    have e3 : rsS L (dblN a) (k + 1) = rsS L (dblN a) k ++ [cmpS L (dblN a k)] := rfl
    have c1 : decide (((k : Nat) : Int) < ((k + 1 : Nat) : Int)) = true := decide_eq_true (by omega)
    simp only [impl_PortraitOf_l1, ltb hkn, ltb hko, nn, Bool.and_self, cond_true, cond_false, e1, hs, Option.bind_some, hg, d, hl1, hw, c1, e2, hw2, w64_succ (show k < 4611686018427387904 by omega)]
    rw [e3]) (by
    by_cases hKn : K < n
    · have hko : K < (orbL a n).length := by rw [orbL_len]; exact hKn
      have e1 : (orbL a n).getD ((K : Int)).toNat (0, 0, ()) = dblN a K := orbL_at hKn
      have hs := has_set (S := rsS L (dblN a) K) (x := dblN a K) (by rw [rsS_len]; omega) (fun s hs => Nat.le_trans (hbk K (Nat.le_refl _) s hs) (by omega))
      rw [decide_eq_true (show ∃ s ∈ rsS L (dblN a) K, dblN a K ∈ s from hm)] at hs
      simp only [impl_PortraitOf_l1, ltb hKn, ltb hko, nn, Bool.and_self, cond_true, e1, hs, Option.bind_some]
    · have : K = n := by omega
      subst this
      simp only [impl_PortraitOf_l1, nltb (Nat.lt_irrefl _), cond_false]) 0 (Nat.zero_le _)
  exact this
end
/-- The reference's count. -/
theorem count_l0 {S : AA} (hl : S.length ≤ 100000) (hf : S.flatten.length ≤ 100000) : loop spec_PortraitOf_l0 (S, (0 : Int), (0 : Int), ()) = some (S, ((S.flatten.length : Nat) : Int), ()) := by
  have := loop_count (step := spec_PortraitOf_l0) (fun i => (S, (((fl S i).length : Nat) : Int), (i : Int), ())) S.length (S, ((S.flatten.length : Nat) : Int), ()) (by
    intro i hi
    have e : S.getD ((i : Int)).toNat ([] : List Ang) = sa S i := rfl
    have h1 := fl_succ hi
    have h2 : (fl S (i + 1)).length ≤ S.flatten.length := by rw [← fl_all S]; exact fl_mono (by omega)
    rw [h1, List.length_append] at h2
    have hw : w64 ((((fl S i).length : Nat) : Int) + (((sa S i).length : Nat) : Int)) = (((fl S (i + 1)).length : Nat) : Int) := by
      rw [w64_id (by omega) (by omega), h1, List.length_append]; omega
    simp only [spec_PortraitOf_l0, ltb hi, nn, Bool.and_self, cond_true, e, hw, w64_succ (show i < 4611686018427387904 by omega)]) (by simp only [spec_PortraitOf_l0, nltb (Nat.lt_irrefl _), cond_false, fl_all]) 0 (Nat.zero_le _)
  exact this
theorem least {P : Nat → Prop} (h : ∃ k, P k) : ∃ k, P k ∧ (∀ j, j < k → ¬ P j) ∧ ∀ m, P m → k ≤ m := by
  obtain ⟨k, hk⟩ := h
  induction k using Nat.strongRecOn with
  | _ k ih =>
    by_cases c : ∃ j, j < k ∧ P j
    · obtain ⟨j, hj, hp⟩ := c
      exact ih j hj hp
    · exact ⟨k, hk, fun j hj hp => c ⟨j, hj, hp⟩, fun m hm => by
        rcases Nat.lt_or_ge m k with h | h
        · exact absurd ⟨m, h, hm⟩ c
        · exact h⟩
theorem inA_isA {x : Ang} (h : isA x) : InA x := by
  obtain ⟨h1, h2, h3, h4, _⟩ := h
  exact ⟨⟨by omega, by omega⟩, ⟨by omega, by omega⟩⟩
theorem portrait_same {a b : Ang} (ha : InA a) (hb : InA b) : ∃ r : AA × Int, spec_PortraitOf a b = some r ∧ impl_PortraitOf a b = some r ∧ r.1.length ≤ 400 ∧ ∀ c ∈ r.1, c.length ≤ 400 := by
  have nil : ∀ c : Int, ∃ r : AA × Int, some (([] : AA), c) = some r ∧ some (([] : AA), c) = some r ∧ r.1.length ≤ 400 ∧ ∀ c ∈ r.1, c.length ≤ 400 := fun c => ⟨_, rfl, rfl, by simp, by simp⟩
  unfold spec_PortraitOf impl_PortraitOf
  rw [spec_isA ha, impl_code (xs := [a, b]) (by simp only [List.mem_cons, List.not_mem_nil, or_false]; rintro x (rfl | rfl) <;> assumption) (by simp)]
  have e0 : ((0 : Int) != 0) = false := rfl
  have e1 : ((1 : Int) != 0) = true := rfl
  by_cases hA : isA a
  rotate_left
  · rw [decide_eq_false hA, sel_neg (fun h => hA (h a (by simp)))]
    exact nil 1
  by_cases hB : isA b
  rotate_left
  · rw [decide_eq_true hA, sel_neg (fun h => hB (h b (by simp)))]
    simp only [Option.bind_some, Bool.not_true, cond_false, spec_isA hb, decide_eq_false hB, Bool.not_false, cond_true, e1]
    exact nil 1
  rw [decide_eq_true hA, sel_pos (by simp only [List.mem_cons, List.not_mem_nil, or_false]; rintro x (rfl | rfl) <;> assumption)]
  simp only [Option.bind_some, Bool.not_true, cond_false, spec_isA hb, decide_eq_true hB, e0, ob_spec hA, ob_spec hB, ob_impl hA, ob_impl hB]
  cases hka : (ob a).2.2 with
  | false => exact nil 3
  | true =>
  cases hkb : (ob b).2.2 with
  | false => exact nil 3
  | true =>
  simp only [Bool.not_true, cond_false, beqA]
  by_cases hab : a = b
  · rw [decide_eq_true hab]; exact nil 5
  rw [decide_eq_false hab]
  simp only [cond_false]
  have hper := impl_periodic_ok (xs := [a, b]) (by simp only [List.mem_cons, List.not_mem_nil, or_false]; rintro x (rfl | rfl) <;> assumption) (by simp) (by simp)
  have he0 : ea [a, b] 0 = a := rfl
  rw [he0] at hper
  obtain ⟨m, m1, m2, m3, m4, m5⟩ := ob_ok2 hA hka
  obtain ⟨m', n1, n2, n3, n4, n5⟩ := ob_ok2 hB hkb
  have hPer : (∀ x ∈ [a, b], PerOK x (ob a).1.length) ↔ pre a = 0 ∧ pre b = 0 ∧ m' = m := by
    simp only [List.mem_cons, List.not_mem_nil, or_false, forall_eq_or_imp, forall_eq, PerOK, hka, hkb, true_and, and_true]
    rw [m5, n5]
    simp only [orbL_len]
  rw [hper]
  by_cases h1 : pre a = 0
  rotate_left
  · rw [decide_eq_false (fun h => h1 (hPer.1 h).1), m5]
    have : (((pre a : Nat) : Int) != 0) = true := by simp only [bne_iff_ne, ne_eq]; omega
    simp only [this, cond_true, Option.bind_some, Bool.not_false]
    exact nil 5
  by_cases h2 : pre b = 0
  rotate_left
  · rw [decide_eq_false (fun h => h2 (hPer.1 h).2.1), m5, n5, h1]
    have : (((pre b : Nat) : Int) != 0) = true := by simp only [bne_iff_ne, ne_eq]; omega
    have z : (((0 : Nat) : Int) != 0) = false := rfl
    simp only [this, z, cond_true, cond_false, Option.bind_some, Bool.not_false]
    exact nil 5
  by_cases h3 : m' = m
  rotate_left
  · rw [decide_eq_false (fun h => h3 (hPer.1 h).2.2), m5, n5, h1, h2]
    have : (((m : Nat) : Int) != ((m' : Nat) : Int)) = true := by simp only [bne_iff_ne, ne_eq]; omega
    have z : (((0 : Nat) : Int) != 0) = false := rfl
    simp only [orbL_len, this, z, cond_true, cond_false, Option.bind_some, Bool.not_false]
    exact nil 5
  subst h3
  rw [decide_eq_true (hPer.2 ⟨h1, h2, rfl⟩), m5, n5, h1, h2]
  rw [h1] at m2 m4
  have z : (((0 : Nat) : Int) != 0) = false := rfl
  have lx : (orbL a m').length = m' := orbL_len
  have ly : (orbL b m').length = m' := orbL_len
  have hx : ∀ x ∈ orbL a m', isA x := fun x hx => by
    obtain ⟨j, _, rfl⟩ := orbL_mem.1 hx
    exact dblN_isA hA j
  have hy : ∀ x ∈ orbL b m', isA x := fun x hx => by
    obtain ⟨j, _, rfl⟩ := orbL_mem.1 hx
    exact dblN_isA hB j
  obtain ⟨S, s1, hP, s2, s3⟩ := join_l0 hx hy (by rw [lx, ly]) (by rw [lx]; exact m1)
  rw [lx] at hP
  have hpl := pairs_l0 (x := orbL a m') (y := orbL b m') (by rw [lx, ly]) (by rw [lx]; exact m1)
  rw [lx] at hpl
  have hin : ∀ k, k < m' → (dblN a k, dblN b k) ∈ prs (orbL a m') (orbL b m') m' := fun k hk => prs_mem.2 ⟨k, hk, by rw [orbL_at hk, orbL_at hk]⟩
  have hvL : ∀ p ∈ prs (orbL a m') (orbL b m') m', isA p.1 ∧ isA p.2 := fun p hp => by
    obtain ⟨k, hk, rfl⟩ := prs_mem.1 hp
    simp only [orbL_at hk]
    exact ⟨dblN_isA hA k, dblN_isA hB k⟩
  have hLl : (prs (orbL a m') (orbL b m') m').length = m' := by simp [prs]
  generalize prs (orbL a m') (orbL b m') m' = L at hP hpl hin hvL hLl
  have hex : ∃ k, Met L (dblN a) k := ⟨m', cmpS L (dblN a 0), rsS_mem.2 ⟨0, m2, rfl⟩, by rw [m4]; exact (set_is hP s2 s3 (hin 0 m2)).2⟩
  have hMm : Met L (dblN a) m' := ⟨cmpS L (dblN a 0), rsS_mem.2 ⟨0, m2, rfl⟩, by rw [m4]; exact (set_is hP s2 s3 (hin 0 m2)).2⟩
  obtain ⟨K, hM, hNM, hKle⟩ := least hex
  have hKm : K ≤ m' := hKle m' hMm
  have h3l := ord_l3 hP s2 s3 hA (y := dblN b) (K := K) (fun k hk => hin k (by omega)) (by omega) hM hNM
  have hinS : ∀ s ∈ rsS L (dblN a) K, s ∈ S := fun s hs => by
    obtain ⟨j, hj, rfl⟩ := rsS_mem.1 hs
    exact (set_is hP s2 s3 (hin j (by omega))).1
  have hl1 := sets_l1 (n := m') hA (by omega) hvL hKm m1 (fun j hj => set_len hP s2 s3 (set_is hP s2 s3 (hin j (by omega))).1) hM hNM
  rw [lx] at hl1
  have hRl : (rsS L (dblN a) K).length = K := rsS_len K
  have hRf : (rsS L (dblN a) K).flatten.length ≤ 64 * 128 := by
    have := flat_bnd (fun s hs => set_len hP s2 s3 (hinS s hs))
    rw [hRl] at this
    exact Nat.le_trans this (Nat.mul_le_mul (by omega) (Nat.le_refl _))
  have hj : spec_l07Joined (orbL a m') (orbL b m') = some (rsS L (dblN a) K) := by
    unfold spec_l07Joined
    rw [s1]
    have c : (decide ((0 : Int) ≤ 0) && decide ((0 : Int) < (((orbL a m').length : Nat) : Int))) = true := inb (n := 0) (by rw [lx]; exact m2)
    have e : (orbL a m').getD ((0 : Int)).toNat (0, 0, ()) = a := orbL_at m2
    simp only [Option.bind_some, c, cond_true, e, h3l]
  have hcnt := count_l0 (S := rsS L (dblN a) K) (by omega) (by omega)
  simp only [z, cond_false, lx, ly, bne_self_eq_false, hj, Option.bind_some, hcnt, Bool.not_true, hpl, hl1]
  generalize rsS L (dblN a) K = R at hinS hRl hRf hj hl1 hcnt h3l hM
  by_cases c1 : (((R.length : Nat) : Int) > 12)
  · rw [decide_eq_true c1]; exact nil 3
  rw [decide_eq_false c1]
  simp only [cond_false]
  by_cases c2 : (((R.flatten.length : Nat) : Int) > 64)
  · rw [decide_eq_true c2]; exact nil 3
  rw [decide_eq_false c2]
  simp only [cond_false]
  obtain ⟨q, q1, q2⟩ := l07_told (S := R) (fun s hs x hx => inA_isA ((hP.asc s (hinS s hs)).1 x hx)) (by omega) (by omega)
  rw [q1, q2]
  cases q with
  | false => exact nil 5
  | true => exact ⟨_, rfl, rfl, by show R.length ≤ 400; omega, fun s hs => Nat.le_trans (set_len hP s2 s3 (hinS s hs)) (by omega)⟩
theorem toA (a : Ang) : laws_toAngle a = some a := rfl
theorem law_PortraitOf {a b : Ang} (ha : InA a) (hb : InA b) : laws_FnExactPortraitOf a b = some true := by
  obtain ⟨⟨g, c⟩, h1, h2, h3, h4⟩ := portrait_same ha hb
  simp only at h3 h4
  unfold laws_FnExactPortraitOf
  rw [toA, toA]
  simp only [Option.bind_some]
  rw [h1, h2]
  simp only [Option.bind_some, eq_angleSS (show g.length ≤ 1048576 by omega) (fun c hc => Nat.le_trans (h4 c hc) (by omega)), mark_lists h3 h4, held_lists h3 h4, Bool.not_true, cond_false, bne_self_eq_false]
  have hb := off_bnd (k := 1) (by omega) h4 g.length (Nat.le_refl _)
  have : decide (off 1 g g.length < 0) = false := decide_eq_false (by omega)
  simp only [this, cond_false]
end Go.K.Pure

