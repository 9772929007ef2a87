/- Part 2 of the plain law: the functions of the program as plain functions on lists and numbers, and what is shown of them; no condition. -/
import Derived.Test.YtjpkedcnfhflpaaP1
set_option linter.all false
/- Plain laws of portraits, part H: periods. -/
set_option linter.unusedVariables false
set_option linter.unusedSimpArgs false
namespace Go.K.Pure
open Classical

/-- An orbit, with what is told beside it. -/
noncomputable def ob (a : Ang) : List Ang × Int × Bool := (impl_Angle_orbit a).getD ([], 0, false)
section
variable {a : Ang} (h : isA a)
include h
theorem ob_impl : impl_Angle_orbit a = some (ob a) := by
  obtain ⟨r, h1, _⟩ := orbit_same h
  unfold ob
  rw [h1]; rfl
theorem ob_spec : spec_l01Orbit a = some (ob a) := by
  obtain ⟨r, h1, h2, _⟩ := orbit_same h
  unfold ob
  rw [h1, h2]; rfl
theorem ob_len : (ob a).1.length ≤ 64 := by
  obtain ⟨r, h1, h2, h3, _⟩ := orbit_same h
  unfold ob
  rw [h1]; exact h3
theorem ob_ok (hk : (ob a).2.2 = true) : (ob a).2.1 = (pre a : Int) ∧ pre a < (ob a).1.length := by
  obtain ⟨r, h1, h2, h3, h4, h5⟩ := orbit_same h
  unfold ob at hk ⊢
  rw [h1] at hk ⊢
  exact ⟨(h4 hk).1, (h4 hk).2.1⟩
end
/-- Periodic, with a given number of angles in the orbit. -/
def PerOK (x : Ang) (L : Nat) : Prop := (ob x).2.2 = true ∧ pre x = 0 ∧ (ob x).1.length = L
theorem impl_preper {a : Ang} (h : isA a) : impl_preperiods a = some (sel ((ob a).2.2 = true) ((pre a : Int), (((ob a).1.length - pre a : Nat) : Int)) (-1, 0)) := by
  unfold impl_preperiods
  rw [ob_impl h]
  simp only [Option.bind_some]
  have hl := ob_len h
  by_cases hk : (ob a).2.2 = true
  · obtain ⟨h1, h2⟩ := ob_ok h hk
    rw [hk, sel_pos rfl, h1, Bool.not_true, cond_false, w64_id (by omega) (by omega)]
    congr 2
    omega
  · have : (ob a).2.2 = false := by simpa using hk
    rw [this, sel_neg (by simp)]
    rfl
theorem impl_allPer {xs : List Ang} (hv : ∀ x ∈ xs, isA x) (hl : xs.length ≤ 1048576) (L : Nat) : impl_areAll_impl_Angle_v3 xs (L : Int) = some (decide (∀ x ∈ xs, PerOK x L)) := by
  unfold impl_areAll_impl_Angle_v3 slices_ContainsFunc__impl_Angle_impl_Angle_v3 slices_IndexFunc__impl_Angle_impl_Angle_v3
  have hL := loop_first (step := slices_IndexFunc__impl_Angle_impl_Angle_v3_l0) (fun i => (xs, (), (((), (L : Int), ()), ()), ((xs.length : Nat) : Int), (i : Int), ())) xs.length (.inr ()) (fun i => .inl ((i : Int), ())) (fun i => ¬ PerOK (ea xs i) L) (by
    intro i hi _
    simp only [slices_IndexFunc__impl_Angle_impl_Angle_v3_l0, impl_areAll_impl_Angle_f1_v3, impl_periodic_f1, ltb hi, nn, Bool.and_self, cond_true, Int.toNat_natCast]
    rw [impl_preper (hv _ (ea_mem hi))]
    simp only [Option.bind_some]
    by_cases hk : (ob (ea xs i)).2.2 = true
    · obtain ⟨h1, h2⟩ := ob_ok (hv _ (ea_mem hi)) hk
      rw [show sel ((ob (xs.getD i dA)).2.2 = true) ((pre (xs.getD i dA) : Int), (((ob (xs.getD i dA)).1.length - pre (xs.getD i dA) : Nat) : Int)) (-1, 0) = ((pre (ea xs i) : Int), (((ob (ea xs i)).1.length - pre (ea xs i) : Nat) : Int)) from sel_pos hk]
      simp only
      by_cases hp : pre (ea xs i) = 0
      · rw [hp, Nat.sub_zero]
        have c : (((0 : Nat) : Int) == 0) = true := rfl
        rw [c, cond_true, eq_nat]
        simp only [Option.bind_some]
        by_cases hq : (ob (ea xs i)).1.length = L
        · rw [decide_eq_true hq, sel_neg (fun h => h ⟨hk, hp, hq⟩), Bool.not_true, cond_false, w64_succ (by omega)]
        · rw [decide_eq_false hq, sel_pos (fun h => hq h.2.2), Bool.not_false, cond_true]
      · rw [e0_false (show 0 < pre (ea xs i) by omega), cond_false, sel_pos (fun h => hp h.2.1)]
        rfl
    · rw [show sel ((ob (xs.getD i dA)).2.2 = true) ((pre (xs.getD i dA) : Int), (((ob (xs.getD i dA)).1.length - pre (xs.getD i dA) : Nat) : Int)) (-1, 0) = (-1, 0) from sel_neg hk, sel_pos (fun h => hk h.1)]
      rfl) (by
    intro _
    simp only [slices_IndexFunc__impl_Angle_impl_Angle_v3_l0, nltb (Nat.lt_irrefl xs.length), cond_false])
  rcases hL with ⟨i, hi, hp, hL⟩ | ⟨hp, hL⟩
  · have t' : loop slices_IndexFunc__impl_Angle_impl_Angle_v3_l0 (xs, (), (((), (L : Int), ()), ()), ((xs.length : Nat) : Int), (0 : Int), ()) = _ := hL
    rw [t', decide_eq_false (fun h => hp (h _ (ea_mem hi)))]
    simp only [Option.bind_some, alt]
    have : decide ((i : Int) ≥ 0) = true := decide_eq_true (by omega)
    rw [this]; rfl
  · have t' : loop slices_IndexFunc__impl_Angle_impl_Angle_v3_l0 (xs, (), (((), (L : Int), ()), ()), ((xs.length : Nat) : Int), (0 : Int), ()) = _ := hL
    rw [t', decide_eq_true (fun x hx => by
      obtain ⟨i, hi, rfl⟩ := mem_ea hx
      exact Classical.byContradiction (hp i hi))]
    rfl
theorem impl_periodic_ok {xs : List Ang} (hv : ∀ x ∈ xs, isA x) (hl : xs.length ≤ 1048576) (h0 : 0 < xs.length) : impl_periodic xs = some (decide (∀ x ∈ xs, PerOK x (ob (ea xs 0)).1.length)) := by
  unfold impl_periodic
  have c : (decide ((0 : Int) ≤ (0 : Int)) && decide ((0 : Int) < ((xs.length : Nat) : Int))) = true := inb h0
  rw [c, cond_true]
  have e : xs.getD (0 : Int).toNat dA = ea xs 0 := rfl
  rw [e, impl_preper (hv _ (ea_mem h0))]
  simp only [Option.bind_some]
  by_cases hk : (ob (ea xs 0)).2.2 = true
  · obtain ⟨h1, h2⟩ := ob_ok (hv _ (ea_mem h0)) hk
    rw [sel_pos hk]
    simp only
    rw [impl_allPer hv hl]
    simp only [Option.bind_some]
    by_cases hp : pre (ea xs 0) = 0
    · rw [hp, Nat.sub_zero]
    · congr 1
      exact decide_eq_decide.2 ⟨fun h => absurd (h _ (ea_mem h0)).2.1 hp, fun h => absurd (h _ (ea_mem h0)).2.1 hp⟩
  · rw [sel_neg hk]
    have e0 : impl_areAll_impl_Angle_v3 xs (0 : Int) = _ := impl_allPer hv hl 0
    simp only
    rw [e0]
    simp only [Option.bind_some]
    congr 1
    exact decide_eq_decide.2 ⟨fun h => absurd (h _ (ea_mem h0)).1 hk, fun h => absurd (h _ (ea_mem h0)).1 hk⟩
section
variable {S : AA} (g : Good S)
include g
theorem flat_pos : 0 < S.flatten.length := Nat.lt_of_lt_of_le (g.ne g.one) (len_fl g.one)
theorem flat_zero : ea S.flatten 0 = ea (sa S 0) 0 := by
  have h1 := g.one
  have h2 := g.ne g.one
  cases S with
  | nil => simp at h1
  | cons s r =>
    have e : sa (s :: r) 0 = s := rfl
    rw [e] at h2 ⊢
    cases s with
    | nil => simp at h2
    | cons x s => rfl
/-- The period that is known when a place is come to. -/
noncomputable def kp (L i k : Nat) : Int := sel (i = 0 ∧ k = 0) 0 (L : Int)
theorem spec_per4 : loop spec_l07Fails_l2 (S, ((S.length : Nat) : Int), (0 : Int), (0 : Int), ()) = some (sel (∃ i, i < S.length ∧ ∃ k, k < (sa S i).length ∧ ¬ PerOK (ea (sa S i) k) (ob (ea S.flatten 0)).1.length) (.inl (4, ())) (.inr (S, ((S.length : Nat) : Int), ()))) := by
  have h12 := g.most
  have h1 := g.one
  rw [flat_zero g]
  generalize hL0 : (ob (ea (sa S 0) 0)).1.length = L
  have hLp : PerOK (ea (sa S 0) 0) L → 0 < L := fun h => by
    have := ob_ok (g.isA g.one (g.ne g.one)) h.1
    omega
  have hin : ∀ i, i < S.length → (0 < i → PerOK (ea (sa S 0) 0) L) → loop spec_l07Fails_l3 (S, ((S.length : Nat) : Int), kp L i 0, (i : Int), (0 : Int), ()) = some (sel (∃ k, k < (sa S i).length ∧ ¬ PerOK (ea (sa S i) k) L) (.inl (4, ())) (.inr (S, ((S.length : Nat) : Int), (L : Int), (i : Int), ()))) := by
    intro i hi hpos
    have hlen := g.len hi
    have hne := g.ne hi
    have e : kp L i (sa S i).length = (L : Int) := sel_neg (fun h => by omega)
    rw [← e]
    exact loop_any (step := spec_l07Fails_l3) (fun k => (S, ((S.length : Nat) : Int), kp L i k, (i : Int), (k : Int), ())) (sa S i).length (.inr (S, ((S.length : Nat) : Int), kp L i (sa S i).length, (i : Int), ())) (.inl (4, ())) (fun k => ¬ PerOK (ea (sa S i) k) L) (by
      intro k hk hbef
      have c1 : decide ((k : Int) < ((S.getD i []).length : Int)) = true := ltb hk
      have hx := g.isA hi hk
      have hle := ob_len hx
      have e2 : kp L i (k + 1) = (L : Int) := sel_neg (fun h => by omega)
      simp only [spec_l07Fails_l3, ltb hi, nn, Bool.and_self, cond_true, Int.toNat_natCast, c1]
      rw [show spec_l01Orbit ((S.getD i []).getD k dA) = some (ob (ea (sa S i) k)) from ob_spec hx]
      simp only [Option.bind_some]
      by_cases hok : (ob (ea (sa S i) k)).2.2 = true
      rotate_left
      · have hf : (ob (ea (sa S i) k)).2.2 = false := by simpa using hok
        rw [hf, Bool.not_false, cond_true, sel_pos (fun h => hok h.1)]
      obtain ⟨q1, q2⟩ := ob_ok hx hok
      rw [hok, Bool.not_true, cond_false, q1]
      by_cases hp : pre (ea (sa S i) k) = 0
      rotate_left
      · have c2 : ((pre (ea (sa S i) k) : Int) != 0) = true := by rw [bne, e0_false (show 0 < pre (ea (sa S i) k) by omega)]; rfl
        rw [c2, cond_true, sel_pos (fun h => hp h.2.1)]
      have c2 : ((pre (ea (sa S i) k) : Int) != 0) = false := by rw [hp]; rfl
      rw [c2, cond_false]
      by_cases h00 : i = 0 ∧ k = 0
      · obtain ⟨rfl, rfl⟩ := h00
        have e3 : kp L 0 0 = 0 := sel_pos ⟨rfl, rfl⟩
        rw [e3]
        have c3 : decide ((0 : Int) > 0) = false := by simp
        rw [c3, cond_false, sel_neg (fun h => h ⟨hok, hp, hL0⟩), w64_succ (by omega), hL0, e2]
      · have hfirst : PerOK (ea (sa S 0) 0) L := by
          rcases Nat.eq_zero_or_pos i with e0 | e0
          · subst e0
            exact Classical.byContradiction (hbef 0 (by omega))
          · exact hpos e0
        have hLpos := hLp hfirst
        have e3 : kp L i k = (L : Int) := sel_neg h00
        rw [e3]
        have c3 : decide ((L : Int) > 0) = true := decide_eq_true (by omega)
        rw [c3, cond_true]
        simp only [bne, eq_nat]
        by_cases hq : (ob (ea (sa S i) k)).1.length = L
        · rw [decide_eq_true hq, Bool.not_true, cond_false, sel_neg (fun h => h ⟨hok, hp, hq⟩), w64_succ (by omega), hq, e2]
        · rw [decide_eq_false hq, Bool.not_false, cond_true, sel_pos (fun h => hq h.2.2)]) (by
      intro _
      have c1 : decide (((sa S i).length : Int) < ((S.getD i []).length : Int)) = false := nltb (Nat.lt_irrefl _)
      simp only [spec_l07Fails_l3, ltb hi, nn, Bool.and_self, cond_true, Int.toNat_natCast, c1, cond_false])
  have h0 := loop_any (step := spec_l07Fails_l2) (fun i => (S, ((S.length : Nat) : Int), kp L i 0, (i : Int), ())) S.length (.inr (S, ((S.length : Nat) : Int), ())) (.inl (4, ())) (fun i => ∃ k, k < (sa S i).length ∧ ¬ PerOK (ea (sa S i) k) L) (by
    intro i hi hbef
    simp only [spec_l07Fails_l2, ltb hi, cond_true]
    rw [hin i hi (fun hp => Classical.byContradiction fun hn => hbef 0 hp ⟨0, g.ne g.one, hn⟩)]
    by_cases h : ∃ k, k < (sa S i).length ∧ ¬ PerOK (ea (sa S i) k) L
    · rw [sel_pos h, sel_pos h]; rfl
    · rw [sel_neg h, sel_neg h]
      simp only [Option.bind_some, alt]
      have e2 : kp L (i + 1) 0 = (L : Int) := sel_neg (fun h => by omega)
      rw [w64_succ (by omega), e2]) (by
    intro _
    simp only [spec_l07Fails_l2, nltb (Nat.lt_irrefl S.length), cond_false])
  have e0 : kp L 0 0 = 0 := sel_pos ⟨rfl, rfl⟩
  simp only [e0] at h0
  exact h0
omit g in
theorem per_iff (L : Nat) : (∃ i, i < S.length ∧ ∃ k, k < (sa S i).length ∧ ¬ PerOK (ea (sa S i) k) L) ↔ ¬ ∀ x ∈ S.flatten, PerOK x L := by
  constructor
  · rintro ⟨i, hi, k, hk, h⟩ hall
    exact h (hall _ (List.mem_flatten.2 ⟨_, sa_mem hi, ea_mem hk⟩))
  · intro h
    apply Classical.byContradiction
    intro hn
    refine h fun x hx => ?_
    obtain ⟨s, hs, hx⟩ := List.mem_flatten.1 hx
    obtain ⟨i, hi, rfl⟩ := mem_sa hs
    obtain ⟨k, hk, rfl⟩ := mem_ea hx
    exact Classical.byContradiction fun h' => hn ⟨i, hi, k, hk, h'⟩
end
end Go.K.Pure

/- Plain laws of portraits, part I: sets that are linked. -/
set_option linter.unusedVariables false
set_option linter.unusedSimpArgs false
set_option linter.unusedSectionVars false
namespace Go.K.Pure
open Classical

/-- x is in the arc from a to b. -/
def Arc (a b x : Ang) : Prop := val a < val b ∧ val a < val x ∧ val x < val b ∨ ¬ val a < val b ∧ (val a < val x ∨ val x < val b)
theorem impl_order_arc {a b x : Ang} (ha : isA a) (hb : isA b) (hx : isA x) (h1 : val a ≠ val b) (h2 : val x ≠ val a) (h3 : val x ≠ val b) : ∃ o : Int, impl_order a x b = some o ∧ (o = 1 ↔ Arc a b x) := by
  refine ⟨_, impl_order_ok ha hx hb, ?_⟩
  have n1 : ¬ (a = x ∨ x = b ∨ a = b) := by
    rintro (e | e | e)
    · exact h2 (by rw [e])
    · exact h3 (by rw [e])
    · exact h1 (by rw [e])
  rw [if_neg n1]
  have a0 := val_nonneg ha
  have a1 := val_lt_KK ha
  have b0 := val_nonneg hb
  have b1 := val_lt_KK hb
  have x0 := val_nonneg hx
  have x1 := val_lt_KK hx
  unfold dv Arc
  split <;> split <;> (try split) <;> constructor <;> intro h <;> omega
theorem spec_within_arc {a b x : Ang} (ha : isA a) (hb : isA b) (hx : isA x) : spec_l01Within x a b = some (decide (Arc a b x)) := by
  have t1 := lt_val ha hb
  have t2 := lt_val ha hx
  have t3 := lt_val hx hb
  by_cases h : lt a b
  · rw [spec_within hx ha hb h]
    congr 1
    apply decide_eq_decide.2
    rw [t2, t3]
    rw [t1] at h
    unfold Arc
    constructor
    · intro h'; exact .inl ⟨h, h'.1, h'.2⟩
    · rintro (h' | h')
      · exact h'.2
      · exact absurd h h'.1
  · unfold spec_l01Within
    rw [spec_less ha hb, decide_eq_false h]
    simp only [Option.bind_some, cond_false]
    rw [spec_less ha hx]
    simp only [Option.bind_some]
    rw [t1] at h
    by_cases h2 : lt a x
    · rw [decide_eq_true h2, cond_true]
      congr 1
      exact (decide_eq_true (.inr ⟨h, .inl (t2.1 h2)⟩)).symm
    · rw [decide_eq_false h2, cond_false, spec_less hx hb]
      simp only [Option.bind_some]
      congr 1
      apply decide_eq_decide.2
      rw [t3]
      rw [t2] at h2
      unfold Arc
      constructor
      · intro h'; exact .inr ⟨h, .inr h'⟩
      · rintro (h' | h')
        · exact absurd h'.1 h
        · exact h'.2.elim (fun h' => absurd h' h2) id
/-- The arc behind a place. -/
def AtArc (o : List Ang) (i : Nat) (x : Ang) : Prop := Arc (ea o i) (ea o ((i + 1) % o.length)) x
section
variable {o : List Ang} (ho : AscL o) (hn : 2 ≤ o.length)
include ho hn
theorem atArc_mid {i : Nat} {x : Ang} (hi : i + 1 < o.length) : AtArc o i x ↔ val (ea o i) < val x ∧ val x < val (ea o (i + 1)) := by
  have := ho i hi
  unfold AtArc Arc
  rw [Nat.mod_eq_of_lt hi]
  omega
theorem atArc_last {x : Ang} : AtArc o (o.length - 1) x ↔ val (ea o (o.length - 1)) < val x ∨ val x < val (ea o 0) := by
  have := ascL_lt ho (i := 0) (j := o.length - 1) (by omega) (by omega)
  unfold AtArc Arc
  rw [show o.length - 1 + 1 = o.length by omega, Nat.mod_self]
  omega
theorem arc_some {x : Ang} (hx : ∀ j, j < o.length → val x ≠ val (ea o j)) : ∃ i, i < o.length ∧ AtArc o i x := by
  by_cases h0 : val (ea o 0) < val x
  · have key : ∀ k, k < o.length → (∃ i, i < k ∧ val (ea o i) < val x ∧ val x < val (ea o (i + 1))) ∨ val (ea o k) < val x := by
      intro k
      induction k with
      | zero => intro _; exact .inr h0
      | succ k ih =>
        intro hk
        rcases ih (by omega) with ⟨i, hi, h1, h2⟩ | h
        · exact .inl ⟨i, by omega, h1, h2⟩
        · by_cases h' : val (ea o (k + 1)) < val x
          · exact .inr h'
          · have := hx (k + 1) hk
            exact .inl ⟨k, by omega, h, by omega⟩
    rcases key (o.length - 1) (by omega) with ⟨i, hi, h1, h2⟩ | h
    · exact ⟨i, by omega, (atArc_mid ho hn (by omega)).2 ⟨h1, h2⟩⟩
    · exact ⟨o.length - 1, by omega, (atArc_last ho hn).2 (.inl h)⟩
  · have := hx 0 (by omega)
    exact ⟨o.length - 1, by omega, (atArc_last ho hn).2 (.inr (by omega))⟩
theorem arc_le {i j : Nat} (hij : i ≤ j) (hj : j < o.length) : val (ea o i) ≤ val (ea o j) := by
  rcases Nat.eq_or_lt_of_le hij with rfl | h
  · exact Int.le_refl _
  · exact Int.le_of_lt (ascL_lt ho h hj)
theorem arc_one {x : Ang} {i j : Nat} (hi : i < o.length) (hj : j < o.length) (h1 : AtArc o i x) (h2 : AtArc o j x) : i = j := by
  have key : ∀ i j, i < j → j < o.length → AtArc o i x → AtArc o j x → False := by
    intro i j hij hj h1 h2
    obtain ⟨p1, p2⟩ := (atArc_mid ho hn (show i + 1 < o.length by omega)).1 h1
    by_cases hl : j + 1 < o.length
    · obtain ⟨q1, q2⟩ := (atArc_mid ho hn hl).1 h2
      have := arc_le ho hn (show i + 1 ≤ j by omega) hj
      omega
    · have e : j = o.length - 1 := by omega
      subst e
      have r1 := arc_le ho hn (show i + 1 ≤ o.length - 1 by omega) (by omega)
      have r2 := arc_le ho hn (show 0 ≤ i by omega) (by omega)
      rcases (atArc_last ho hn).1 h2 with h | h <;> omega
  rcases Nat.lt_trichotomy i j with h | h | h
  · exact (key i j h hj h1 h2).elim
  · exact h
  · exact (key j i h hi h2 h1).elim
end
/-- All of a set are in one arc of another one. -/
def Unl (s o : List Ang) : Prop := ∃ i, i < o.length ∧ ∀ x ∈ s, AtArc o i x
theorem impl_allArc {xs : List Ang} {a b : Ang} (hv : ∀ x ∈ xs, isA x) (ha : isA a) (hb : isA b) (h1 : val a ≠ val b) (h2 : ∀ x ∈ xs, val x ≠ val a ∧ val x ≠ val b) (hl : xs.length ≤ 1048576) : impl_areAll_impl_Angle_v4 xs a b = some (decide (∀ x ∈ xs, Arc a b x)) := by
  unfold impl_areAll_impl_Angle_v4 slices_ContainsFunc__impl_Angle_impl_Angle_v4 slices_IndexFunc__impl_Angle_impl_Angle_v4
  have hL := loop_first (step := slices_IndexFunc__impl_Angle_impl_Angle_v4_l0) (fun i => (xs, (), (((), a, b, ()), ()), ((xs.length : Nat) : Int), (i : Int), ())) xs.length (.inr ()) (fun i => .inl ((i : Int), ())) (fun i => ¬ Arc a b (ea xs i)) (by
    intro i hi _
    simp only [slices_IndexFunc__impl_Angle_impl_Angle_v4_l0, impl_areAll_impl_Angle_f1_v4, impl_areUnlinked_f1, ltb hi, nn, Bool.and_self, cond_true, Int.toNat_natCast]
    have hm := h2 _ (ea_mem hi)
    obtain ⟨v, v1, v2⟩ := impl_order_arc ha hb (hv _ (ea_mem hi)) h1 hm.1 hm.2
    rw [show impl_order a (xs.getD i dA) b = some v from v1]
    simp only [Option.bind_some]
    by_cases h : Arc a b (ea xs i)
    · rw [sel_neg (fun h' => h' h), v2.2 h]
      rw [w64_succ (by omega)]
      rfl
    · have c : (v == 1) = false := beq_eq_false_iff_ne.2 fun e => h (v2.1 e)
      rw [sel_pos h, c]
      rfl) (by
    intro _
    simp only [slices_IndexFunc__impl_Angle_impl_Angle_v4_l0, nltb (Nat.lt_irrefl xs.length), cond_false])
  rcases hL with ⟨i, hi, hp, hL⟩ | ⟨hp, hL⟩
  · have t' : loop slices_IndexFunc__impl_Angle_impl_Angle_v4_l0 (xs, (), (((), a, b, ()), ()), ((xs.length : Nat) : Int), (0 : Int), ()) = _ := hL
    rw [t', decide_eq_false (fun h => hp (h _ (ea_mem hi)))]
    simp only [Option.bind_some, alt]
    have : decide ((i : Int) ≥ 0) = true := decide_eq_true (by omega)
    rw [this]; rfl
  · have t' : loop slices_IndexFunc__impl_Angle_impl_Angle_v4_l0 (xs, (), (((), a, b, ()), ()), ((xs.length : Nat) : Int), (0 : Int), ()) = _ := hL
    rw [t', decide_eq_true (fun x hx => by
      obtain ⟨i, hi, rfl⟩ := mem_ea hx
      exact Classical.byContradiction (hp i hi))]
    rfl
theorem impl_unl {s o : List Ang} (hs : ∀ x ∈ s, isA x) (ho : Asc o) (h0 : 0 < o.length) (hsl : s.length ≤ 64) (hol : o.length ≤ 64) (hd : ∀ x ∈ s, ¬ x ∈ o) : impl_areUnlinked s o = some (decide (o.length = 1 ∨ Unl s o)) := by
  unfold impl_areUnlinked
  have e1 : (((o.length : Nat) : Int) == 1) = decide (o.length = 1) := eq_nat (m := 1)
  rw [e1]
  by_cases h1 : o.length = 1
  · rw [decide_eq_true h1, cond_true, decide_eq_true (Or.inl h1)]
  rw [decide_eq_false h1, cond_false]
  have hA := (asc_iff ho.1).1 ho
  have hx : ∀ x ∈ s, ∀ j, j < o.length → val x ≠ val (ea o j) := fun x hx j hj e => hd x hx (by rw [val_inj (hs x hx) (ho.1 _ (ea_mem hj)) e]; exact ea_mem hj)
  have hL := loop_any (step := impl_areUnlinked_l0) (fun i => (s, o, o, ((o.length : Nat) : Int), (i : Int), ())) o.length (.inr ()) (.inl (true, ())) (fun i => ∀ x ∈ s, AtArc o i x) (by
    intro i hi _
    have hm : (i + 1) % o.length < o.length := Nat.mod_lt _ h0
    simp only [impl_areUnlinked_l0, ltb hi, nn, Bool.and_self, cond_true, Int.toNat_natCast, w64_succ (show i < 4611686018427387904 by omega)]
    rw [impl_at_ok h0]
    simp only [Option.bind_some]
    have hne : val (ea o i) ≠ val (ea o ((i + 1) % o.length)) := fun e => by
      have e2 := asc_at ho hi hm (val_inj (ho.1 _ (ea_mem hi)) (ho.1 _ (ea_mem hm)) e)
      by_cases hl : i + 1 < o.length
      · rw [Nat.mod_eq_of_lt hl] at e2; omega
      · rw [show i + 1 = o.length by omega, Nat.mod_self] at e2; omega
    rw [show impl_areAll_impl_Angle_v4 s (o.getD i dA) (ea o ((i + 1) % o.length)) = some (decide (∀ x ∈ s, AtArc o i x)) from impl_allArc hs (ho.1 _ (ea_mem hi)) (ho.1 _ (ea_mem hm)) hne (fun x hx' => ⟨hx x hx' i hi, hx x hx' _ hm⟩) (by omega)]
    simp only [Option.bind_some]
    by_cases h : ∀ x ∈ s, AtArc o i x
    · rw [sel_pos h, decide_eq_true h, cond_true]
    · rw [sel_neg h, decide_eq_false h, cond_false]) (by
    intro _
    simp only [impl_areUnlinked_l0, nltb (Nat.lt_irrefl o.length), cond_false])
  have t' : loop impl_areUnlinked_l0 (s, o, o, ((o.length : Nat) : Int), (0 : Int), ()) = some (sel (Unl s o) (.inl (true, ())) (.inr ())) := hL
  rw [t']
  by_cases h : Unl s o
  · rw [sel_pos h, decide_eq_true (Or.inr h)]; rfl
  · rw [sel_neg h, decide_eq_false (fun h' => h'.elim h1 h)]; rfl
/-- How many of the first are in an arc. -/
noncomputable def cn (p : Ang → Prop) (s : List Ang) : Nat → Nat
  | 0 => 0
  | k + 1 => cn p s k + sel (p (ea s k)) 1 0
theorem cn_le {p : Ang → Prop} {s : List Ang} : ∀ k, cn p s k ≤ k ∧ (0 < cn p s k ↔ ∃ j, j < k ∧ p (ea s j)) ∧ (cn p s k < k ↔ ∃ j, j < k ∧ ¬ p (ea s j))
  | 0 => ⟨Nat.le_refl _, ⟨fun h => absurd h (Nat.lt_irrefl 0), fun ⟨j, h, _⟩ => by omega⟩, ⟨fun h => by omega, fun ⟨j, h, _⟩ => by omega⟩⟩
  | k + 1 => by
    obtain ⟨h1, h2, h3⟩ := cn_le (p := p) (s := s) k
    by_cases h : p (ea s k)
    · have e : cn p s (k + 1) = cn p s k + 1 := by rw [cn, sel_pos h]
      rw [e]
      refine ⟨by omega, ⟨fun _ => ⟨k, by omega, h⟩, fun _ => by omega⟩, ?_⟩
      rw [Nat.add_lt_add_iff_right, h3]
      constructor
      · rintro ⟨j, hj, h'⟩; exact ⟨j, by omega, h'⟩
      · rintro ⟨j, hj, h'⟩
        by_cases e2 : j = k
        · subst e2; exact absurd h h'
        · exact ⟨j, by omega, h'⟩
    · have e : cn p s (k + 1) = cn p s k := by rw [cn, sel_neg h, Nat.add_zero]
      rw [e]
      refine ⟨by omega, ?_, ⟨fun _ => ⟨k, by omega, h⟩, fun _ => by omega⟩⟩
      rw [h2]
      constructor
      · rintro ⟨j, hj, h'⟩; exact ⟨j, by omega, h'⟩
      · rintro ⟨j, hj, h'⟩
        by_cases e2 : j = k
        · subst e2; exact absurd h' h
        · exact ⟨j, by omega, h'⟩
def Lnk (s o : List Ang) : Prop := ∃ i, i < o.length ∧ (∃ j, j < s.length ∧ AtArc o i (ea s j)) ∧ ∃ j, j < s.length ∧ ¬ AtArc o i (ea s j)
theorem spec_lnk {s o : List Ang} (hs : ∀ x ∈ s, isA x) (ho : ∀ x ∈ o, isA x) (h0 : 0 < o.length) (hsl : s.length ≤ 64) (hol : o.length ≤ 64) : spec_l07Linked s o = some (decide (o.length ≠ 1 ∧ Lnk s o)) := by
  unfold spec_l07Linked
  have e1 : (((o.length : Nat) : Int) == 1) = decide (o.length = 1) := eq_nat (m := 1)
  rw [e1]
  by_cases h1 : o.length = 1
  · rw [decide_eq_true h1, cond_true, decide_eq_false (fun h => h.1 h1)]
  rw [decide_eq_false h1, cond_false]
  have hin : ∀ i, i < o.length → loop spec_l07Linked_l1 (s, o, ((o.length : Nat) : Int), (i : Int), (0 : Int), (0 : Int), ()) = some (s, o, ((o.length : Nat) : Int), (i : Int), ((cn (AtArc o i) s s.length : Nat) : Int), ()) := by
    intro i hi
    have hm : (i + 1) % o.length < o.length := Nat.mod_lt _ h0
    exact loop_count (step := spec_l07Linked_l1) (fun k => (s, o, ((o.length : Nat) : Int), (i : Int), ((cn (AtArc o i) s k : Nat) : Int), (k : Int), ())) s.length (s, o, ((o.length : Nat) : Int), (i : Int), ((cn (AtArc o i) s s.length : Nat) : Int), ()) (by
      intro k hk
      have hc := (cn_le (p := AtArc o i) (s := s) k).1
      simp only [spec_l07Linked_l1, ltb hk, ltb hi, nn, Bool.and_self, cond_true, Int.toNat_natCast, w64_succ (show i < 4611686018427387904 by omega), e0_false h0, Bool.not_false, tmod_nat, ltb hm]
      rw [show spec_l01Within (s.getD k dA) (o.getD i dA) (o.getD ((i + 1) % o.length) dA) = some (decide (AtArc o i (ea s k))) from spec_within_arc (ho _ (ea_mem hi)) (ho _ (ea_mem hm)) (hs _ (ea_mem hk))]
      simp only [Option.bind_some]
      by_cases h : AtArc o i (ea s k)
      · rw [decide_eq_true h, cond_true, w64_succ (by omega), w64_succ (by omega)]
        have e : cn (AtArc o i) s (k + 1) = cn (AtArc o i) s k + 1 := by rw [cn, sel_pos h]
        rw [e]
      · rw [decide_eq_false h, cond_false, w64_succ (by omega)]
        have e : cn (AtArc o i) s (k + 1) = cn (AtArc o i) s k := by rw [cn, sel_neg h, Nat.add_zero]
        rw [e]) (by simp only [spec_l07Linked_l1, nltb (Nat.lt_irrefl s.length), cond_false]) 0 (Nat.zero_le _)
  have hL := loop_any (step := spec_l07Linked_l0) (fun i => (s, o, ((o.length : Nat) : Int), (i : Int), ())) o.length (.inr ()) (.inl (true, ())) (fun i => (∃ j, j < s.length ∧ AtArc o i (ea s j)) ∧ ∃ j, j < s.length ∧ ¬ AtArc o i (ea s j)) (by
    intro i hi _
    simp only [spec_l07Linked_l0, ltb hi, cond_true]
    rw [hin i hi]
    obtain ⟨c1, c2, c3⟩ := cn_le (p := AtArc o i) (s := s) s.length
    simp only [Option.bind_some]
    by_cases hp : 0 < cn (AtArc o i) s s.length
    · rw [decide_eq_true (show ((cn (AtArc o i) s s.length : Nat) : Int) > 0 by omega), cond_true]
      by_cases hq : cn (AtArc o i) s s.length < s.length
      · rw [ltb hq, cond_true, sel_pos ⟨c2.1 hp, c3.1 hq⟩]
      · rw [nltb hq, cond_false, sel_neg (fun h => hq (c3.2 h.2)), w64_succ (by omega)]
    · rw [decide_eq_false (show ¬ ((cn (AtArc o i) s s.length : Nat) : Int) > 0 by omega), cond_false, sel_neg (fun h => hp (c2.2 h.1)), w64_succ (by omega)]) (by
    intro _
    simp only [spec_l07Linked_l0, nltb (Nat.lt_irrefl o.length), cond_false])
  have t' : loop spec_l07Linked_l0 (s, o, ((o.length : Nat) : Int), (0 : Int), ()) = some (sel (Lnk s o) (.inl (true, ())) (.inr ())) := hL
  rw [t']
  by_cases h : Lnk s o
  · rw [sel_pos h, decide_eq_true (And.intro h1 h)]; rfl
  · rw [sel_neg h, decide_eq_false (fun h' => h h'.2)]; rfl
theorem unl_lnk {s o : List Ang} (hs : ∀ x ∈ s, isA x) (ho : Asc o) (h0 : 0 < o.length) (hs0 : 0 < s.length) (hd : ∀ x ∈ s, ¬ x ∈ o) : (o.length = 1 ∨ Unl s o) ↔ ¬ (o.length ≠ 1 ∧ Lnk s o) := by
  by_cases h1 : o.length = 1
  · exact ⟨fun _ h => h.1 h1, fun _ => .inl h1⟩
  have hn : 2 ≤ o.length := by omega
  have hA := (asc_iff ho.1).1 ho
  have hx : ∀ x ∈ s, ∀ j, j < o.length → val x ≠ val (ea o j) := fun x hx j hj e => hd x hx (by rw [val_inj (hs x hx) (ho.1 _ (ea_mem hj)) e]; exact ea_mem hj)
  constructor
  · rintro (h | ⟨i, hi, h⟩) ⟨_, i', hi', ⟨j, hj, hj2⟩, k, hk, hk2⟩
    · exact h1 h
    · have := arc_one hA hn hi hi' (h _ (ea_mem hj)) hj2
      subst this
      exact hk2 (h _ (ea_mem hk))
  · intro h
    right
    obtain ⟨i, hi, hi2⟩ := arc_some hA hn (hx _ (ea_mem hs0))
    refine ⟨i, hi, fun x hx' => ?_⟩
    obtain ⟨j, hj, rfl⟩ := mem_ea hx'
    exact Classical.byContradiction fun hn => h ⟨h1, i, hi, ⟨0, hs0, hi2⟩, j, hj, hn⟩
section
variable {S : AA} (g : Good S) (hap : ApartS S)
include g hap
theorem apart2 {i k : Nat} (hi : i < S.length) (hk : k < S.length) (hne : i ≠ k) : ∀ x ∈ sa S i, ¬ x ∈ sa S k := by
  intro x hx hxk
  obtain ⟨j, hj, rfl⟩ := mem_ea hx
  rcases Nat.lt_or_gt_of_ne hne with h | h
  · obtain ⟨j', hj', e⟩ := mem_ea hxk
    exact hap k hk i h j' hj' (by rw [e]; exact ea_mem hj)
  · exact hap i hi k h j hj hxk
theorem impl_link5 : loop impl_fails_l2 (S, S, ((S.length : Nat) : Int), (0 : Int), ()) = some (sel (∃ i, i < S.length ∧ ∃ k, k < S.length ∧ i ≠ k ∧ ¬ ((sa S k).length = 1 ∨ Unl (sa S i) (sa S k))) (.inl (5, ())) (.inr ())) := by
  have h12 := g.most
  have hin : ∀ i, i < S.length → loop impl_fails_l3 (S, (i : Int), sa S i, S, ((S.length : Nat) : Int), (i : Int), sa S i, sa S i, S, ((S.length : Nat) : Int), (0 : Int), ()) = some (sel (∃ k, k < S.length ∧ i ≠ k ∧ ¬ ((sa S k).length = 1 ∨ Unl (sa S i) (sa S k))) (.inl (5, ())) (.inr (S, S, ((S.length : Nat) : Int), (i : Int), ()))) := by
    intro i hi
    exact loop_any (step := impl_fails_l3) (fun k => (S, (i : Int), sa S i, S, ((S.length : Nat) : Int), (i : Int), sa S i, sa S i, S, ((S.length : Nat) : Int), (k : Int), ())) S.length (.inr (S, S, ((S.length : Nat) : Int), (i : Int), ())) (.inl (5, ())) (fun k => i ≠ k ∧ ¬ ((sa S k).length = 1 ∨ Unl (sa S i) (sa S k))) (by
      intro k hk _
      simp only [impl_fails_l3, ltb hk, nn, Bool.and_self, cond_true, Int.toNat_natCast, bne, eq_nat]
      by_cases he : i = k
      · rw [decide_eq_true he, Bool.not_true, cond_false, sel_neg (fun h => h.1 he), w64_succ (by omega)]
      · rw [decide_eq_false he, Bool.not_false, cond_true]
        rw [show impl_areUnlinked (sa S i) (S.getD k []) = some (decide ((sa S k).length = 1 ∨ Unl (sa S i) (sa S k))) from impl_unl (fun x hx => g.ang _ (sa_mem hi) x hx) (g.asc hk) (g.ne hk) (g.len hi) (g.len hk) (apart2 g hap hi hk he)]
        simp only [Option.bind_some]
        by_cases h : (sa S k).length = 1 ∨ Unl (sa S i) (sa S k)
        · rw [decide_eq_true h, Bool.not_true, cond_false, sel_neg (fun h' => h'.2 h), w64_succ (by omega)]
        · rw [decide_eq_false h, Bool.not_false, cond_true, sel_pos ⟨he, h⟩]) (by
      intro _
      simp only [impl_fails_l3, nltb (Nat.lt_irrefl S.length), cond_false])
  exact loop_any (step := impl_fails_l2) (fun i => (S, S, ((S.length : Nat) : Int), (i : Int), ())) S.length (.inr ()) (.inl (5, ())) (fun i => ∃ k, k < S.length ∧ i ≠ k ∧ ¬ ((sa S k).length = 1 ∨ Unl (sa S i) (sa S k))) (by
    intro i hi _
    simp only [impl_fails_l2, ltb hi, nn, Bool.and_self, cond_true, Int.toNat_natCast]
    rw [show loop impl_fails_l3 (S, (i : Int), S.getD i [], S, ((S.length : Nat) : Int), (i : Int), S.getD i [], S.getD i [], S, ((S.length : Nat) : Int), (0 : Int), ()) = _ from hin i hi]
    by_cases h : ∃ k, k < S.length ∧ i ≠ k ∧ ¬ ((sa S k).length = 1 ∨ Unl (sa S i) (sa S k))
    · rw [sel_pos h, sel_pos h]; rfl
    · rw [sel_neg h, sel_neg h]
      simp only [Option.bind_some, alt]
      rw [w64_succ (by omega)]) (by
    intro _
    simp only [impl_fails_l2, nltb (Nat.lt_irrefl S.length), cond_false])
omit hap in
theorem spec_link5 : loop spec_l07Fails_l4 (S, ((S.length : Nat) : Int), (0 : Int), ()) = some (sel (∃ i, i < S.length ∧ ∃ k, k < S.length ∧ i ≠ k ∧ ((sa S k).length ≠ 1 ∧ Lnk (sa S i) (sa S k))) (.inl (5, ())) (.inr ())) := by
  have h12 := g.most
  have hin : ∀ i, i < S.length → loop spec_l07Fails_l5 (S, ((S.length : Nat) : Int), (i : Int), (0 : Int), ()) = some (sel (∃ k, k < S.length ∧ i ≠ k ∧ ((sa S k).length ≠ 1 ∧ Lnk (sa S i) (sa S k))) (.inl (5, ())) (.inr (S, ((S.length : Nat) : Int), (i : Int), ()))) := by
    intro i hi
    exact loop_any (step := spec_l07Fails_l5) (fun k => (S, ((S.length : Nat) : Int), (i : Int), (k : Int), ())) S.length (.inr (S, ((S.length : Nat) : Int), (i : Int), ())) (.inl (5, ())) (fun k => i ≠ k ∧ ((sa S k).length ≠ 1 ∧ Lnk (sa S i) (sa S k))) (by
      intro k hk _
      simp only [spec_l07Fails_l5, ltb hk, ltb hi, nn, Bool.and_self, cond_true, Int.toNat_natCast, bne, eq_nat]
      by_cases he : i = k
      · rw [decide_eq_true he, Bool.not_true, cond_false, sel_neg (fun h => h.1 he), w64_succ (by omega)]
      · rw [decide_eq_false he, Bool.not_false, cond_true]
        rw [show spec_l07Linked (S.getD i []) (S.getD k []) = some (decide ((sa S k).length ≠ 1 ∧ Lnk (sa S i) (sa S k))) from spec_lnk (fun x hx => g.ang _ (sa_mem hi) x hx) (fun x hx => g.ang _ (sa_mem hk) x hx) (g.ne hk) (g.len hi) (g.len hk)]
        simp only [Option.bind_some]
        by_cases h : (sa S k).length ≠ 1 ∧ Lnk (sa S i) (sa S k)
        · rw [decide_eq_true h, cond_true, sel_pos ⟨he, h⟩]
        · rw [decide_eq_false h, cond_false, sel_neg (fun h' => h h'.2), w64_succ (by omega)]) (by
      intro _
      simp only [spec_l07Fails_l5, nltb (Nat.lt_irrefl S.length), cond_false])
  exact loop_any (step := spec_l07Fails_l4) (fun i => (S, ((S.length : Nat) : Int), (i : Int), ())) S.length (.inr ()) (.inl (5, ())) (fun i => ∃ k, k < S.length ∧ i ≠ k ∧ ((sa S k).length ≠ 1 ∧ Lnk (sa S i) (sa S k))) (by
    intro i hi _
    simp only [spec_l07Fails_l4, ltb hi, cond_true]
    rw [hin i hi]
    by_cases h : ∃ k, k < S.length ∧ i ≠ k ∧ ((sa S k).length ≠ 1 ∧ Lnk (sa S i) (sa S k))
    · rw [sel_pos h, sel_pos h]; rfl
    · rw [sel_neg h, sel_neg h]
      simp only [Option.bind_some, alt]
      rw [w64_succ (by omega)]) (by
    intro _
    simp only [spec_l07Fails_l4, nltb (Nat.lt_irrefl S.length), cond_false])
theorem link_iff : (∃ i, i < S.length ∧ ∃ k, k < S.length ∧ i ≠ k ∧ ¬ ((sa S k).length = 1 ∨ Unl (sa S i) (sa S k))) ↔ ∃ i, i < S.length ∧ ∃ k, k < S.length ∧ i ≠ k ∧ ((sa S k).length ≠ 1 ∧ Lnk (sa S i) (sa S k)) := by
  constructor
  · rintro ⟨i, hi, k, hk, he, h⟩
    have := unl_lnk (fun x hx => g.ang _ (sa_mem hi) x hx) (g.asc hk) (g.ne hk) (g.ne hi) (apart2 g hap hi hk he)
    exact ⟨i, hi, k, hk, he, Classical.byContradiction fun h' => h (this.2 h')⟩
  · rintro ⟨i, hi, k, hk, he, h⟩
    have := unl_lnk (fun x hx => g.ang _ (sa_mem hi) x hx) (g.asc hk) (g.ne hk) (g.ne hi) (apart2 g hap hi hk he)
    exact ⟨i, hi, k, hk, he, fun h' => this.1 h' h⟩
end
end Go.K.Pure

/- Plain laws of portraits, part J: the laws. -/
set_option linter.unusedVariables false
set_option linter.unusedSimpArgs false
namespace Go.K.Pure
open Classical

theorem flat_take_drop {S : AA} : ((S.take ((S.length : Nat) : Int).toNat).drop (1 : Int).toNat) = S.drop 1 := by
  rw [Int.toNat_natCast, List.take_length]; rfl
/-- The first condition that fails is the same. -/
theorem fails_same {S : AA} (g : Good S) : ∃ c : Int, impl_fails S = some c ∧ spec_l07Fails S = some c ∧ (c = 0 → ∀ i, i < S.length → Lead (sa S i) (nx S i)) := by
  have h12 := g.most
  have h1 := g.one
  have h64 := g.all
  unfold impl_fails spec_l07Fails
  rw [concat_ok (by omega) (by omega), spec_apart (by omega) (by omega)]
  simp only [Option.bind_some]
  obtain ⟨zs, z1, z2⟩ := sorted_len g.flat (by omega)
  rw [z1]
  simp only [Option.bind_some, bne, eq_nat]
  rw [g.apart] at z2
  by_cases hap : ApartS S
  rotate_left
  · rw [decide_eq_false (fun h => hap (z2.1 h)), decide_eq_false hap]
    exact ⟨1, rfl, rfl, fun h => by omega⟩
  rw [decide_eq_true (z2.2 hap), decide_eq_true hap]
  simp only [Bool.not_true, cond_false]
  have c1 : (((decide ((0 : Int) ≤ (1 : Int))) && (decide ((1 : Int) ≤ ((S.length : Nat) : Int)))) && (decide (((S.length : Nat) : Int) ≤ ((S.length : Nat) : Int)))) = true := by
    simp only [Bool.and_eq_true, decide_eq_true_eq]; omega
  have c2 : (decide ((0 : Int) ≤ (0 : Int)) && decide ((0 : Int) < ((S.length : Nat) : Int))) = true := inb h1
  have hcl : slices_Clone___impl_Angle__impl_Angle (S.drop 1) = some (S.drop 1) := by
    unfold slices_Clone___impl_Angle__impl_Angle cloneOf
    have : decide ((S.drop 1).length * 24 ≤ 140737488355328) = true := decide_eq_true (by simp; omega)
    rw [this]; rfl
  rw [c1, cond_true, flat_take_drop, hcl]
  simp only [Option.bind_some]
  rw [c2, cond_true]
  have c3 : decide (((S.drop 1).length + [S.getD (0 : Int).toNat []].length) * 24 ≤ 140737488355328) = true := decide_eq_true (by simp; omega)
  rw [c3, cond_true]
  rw [show loop impl_fails_l0 (S, S.flatten, S.drop 1 ++ [S.getD (0 : Int).toNat []], S, ((S.length : Nat) : Int), (0 : Int), ()) = _ from impl_led2 g, spec_led2 g, sel_congr (led_iff g)]
  by_cases h2 : ∃ i, i < S.length ∧ ¬ Lead (sa S i) (nx S i)
  · rw [sel_pos h2, sel_pos h2]
    exact ⟨2, rfl, rfl, fun h => by omega⟩
  rw [sel_neg h2, sel_neg h2]
  have hd : ∀ i, i < S.length → Lead (sa S i) (nx S i) := fun i hi => Classical.byContradiction fun h => h2 ⟨i, hi, h⟩
  simp only [Option.bind_some, alt]
  rw [impl_keep3 g hd, spec_keep3 g hd]
  by_cases h3 : ∃ i, i < S.length ∧ ¬ Keep (sa S i) (nx S i)
  · rw [sel_pos h3, sel_pos h3]
    exact ⟨3, rfl, rfl, fun h => by omega⟩
  rw [sel_neg h3, sel_neg h3]
  simp only [Option.bind_some, alt]
  rw [impl_periodic_ok g.flat (by omega) (flat_pos g), spec_per4 g, sel_congr (per_iff _)]
  simp only [Option.bind_some]
  by_cases h4 : ∀ x ∈ S.flatten, PerOK x (ob (ea S.flatten 0)).1.length
  rotate_left
  · rw [decide_eq_false h4, sel_pos h4]
    exact ⟨4, rfl, rfl, fun h => by omega⟩
  rw [decide_eq_true h4, sel_neg (fun h => h h4)]
  simp only [Bool.not_true, cond_false, Option.bind_some, alt]
  rw [impl_link5 g hap, spec_link5 g, sel_congr (link_iff g hap)]
  by_cases h5 : ∃ i, i < S.length ∧ ∃ k, k < S.length ∧ i ≠ k ∧ ((sa S k).length ≠ 1 ∧ Lnk (sa S i) (sa S k))
  · rw [sel_pos h5]
    exact ⟨5, rfl, rfl, fun h => by omega⟩
  · rw [sel_neg h5]
    exact ⟨0, rfl, rfl, fun _ => hd⟩
section
variable {S : AA} (hS : ∀ s ∈ S, ∀ x ∈ s, InA x) (hl : S.length ≤ 1048576) (hJ : S.flatten.length ≤ 1048576)
include hS hl hJ
/-- What the reference's tests give, and what the program's gives. -/
theorem told_same : ∃ l : Int, spec_l07Lists S = some l ∧ (l = 0 → Good S) ∧ (∀ c : Int, l = 0 → spec_l07Fails S = some c → impl_PortraitThatFails S = some (c, 0)) ∧ (l ≠ 0 → impl_PortraitThatFails S = some (0, l)) := by
  have hx : ∀ x ∈ S.flatten, InA x := fun x hx => by
    obtain ⟨s, hs, hx⟩ := List.mem_flatten.1 hx
    exact hS s hs x hx
  rw [spec_lists hS hl hJ]
  have e : ∀ o, impl_PortraitThatFails S = o ↔ ((impl_anglesCode S.flatten).bind fun r1 => bif (r1 != (0 : Int)) then some ((0 : Int), r1) else (impl_areSets S).bind fun r2 => bif (!r2) then some ((0 : Int), (2 : Int)) else (impl_fails S).bind fun r3 => some (r3, (0 : Int))) = o := by
    intro o
    unfold impl_PortraitThatFails
    rw [concat_ok hl hJ]
    rfl
  by_cases hall : ∀ s ∈ S, ∀ x ∈ s, isA x
  rotate_left
  · rw [sel_neg hall]
    refine ⟨1, rfl, fun h => by omega, fun _ h => by omega, fun _ => ?_⟩
    rw [e, impl_code hx hJ, sel_neg (fun h => hall fun s hs x hx => h x (List.mem_flatten.2 ⟨s, hs, hx⟩))]
    rfl
  rw [sel_pos hall]
  have hc : impl_anglesCode S.flatten = some 0 := by
    rw [impl_code hx hJ, sel_pos (fun x hx => by
      obtain ⟨s, hs, hx⟩ := List.mem_flatten.1 hx
      exact hall s hs x hx)]
  by_cases hg : 1 ≤ S.length ∧ S.length ≤ 12 ∧ S.flatten.length ≤ 64 ∧ SetsOK S
  rotate_left
  · rw [sel_neg hg]
    refine ⟨2, rfl, fun h => by omega, fun _ h => by omega, fun _ => ?_⟩
    rw [e, hc]
    simp only [Option.bind_some, bne_self_eq_false, cond_false]
    rw [impl_sets hall hl hJ, decide_eq_false hg]
    rfl
  rw [sel_pos hg]
  have g : Good S := ⟨hall, hg.1, hg.2.1, hg.2.2.1, hg.2.2.2⟩
  refine ⟨0, rfl, fun _ => g, fun c _ hf => ?_, fun h => absurd rfl h⟩
  rw [e, hc]
  simp only [Option.bind_some, bne_self_eq_false, cond_false]
  rw [impl_sets hall hl hJ, decide_eq_true hg]
  obtain ⟨c', c1, c2, _⟩ := fails_same g
  rw [c2] at hf
  cases hf
  simp only [Option.bind_some, Bool.not_true, cond_false, c1]
theorem fails_told : ∃ r : Int × Int, spec_PortraitThatFails S = some r ∧ impl_PortraitThatFails S = some r := by
  obtain ⟨l, l1, l2, l3, l4⟩ := told_same hS hl hJ
  unfold spec_PortraitThatFails
  rw [l1]
  simp only [Option.bind_some]
  by_cases h : l = 0
  · subst h
    obtain ⟨c, c1, c2, _⟩ := fails_same (l2 rfl)
    rw [c2]
    exact ⟨(c, 0), rfl, l3 c rfl c2⟩
  · have : (l != 0) = true := by simpa using h
    rw [this]
    exact ⟨(0, l), rfl, l4 h⟩
theorem is_told : ∃ b : Bool, spec_IsPortrait S = some b ∧ impl_IsPortrait S = some b := by
  obtain ⟨l, l1, l2, l3, l4⟩ := told_same hS hl hJ
  unfold spec_IsPortrait spec_l07Is impl_IsPortrait
  rw [l1]
  simp only [Option.bind_some]
  by_cases h : l = 0
  · subst h
    obtain ⟨c, c1, c2, _⟩ := fails_same (l2 rfl)
    rw [c2, l3 c rfl c2]
    exact ⟨c == 0, rfl, rfl⟩
  · have : (l == 0) = false := by simpa using h
    rw [l4 h]
    simp only [Option.bind_some, this]
    exact ⟨false, rfl, rfl⟩
/-- The codes are the same. -/
theorem code_told : ∃ c : Int, spec_l07Code S = some c ∧ impl_portraitCode S = some c ∧ (c = 0 → Good S) := by
  obtain ⟨l, l1, l2, l3, l4⟩ := told_same hS hl hJ
  unfold spec_l07Code impl_portraitCode
  rw [l1]
  simp only [Option.bind_some]
  by_cases h : l = 0
  · subst h
    obtain ⟨c, c1, c2, _⟩ := fails_same (l2 rfl)
    rw [c2, l3 c rfl c2]
    simp only [Option.bind_some, BEq.rfl, cond_true]
    by_cases hc : c = 0
    · subst hc
      exact ⟨0, rfl, rfl, fun _ => l2 rfl⟩
    · have : (c != 0) = true := by simpa using hc
      rw [this]
      exact ⟨2, rfl, rfl, fun h => by omega⟩
  · have : (l == 0) = false := by simpa using h
    rw [l4 h]
    simp only [Option.bind_some, this]
    exact ⟨l, rfl, rfl, fun h' => absurd h' h⟩
theorem valence_told : ∃ r : Int × Int, spec_ValenceOf S = some r ∧ impl_ValenceOf S = some r := by
  obtain ⟨c, c1, c2, c3⟩ := code_told hS hl hJ
  unfold spec_ValenceOf impl_ValenceOf
  rw [c1, c2]
  simp only [Option.bind_some]
  by_cases hc : c = 0
  · subst hc
    have g := c3 rfl
    have b : (decide ((0 : Int) ≤ (0 : Int)) && decide ((0 : Int) < ((S.length : Nat) : Int))) = true := inb g.one
    simp only [bne_self_eq_false, cond_false, b, cond_true, impl_length_impl_Angle, Option.bind_some]
    exact ⟨_, rfl, rfl⟩
  · have : (c != 0) = true := by simpa using hc
    rw [this]
    exact ⟨_, rfl, rfl⟩
omit hS hl hJ in
theorem angle_same {num den : Int} (h1 : 0 < den) (h2 : den ≤ 67092481) (h3 : -67092481 ≤ num) (h4 : num ≤ 67092481) : impl_angle num den = spec_l01Of num den := by
  have e0 : (den == 0) = false := by simpa using (by omega : ¬ den = 0)
  have m1 : -den < num.tmod den := Int.lt_tmod_of_pos num h1
  have m2 : num.tmod den < den := Int.tmod_lt_of_pos num h1
  have m3 : 0 ≤ (num.tmod den + den).tmod den := Int.tmod_nonneg _ (by omega)
  unfold impl_angle spec_l01Of
  simp only [e0, Bool.not_false, cond_true]
  rw [w64_id (n := num.tmod den + den) (by omega) (by omega), impl_div (by omega) m3, spec_div m3 (by omega), Int.gcd_comm]
theorem rotation_told : ∃ r : Ang × Int, spec_RotationNumber S = some r ∧ impl_RotationNumber S = some r := by
  obtain ⟨c, c1, c2, c3⟩ := code_told hS hl hJ
  unfold spec_RotationNumber impl_RotationNumber
  rw [c1, c2]
  simp only [Option.bind_some]
  by_cases hc : c = 0
  rotate_left
  · have : (c != 0) = true := by simpa using hc
    rw [this]
    exact ⟨_, rfl, rfl⟩
  subst hc
  have g := c3 rfl
  have h12 := g.most
  have b : (decide ((0 : Int) ≤ (0 : Int)) && decide ((0 : Int) < ((S.length : Nat) : Int))) = true := inb g.one
  have hne := g.ne g.one
  have hlen := g.len g.one
  have b2 : (decide ((0 : Int) ≤ (0 : Int)) && decide ((0 : Int) < (((S.getD (0 : Int).toNat []).length : Nat) : Int))) = true := inb (m := (sa S 0).length) hne
  have hA : isA (ea (sa S 0) 0) := g.isA g.one hne
  have k1 : loop spec_RotationNumber_l0 (S, ((0 : Int), (0 : Int), ()), (S.getD (0 : Int).toNat []).getD (0 : Int).toNat dA, (0 : Int), ()) = some (S, ((0 : Int), (0 : Int), ()), dblN (ea (sa S 0) 0) S.length, ()) :=
    loop_count (step := spec_RotationNumber_l0) (fun n => (S, ((0 : Int), (0 : Int), ()), dblN (ea (sa S 0) 0) n, (n : Int), ())) S.length (S, ((0 : Int), (0 : Int), ()), dblN (ea (sa S 0) 0) S.length, ()) (by
      intro n hn
      simp only [spec_RotationNumber_l0, ltb hn, cond_true]
      rw [spec_dbl (dblN_isA hA n)]
      simp only [Option.bind_some]
      rw [w64_succ (by omega)]
      rfl) (by simp only [spec_RotationNumber_l0, nltb (Nat.lt_irrefl S.length), cond_false]) 0 (Nat.zero_le _)
  have k2 : loop impl_RotationNumber_l0 (S, ((0 : Int), (0 : Int), ()), (S.getD (0 : Int).toNat []).getD (0 : Int).toNat dA, ((S.length : Nat) : Int), (0 : Int), ()) = some (S, ((0 : Int), (0 : Int), ()), dblN (ea (sa S 0) 0) S.length, ()) :=
    loop_count (step := impl_RotationNumber_l0) (fun n => (S, ((0 : Int), (0 : Int), ()), dblN (ea (sa S 0) 0) n, ((S.length : Nat) : Int), (n : Int), ())) S.length (S, ((0 : Int), (0 : Int), ()), dblN (ea (sa S 0) 0) S.length, ()) (by
      intro n hn
      simp only [impl_RotationNumber_l0, ltb hn, cond_true]
      rw [impl_dbl (dblN_isA hA n)]
      simp only [Option.bind_some]
      rw [w64_succ (by omega)]
      rfl) (by simp only [impl_RotationNumber_l0, nltb (Nat.lt_irrefl S.length), cond_false]) 0 (Nat.zero_le _)
  simp only [bne_self_eq_false, cond_false, b, b2, cond_true]
  rw [k1, k2]
  simp only [Option.bind_some, b, cond_true, impl_length_impl_Angle]
  rw [show spec_l07Place (S.getD (0 : Int).toNat []) (dblN (ea (sa S 0) 0) S.length) = some (plc (sa S 0) (dblN (ea (sa S 0) 0) S.length)) from spec_place (xs := sa S 0) (by omega), show slices_Index__impl_Angle_impl_Angle (S.getD (0 : Int).toNat []) (dblN (ea (sa S 0) 0) S.length) = some (plc (sa S 0) (dblN (ea (sa S 0) 0) S.length)) from impl_index (xs := sa S 0) (by omega)]
  simp only [Option.bind_some]
  have hp : -1 ≤ plc (sa S 0) (dblN (ea (sa S 0) 0) S.length) ∧ plc (sa S 0) (dblN (ea (sa S 0) 0) S.length) ≤ 64 := by
    unfold plc
    split
    · rename_i hm
      have := (fi_spec hm).1
      omega
    · omega
  have hs := angle_same (num := plc (sa S 0) (dblN (ea (sa S 0) 0) S.length)) (den := ((sa S 0).length : Int)) (by omega) (by omega) (by omega) (by omega)
  obtain ⟨_, n, d, _, _, _, _, _, _, ha⟩ := angle_ok (num := plc (sa S 0) (dblN (ea (sa S 0) 0) S.length)) (den := ((sa S 0).length : Int)) (by omega) (by omega) (by omega) (by omega)
  rw [show spec_l01Of (plc (sa S 0) (dblN (ea (sa S 0) 0) S.length)) (((S.getD (0 : Int).toNat []).length : Nat) : Int) = _ from hs.symm, show impl_angle (plc (sa S 0) (dblN (ea (sa S 0) 0) S.length)) (((S.getD (0 : Int).toNat []).length : Nat) : Int) = _ from ha, ha]
  exact ⟨_, rfl, rfl⟩
end
section
variable {S : AA} (hS : ∀ s ∈ S, ∀ x ∈ s, InA x) (hl : S.length < 9223372036854775808) (hs : ∀ s ∈ S, s.length < 9223372036854775808)
include hl hs
theorem pre_ok : ∃ r, laws_szAngleSS S 1048576 = some r ∧ (decide (r < 0) = true ∨ (decide (r < 0) = false ∧ laws_toAngleSS S = some S ∧ laws_eqAngleSS S S = some true ∧ S.length ≤ 1048576 ∧ S.flatten.length ≤ 1048576)) := by
  obtain ⟨r, r1, r2⟩ := sz_ok hl hs
  refine ⟨r, r1, ?_⟩
  by_cases h : r < 0
  · exact .inl (decide_eq_true h)
  · obtain ⟨h1, h2⟩ := r2 (by omega)
    have h3 : ∀ s ∈ S, s.length ≤ 1048576 := fun s hs => by
      obtain ⟨i, hi, rfl⟩ := mem_sa hs
      have := len_fl hi
      omega
    exact .inr ⟨decide_eq_false h, to_angleSS h1 h3, eq_angleSS h1 h3, h1, h2⟩
include hS
theorem law_PortraitThatFails : laws_FnExactPortraitThatFails S = some true := by
  unfold laws_FnExactPortraitThatFails
  obtain ⟨r, r1, h⟩ := pre_ok hl hs
  rw [r1]
  simp only [Option.bind_some]
  rcases h with h | ⟨h, h1, h2, h3, h4⟩
  · rw [h]; rfl
  · obtain ⟨c, c1, c2⟩ := fails_told hS h3 h4
    rw [h, cond_false, h1]
    simp only [Option.bind_some, c1, c2, bne_self_eq_false, cond_false, h2, Bool.not_true]
theorem law_IsPortrait : laws_FnExactIsPortrait S = some true := by
  unfold laws_FnExactIsPortrait
  obtain ⟨r, r1, h⟩ := pre_ok hl hs
  rw [r1]
  simp only [Option.bind_some]
  rcases h with h | ⟨h, h1, h2, h3, h4⟩
  · rw [h]; rfl
  · obtain ⟨c, c1, c2⟩ := is_told hS h3 h4
    rw [h, cond_false, h1]
    simp only [Option.bind_some, c1, c2, BEq.rfl, Bool.not_true, cond_false, h2]
theorem law_ValenceOf : laws_FnExactValenceOf S = some true := by
  unfold laws_FnExactValenceOf
  obtain ⟨r, r1, h⟩ := pre_ok hl hs
  rw [r1]
  simp only [Option.bind_some]
  rcases h with h | ⟨h, h1, h2, h3, h4⟩
  · rw [h]; rfl
  · obtain ⟨c, c1, c2⟩ := valence_told hS h3 h4
    rw [h, cond_false, h1]
    simp only [Option.bind_some, c1, c2, bne_self_eq_false, cond_false, h2, Bool.not_true]
theorem law_RotationNumber : laws_FnExactRotationNumber S = some true := by
  unfold laws_FnExactRotationNumber
  obtain ⟨r, r1, h⟩ := pre_ok hl hs
  rw [r1]
  simp only [Option.bind_some]
  rcases h with h | ⟨h, h1, h2, h3, h4⟩
  · rw [h]; rfl
  · obtain ⟨c, c1, c2⟩ := rotation_told hS h3 h4
    rw [h, cond_false, h1]
    simp only [Option.bind_some, c1, c2, eq_angle, bne_self_eq_false, cond_false, h2, Bool.not_true]
end
end Go.K.Pure

/- Plain laws of rotation sets, part K: what is drawn. -/
set_option linter.unusedVariables false
set_option linter.unusedSimpArgs false
namespace Go.K.Pure
open Classical

abbrev Src := List Int × Int × Int × Unit
/-- A source: its place is not ahead of the code, and the code's bytes are bytes. -/
def okS (s : Src) : Prop := 0 ≤ s.2.1 ∧ s.1.length ≤ 4096 ∧ ∀ c ∈ s.1, 0 ≤ c ∧ c < 256
theorem mask_le (x : Int) : 0 ≤ wu64 (((BitVec.toNat (HAnd.hAnd (BitVec.ofInt 64 x) (BitVec.ofInt 64 (16777215 : Int)))) : Nat) : Int) ∧ wu64 (((BitVec.toNat (HAnd.hAnd (BitVec.ofInt 64 x) (BitVec.ofInt 64 (16777215 : Int)))) : Nat) : Int) ≤ 16777215 := by
  have h : (BitVec.toNat (HAnd.hAnd (BitVec.ofInt 64 x) (BitVec.ofInt 64 (16777215 : Int)))) ≤ 16777215 := by
    rw [BitVec.toNat_and]
    exact Nat.le_trans Nat.and_le_right (by decide)
  generalize (BitVec.toNat (HAnd.hAnd (BitVec.ofInt 64 x) (BitVec.ofInt 64 (16777215 : Int)))) = m at h
  have e : wu64 (m : Int) = (m : Int) := by
    simp only [wu64, IntKind.wrap, IntKind.bits, IntKind.signed]
    simp
    omega
  rw [e]; omega
theorem getD_byte {xs : List Int} (h : ∀ c ∈ xs, 0 ≤ c ∧ c < 256) {i : Nat} (hi : i < xs.length) : 0 ≤ xs.getD i 0 ∧ xs.getD i 0 < 256 := by
  rw [getD_at hi]; exact h _ (List.getElem_mem hi)
theorem next_ok {s : Src} (hs : okS s) (n : Int) : ∃ r s', spec_l01Next s n = some (r, s') ∧ okS s' ∧ (n < 1 → r = 0) ∧ (1 ≤ n → 0 ≤ r ∧ r < n) := by
  obtain ⟨code, at_, hash, ⟨⟩⟩ := s
  obtain ⟨h1, h2, h3⟩ := hs
  simp only at h1 h2 h3
  unfold spec_l01Next
  by_cases hn : n < 1
  · rw [decide_eq_true hn, cond_true]
    exact ⟨0, _, rfl, ⟨h1, h2, h3⟩, fun _ => rfl, fun h => by omega⟩
  rw [decide_eq_false hn, cond_false]
  have c0 : decide ((0 : Int) ≤ 33) = true := by decide
  have c1 : (n == 0) = false := by simp; omega
  obtain ⟨k, rfl⟩ := Int.eq_ofNat_of_zero_le h1
  simp only [c0, cond_true, c1, Bool.not_false]
  have hm := mask_le ((wu64 ((wu64 (hash * (6364136223846793005 : Int))) + (1442695040888963407 : Int))).fdiv ((2 : Int) ^ (min (33 : Int).toNat 64)))
  generalize wu64 (((BitVec.toNat (HAnd.hAnd (BitVec.ofInt 64 ((wu64 ((wu64 (hash * (6364136223846793005 : Int))) + (1442695040888963407 : Int))).fdiv ((2 : Int) ^ (min (33 : Int).toNat 64)))) (BitVec.ofInt 64 (16777215 : Int)))) : Nat) : Int) = x at hm
  by_cases hk : k < code.length
  · simp only [ltb hk, nn, Bool.and_self, cond_true, Int.toNat_natCast]
    have hb := getD_byte h3 hk
    generalize code.getD k 0 = b at hb
    rw [w64_id (n := x) (by omega) (by omega), w64_id (n := b) (by omega) (by omega), w64_id (n := x + b) (by omega) (by omega), w64_succ (by omega)]
    exact ⟨_, _, rfl, ⟨by simp only; omega, h2, h3⟩, fun h => absurd h hn, fun _ => ⟨Int.tmod_nonneg _ (by omega), Int.tmod_lt_of_pos _ (by omega)⟩⟩
  · simp only [nltb hk, cond_false]
    rw [w64_id (n := x) (by omega) (by omega)]
    exact ⟨_, _, rfl, ⟨by simp only; omega, h2, h3⟩, fun h => absurd h hn, fun _ => ⟨Int.tmod_nonneg _ (by omega), Int.tmod_lt_of_pos _ (by omega)⟩⟩
theorem pick_ok {s : Src} (hs : okS s) {xs : List Int} (hx : 0 < xs.length) (hl : xs.length ≤ 1000) : ∃ r s', spec_l01Pick s xs = some (r, s') ∧ okS s' ∧ r ∈ xs := by
  obtain ⟨r, s', h1, h2, _, h4⟩ := next_ok hs (xs.length : Int)
  obtain ⟨h5, h6⟩ := h4 (by omega)
  obtain ⟨k, rfl⟩ := Int.eq_ofNat_of_zero_le h5
  have hk : k < xs.length := by omega
  unfold spec_l01Pick
  rw [h1]
  simp only [Option.bind_some, ltb hk, nn, Bool.and_self, cond_true, Int.toNat_natCast]
  exact ⟨_, _, rfl, h2, by rw [getD_at hk]; exact List.getElem_mem hk⟩
theorem near_ok {s : Src} (hs : okS s) (m : Int) : ∃ r s', spec_l01Near s m = some (r, s') ∧ okS s' := by
  obtain ⟨r, s', h1, h2, _⟩ := next_ok hs 14
  unfold spec_l01Near
  rw [h1]
  simp only [Option.bind_some]
  by_cases h : (r == 0) = true
  · rw [h, cond_true]
    obtain ⟨r2, s2, h3, h4, _⟩ := pick_ok h2 (xs := [(-1 : Int), (w64 (m + (1 : Int))), (1099511627776 : Int), (-4611686018427387904 : Int)]) (by simp) (by simp)
    rw [h3]
    exact ⟨_, _, rfl, h4⟩
  · have h' : (r == 0) = false := by simpa using h
    rw [h', cond_false]
    obtain ⟨r2, s2, h3, h4, _⟩ := next_ok h2 (w64 (m + 1))
    rw [h3]
    exact ⟨_, _, rfl, h4⟩
theorem from_ok {code : List Int} (hl : code.length ≤ 4096) (hc : ∀ c ∈ code, 0 ≤ c ∧ c < 256) : ∃ s, spec_l01From code = some s ∧ okS s := by
  unfold spec_l01From
  obtain ⟨b, h1, h2⟩ := loop_inv (step := spec_l01From_l0) (fun st => ∃ (k : Nat) (h : Int), k ≤ code.length ∧ st = (code, (code, 0, h, ()), (k : Int), ())) (fun st => code.length - st.2.2.1.toNat) (fun b => ∃ h : Int, b = ((code, 0, h, ()), ())) (by
    rintro _ ⟨k, h, hk, rfl⟩
    by_cases hlt : k < code.length
    · right
      have c1 : decide ((k : Int) < 4096) = true := decide_eq_true (by omega)
      simp only [spec_l01From_l0, ltb hlt, nn, Bool.and_self, cond_true, c1]
      rw [w64_succ (by omega)]
      exact ⟨_, rfl, ⟨k + 1, _, by omega, rfl⟩, by simp; omega⟩
    · left
      exact ⟨_, by simp only [spec_l01From_l0, nltb hlt, cond_false], h, rfl⟩) (code, (code, (0 : Int), (wu64 ((11437 : Int) + (wu64 ((code.length : Nat) : Int)))), ()), (0 : Int), ()) ⟨0, _, by omega, rfl⟩
  obtain ⟨h, rfl⟩ := h2
  rw [h1]
  exact ⟨_, rfl, Int.le_refl _, hl, hc⟩
theorem drawRot_ok {code : List Int} (hl : code.length ≤ 4096) (hc : ∀ c ∈ code, 0 ≤ c ∧ c < 256) : ∃ q v : Int, spec_DrawRotationSet code = some (q, v) := by
  obtain ⟨s, h1, h2⟩ := from_ok hl hc
  unfold spec_DrawRotationSet
  rw [h1]
  simp only [Option.bind_some]
  obtain ⟨r, s1, h3, h4⟩ := near_ok h2 11
  rw [h3]
  simp only [Option.bind_some]
  generalize (if ((12 : Int) < (if ((0 : Int) > (w64 ((w64 ((2 : Int) + r)) - (2 : Int)))) then (0 : Int) else (w64 ((w64 ((2 : Int) + r)) - (2 : Int))))) then (12 : Int) else (if ((0 : Int) > (w64 ((w64 ((2 : Int) + r)) - (2 : Int)))) then (0 : Int) else (w64 ((w64 ((2 : Int) + r)) - (2 : Int))))) = m
  obtain ⟨r2, s2, h5, h6⟩ := near_ok h4 m
  rw [h5]
  exact ⟨_, _, rfl⟩
theorem angN_isA {n d : Nat} (h1 : 1 ≤ d) (h2 : d ≤ 8191) : isA (angN n d) := by
  have g0 : 0 < Nat.gcd (n % d) d := Nat.gcd_pos_of_pos_right _ h1
  have hm := Nat.mod_lt n (show 0 < d by omega)
  have hd : Nat.gcd (n % d) d ∣ d := Nat.gcd_dvd_right _ _
  have hn : Nat.gcd (n % d) d ∣ n % d := Nat.gcd_dvd_left _ _
  unfold angN
  refine isA_of ?_ ?_ ?_ ?_
  · exact Nat.div_pos (Nat.le_of_dvd h1 hd) g0
  · exact Nat.le_trans (Nat.div_le_self _ _) h2
  · exact Nat.div_lt_div_of_lt_of_dvd hd hm
  · exact Nat.coprime_div_gcd_div_gcd g0
theorem draw_ok {s : Src} (hs : okS s) : ∃ a s', spec_l01Draw s = some (a, s') ∧ isA a ∧ okS s' := by
  unfold spec_l01Draw
  obtain ⟨d, s1, h1, h2, h3⟩ := pick_ok hs (xs := [(1 : Int), (3 : Int), (7 : Int), (15 : Int), (31 : Int), (63 : Int), (5 : Int), (9 : Int), (11 : Int), (13 : Int), (17 : Int), (21 : Int)]) (by simp) (by simp)
  have hd : 1 ≤ d ∧ d ≤ 63 := by
    simp only [List.mem_cons, List.not_mem_nil, or_false] at h3
    omega
  rw [h1]
  simp only [Option.bind_some]
  obtain ⟨c, s2, h4, h5, _⟩ := next_ok h2 5
  rw [h4]
  simp only [Option.bind_some]
  -- the last two steps, whatever the denominator is
  have fin : ∀ {s : Src} (hs : okS s) (e : Int), 1 ≤ e → e ≤ 8191 → ∃ a s', ((spec_l01Next s e).bind fun r3 => (spec_l01Of r3.1 e).bind fun r4 => some (r4, r3.2)) = some (a, s') ∧ isA a ∧ okS s' := by
    intro s hs e he1 he2
    obtain ⟨r, s', k1, k2, _, k4⟩ := next_ok hs e
    obtain ⟨k5, k6⟩ := k4 he1
    obtain ⟨n, rfl⟩ := Int.eq_ofNat_of_zero_le k5
    obtain ⟨m, rfl⟩ := Int.eq_ofNat_of_zero_le (show 0 ≤ e by omega)
    rw [k1]
    simp only [Option.bind_some]
    rw [spec_angN (by omega) (by omega) (by omega)]
    exact ⟨_, _, rfl, angN_isA (by omega) (by omega), k2⟩
  by_cases hc0 : (c == 0) = true
  · rw [hc0, cond_true]
    obtain ⟨f, s3, h6, h7, h8⟩ := pick_ok h5 (xs := [(2 : Int), (4 : Int), (8 : Int)]) (by simp) (by simp)
    have hf : f = 2 ∨ f = 4 ∨ f = 8 := by simpa using h8
    rw [h6]
    simp only [Option.bind_some]
    have he : 1 ≤ d * f ∧ d * f ≤ 504 := by rcases hf with rfl | rfl | rfl <;> omega
    rw [w64_id (n := d * f) (by omega) (by omega)]
    exact fin h7 (d * f) he.1 (by omega)
  · have hc0' : (c == 0) = false := by simpa using hc0
    rw [hc0', cond_false]
    by_cases hc1 : (c == 1) = true
    · rw [hc1, cond_true, w64_id (n := d * 2) (by omega) (by omega)]
      exact fin h5 (d * 2) (by omega) (by omega)
    · have hc1' : (c == 1) = false := by simpa using hc1
      rw [hc1', cond_false]
      exact fin h5 d hd.1 (by omega)
theorem bad_ok {s : Src} (hs : okS s) {a : Ang} (ha : isA a) : ∃ b s', spec_l01Bad s a = some (b, s') ∧ InA b ∧ okS s' := by
  obtain ⟨a1, a2, a3, a4, a5⟩ := ha
  unfold spec_l01Bad
  obtain ⟨c, s2, h4, h5, _⟩ := next_ok hs 40
  rw [h4]
  simp only [Option.bind_some]
  by_cases hc0 : (c == 0) = true
  · rw [hc0, cond_true, w64_id (n := a.2.1 + 1) (by omega) (by omega)]
    obtain ⟨f, s3, h6, h7, h8⟩ := pick_ok h5 (xs := [(-1 : Int), a.2.1, a.2.1 + 1, (1099511627776 : Int)]) (by simp) (by simp)
    rw [h6]
    refine ⟨_, _, rfl, ⟨?_, ?_⟩, h7⟩
    · simp only [List.mem_cons, List.not_mem_nil, or_false] at h8
      constructor <;> simp only <;> omega
    · constructor <;> simp only <;> omega
  · have hc0' : (c == 0) = false := by simpa using hc0
    rw [hc0', cond_false]
    by_cases hc1 : (c == 1) = true
    · rw [hc1, cond_true]
      obtain ⟨f, s3, h6, h7, h8⟩ := pick_ok h5 (xs := [(0 : Int), (-3 : Int), (8192 : Int), (1099511627776 : Int)]) (by simp) (by simp)
      rw [h6]
      refine ⟨_, _, rfl, ⟨?_, ?_⟩, h7⟩
      · constructor <;> simp only <;> omega
      · simp only [List.mem_cons, List.not_mem_nil, or_false] at h8
        constructor <;> simp only <;> omega
    · have hc1' : (c == 1) = false := by simpa using hc1
      rw [hc1', cond_false]
      by_cases hc2 : (c == 2) = true
      · rw [hc2, cond_true, w64_id (n := 2 * a.1) (by omega) (by omega), w64_id (n := 2 * a.2.1) (by omega) (by omega)]
        refine ⟨_, _, rfl, ⟨?_, ?_⟩, h5⟩ <;> constructor <;> simp only <;> omega
      · have hc2' : (c == 2) = false := by simpa using hc2
        rw [hc2', cond_false]
        refine ⟨_, _, rfl, ⟨?_, ?_⟩, h5⟩ <;> constructor <;> omega
theorem spoil_ok {s : Src} (hs : okS s) : ∃ b s', spec_l01Spoil s = some (b, s') ∧ InA b ∧ okS s' := by
  unfold spec_l01Spoil
  obtain ⟨a, s1, h1, h2, h3⟩ := draw_ok hs
  rw [h1]
  simp only [Option.bind_some]
  obtain ⟨b, s2, h4, h5, h6⟩ := bad_ok h3 h2
  rw [h4]
  exact ⟨_, _, rfl, h5, h6⟩
end Go.K.Pure

/- Plain laws of rotation sets, part L: the rotation sets. -/
set_option linter.unusedVariables false
set_option linter.unusedSimpArgs false
set_option linter.unusedSectionVars false
namespace Go.K.Pure

/-- The first digits of an angle of a rotation set. -/
def rnum (q v k : Nat) : Nat → Nat
  | 0 => 0
  | n + 1 => 2 * rnum q v k n + if v - q ≤ (k + n * q) % v then 1 else 0
/-- What is so of the few rotation sets that are asked for. -/
def Few (q v : Nat) : Prop := ∀ k, k < v → rnum q v k v < 2 ^ v - 1 ∧ (k + 1 < v → rnum q v k v < rnum q v (k + 1) v) ∧ 2 * rnum q v k v % (2 ^ v - 1) = rnum q v ((k + q) % v) v
instance (q v : Nat) : Decidable (Few q v) := by unfold Few; infer_instance
theorem few_all : ∀ v, v < 14 → ∀ q, q < v → 1 ≤ q → 2 ≤ v → Nat.gcd q v = 1 → Few q v := by decide +kernel
theorem rnum_le (q v k : Nat) : ∀ n, rnum q v k n < 2 ^ n
  | 0 => by simp [rnum]
  | n + 1 => by
    have := rnum_le q v k n
    rw [rnum, Nat.pow_succ]
    split <;> omega
theorem angN_scale {c n d : Nat} (hc : 0 < c) (hd : 0 < d) : angN (c * n) (c * d) = angN n d := by
  unfold angN
  rw [Nat.mul_mod_mul_left, Nat.gcd_mul_left, Nat.mul_div_mul_left _ _ hc, Nat.mul_div_mul_left _ _ hc]
theorem angN_mod {n d : Nat} : angN (n % d) d = angN n d := by
  unfold angN; rw [Nat.mod_mod]
theorem dbl_angN {n d : Nat} (hd : 0 < d) : dbl (angN n d) = angN (2 * n) d := by
  rw [← angN_mod (n := n)]
  have hm := Nat.mod_lt n hd
  have e2 : angN (2 * n) d = angN (2 * (n % d)) d := by
    rw [← angN_mod (n := 2 * n), ← angN_mod (n := 2 * (n % d)), Nat.mul_mod_mod]
  rw [e2]
  generalize n % d = m at hm
  have g0 : 0 < Nat.gcd m d := Nat.gcd_pos_of_pos_right _ hd
  obtain ⟨m', hm'⟩ := Nat.gcd_dvd_left m d
  obtain ⟨d', hd'⟩ := Nat.gcd_dvd_right m d
  have e : angN m d = ((m' : Int), (d' : Int), ()) := by
    unfold angN
    rw [Nat.mod_eq_of_lt hm]
    have e3 : m / Nat.gcd m d = m' := by
      conv => lhs; lhs; rw [hm']
      exact Nat.mul_div_cancel_left _ g0
    have e4 : d / Nat.gcd m d = d' := by
      conv => lhs; lhs; rw [hd']
      exact Nat.mul_div_cancel_left _ g0
    rw [e3, e4]
  rw [e, dbl_nat]
  have hd0 : 0 < d' := by
    rcases Nat.eq_zero_or_pos d' with h | h
    · rw [h, Nat.mul_zero] at hd'; omega
    · exact h
  have e5 : angN (2 * m) d = angN (Nat.gcd m d * (2 * m')) (Nat.gcd m d * d') := by
    rw [← hd', show Nat.gcd m d * (2 * m') = 2 * (Nat.gcd m d * m') by rw [Nat.mul_left_comm], ← hm']
  rw [e5, angN_scale g0 hd0]
theorem val_angN {n d : Nat} (h1 : 1 ≤ d) (h2 : d ≤ 8191) (h : n < d) : val (angN n d) * (d : Int) = (n : Int) * KK := by
  have hk := KK_div (angN_isA (n := n) h1 h2)
  have g0 : 0 < Nat.gcd n d := Nat.gcd_pos_of_pos_right _ h1
  have e1 : n / Nat.gcd n d * Nat.gcd n d = n := Nat.div_mul_cancel (Nat.gcd_dvd_left n d)
  have e2 : d / Nat.gcd n d * Nat.gcd n d = d := Nat.div_mul_cancel (Nat.gcd_dvd_right n d)
  unfold val
  unfold angN at hk ⊢
  rw [Nat.mod_eq_of_lt h] at hk ⊢
  simp only at hk ⊢
  generalize hx : n / Nat.gcd n d = x at *
  generalize hy : d / Nat.gcd n d = y at *
  generalize KK / (y : Int) = z at *
  generalize Nat.gcd n d = g at *
  rw [← e2, ← e1, ← hk]
  push_cast
  ac_rfl
section
variable {q v : Nat} (h1 : 1 ≤ q) (h2 : q < v) (h3 : v ≤ 13) (hg : Nat.gcd q v = 1)
include h1 h2 h3 hg
theorem few : Few q v := few_all v (by omega) q h2 h1 (by omega) hg
omit h1 h2 hg in
theorem den_le : 2 ^ v - 1 ≤ 8191 := by
  have : 2 ^ v ≤ 2 ^ 13 := Nat.pow_le_pow_right (by omega) h3
  omega
omit h3 hg in
theorem den_ge : 1 ≤ 2 ^ v - 1 := by
  have : 2 ^ 1 ≤ 2 ^ v := Nat.pow_le_pow_right (by omega) (by omega)
  omega
/-- An angle of a rotation set. -/
def rang (q v k : Nat) : Ang := angN (rnum q v k v) (2 ^ v - 1)
theorem rang_isA (k : Nat) : isA (rang q v k) := angN_isA (den_ge h1 h2) (den_le h3)
theorem rang_dbl {k : Nat} (hk : k < v) : dbl (rang q v k) = rang q v ((k + q) % v) := by
  obtain ⟨_, _, e⟩ := few h1 h2 h3 hg k hk
  unfold rang
  rw [dbl_angN (den_ge h1 h2), ← angN_mod (n := 2 * _), e]
theorem rang_lt {k : Nat} (hk : k + 1 < v) : val (rang q v k) < val (rang q v (k + 1)) := by
  obtain ⟨a1, a2, _⟩ := few h1 h2 h3 hg k (by omega)
  obtain ⟨b1, _⟩ := few h1 h2 h3 hg (k + 1) hk
  have c1 := val_angN (den_ge h1 h2) (den_le h3) a1
  have c2 := val_angN (den_ge h1 h2) (den_le h3) b1
  have hlt := a2 hk
  have hK := KK_pos
  have hd : (0 : Int) < ((2 ^ v - 1 : Nat) : Int) := by have := den_ge h1 h2; omega
  unfold rang
  generalize ((2 ^ v - 1 : Nat) : Int) = D at *
  refine Int.lt_of_mul_lt_mul_right (a := D) ?_ (Int.le_of_lt hd)
  rw [c1, c2]
  exact Int.mul_lt_mul_of_pos_right (by omega) hK
/-- The rotation set. -/
def rset (q v : Nat) : List Ang := tab (rang q v) v
omit h1 h2 h3 hg in
theorem rset_len : (rset q v).length = v := tab_len
omit h1 h2 h3 hg in
theorem rset_at {k : Nat} (hk : k < v) : ea (rset q v) k = rang q v k := tab_at hk
omit h1 h2 h3 hg in
theorem rset_mem {x : Ang} : x ∈ rset q v ↔ ∃ k, k < v ∧ rang q v k = x := tab_mem
theorem rset_asc : Asc (rset q v) := by
  have hv : ∀ x ∈ rset q v, isA x := fun x hx => by
    obtain ⟨k, _, rfl⟩ := rset_mem.1 hx
    exact rang_isA h1 h2 h3 hg k
  rw [asc_iff hv]
  intro i hi
  rw [rset_len] at hi
  rw [rset_at (by omega), rset_at hi]
  exact rang_lt h1 h2 h3 hg hi
theorem rset_inj {i j : Nat} (hi : i < v) (hj : j < v) (e : rang q v i = rang q v j) : i = j := by
  refine asc_at (rset_asc h1 h2 h3 hg) (by rw [rset_len]; exact hi) (by rw [rset_len]; exact hj) ?_
  rw [rset_at hi, rset_at hj, e]
theorem rset_fi {i : Nat} (hi : i < v) : fi (rang q v i) (rset q v) = i := by
  rw [← rset_at (q := q) hi]
  exact fi_at (rset_asc h1 h2 h3 hg) (by rw [rset_len]; exact hi)
theorem rset_dblN {k : Nat} (hk : k < v) : ∀ n, dblN (rang q v k) n = rang q v ((k + n * q) % v)
  | 0 => by rw [Nat.zero_mul, Nat.add_zero, Nat.mod_eq_of_lt hk]; rfl
  | n + 1 => by
    show dbl (dblN (rang q v k) n) = _
    rw [rset_dblN hk n, rang_dbl h1 h2 h3 hg (Nat.mod_lt _ (by omega)), Nat.mod_add_mod, Nat.succ_mul, Nat.add_assoc]
theorem rset_back {k : Nat} (hk : k < v) : dblN (rang q v k) v = rang q v k := by
  rw [rset_dblN h1 h2 h3 hg hk, Nat.add_mul_mod_self_left, Nat.mod_eq_of_lt hk]
theorem rset_pre {k : Nat} (hk : k < v) : pre (rang q v k) = 0 := by
  have := pre_dblN (rang_isA h1 h2 h3 hg k) v
  rw [rset_back h1 h2 h3 hg hk] at this
  omega
theorem rset_per {k : Nat} (hk : k < v) {m : Nat} (hm : 0 < m) (e : dblN (rang q v k) m = rang q v k) : v ≤ m := by
  rw [rset_dblN h1 h2 h3 hg hk] at e
  have e2 := rset_inj h1 h2 h3 hg (Nat.mod_lt _ (by omega)) hk e
  have hd : v ∣ m * q := by
    have : (k + m * q) % v = k % v := by rw [e2, Nat.mod_eq_of_lt hk]
    have h4 := Nat.sub_mod_eq_zero_of_mod_eq this
    rw [Nat.add_sub_cancel_left] at h4
    exact Nat.dvd_of_mod_eq_zero h4
  have hc : Nat.Coprime v q := by rw [Nat.Coprime, Nat.gcd_comm]; exact hg
  exact Nat.le_of_dvd hm (hc.dvd_of_dvd_mul_right hd)
theorem rset_orbit {k : Nat} (hk : k < v) : ob (rang q v k) = (orbL (rang q v k) v, 0, true) := by
  have := orbit_is (rang_isA h1 h2 h3 hg k) (rset_pre h1 h2 h3 hg hk) (show 0 < v by omega) (by omega) (rset_back h1 h2 h3 hg hk) (fun m hm e => rset_per h1 h2 h3 hg hk hm e)
  unfold ob
  rw [this]; rfl
theorem rset_perOK {k : Nat} (hk : k < v) : PerOK (rang q v k) v := by
  unfold PerOK
  rw [rset_orbit h1 h2 h3 hg hk]
  exact ⟨rfl, rset_pre h1 h2 h3 hg hk, orbL_len⟩
theorem rset_lead : Lead (rset q v) (rset q v) := by
  refine ⟨fun i hi => ?_, fun i hi j hj => ?_⟩
  · rw [rset_len] at hi
    rw [rset_at hi, rang_dbl h1 h2 h3 hg hi]
    exact rset_mem.2 ⟨_, Nat.mod_lt _ (by omega), rfl⟩
  · rw [rset_len] at hi
    rw [rset_at hi, rset_at (by omega), rang_dbl h1 h2 h3 hg hi, rang_dbl h1 h2 h3 hg (by omega)]
    intro e
    have e2 := rset_inj h1 h2 h3 hg (Nat.mod_lt _ (by omega)) (Nat.mod_lt _ (by omega)) e
    have s : ∀ x, x < v → (x + q) % v = if x + q < v then x + q else x + q - v := fun x hx => by
      split
      · exact Nat.mod_eq_of_lt (by omega)
      · rw [Nat.mod_eq_sub_mod (by omega), Nat.mod_eq_of_lt (by omega)]
    rw [s j (by omega), s i hi] at e2
    split at e2 <;> split at e2 <;> omega
theorem rset_keep : Keep (rset q v) (rset q v) := by
  intro i hi
  rw [rset_len] at hi ⊢
  have hm : (i + 1) % v < v := Nat.mod_lt _ (by omega)
  rw [rset_at hm, rset_at hi, rang_dbl h1 h2 h3 hg hm, rang_dbl h1 h2 h3 hg hi, rset_fi h1 h2 h3 hg (Nat.mod_lt _ (by omega)), rset_fi h1 h2 h3 hg (Nat.mod_lt _ (by omega)), Nat.mod_add_mod, Nat.mod_add_mod, Nat.add_right_comm]
end
end Go.K.Pure

/- Plain laws of rotation sets, part M: what the program's and the reference's rotation sets are. -/
set_option linter.unusedVariables false
set_option linter.unusedSimpArgs false
set_option linter.unusedSectionVars false
namespace Go.K.Pure
open Classical

theorem spec_insert {xs : List Ang} {a : Ang} (hx : Asc xs) (ha : isA a) (hl : xs.length ≤ 1000000) : ∃ ys, spec_l01Insert xs a = some ys ∧ Asc ys ∧ (∀ b, b ∈ ys ↔ b ∈ xs ∨ b = a) ∧ ys.length ≤ xs.length + 1 ∧ xs.length ≤ ys.length := by
  -- where it belongs
  obtain ⟨r, h1, k, hk, rfl, h2, h3⟩ := loop_inv (step := spec_l01Insert_l0) (fun s => ∃ k : Nat, k ≤ xs.length ∧ s = (xs, a, (k : Int), ()) ∧ ∀ j, j < k → val (ea xs j) < val a) (fun s => xs.length - s.2.2.1.toNat)
    (fun b => ∃ k : Nat, k ≤ xs.length ∧ b = (xs, a, (k : Int), ()) ∧ (∀ j, j < k → val (ea xs j) < val a) ∧ (k < xs.length → ¬ val (ea xs k) < val a)) (by
    rintro _ ⟨k, hk, rfl, hj⟩
    by_cases h : k < xs.length
    · simp only [spec_l01Insert_l0, ltb h, nn, Bool.and_self, cond_true, Int.toNat_natCast]
      rw [spec_less (hx.1 _ (ea_mem h)) ha]
      simp only [Option.bind_some]
      have hv := lt_val (hx.1 _ (ea_mem h)) ha
      by_cases hlt : lt (ea xs k) a
      · right
        refine ⟨_, by rw [decide_eq_true hlt, cond_true, w64_succ (by omega)], ⟨k + 1, by omega, rfl, fun j hj' => ?_⟩, by simp; omega⟩
        by_cases e : j = k
        · subst e; exact hv.1 hlt
        · exact hj j (by omega)
      · left
        exact ⟨_, by rw [decide_eq_false hlt, cond_false], k, hk, rfl, hj, fun _ hh => hlt (hv.2 hh)⟩
    · left
      have : k = xs.length := by omega
      subst this
      exact ⟨_, by simp only [spec_l01Insert_l0, nltb h, cond_false], _, Nat.le_refl _, rfl, hj, fun hh => absurd hh h⟩) (xs, a, (0 : Int), ()) ⟨0, by omega, rfl, fun j h => by omega⟩
  have hlow : ∀ x ∈ xs.take k, val x < val a := by
    intro x hx'
    obtain ⟨j, hj, rfl⟩ := List.getElem_of_mem hx'
    have hj1 : j < k := by simp at hj; omega
    have := h2 j hj1
    rw [ea, getD_at (by omega)] at this
    simpa using this
  have hput : ∀ (hne : k < xs.length → ea xs k ≠ a), Asc (xs.take k ++ (a :: xs.drop k)) ∧ (∀ b, b ∈ xs.take k ++ (a :: xs.drop k) ↔ b ∈ xs ∨ b = a) := by
    intro hne
    have hmem : ∀ b, b ∈ xs.take k ++ (a :: xs.drop k) ↔ b ∈ xs ∨ b = a := by
      intro b
      conv => rhs; rw [← List.take_append_drop k xs]
      simp only [List.mem_append, List.mem_cons]
      constructor
      · rintro (h | h | h)
        · exact .inl (.inl h)
        · exact .inr h
        · exact .inl (.inr h)
      · rintro ((h | h) | h)
        · exact .inl h
        · exact .inr (.inr h)
        · exact .inr (.inl h)
    have hhigh : ∀ x ∈ xs.drop k, val a < val x := by
      intro x hx'
      have hkl : k < xs.length := by
        rcases Nat.lt_or_ge k xs.length with h | h
        · exact h
        · rw [List.drop_of_length_le h] at hx'; cases hx'
      have h4 := h3 hkl
      have h5 : val (ea xs k) ≠ val a := fun e => hne hkl (val_inj (hx.1 _ (ea_mem hkl)) ha e)
      rw [List.drop_eq_getElem_cons hkl] at hx'
      have e1 : ea xs k = xs[k] := getD_at hkl
      rcases List.mem_cons.1 hx' with h | h
      · rw [h, ← e1]; omega
      · have hp := hx.2
        rw [← List.take_append_drop k xs, List.drop_eq_getElem_cons hkl, List.pairwise_append] at hp
        have := (List.pairwise_cons.1 hp.2.1).1 x h
        rw [← e1] at this
        omega
    refine ⟨⟨fun x hx' => ?_, ?_⟩, hmem⟩
    · rcases (hmem x).1 hx' with h | h
      · exact hx.1 x h
      · rw [h]; exact ha
    · rw [List.pairwise_append]
      have hp := hx.2
      rw [← List.take_append_drop k xs, List.pairwise_append] at hp
      refine ⟨hp.1, List.pairwise_cons.2 ⟨hhigh, hp.2.1⟩, fun x hx' y hy => ?_⟩
      rcases List.mem_cons.1 hy with h | h
      · rw [h]; exact hlow x hx'
      · exact hp.2.2 x hx' y h
  have hres : ∀ (hne : k < xs.length → ea xs k ≠ a) {o : Option (List Ang)}, o = some (xs.take k ++ (a :: xs.drop k)) → ∃ ys, o = some ys ∧ Asc ys ∧ (∀ b, b ∈ ys ↔ b ∈ xs ∨ b = a) ∧ ys.length ≤ xs.length + 1 ∧ xs.length ≤ ys.length := by
    intro hne o ho
    obtain ⟨p1, p2⟩ := hput hne
    exact ⟨_, ho, p1, p2, by simp; omega, by simp; omega⟩
  have c1 : (((decide ((0 : Int) ≤ (k : Int))) && (decide ((k : Int) ≤ ((xs.length : Nat) : Int)))) && (decide (((xs.length : Nat) : Int) ≤ ((xs.length : Nat) : Int)))) = true := by
    simp only [Bool.and_eq_true, decide_eq_true_eq]; omega
  have c2 : (((decide ((0 : Int) ≤ (0 : Int))) && (decide ((0 : Int) ≤ (k : Int)))) && (decide ((k : Int) ≤ ((xs.length : Nat) : Int)))) = true := by
    simp only [Bool.and_eq_true, decide_eq_true_eq]; omega
  have e1 : (xs.take ((xs.length : Nat) : Int).toNat).drop (k : Int).toNat = xs.drop k := by simp
  have e2 : (xs.take (k : Int).toNat).drop (0 : Int).toNat = xs.take k := by simp
  unfold spec_l01Insert
  rw [h1]
  simp only [Option.bind_some]
  rw [c1, c2, e1, e2]
  simp only [cond_true]
  have d1 : decide (([a].length + (xs.drop k).length) * 16 ≤ 140737488355328) = true := by
    simp only [decide_eq_true_eq, List.length_singleton, List.length_drop]; omega
  have d2 : decide ((([] : List Ang).length + (xs.take k).length) * 16 ≤ 140737488355328) = true := by
    simp only [decide_eq_true_eq, List.length_nil, List.length_take]; omega
  have d3 : decide (((([] : List Ang) ++ xs.take k).length + ([a] ++ xs.drop k).length) * 16 ≤ 140737488355328) = true := by
    simp only [decide_eq_true_eq, List.length_append, List.length_nil, List.length_singleton, List.length_take, List.length_drop]; omega
  rw [d1, d2, d3]
  simp only [cond_true]
  by_cases hkl : k < xs.length
  · simp only [ltb hkl, nn, Bool.and_self, cond_true, Int.toNat_natCast]
    rw [beqA]
    by_cases he : ea xs k = a
    · rw [decide_eq_true he, cond_true]
      exact ⟨xs, rfl, hx, fun b => ⟨.inl, fun h => h.elim id fun h => by rw [h, ← he]; exact ea_mem hkl⟩, by omega, Nat.le_refl _⟩
    · rw [decide_eq_false he, cond_false]
      exact hres (fun _ => he) (by simp)
  · simp only [nltb hkl, cond_false]
    exact hres (fun h => absurd h hkl) (by simp)

theorem pow_nat {v : Nat} (h : v ≤ 13) : w64 ((w64 ((1 : Int) * ((2 : Int) ^ (min ((v : Nat) : Int).toNat 64)))) - (1 : Int)) = ((2 ^ v - 1 : Nat) : Int) := by
  have h2 : 2 ^ v ≤ 2 ^ 13 := Nat.pow_le_pow_right (by omega) h
  have h1 : 1 ≤ 2 ^ v := Nat.one_le_two_pow
  rw [Int.toNat_natCast, Nat.min_eq_left (by omega), Int.one_mul]
  have e : (2 : Int) ^ v = ((2 ^ v : Nat) : Int) := by push_cast; rfl
  rw [e]
  generalize 2 ^ v = m at h1 h2
  rw [w64_nat (by omega), show ((m : Nat) : Int) - 1 = ((m - 1 : Nat) : Int) by omega, w64_nat (by omega)]
section
variable {q v : Nat} (h1 : 1 ≤ q) (h2 : q < v) (h3 : v ≤ 13) (hg : Nat.gcd q v = 1)
include h1 h2 h3 hg
theorem digit_ok {k i : Nat} (hk : k < v) (hi : i < v) : (w64 ((k : Int) + (w64 ((i : Int) * (q : Int))))).tmod (v : Int) = (((k + i * q) % v : Nat) : Int) ∧ w64 ((v : Int) - (q : Int)) = ((v - q : Nat) : Int) := by
  have hb : i * q ≤ 13 * 13 := Nat.mul_le_mul (by omega) (by omega)
  rw [show (i : Int) * (q : Int) = ((i * q : Nat) : Int) by push_cast; rfl]
  generalize i * q = m at hb
  rw [w64_nat (by omega), show (k : Int) + ((m : Nat) : Int) = ((k + m : Nat) : Int) by omega, w64_nat (by omega), tmod_nat, show (v : Int) - (q : Int) = ((v - q : Nat) : Int) by omega, w64_nat (by omega)]
  exact ⟨rfl, rfl⟩
theorem impl_digits {k : Nat} (hk : k < v) (out : List Ang) (t26 t27 : Int) : loop impl_RotationSet_l1 ((q : Int), (v : Int), out, (k : Int), (0 : Int), t26, t27, (v : Int), (0 : Int), ()) = some ((q : Int), (v : Int), out, ((rnum q v k v : Nat) : Int), t26, t27, ()) :=
  loop_count (step := impl_RotationSet_l1) (fun i => ((q : Int), (v : Int), out, (k : Int), ((rnum q v k i : Nat) : Int), t26, t27, (v : Int), (i : Int), ())) v ((q : Int), (v : Int), out, ((rnum q v k v : Nat) : Int), t26, t27, ()) (by
    intro i hi
    obtain ⟨e1, e2⟩ := digit_ok h1 h2 h3 hg hk hi
    have hb := rnum_le q v k i
    have hp : 2 ^ i ≤ 2 ^ 13 := Nat.pow_le_pow_right (by omega) (by omega)
    simp only [impl_RotationSet_l1, ltb hi, cond_true, e0_false (show 0 < v by omega), Bool.not_false, e1, e2]
    by_cases hc : v - q ≤ (k + i * q) % v
    · have c : decide ((((k + i * q) % v : Nat) : Int) ≥ ((v - q : Nat) : Int)) = true := decide_eq_true (Int.ofNat_le.2 hc)
      have e : rnum q v k (i + 1) = 2 * rnum q v k i + 1 := by rw [rnum, if_pos hc]
      rw [c, cond_true, e]
      generalize rnum q v k i = m at *
      rw [w64_id (n := (m : Int) * 2) (by omega) (by omega), w64_id (n := (m : Int) * 2 + 1) (by omega) (by omega), w64_succ (by omega), show (m : Int) * 2 + 1 = ((2 * m + 1 : Nat) : Int) by omega]
    · have c : decide ((((k + i * q) % v : Nat) : Int) ≥ ((v - q : Nat) : Int)) = false := decide_eq_false (fun h => hc (Int.ofNat_le.1 h))
      have e : rnum q v k (i + 1) = 2 * rnum q v k i := by rw [rnum, if_neg hc]; rfl
      rw [c, cond_false, e]
      generalize rnum q v k i = m at *
      rw [w64_id (n := (m : Int) * 2) (by omega) (by omega), w64_succ (by omega), show (m : Int) * 2 = ((2 * m : Nat) : Int) by omega]) (by simp only [impl_RotationSet_l1, nltb (Nat.lt_irrefl v), cond_false]) 0 (Nat.zero_le _)
theorem spec_digits {k : Nat} (hk : k < v) (out : List Ang) : loop spec_l07Rotation_l1 ((q : Int), (v : Int), out, (k : Int), (0 : Int), (1 : Int), (0 : Int), ()) = some ((q : Int), (v : Int), out, (k : Int), ((rnum q v k v : Nat) : Int), ((2 ^ v : Nat) : Int), ()) :=
  loop_count (step := spec_l07Rotation_l1) (fun i => ((q : Int), (v : Int), out, (k : Int), ((rnum q v k i : Nat) : Int), ((2 ^ i : Nat) : Int), (i : Int), ())) v ((q : Int), (v : Int), out, (k : Int), ((rnum q v k v : Nat) : Int), ((2 ^ v : Nat) : Int), ()) (by
    intro i hi
    obtain ⟨e1, e2⟩ := digit_ok h1 h2 h3 hg hk hi
    have hb := rnum_le q v k i
    have hp : 2 ^ i ≤ 2 ^ 13 := Nat.pow_le_pow_right (by omega) (by omega)
    have ep : 2 ^ (i + 1) = 2 * 2 ^ i := by rw [Nat.pow_succ, Nat.mul_comm]
    simp only [spec_l07Rotation_l1, ltb hi, cond_true, e0_false (show 0 < v by omega), Bool.not_false, e1, e2]
    rw [ep]
    generalize 2 ^ i = p at *
    by_cases hc : v - q ≤ (k + i * q) % v
    · have c : decide ((((k + i * q) % v : Nat) : Int) ≥ ((v - q : Nat) : Int)) = true := decide_eq_true (Int.ofNat_le.2 hc)
      have e : rnum q v k (i + 1) = 2 * rnum q v k i + 1 := by rw [rnum, if_pos hc]
      rw [c, cond_true, e]
      generalize rnum q v k i = m at *
      rw [w64_id (n := 2 * (m : Int)) (by omega) (by omega), w64_id (n := 2 * (m : Int) + 1) (by omega) (by omega), w64_id (n := 2 * (p : Int)) (by omega) (by omega), w64_succ (by omega)]
      rfl
    · have c : decide ((((k + i * q) % v : Nat) : Int) ≥ ((v - q : Nat) : Int)) = false := decide_eq_false (fun h => hc (Int.ofNat_le.1 h))
      have e : rnum q v k (i + 1) = 2 * rnum q v k i := by rw [rnum, if_neg hc]; rfl
      rw [c, cond_false, e]
      generalize rnum q v k i = m at *
      rw [w64_id (n := 2 * (m : Int)) (by omega) (by omega), w64_id (n := 2 * (p : Int)) (by omega) (by omega), w64_succ (by omega)]
      rfl) (by simp only [spec_l07Rotation_l1, nltb (Nat.lt_irrefl v), cond_false]) 0 (Nat.zero_le _)
theorem rnum_small (k : Nat) : rnum q v k v ≤ 8192 := by
  have hb := rnum_le q v k v
  have hp : 2 ^ v ≤ 2 ^ 13 := Nat.pow_le_pow_right (by omega) h3
  omega
theorem impl_rot : loop impl_RotationSet_l0 ((q : Int), (v : Int), ([] : List Ang), (v : Int), (0 : Int), ()) = some (rset q v, ()) := by
  have hv := den_le h3
  have hv1 := den_ge h1 h2
  exact loop_count (step := impl_RotationSet_l0) (fun k => ((q : Int), (v : Int), tab (rang q v) k, (v : Int), (k : Int), ())) v (rset q v, ()) (by
    intro k hk
    simp only [impl_RotationSet_l0, ltb hk, cond_true]
    rw [impl_digits h1 h2 h3 hg hk]
    have c0 : decide ((0 : Int) ≤ (v : Int)) = true := decide_eq_true (by omega)
    simp only [Option.bind_some, c0, cond_true]
    rw [pow_nat h3, impl_angN (by omega) (by omega) (by have := rnum_small h1 h2 h3 hg k; omega)]
    have c : ∀ b : Ang, decide (((tab (rang q v) k).length + [b].length) * 16 ≤ 140737488355328) = true := fun b => decide_eq_true (by rw [tab_len]; simp only [List.length_singleton]; omega)
    simp only [Option.bind_some, c, cond_true]
    rw [w64_succ (by omega)]
    congr 4
    simp [tab, List.range_succ, rang]) (by simp only [impl_RotationSet_l0, nltb (Nat.lt_irrefl v), cond_false]; rfl) 0 (Nat.zero_le _)
theorem spec_rot : spec_l07Rotation (q : Int) (v : Int) = some (rset q v) := by
  have hv := den_le h3
  have hv1 := den_ge h1 h2
  unfold spec_l07Rotation
  obtain ⟨b, b1, b2⟩ := loop_inv (step := spec_l07Rotation_l0) (fun s => ∃ (k : Nat) (out : List Ang), k ≤ v ∧ s = ((q : Int), (v : Int), out, (k : Int), ()) ∧ Asc out ∧ (∀ x, x ∈ out ↔ ∃ j, j < k ∧ rang q v j = x) ∧ out.length ≤ k) (fun s => v - s.2.2.2.1.toNat) (fun b => b = (rset q v, ())) (by
    rintro _ ⟨k, out, hk, rfl, ha, hm, hl⟩
    by_cases h : k < v
    · right
      simp only [spec_l07Rotation_l0, ltb h, cond_true]
      rw [spec_digits h1 h2 h3 hg h]
      have hp : 2 ^ v ≤ 2 ^ 13 := Nat.pow_le_pow_right (by omega) h3
      have e1 : w64 (((2 ^ v : Nat) : Int) - 1) = ((2 ^ v - 1 : Nat) : Int) := by
        generalize 2 ^ v = m at *
        rw [show ((m : Nat) : Int) - 1 = ((m - 1 : Nat) : Int) by omega, w64_nat (by omega)]
      simp only [Option.bind_some, e1]
      rw [spec_angN (by omega) (by omega) (by have := rnum_small h1 h2 h3 hg k; omega)]
      simp only [Option.bind_some]
      obtain ⟨ys, y1, y2, y3, y4, _⟩ := spec_insert ha (a := rang q v k) (rang_isA h1 h2 h3 hg k) (by omega)
      rw [show spec_l01Insert out (angN (rnum q v k v) (2 ^ v - 1)) = some ys from y1]
      simp only [Option.bind_some]
      rw [w64_succ (by omega)]
      refine ⟨_, rfl, ⟨k + 1, ys, by omega, rfl, y2, fun x => ?_, by omega⟩, by simp; omega⟩
      rw [y3, hm]
      constructor
      · rintro (⟨j, hj, e⟩ | e)
        · exact ⟨j, by omega, e⟩
        · exact ⟨k, by omega, e.symm⟩
      · rintro ⟨j, hj, e⟩
        by_cases hjk : j = k
        · subst hjk; exact .inr e.symm
        · exact .inl ⟨j, by omega, e⟩
    · left
      have : k = v := by omega
      subst this
      refine ⟨(out, ()), by simp only [spec_l07Rotation_l0, nltb h, cond_false], ?_⟩
      rw [asc_ext ha (rset_asc h1 h2 h3 hg) fun x => (hm x).trans rset_mem.symm]) ((q : Int), (v : Int), ([] : List Ang), (0 : Int), ()) ⟨0, [], by omega, rfl, ⟨by simp, List.Pairwise.nil⟩, by simp, by simp⟩
  rw [b1, b2]
  rfl
end
/-- The rotation sets are the same. -/
theorem rotset_same (q v : Int) : ∃ r : List Ang × Int, impl_RotationSet q v = some r ∧ spec_RotationSet q v = some r ∧ (r.2 = 0 ∧ (∃ a b : Nat, q = a ∧ v = b ∧ 1 ≤ a ∧ a < b ∧ b ≤ 13 ∧ Nat.gcd a b = 1 ∧ r.1 = rset a b) ∨ r = ([], 2)) := by
  unfold impl_RotationSet spec_RotationSet
  rw [impl_in, spec_in]
  simp only [Option.bind_some]
  by_cases h1 : 2 ≤ v ∧ v ≤ 13
  rotate_left
  · rw [decide_eq_false h1]
    exact ⟨([], 2), rfl, rfl, .inr rfl⟩
  rw [decide_eq_true h1, Bool.not_true, cond_false, cond_false, w64_id (n := v - 1) (by omega) (by omega), impl_in, spec_in]
  simp only [Option.bind_some]
  by_cases h2 : 1 ≤ q ∧ q ≤ v - 1
  rotate_left
  · rw [decide_eq_false h2]
    exact ⟨([], 2), rfl, rfl, .inr rfl⟩
  rw [decide_eq_true h2, Bool.not_true, cond_false, cond_false]
  obtain ⟨a, rfl⟩ := Int.eq_ofNat_of_zero_le (show 0 ≤ q by omega)
  obtain ⟨b, rfl⟩ := Int.eq_ofNat_of_zero_le (show 0 ≤ v by omega)
  rw [impl_div (by omega) (by omega), spec_div (by omega) (by omega)]
  simp only [Option.bind_some]
  by_cases hg : Nat.gcd a b = 1
  · have c : (((Int.gcd (a : Int) (b : Int) : Nat) : Int) != 1) = false := by
      have : Int.gcd (a : Int) (b : Int) = 1 := hg
      rw [this]; rfl
    rw [c, cond_false, cond_false, impl_rot (by omega) (by omega) (by omega) hg, spec_rot (by omega) (by omega) (by omega) hg]
    have p1 : 1 ≤ a := by omega
    have p2 : a < b := by omega
    have p3 : b ≤ 13 := by omega
    have hv : ∀ x ∈ rset a b, isA x := (rset_asc p1 p2 p3 hg).1
    obtain ⟨zs, z1, z2, z3, _⟩ := impl_sorted_ok hv (by rw [rset_len]; omega)
    simp only [Option.bind_some]
    rw [z1, asc_ext z2 (rset_asc p1 p2 p3 hg) z3]
    exact ⟨(rset a b, 0), rfl, rfl, .inl ⟨rfl, a, b, rfl, rfl, p1, p2, p3, hg, rfl⟩⟩
  · have c : (((Int.gcd (a : Int) (b : Int) : Nat) : Int) != 1) = true := by
      have : ¬ Int.gcd (a : Int) (b : Int) = 1 := hg
      simp
      omega
    rw [c]
    exact ⟨([], 2), rfl, rfl, .inr rfl⟩
end Go.K.Pure

/- Plain laws of rotation sets, part N: by how much doubling turns a set; the portrait of a rotation set. -/
set_option linter.unusedVariables false
set_option linter.unusedSimpArgs false
set_option linter.unusedSectionVars false
namespace Go.K.Pure
open Classical

/-- Doubling turns a set. -/
def Turns (s : List Ang) : Prop := dbl (ea s 0) ∈ s ∧ ∀ i, i < s.length → dbl (ea s i) = ea s ((i + fi (dbl (ea s 0)) s) % s.length)
theorem turns_iff {s : List Ang} (hs : Asc s) (h0 : 0 < s.length) : Turns s ↔ Lead s s ∧ Keep s s := by
  constructor
  · rintro ⟨h1, h2⟩
    have hf := (fi_spec h1).1
    generalize fi (dbl (ea s 0)) s = q at h2 hf
    have hfi : ∀ i, i < s.length → fi (dbl (ea s i)) s = (i + q) % s.length := fun i hi => by
      rw [h2 i hi, fi_at hs (Nat.mod_lt _ h0)]
    refine ⟨⟨fun i hi => ?_, fun i hi j hj e => ?_⟩, fun i hi => ?_⟩
    · rw [h2 i hi]; exact ea_mem (Nat.mod_lt _ h0)
    · rw [h2 i hi, h2 j (by omega)] at e
      have e2 := asc_at hs (Nat.mod_lt _ h0) (Nat.mod_lt _ h0) e
      have w : ∀ x, x < s.length → (x + q) % s.length = if x + q < s.length then x + q else x + q - s.length := fun x hx => by
        split
        · exact Nat.mod_eq_of_lt (by omega)
        · rw [Nat.mod_eq_sub_mod (by omega), Nat.mod_eq_of_lt (by omega)]
      rw [w j (by omega), w i hi] at e2
      split at e2 <;> split at e2 <;> omega
    · rw [hfi i hi, hfi _ (Nat.mod_lt _ h0), Nat.mod_add_mod, Nat.mod_add_mod, Nat.add_right_comm]
  · rintro ⟨h1, h2⟩
    have hm := h1.1 0 h0
    refine ⟨hm, fun i hi => ?_⟩
    have hf := (fi_spec hm).1
    have key : ∀ i, i < s.length → fi (dbl (ea s i)) s = (i + fi (dbl (ea s 0)) s) % s.length := by
      intro i
      induction i with
      | zero => intro _; rw [Nat.zero_add, Nat.mod_eq_of_lt hf]
      | succ i ih =>
        intro hi
        have h3 := h2 i (by omega)
        rw [Nat.mod_eq_of_lt hi, ih (by omega), Nat.mod_add_mod] at h3
        rw [h3, Nat.add_right_comm]
    have := (fi_spec (h1.1 i hi)).2.1
    rw [← key i hi, this]
theorem impl_turn {s : List Ang} (hv : ∀ x ∈ s, InA x) (hl : s.length ≤ 1048576) :
    impl_RotationOfSet s = some (sel (∀ x ∈ s, isA x) (sel (1 ≤ s.length ∧ s.length ≤ 64 ∧ AscL s) (sel (Turns s) ((fi (dbl (ea s 0)) s : Int), 0) (0, 5)) (0, 2)) (0, 1)) := by
  unfold impl_RotationOfSet
  rw [impl_code hv hl]
  simp only [Option.bind_some]
  by_cases hA : ∀ x ∈ s, isA x
  rotate_left
  · rw [sel_neg hA, sel_neg hA]; rfl
  rw [sel_pos hA, sel_pos hA]
  simp only [bne_self_eq_false, cond_false, impl_length_impl_Angle, Option.bind_some, impl_in]
  by_cases h1 : 1 ≤ s.length ∧ s.length ≤ 64
  rotate_left
  · rw [decide_eq_false (by omega), sel_neg (fun h => h1 ⟨h.1, h.2.1⟩)]; rfl
  rw [decide_eq_true (show (1 : Int) ≤ (s.length : Int) ∧ (s.length : Int) ≤ 64 by omega), Bool.not_true, cond_false, impl_asc hA hl]
  simp only [Option.bind_some]
  by_cases h2 : AscL s
  rotate_left
  · rw [decide_eq_false h2, sel_neg (fun h => h2 h.2.2)]; rfl
  rw [decide_eq_true h2, Bool.not_true, cond_false, sel_pos ⟨h1.1, h1.2, h2⟩]
  have h0 : 0 < s.length := h1.1
  have b : (decide ((0 : Int) ≤ (0 : Int)) && decide ((0 : Int) < ((s.length : Nat) : Int))) = true := inb h0
  rw [b, cond_true]
  rw [show s.getD (0 : Int).toNat dA = ea s 0 from rfl, impl_dbl (hA _ (ea_mem h0))]
  simp only [Option.bind_some]
  rw [impl_index (by omega)]
  simp only [Option.bind_some]
  by_cases h3 : dbl (ea s 0) ∈ s
  rotate_left
  · rw [decide_eq_true (Int.lt_of_not_ge (fun h => h3 (plc_nonneg.1 h))), cond_true, sel_neg (fun h => h3 h.1)]
  have hf := (fi_spec h3).1
  rw [plc_of h3]
  rw [decide_eq_false (show ¬ ((fi (dbl (ea s 0)) s : Nat) : Int) < 0 by omega), cond_false]
  generalize hq : fi (dbl (ea s 0)) s = q at hf
  have hL := loop_any (step := impl_RotationOfSet_l0) (fun i => (s, (q : Int), s, ((s.length : Nat) : Int), (i : Int), ())) s.length (.inr ((q : Int), ())) (.inl (0, 5, ())) (fun i => ¬ dbl (ea s i) = ea s ((i + q) % s.length)) (by
    intro i hi _
    simp only [impl_RotationOfSet_l0, ltb hi, nn, Bool.and_self, cond_true, Int.toNat_natCast]
    rw [show s.getD i dA = ea s i from rfl, impl_dbl (hA _ (ea_mem hi))]
    simp only [Option.bind_some]
    rw [show (i : Int) + (q : Int) = ((i + q : Nat) : Int) by omega, w64_nat (by omega), impl_at_ok h0]
    simp only [Option.bind_some]
    rw [beqA]
    by_cases h : dbl (ea s i) = ea s ((i + q) % s.length)
    · rw [sel_neg (fun h' => h' h), decide_eq_true h, Bool.not_true, cond_false, w64_succ (by omega)]
    · rw [sel_pos h, decide_eq_false h, Bool.not_false, cond_true]) (by
    intro _
    simp only [impl_RotationOfSet_l0, nltb (Nat.lt_irrefl s.length), cond_false])
  have t : loop impl_RotationOfSet_l0 (s, (q : Int), s, ((s.length : Nat) : Int), (0 : Int), ()) = _ := hL
  rw [t]
  by_cases h : Turns s
  · rw [sel_pos h, sel_neg (fun ⟨i, hi, h'⟩ => h' (by have := h.2 i hi; rwa [hq] at this))]
    rfl
  · rw [sel_neg h, sel_pos (Classical.byContradiction fun hn => h ⟨h3, fun i hi => by
      rw [hq]
      exact Classical.byContradiction fun h' => hn ⟨i, hi, h'⟩⟩)]
    rfl
theorem spec_turn {s : List Ang} (hv : ∀ x ∈ s, InA x) (hl : s.length ≤ 1048576) :
    spec_RotationOfSet s = some (sel (∀ x ∈ s, isA x) (sel (1 ≤ s.length ∧ s.length ≤ 64 ∧ AscL s) (sel (Turns s) ((fi (dbl (ea s 0)) s : Int), 0) (0, 5)) (0, 2)) (0, 1)) := by
  unfold spec_RotationOfSet
  have hL := loop_any (step := spec_RotationOfSet_l0) (fun i => (s, (i : Int), ())) s.length (.inr (s, ())) (.inl (0, 1, ())) (fun i => ¬ isA (ea s i)) (by
    intro i hi _
    simp only [spec_RotationOfSet_l0, ltb hi, nn, Bool.and_self, cond_true, Int.toNat_natCast]
    rw [spec_isA (hv _ (ea_mem hi))]
    simp only [Option.bind_some]
    by_cases h : isA (ea s i)
    · rw [sel_neg (fun h' => h' h), decide_eq_true h, Bool.not_true, cond_false, w64_succ (by omega)]
    · rw [sel_pos h, decide_eq_false h, Bool.not_false, cond_true]) (by
    intro _
    simp only [spec_RotationOfSet_l0, nltb (Nat.lt_irrefl s.length), cond_false])
  have t : loop spec_RotationOfSet_l0 (s, (0 : Int), ()) = _ := hL
  rw [t]
  by_cases hA : ∀ x ∈ s, isA x
  rotate_left
  · rw [sel_neg hA, sel_pos (Classical.byContradiction fun hn => hA fun x hx => by
      obtain ⟨i, hi, rfl⟩ := mem_ea hx
      exact Classical.byContradiction fun h => hn ⟨i, hi, h⟩)]
    rfl
  rw [sel_pos hA, sel_neg (fun ⟨i, hi, h⟩ => h (hA _ (ea_mem hi)))]
  simp only [Option.bind_some, alt]
  by_cases h1 : 1 ≤ s.length
  rotate_left
  · rw [decide_eq_true (show (s.length : Int) < 1 by omega), cond_true, sel_neg (fun h => h1 h.1)]
  rw [decide_eq_false (show ¬ (s.length : Int) < 1 by omega), cond_false]
  by_cases h64 : s.length ≤ 64
  rotate_left
  · rw [decide_eq_true (show (s.length : Int) > 64 by omega), cond_true, sel_neg (fun h => h64 h.2.1)]
  rw [decide_eq_false (show ¬ (s.length : Int) > 64 by omega), cond_false, spec_asc hA hl]
  simp only [Option.bind_some]
  by_cases h2 : AscL s
  rotate_left
  · rw [decide_eq_false h2, sel_neg (fun h => h2 h.2.2)]; rfl
  rw [decide_eq_true h2, Bool.not_true, cond_false, sel_pos ⟨h1, h64, h2⟩]
  have h0 : 0 < s.length := h1
  have ha : Asc s := (asc_iff hA).2 h2
  have hT := turns_iff ha h0
  have hled : spec_l07Led s s = some (decide (Lead s s)) := by
    rw [spec_led_ok hA h64 h64]
    congr 1
    exact decide_eq_decide.2 ⟨fun h => h.1, fun h => ⟨h, rfl⟩⟩
  rw [hled]
  simp only [Option.bind_some]
  by_cases h3 : Lead s s
  rotate_left
  · rw [decide_eq_false h3, sel_neg (fun h => h3 (hT.1 h).1)]; rfl
  rw [decide_eq_true h3, Bool.not_true, cond_false, spec_ordered_ok hA h0 h64 h3 rfl]
  simp only [Option.bind_some]
  by_cases h4 : Keep s s
  rotate_left
  · rw [decide_eq_false h4, sel_neg (fun h => h4 (hT.1 h).2)]; rfl
  have b : (decide ((0 : Int) ≤ (0 : Int)) && decide ((0 : Int) < ((s.length : Nat) : Int))) = true := inb h0
  rw [decide_eq_true h4, Bool.not_true, cond_false, b, cond_true, sel_pos (hT.2 ⟨h3, h4⟩)]
  rw [show s.getD (0 : Int).toNat dA = ea s 0 from rfl, spec_dbl (hA _ (ea_mem h0))]
  simp only [Option.bind_some]
  rw [spec_place (by omega), plc_of (h3.1 0 h0)]
  rfl
section
variable {q v : Nat} (h1 : 1 ≤ q) (h2 : q < v) (h3 : v ≤ 13) (hg : Nat.gcd q v = 1)
include h1 h2 h3 hg
theorem rset_isA : ∀ x ∈ rset q v, isA x := (rset_asc h1 h2 h3 hg).1
theorem isA_InA {x : Ang} (h : isA x) : InA x := by
  obtain ⟨a1, a2, a3, a4, a5⟩ := h
  exact ⟨⟨by omega, by omega⟩, ⟨by omega, by omega⟩⟩
theorem rset_first : fi (dbl (ea (rset q v) 0)) (rset q v) = q := by
  rw [rset_at (by omega), rang_dbl h1 h2 h3 hg (by omega), Nat.zero_add, Nat.mod_eq_of_lt h2, rset_fi h1 h2 h3 hg h2]
theorem turn_rset : impl_RotationOfSet (rset q v) = some ((q : Int), 0) := by
  have ha := rset_asc h1 h2 h3 hg
  rw [impl_turn (fun x hx => isA_InA h1 h2 h3 hg (ha.1 x hx)) (by rw [rset_len]; omega), sel_pos ha.1, sel_pos ⟨by rw [rset_len]; omega, by rw [rset_len]; omega, (asc_iff ha.1).1 ha⟩,
    sel_pos ((turns_iff ha (by rw [rset_len]; omega)).2 ⟨rset_lead h1 h2 h3 hg, rset_keep h1 h2 h3 hg⟩), rset_first h1 h2 h3 hg]
theorem rset_good : Good [rset q v] := by
  refine ⟨fun s hs x hx => ?_, by simp, by simp, by simp [rset_len]; omega, fun s hs => ?_⟩
  · rw [List.mem_singleton.1 hs] at hx
    exact rset_isA h1 h2 h3 hg x hx
  · rw [List.mem_singleton.1 hs]
    refine ⟨fun e => ?_, (asc_iff (rset_isA h1 h2 h3 hg)).1 (rset_asc h1 h2 h3 hg)⟩
    have := rset_len (q := q) (v := v)
    rw [e] at this
    simp at this
    omega
/-- A rotation set is a portrait alone. -/
theorem rset_fails : impl_fails [rset q v] = some 0 := by
  have g := rset_good h1 h2 h3 hg
  have hap : ApartS [rset q v] := fun i hi k hk => by simp at hi; omega
  have hnx : ∀ i, i < [rset q v].length → sa [rset q v] i = rset q v ∧ nx [rset q v] i = rset q v := fun i hi => by
    simp only [List.length_singleton] at hi
    have : i = 0 := by omega
    subst this
    refine ⟨rfl, ?_⟩
    show sa [rset q v] ((0 + 1) % 1) = _
    rfl
  have hd : ∀ i, i < [rset q v].length → Lead (sa [rset q v] i) (nx [rset q v] i) := fun i hi => by
    obtain ⟨e1, e2⟩ := hnx i hi
    rw [e1, e2]; exact rset_lead h1 h2 h3 hg
  have hk : ¬ ∃ i, i < [rset q v].length ∧ ¬ Keep (sa [rset q v] i) (nx [rset q v] i) := by
    rintro ⟨i, hi, h⟩
    obtain ⟨e1, e2⟩ := hnx i hi
    rw [e1, e2] at h; exact h (rset_keep h1 h2 h3 hg)
  have hfl : [rset q v].flatten = rset q v := by simp
  have hp : ∀ x ∈ [rset q v].flatten, PerOK x (ob (ea [rset q v].flatten 0)).1.length := by
    rw [hfl, rset_at (by omega), rset_orbit h1 h2 h3 hg (by omega)]
    intro x hx
    obtain ⟨k, hk, rfl⟩ := rset_mem.1 hx
    show PerOK _ (orbL _ v).length
    rw [orbL_len]
    exact rset_perOK h1 h2 h3 hg hk
  have hl : ¬ ∃ i, i < [rset q v].length ∧ ∃ k, k < [rset q v].length ∧ i ≠ k ∧ ((sa [rset q v] k).length ≠ 1 ∧ Lnk (sa [rset q v] i) (sa [rset q v] k)) := by
    rintro ⟨i, hi, k, hk, hne, _⟩
    simp only [List.length_singleton] at hi hk
    omega
  obtain ⟨c, c1, c2, _⟩ := fails_same g
  rw [c1]
  unfold spec_l07Fails at c2
  rw [spec_apart (by simp) (by rw [hfl, rset_len]; omega)] at c2
  simp only [Option.bind_some] at c2
  rw [decide_eq_true hap, Bool.not_true, cond_false, spec_led2 g, sel_congr (led_iff g), sel_neg (fun ⟨i, hi, h⟩ => h (hd i hi))] at c2
  simp only [Option.bind_some, alt] at c2
  rw [spec_keep3 g hd, sel_neg hk] at c2
  simp only [Option.bind_some, alt] at c2
  rw [spec_per4 g, sel_congr (per_iff _), sel_neg (fun h => h hp)] at c2
  simp only [Option.bind_some, alt] at c2
  rw [spec_link5 g, sel_neg hl] at c2
  exact c2.symm
theorem rset_told : impl_PortraitThatFails [rset q v] = some (0, 0) := by
  have g := rset_good h1 h2 h3 hg
  have hfl : [rset q v].flatten = rset q v := by simp
  have hS : ∀ s ∈ [rset q v], ∀ x ∈ s, InA x := fun s hs x hx => isA_InA h1 h2 h3 hg (g.ang s hs x hx)
  have hl : [rset q v].length ≤ 1048576 := by simp
  have hJ : [rset q v].flatten.length ≤ 1048576 := by rw [hfl, rset_len]; omega
  unfold impl_PortraitThatFails
  rw [concat_ok hl hJ]
  simp only [Option.bind_some]
  rw [impl_code (fun x hx => isA_InA h1 h2 h3 hg (g.flat x hx)) hJ, sel_pos g.flat]
  simp only [Option.bind_some, bne_self_eq_false, cond_false]
  rw [impl_sets g.ang hl hJ, decide_eq_true ⟨g.one, g.most, g.all, g.sets⟩]
  simp only [Option.bind_some, Bool.not_true, cond_false]
  rw [rset_fails h1 h2 h3 hg]
  rfl
theorem rset_code : impl_portraitCode [rset q v] = some 0 := by
  unfold impl_portraitCode
  rw [rset_told h1 h2 h3 hg]
  rfl
theorem rset_is : impl_IsPortrait [rset q v] = some true := by
  unfold impl_IsPortrait
  rw [rset_told h1 h2 h3 hg]
  rfl
theorem rset_number : impl_RotationNumber [rset q v] = some (((q : Int), (v : Int), ()), 0) := by
  unfold impl_RotationNumber
  rw [rset_code h1 h2 h3 hg]
  have b : (decide ((0 : Int) ≤ (0 : Int)) && decide ((0 : Int) < (([rset q v].length : Nat) : Int))) = true := inb (by simp)
  have e : [rset q v].getD (0 : Int).toNat [] = rset q v := rfl
  have hv := rset_len (q := q) (v := v)
  have b2 : (decide ((0 : Int) ≤ (0 : Int)) && decide ((0 : Int) < (((rset q v).length : Nat) : Int))) = true := inb (n := 0) (m := (rset q v).length) (by omega)
  simp only [Option.bind_some, bne_self_eq_false, cond_false, b, cond_true, e, b2]
  have hA : isA (ea (rset q v) 0) := by rw [rset_at (by omega)]; exact rang_isA h1 h2 h3 hg 0
  have k2 : loop impl_RotationNumber_l0 ([rset q v], ((0 : Int), (0 : Int), ()), (rset q v).getD (0 : Int).toNat dA, (([rset q v].length : Nat) : Int), (0 : Int), ()) = some ([rset q v], ((0 : Int), (0 : Int), ()), dblN (ea (rset q v) 0) [rset q v].length, ()) :=
    loop_count (step := impl_RotationNumber_l0) (fun n => ([rset q v], ((0 : Int), (0 : Int), ()), dblN (ea (rset q v) 0) n, (([rset q v].length : Nat) : Int), (n : Int), ())) [rset q v].length ([rset q v], ((0 : Int), (0 : Int), ()), dblN (ea (rset q v) 0) [rset q v].length, ()) (by
      intro n hn
      simp only [impl_RotationNumber_l0, ltb hn, cond_true]
      rw [impl_dbl (dblN_isA hA n)]
      simp only [Option.bind_some]
      rw [w64_succ (by simp only [List.length_singleton] at hn; omega)]
      rfl) (by simp only [impl_RotationNumber_l0, nltb (Nat.lt_irrefl [rset q v].length), cond_false]) 0 (Nat.zero_le _)
  rw [k2]
  simp only [Option.bind_some, b, cond_true, e, impl_length_impl_Angle]
  have hd : dblN (ea (rset q v) 0) [rset q v].length = rang q v q := by
    show dbl (ea (rset q v) 0) = _
    rw [rset_at (by omega), rang_dbl h1 h2 h3 hg (by omega), Nat.zero_add, Nat.mod_eq_of_lt h2]
  rw [hd, impl_index (by omega), plc_of (rset_mem.2 ⟨q, h2, rfl⟩), rset_fi h1 h2 h3 hg h2, hv]
  simp only [Option.bind_some]
  rw [impl_angN (by omega) (by omega) (by omega)]
  have : angN q v = ((q : Int), (v : Int), ()) := by
    unfold angN
    rw [Nat.mod_eq_of_lt h2, hg, Nat.div_one, Nat.div_one]
  rw [this]
  rfl
end
end Go.K.Pure

/- Plain laws of rotation sets, part O: the law. -/
set_option linter.unusedVariables false
set_option linter.unusedSimpArgs false
namespace Go.K.Pure
open Classical

theorem angles5_same {a : List Ang} (h : a.length ≤ 1048576) : laws_angles5 a a = some true := by
  unfold laws_angles5
  simp only [bne_self_eq_false, cond_false]
  have := loop_count (step := laws_angles5_l0) (fun n => (a, a, (n : Int), ())) a.length (.inr ()) (by
    intro n hn
    simp only [laws_angles5_l0, ltb hn, nn, Bool.and_self, cond_true, Int.toNat_natCast, BEq.rfl, Bool.not_true, cond_false]
    rw [w64_succ (by omega)]) (by simp only [laws_angles5_l0, nltb (Nat.lt_irrefl a.length), cond_false]) 0 (Nat.zero_le _)
  have t2 : loop laws_angles5_l0 (a, a, (0 : Int), ()) = some (.inr ()) := this
  rw [t2]
  rfl
theorem inA_of_isA {x : Ang} (h : isA x) : InA x := by
  obtain ⟨a1, a2, a3, a4, a5⟩ := h
  exact ⟨⟨by omega, by omega⟩, ⟨by omega, by omega⟩⟩
theorem others_ok {s : Src} (hs : okS s) {k : Int} (hk : k = 0 ∨ k = 1 ∨ k = 2 ∨ k = 3) : ∃ s' out, loop spec_DrawRotationOfSet_l0 (s, ([] : List Ang), k, ()) = some (s', out, ()) ∧ okS s' ∧ Asc out ∧ out.length ≤ 3 := by
  obtain ⟨b, b1, s', out, rfl, b2, b3, b4⟩ := loop_inv (step := spec_DrawRotationOfSet_l0) (fun st => ∃ (s : Src) (out : List Ang) (k : Nat), st = (s, out, (k : Int), ()) ∧ okS s ∧ Asc out ∧ out.length + k ≤ 3) (fun st => st.2.2.1.toNat)
    (fun b => ∃ s' out, b = (s', out, ()) ∧ okS s' ∧ Asc out ∧ out.length ≤ 3) (by
    rintro _ ⟨s, out, k, rfl, h1, h2, h3⟩
    by_cases h : 0 < k
    · right
      obtain ⟨a, s1, d1, d2, d3⟩ := draw_ok h1
      obtain ⟨ys, y1, y2, y3, y4, _⟩ := spec_insert h2 d2 (by omega)
      simp only [spec_DrawRotationOfSet_l0]
      rw [decide_eq_true (show (k : Int) > 0 by omega), cond_true, d1]
      simp only [Option.bind_some]
      rw [y1]
      simp only [Option.bind_some]
      rw [show (k : Int) - 1 = ((k - 1 : Nat) : Int) by omega, w64_nat (by omega)]
      exact ⟨_, rfl, ⟨s1, ys, k - 1, rfl, d3, y2, by omega⟩, by simp; omega⟩
    · left
      refine ⟨_, by simp only [spec_DrawRotationOfSet_l0]; rw [decide_eq_false (show ¬ (k : Int) > 0 by omega), cond_false], s, out, rfl, h1, h2, by omega⟩) (s, ([] : List Ang), k, ()) (by
    obtain ⟨m, rfl⟩ := Int.eq_ofNat_of_zero_le (show 0 ≤ k by omega)
    exact ⟨s, [], m, rfl, hs, ⟨by simp, List.Pairwise.nil⟩, by simp; omega⟩)
  exact ⟨s', out, b1, b2, b3, b4⟩
/-- The list that is drawn, if it is no rotation set. -/
theorem tail_ok {s : Src} (hs : okS s) : ∃ t : List Ang, ((spec_l01Pick s [(0 : Int), (1 : Int), (2 : Int), (3 : Int)]).bind fun r10 =>
   (loop spec_DrawRotationOfSet_l0 (r10.2, ([] : List (Int × (Int × Unit))), r10.1, ())).bind fun r11 =>
   (spec_l01Next r11.1 (12 : Int)).bind fun r12 =>
   bif (r12.1 == (0 : Int)) then
    (spec_l01Spoil r12.2).bind fun r13 =>
    bif (decide (((r11.2.1.length + [r13.1].length) * 16) ≤ 140737488355328)) then
     some ((r11.2.1 ++ [r13.1]))
    else none
   else some (r11.2.1)) = some t ∧ (∀ x ∈ t, InA x) ∧ t.length ≤ 1000 := by
  obtain ⟨k, s1, h1, h2, h3⟩ := pick_ok hs (xs := [(0 : Int), (1 : Int), (2 : Int), (3 : Int)]) (by simp) (by simp)
  rw [h1]
  simp only [Option.bind_some]
  obtain ⟨s2, out, o1, o2, o3, o4⟩ := others_ok h2 (k := k) (by simpa using h3)
  rw [o1]
  simp only [Option.bind_some]
  obtain ⟨c, s3, n1, n2, _⟩ := next_ok o2 12
  rw [n1]
  simp only [Option.bind_some]
  by_cases hc : (c == 0) = true
  · rw [hc, cond_true]
    obtain ⟨b, s4, p1, p2, p3⟩ := spoil_ok n2
    rw [p1]
    simp only [Option.bind_some]
    rw [decide_eq_true (show (out.length + [b].length) * 16 ≤ 140737488355328 by simp only [List.length_singleton]; omega), cond_true]
    refine ⟨_, rfl, fun x hx => ?_, by simp; omega⟩
    rcases List.mem_append.1 hx with h | h
    · exact inA_of_isA (o3.1 x h)
    · rw [List.mem_singleton.1 h]; exact p2
  · have hc' : (c == 0) = false := by simpa using hc
    rw [hc', cond_false]
    exact ⟨out, rfl, fun x hx => inA_of_isA (o3.1 x hx), by omega⟩
theorem drawOther_ok {code : List Int} (hl : code.length ≤ 4096) (hc : ∀ c ∈ code, 0 ≤ c ∧ c < 256) : ∃ t : List Ang, spec_DrawRotationOfSet code = some t ∧ (∀ x ∈ t, InA x) ∧ t.length ≤ 1000 := by
  obtain ⟨s, h1, h2⟩ := from_ok hl hc
  unfold spec_DrawRotationOfSet
  rw [h1]
  simp only [Option.bind_some]
  obtain ⟨r, s1, h3, h4, _⟩ := next_ok h2 3
  rw [h3]
  simp only [Option.bind_some]
  by_cases hr : r > 0
  rotate_left
  · rw [decide_eq_false hr, cond_false]
    exact tail_ok h4
  rw [decide_eq_true hr, cond_true]
  obtain ⟨r2, s2, h5, h6, _, h7⟩ := next_ok h4 7
  obtain ⟨h8, h9⟩ := h7 (by omega)
  rw [h5]
  simp only [Option.bind_some]
  rw [w64_id (n := 2 + r2) (by omega) (by omega), w64_id (n := 2 + r2 - 1) (by omega) (by omega)]
  obtain ⟨r3, s3, k1, k2, _, k3⟩ := next_ok h6 (2 + r2 - 1)
  obtain ⟨k4, k5⟩ := k3 (by omega)
  rw [k1]
  simp only [Option.bind_some]
  rw [w64_id (n := 1 + r3) (by omega) (by omega), spec_div (by omega) (by omega)]
  simp only [Option.bind_some]
  obtain ⟨a, ha⟩ := Int.eq_ofNat_of_zero_le (show 0 ≤ 1 + r3 by omega)
  obtain ⟨b, hb⟩ := Int.eq_ofNat_of_zero_le (show 0 ≤ 2 + r2 by omega)
  rw [ha, hb]
  by_cases hg : Nat.gcd a b = 1
  · have c : (((Int.gcd (a : Int) (b : Int) : Nat) : Int) == 1) = true := by
      have : Int.gcd (a : Int) (b : Int) = 1 := hg
      rw [this]; rfl
    rw [c, cond_true, spec_rot (by omega) (by omega) (by omega) hg]
    exact ⟨_, rfl, fun x hx => inA_of_isA ((rset_asc (q := a) (v := b) (by omega) (by omega) (by omega) hg).1 x hx), by rw [rset_len]; omega⟩
  · have c : (((Int.gcd (a : Int) (b : Int) : Nat) : Int) == 1) = false := by
      have : ¬ Int.gcd (a : Int) (b : Int) = 1 := hg
      simp
      omega
    rw [c, cond_false]
    exact tail_ok k2
/-- The plain law. -/
theorem law_Rotations {code : List Int} (hc : ∀ c ∈ code, 0 ≤ c ∧ c < 256) : laws_FnRotations code = some true := by
  unfold laws_FnRotations laws_big
  simp only [Option.bind_some]
  by_cases hl : code.length ≤ 4096
  rotate_left
  · rw [decide_eq_true (show (code.length : Int) > 4096 by omega), cond_true]
  rw [decide_eq_false (show ¬ (code.length : Int) > 4096 by omega), cond_false]
  obtain ⟨q, v, d1⟩ := drawRot_ok hl hc
  rw [d1]
  simp only [Option.bind_some]
  obtain ⟨r, r1, r2, r3⟩ := rotset_same q v
  obtain ⟨t, t1, t2, t3⟩ := drawOther_ok hl hc
  rw [r1, r2]
  simp only [Option.bind_some, bne_self_eq_false, cond_false]
  rw [t1]
  simp only [Option.bind_some]
  rw [impl_turn t2 (by omega), spec_turn t2 (by omega)]
  simp only [Option.bind_some, BEq.rfl, cond_true]
  rcases r3 with ⟨e0, a, b, rfl, rfl, p1, p2, p3, hg, e1⟩ | rfl
  · rw [e0, e1, angles5_same (by rw [rset_len]; omega)]
    simp only [Option.bind_some, Bool.not_true, cond_false, BEq.rfl, cond_true]
    rw [turn_rset p1 p2 p3 hg, rset_number p1 p2 p3 hg]
    simp only [Option.bind_some, bne_self_eq_false, cond_false, rset_len]
    rw [rset_is p1 p2 p3 hg]
    rfl
  · rw [angles5_same (by simp)]
    rfl
end Go.K.Pure

