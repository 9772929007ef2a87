/- Part 2 of the plain law: the functions of the program as plain functions on lists and numbers, and what is shown of them; no condition. -/
import Derived.Test.YtgeageanmhpfjaaGreatP1
set_option linter.all false
/- Plain laws of ray pairs, part K: words and cutting. -/
set_option linter.all false
namespace Go.K.Pure
open Classical
abbrev Sq := List UInt8 × List UInt8 × Unit
def sAt (s : Sq) (k : Nat) : UInt8 := if k < s.1.length then s.1.getD k 0 else s.2.1.getD ((k - s.1.length) % s.2.1.length) 0
structure okS (s : Sq) : Prop where
  per : 0 < s.2.1.length
  l1 : s.1.length ≤ 10000
  l2 : s.2.1.length ≤ 10000
theorem spec_at {s : Sq} (h : okS s) {k : Nat} (hk : k ≤ 1000000000) : spec_l01At s (k : Int) = some (((sAt s k).toNat : Nat) : Int) := by
  obtain ⟨h0, h1, h2⟩ := h
  unfold spec_l01At sAt
  by_cases hc : k < s.1.length
  · rw [if_pos hc]
    simp only [ltb hc, inb hc, cond_true, Int.toNat_natCast, nn0 k, Bool.and_true, Bool.true_and]
  · rw [if_neg hc]
    have hb : ((s.2.1.length : Int) == 0) = false := by simp only [beq_eq_false_iff_ne, ne_eq]; omega
    have hw : w64 ((k : Int) - (s.1.length : Int)) = ((k - s.1.length : Nat) : Int) := by rw [w64_id (by omega) (by omega)]; omega
    have hm : (k - s.1.length) % s.2.1.length < s.2.1.length := Nat.mod_lt _ h0
    simp only [nltb hc, cond_false, hb, Bool.not_false, cond_true, hw, tmod_nat, Int.toNat_natCast, ltb hm, nn0, Bool.and_self]
theorem impl_at {s : Sq} (h : okS s) {k : Nat} (hk : k ≤ 1000000000) : impl_Sequence_at s (k : Int) = some (((sAt s k).toNat : Nat) : Int) := by
  obtain ⟨h0, h1, h2⟩ := h
  unfold impl_Sequence_at sAt
  by_cases hc : k < s.1.length
  · rw [if_pos hc]
    simp only [ltb hc, inb hc, cond_true, Int.toNat_natCast, nn0 k, Bool.and_true, Bool.true_and]
  · rw [if_neg hc]
    have hb : ((s.2.1.length : Int) == 0) = false := by simp only [beq_eq_false_iff_ne, ne_eq]; omega
    have hw : w64 ((k : Int) - (s.1.length : Int)) = ((k - s.1.length : Nat) : Int) := by rw [w64_id (by omega) (by omega)]; omega
    have hm : (k - s.1.length) % s.2.1.length < s.2.1.length := Nat.mod_lt _ h0
    simp only [nltb hc, cond_false, hb, Bool.not_false, cond_true, hw, tmod_nat, Int.toNat_natCast, ltb hm, nn0, Bool.and_self]
def wordAt (s : Sq) (n k : Nat) : List UInt8 := tab (fun i => sAt s (k * n + i)) n
theorem wordAt_len {s : Sq} {n k : Nat} : (wordAt s n k).length = n := tab_len
theorem spec_word {s : Sq} (h : okS s) {lo up : List UInt8} {n k : Nat} {ah cn : Int} {le : List UInt8} (hn : n ≤ 10000) (hk : k ≤ 40000) :
    loop spec_l09Cut_l1 (lo, up, s, (n : Int), ah, cn, le, (k : Int), (Array.toList (List.toArray ([] : List UInt8))), (0 : Int), ()) = some (lo, up, s, (n : Int), ah, cn, le, (k : Int), wordAt s n k, ()) := by
  have hkn : k * n ≤ 40000 * 10000 := Nat.mul_le_mul hk hn
  have hw1 : w64 ((k : Int) * (n : Int)) = ((k * n : Nat) : Int) := by rw [← Int.natCast_mul]; exact w64_id (by omega) (by omega)
  have := loop_count (step := spec_l09Cut_l1) (fun i => (lo, up, s, (n : Int), ah, cn, le, (k : Int), tab (fun i => sAt s (k * n + i)) i, (i : Int), ())) n (lo, up, s, (n : Int), ah, cn, le, (k : Int), wordAt s n k, ()) (fun i hi => by
    have hw2 : w64 (((k * n : Nat) : Int) + (i : Int)) = ((k * n + i : Nat) : Int) := by rw [w64_id (by omega) (by omega)]; omega
    have hw : w64 ((i : Int) + 1) = ((i + 1 : Nat) : Int) := w64_succ (by omega)
    have hs : decide ((tab (fun i => sAt s (k * n + i)) i).length + ([(((sAt s (k * n + i)).toNat : Nat) : Int)].map (fun z12 => (UInt8.ofNat z12.toNat))).length ≤ 1152921504606846976) = true := decide_eq_true (by rw [tab_len]; simp; omega)
    simp only [spec_l09Cut_l1, ltb hi, cond_true, hw1, hw2, spec_at h (show k * n + i ≤ 1000000000 by omega), Option.bind_some, hs, hw]
    rw [tab_succ]
    simp) (by
    simp only [spec_l09Cut_l1, nltb (Nat.lt_irrefl _), cond_false]
    rfl) 0 (by omega)
  exact this
theorem impl_word {s : Sq} (h : okS s) (h7 : ∀ k, sAt s k < 128) {w : Int × List (List UInt8) × Unit} {t4 : Sq} {n k : Nat} {pr c1 c2 : Int} {le : List UInt8} (hwn : w.1 = (n : Int)) (hn : n ≤ 10000) (hk : k ≤ 40000) :
    loop impl_words_cut_l1 (w, s, t4, pr, le, (k : Int), (Array.toList (List.toArray ([] : List UInt8))), c1, c2, w.1, (0 : Int), ()) = some (w, s, t4, pr, le, wordAt s n k, c1, c2, ()) := by
  have hkn : k * n ≤ 40000 * 10000 := Nat.mul_le_mul hk hn
  have hw1 : w64 ((k : Int) * (n : Int)) = ((k * n : Nat) : Int) := by rw [← Int.natCast_mul]; exact w64_id (by omega) (by omega)
  have := loop_count (step := impl_words_cut_l1) (fun i => (w, s, t4, pr, le, (k : Int), tab (fun i => sAt s (k * n + i)) i, c1, c2, w.1, (i : Int), ())) n (w, s, t4, pr, le, wordAt s n k, c1, c2, ()) (fun i hi => by
    have hw2 : w64 (((k * n : Nat) : Int) + (i : Int)) = ((k * n + i : Nat) : Int) := by rw [w64_id (by omega) (by omega)]; omega
    have hw : w64 ((i : Int) + 1) = ((i + 1 : Nat) : Int) := w64_succ (by omega)
    have h7' : (sAt s (k * n + i)).toNat < 128 := h7 (k * n + i)
    have hb : (decide ((0 : Int) ≤ (((sAt s (k * n + i)).toNat : Nat) : Int)) && decide ((((sAt s (k * n + i)).toNat : Nat) : Int) < 128)) = true := by
      simp only [Bool.and_eq_true, decide_eq_true_eq]; omega
    have hs : decide ((tab (fun i => sAt s (k * n + i)) i).length + [(UInt8.ofNat (sAt s (k * n + i)).toNat)].length ≤ 1152921504606846976) = true := decide_eq_true (by rw [tab_len]; simp; omega)
    simp only [impl_words_cut_l1, hwn, ltb hi, cond_true, hw1, hw2, impl_at h (show k * n + i ≤ 1000000000 by omega), Option.bind_some, hb, Int.toNat_natCast, hs, hw]
    rw [tab_succ]
    simp) (by
    simp only [impl_words_cut_l1, hwn, nltb (Nat.lt_irrefl _), cond_false]
    rfl) 0 (by omega)
  exact this
def good (s : Sq) (lo up : List UInt8) (n k : Nat) : Prop := wordAt s n k = lo ∨ wordAt s n k = up
noncomputable def lett (s : Sq) (lo : List UInt8) (n k : Nat) : UInt8 := if wordAt s n k = lo then 48 else 49
def AH (s : Sq) (n : Nat) : Nat := (s.1.length + n - 1) / n
def CN (s : Sq) (n : Nat) : Nat := AH s n + s.2.1.length
theorem AH_le {s : Sq} {n : Nat} (h1 : s.1.length ≤ 10000) (hn1 : 1 ≤ n) : AH s n ≤ 10000 := by
  unfold AH
  rw [Nat.div_le_iff_le_mul_add_pred (by omega)]
  have : s.1.length ≤ n * 10000 := Nat.le_trans h1 (by omega)
  omega
def okCut (s : Sq) (lo up : List UInt8) (n : Nat) : Prop := ∀ k, k < CN s n → good s lo up n k
noncomputable def letts (s : Sq) (lo : List UInt8) (n m : Nat) : List UInt8 := tab (lett s lo n) m
section
variable {s : Sq} (h : okS s) {lo up : List UInt8} {n : Nat} (hlo : lo.length = n) (hn1 : 1 ≤ n) (hn : n ≤ 10000)
include h hn1 hn
theorem ahead_w : (w64 ((w64 ((w64 (((s.1.length : Nat) : Int) + (n : Int))) - (1 : Int))).tdiv (n : Int))) = ((AH s n : Nat) : Int) := by
  have hA := AH_le h.l1 hn1
  have h1 := h.l1
  rw [w64_id (n := ((s.1.length : Nat) : Int) + (n : Int)) (by omega) (by omega), w64_id (n := ((s.1.length : Nat) : Int) + (n : Int) - 1) (by omega) (by omega)]
  have e : ((s.1.length : Nat) : Int) + (n : Int) - 1 = ((s.1.length + n - 1 : Nat) : Int) := by omega
  rw [e, tdiv_nat]
  show w64 ((AH s n : Nat) : Int) = _
  exact w64_id (by omega) (by omega)
theorem count_w : w64 (((AH s n : Nat) : Int) + ((s.2.1.length : Nat) : Int)) = ((CN s n : Nat) : Int) := by
  have hA := AH_le h.l1 hn1
  have h2 := h.l2
  rw [w64_id (by omega) (by omega)]
  unfold CN; omega
include hlo
theorem spec_cut : spec_l09Cut s lo up = some (if okCut s lo up n then ((letts s lo n (CN s n)).take (AH s n), (letts s lo n (CN s n)).drop (AH s n), true) else ([], [], false)) := by
  have hA := AH_le h.l1 hn1
  have h2 := h.l2
  have hCN : CN s n ≤ 20000 := by unfold CN; omega
  have hb : (((n : Nat) : Int) == 0) = false := by simp only [beq_eq_false_iff_ne, ne_eq]; omega
  unfold spec_l09Cut
  simp only [hlo, hb, Bool.not_false, cond_true, ahead_w h hn1 hn, count_w h hn1 hn]
  have := loop_any (step := spec_l09Cut_l0) (fun i => (lo, up, s, (n : Int), ((AH s n : Nat) : Int), ((CN s n : Nat) : Int), letts s lo n i, (i : Int), ())) (CN s n) (.inr (((AH s n : Nat) : Int), letts s lo n (CN s n), ())) (.inl ((Array.toList (List.toArray ([] : List UInt8))), (Array.toList (List.toArray ([] : List UInt8))), false, ())) (fun i => ¬ good s lo up n i) (fun i hi _ => by
    have hw : w64 ((i : Int) + 1) = ((i + 1 : Nat) : Int) := w64_succ (by omega)
    have hs : ∀ c : UInt8, decide ((letts s lo n i).length + (Array.toList (List.toArray [c])).length ≤ 1152921504606846976) = true := fun c => decide_eq_true (by unfold letts; rw [tab_len]; simp; omega)
    simp only [spec_l09Cut_l0, ltb hi, cond_true, spec_word h hn (show i ≤ 40000 by omega), Option.bind_some, hs, hw]
    by_cases e1 : wordAt s n i = lo
    · have hg : ¬ ¬ good s lo up n i := fun hh => hh (.inl e1)
      have hl : letts s lo n (i + 1) = letts s lo n i ++ [48] := by unfold letts; rw [tab_succ]; congr 2; unfold lett; rw [if_pos e1]
      rw [sel_neg hg, hl, e1]
      simp
    · have e1' : (wordAt s n i == lo) = false := by simpa using e1
      rw [e1', cond_false]
      by_cases e2 : wordAt s n i = up
      · have hg : ¬ ¬ good s lo up n i := fun hh => hh (.inr e2)
        have hl : letts s lo n (i + 1) = letts s lo n i ++ [49] := by unfold letts; rw [tab_succ]; congr 2; unfold lett; rw [if_neg e1]
        rw [sel_neg hg, hl, e2]
        simp
      · have hg : ¬ good s lo up n i := fun hh => hh.elim e1 e2
        have e2' : (wordAt s n i == up) = false := by simpa using e2
        rw [sel_pos hg, e2', cond_false]) (fun _ => by
    simp only [spec_l09Cut_l0, nltb (Nat.lt_irrefl _), cond_false])
  have e : loop spec_l09Cut_l0 (lo, up, s, (n : Int), ((AH s n : Nat) : Int), ((CN s n : Nat) : Int), (Array.toList (List.toArray ([] : List UInt8))), (0 : Int), ()) = _ := this
  rw [e]
  by_cases hc : okCut s lo up n
  · have : ¬ ∃ i, i < CN s n ∧ ¬ good s lo up n i := fun ⟨i, h1, h2⟩ => h2 (hc i h1)
    rw [sel_neg this, if_pos hc]
    have hL : (letts s lo n (CN s n)).length = CN s n := tab_len
    have c1 : (((decide ((0 : Int) ≤ (0 : Int))) && (decide ((0 : Int) ≤ ((AH s n : Nat) : Int)))) && (decide (((AH s n : Nat) : Int) ≤ ((CN s n : Nat) : Int)))) = true := by
      simp only [Bool.and_eq_true, decide_eq_true_eq]; unfold CN; omega
    have c2 : (((decide ((0 : Int) ≤ ((AH s n : Nat) : Int))) && (decide (((AH s n : Nat) : Int) ≤ ((CN s n : Nat) : Int)))) && (decide (((CN s n : Nat) : Int) ≤ ((CN s n : Nat) : Int)))) = true := by
      simp only [Bool.and_eq_true, decide_eq_true_eq]; unfold CN; omega
    simp only [Option.bind_some, alt, hL, c1, c2, cond_true, Int.toNat_natCast]
    congr 2
    rw [List.take_of_length_le (by omega)]
  · have : ∃ i, i < CN s n ∧ ¬ good s lo up n i := by
      rcases Classical.em (∃ i, i < CN s n ∧ ¬ good s lo up n i) with h3 | h3
      · exact h3
      · exact absurd (fun k hk => Classical.byContradiction fun h4 => h3 ⟨k, hk, h4⟩) hc
    rw [sel_pos this, if_neg hc]
    rfl
theorem impl_cut (h7 : ∀ k, sAt s k < 128) : impl_words_cut ((n : Int), [lo, up], ()) s = if okCut s lo up n then (impl_sequence ((letts s lo n (CN s n)).take (AH s n)) ((letts s lo n (CN s n)).drop (AH s n))).bind (fun r => some (r, true)) else some (([], [], ()), false) := by
  have hA := AH_le h.l1 hn1
  have h2 := h.l2
  have hCN : CN s n ≤ 20000 := by unfold CN; omega
  have hb : (((n : Nat) : Int) == 0) = false := by simp only [beq_eq_false_iff_ne, ne_eq]; omega
  unfold impl_words_cut
  simp only [hb, Bool.not_false, cond_true, ahead_w h hn1 hn, count_w h hn1 hn]
  have := loop_any (step := impl_words_cut_l0) (fun i => (((n : Int), [lo, up], ()), s, (([] : List UInt8), ([] : List UInt8), ()), ((AH s n : Nat) : Int), letts s lo n i, ((CN s n : Nat) : Int), (i : Int), ())) (CN s n) (.inr ((([] : List UInt8), ([] : List UInt8), ()), ((AH s n : Nat) : Int), letts s lo n (CN s n), ())) (.inl ((([] : List UInt8), ([] : List UInt8), ()), false, ())) (fun i => ¬ good s lo up n i) (fun i hi _ => by
    have hw : w64 ((i : Int) + 1) = ((i + 1 : Nat) : Int) := w64_succ (by omega)
    have hs : ∀ c : UInt8, decide ((letts s lo n i).length + (Array.toList (List.toArray [c])).length ≤ 1152921504606846976) = true := fun c => decide_eq_true (by unfold letts; rw [tab_len]; simp; omega)
    have q0 : ((decide ((0 : Int) ≤ (0 : Int))) && (decide ((0 : Int) < ((2 : Nat) : Int)))) = true := rfl
    have q1 : ((decide ((0 : Int) ≤ (1 : Int))) && (decide ((1 : Int) < ((2 : Nat) : Int)))) = true := rfl
    have g0 : [lo, up].getD (0 : Int).toNat ([] : List UInt8) = lo := rfl
    have g1 : [lo, up].getD (1 : Int).toNat ([] : List UInt8) = up := rfl
    have hwd := impl_word h h7 (w := ((n : Int), [lo, up], ())) (t4 := (([] : List UInt8), ([] : List UInt8), ())) (pr := ((AH s n : Nat) : Int)) (c1 := ((CN s n : Nat) : Int)) (c2 := (i : Int)) (le := letts s lo n i) (n := n) (k := i) rfl hn (show i ≤ 40000 by omega)
    simp only at hwd
    simp only [impl_words_cut_l0, ltb hi, cond_true, hwd, Option.bind_some, hs, hw, q0, q1, g0, g1]
    by_cases e1 : wordAt s n i = lo
    · have hg : ¬ ¬ good s lo up n i := fun hh => hh (.inl e1)
      have hl : letts s lo n (i + 1) = letts s lo n i ++ [48] := by unfold letts; rw [tab_succ]; congr 2; unfold lett; rw [if_pos e1]
      rw [sel_neg hg, hl, e1]
      simp
    · have e1' : (wordAt s n i == lo) = false := by simpa using e1
      rw [e1', cond_false]
      by_cases e2 : wordAt s n i = up
      · have hg : ¬ ¬ good s lo up n i := fun hh => hh (.inr e2)
        have hl : letts s lo n (i + 1) = letts s lo n i ++ [49] := by unfold letts; rw [tab_succ]; congr 2; unfold lett; rw [if_neg e1]
        rw [sel_neg hg, hl, e2]
        simp
      · have hg : ¬ good s lo up n i := fun hh => hh.elim e1 e2
        have e2' : (wordAt s n i == up) = false := by simpa using e2
        rw [sel_pos hg, e2', cond_false]) (fun _ => by
    simp only [impl_words_cut_l0, nltb (Nat.lt_irrefl _), cond_false])
  have e : loop impl_words_cut_l0 (((n : Int), [lo, up], ()), s, (([] : List UInt8), ([] : List UInt8), ()), ((AH s n : Nat) : Int), (Array.toList (List.toArray ([] : List UInt8))), ((CN s n : Nat) : Int), (0 : Int), ()) = _ := this
  rw [e]
  by_cases hc : okCut s lo up n
  · have : ¬ ∃ i, i < CN s n ∧ ¬ good s lo up n i := fun ⟨i, h1, h2⟩ => h2 (hc i h1)
    rw [sel_neg this, if_pos hc]
    have hL : (letts s lo n (CN s n)).length = CN s n := tab_len
    have c1 : (((decide ((0 : Int) ≤ (0 : Int))) && (decide ((0 : Int) ≤ ((AH s n : Nat) : Int)))) && (decide (((AH s n : Nat) : Int) ≤ ((CN s n : Nat) : Int)))) = true := by
      simp only [Bool.and_eq_true, decide_eq_true_eq]; unfold CN; omega
    have c2 : (((decide ((0 : Int) ≤ ((AH s n : Nat) : Int))) && (decide (((AH s n : Nat) : Int) ≤ ((CN s n : Nat) : Int)))) && (decide (((CN s n : Nat) : Int) ≤ ((CN s n : Nat) : Int)))) = true := by
      simp only [Bool.and_eq_true, decide_eq_true_eq]; unfold CN; omega
    simp only [Option.bind_some, alt, hL, c1, c2, cond_true, Int.toNat_natCast]
    have ht : (letts s lo n (CN s n)).take (CN s n) = letts s lo n (CN s n) := List.take_of_length_le (by omega)
    rw [ht]
    rfl
  · have : ∃ i, i < CN s n ∧ ¬ good s lo up n i := by
      rcases Classical.em (∃ i, i < CN s n ∧ ¬ good s lo up n i) with h3 | h3
      · exact h3
      · exact absurd (fun k hk => Classical.byContradiction fun h4 => h3 ⟨k, hk, h4⟩) hc
    rw [sel_pos this, if_neg hc]
    rfl
end
end Go.K.Pure

/- Plain laws of ray pairs, part N: sequences of any angle. -/
set_option linter.all false
namespace Go.K.Pure
open Classical
theorem last_getD {l : List UInt8} (h : 0 < l.length) : (l.getD (w64 (((l.length : Nat) : Int) - (1 : Int))).toNat 0) = l.getD (l.length - 1) 0 ∨ 4611686018427387904 ≤ l.length := by
  by_cases hl : l.length < 4611686018427387904
  · left
    rw [w64_id (by omega) (by omega)]
    congr 1
    omega
  · right; omega
theorem w64_pred2 {n : Nat} (h : 0 < n) (h2 : n < 4611686018427387904) : w64 (((n : Nat) : Int) - (1 : Int)) = ((n - 1 : Nat) : Int) := by
  rw [w64_id (by omega) (by omega)]; omega
/-- One turn of the loop that pulls the period forward. -/
theorem seq_step {pre per : List UInt8} {t : Sq} (hp : 0 < pre.length) (hq : 0 < per.length) (l1 : pre.length ≤ 100000) (l2 : per.length ≤ 100000) :
    impl_sequence_l0 (pre, per, t, ()) = if (pre.getD (pre.length - 1) 0).toNat = (per.getD (per.length - 1) 0).toNat then some (.next (pre.take (pre.length - 1), per.drop (per.length - 1) ++ per.take (per.length - 1), t, ())) else some (.stop (pre, per, t, ())) := by
  have hne : (pre == (Array.toList (List.toArray ([] : List UInt8)))) = false := by
    cases pre with
    | nil => simp at hp
    | cons a b => rfl
  have w1 := w64_pred2 hp (by omega)
  have w2 := w64_pred2 hq (by omega)
  have i1 : ((decide ((0 : Int) ≤ ((pre.length - 1 : Nat) : Int))) && (decide (((pre.length - 1 : Nat) : Int) < ((pre.length : Nat) : Int)))) = true := inb (by omega)
  have i2 : ((decide ((0 : Int) ≤ ((per.length - 1 : Nat) : Int))) && (decide (((per.length - 1 : Nat) : Int) < ((per.length : Nat) : Int)))) = true := inb (by omega)
  have i3 : (((decide ((0 : Int) ≤ (0 : Int))) && (decide ((0 : Int) ≤ ((pre.length - 1 : Nat) : Int)))) && (decide (((pre.length - 1 : Nat) : Int) ≤ ((pre.length : Nat) : Int)))) = true := by
    simp only [Bool.and_eq_true, decide_eq_true_eq]; omega
  have i4 : (((decide ((0 : Int) ≤ ((per.length - 1 : Nat) : Int))) && (decide (((per.length - 1 : Nat) : Int) ≤ ((per.length : Nat) : Int)))) && (decide (((per.length : Nat) : Int) ≤ ((per.length : Nat) : Int)))) = true := by
    simp only [Bool.and_eq_true, decide_eq_true_eq]; omega
  have i5 : (((decide ((0 : Int) ≤ (0 : Int))) && (decide ((0 : Int) ≤ ((per.length - 1 : Nat) : Int)))) && (decide (((per.length - 1 : Nat) : Int) ≤ ((per.length : Nat) : Int)))) = true := by
    simp only [Bool.and_eq_true, decide_eq_true_eq]; omega
  have t1 : per.take per.length = per := List.take_of_length_le (Nat.le_refl _)
  have d0 : ∀ l : List UInt8, l.drop (0 : Int).toNat = l := fun l => rfl
  have i6 : decide ((per.drop (per.length - 1)).length + (per.take (per.length - 1)).length ≤ 1152921504606846976) = true := decide_eq_true (by simp; omega)
  simp only [impl_sequence_l0, hne, Bool.not_false, cond_true, w1, w2, i1, i2, i3, i4, i5, Int.toNat_natCast, t1, d0, i6]
  by_cases h : (pre.getD (pre.length - 1) 0).toNat = (per.getD (per.length - 1) 0).toNat
  · rw [if_pos h, h]; simp
  · rw [if_neg h]
    have : (((((pre.getD (pre.length - 1) 0).toNat : Nat) : Int)) == (((per.getD (per.length - 1) 0).toNat : Nat) : Int)) = false := by
      simp only [beq_eq_false_iff_ne, ne_eq, Int.natCast_inj]; exact h
    rw [this]; rfl
theorem seq_nil {per : List UInt8} {t : Sq} : impl_sequence_l0 ([], per, t, ()) = some (.stop ([], per, t, ())) := by
  simp [impl_sequence_l0]
theorem seq_loop {t : Sq} : ∀ (k : Nat) (pre per : List UInt8), pre.length = k → 0 < per.length → pre.length ≤ 100000 → per.length ≤ 100000 → ∃ a b, loop impl_sequence_l0 (pre, per, t, ()) = some (a, b, t, ())
  | 0, pre, per, hk, hq, l1, l2 => by
    have : pre = [] := List.length_eq_zero_iff.1 hk
    subst this
    exact ⟨[], per, by rw [loop_eq, seq_nil]⟩
  | k + 1, pre, per, hk, hq, l1, l2 => by
    rw [loop_eq, seq_step (by omega) hq l1 l2]
    by_cases h : (pre.getD (pre.length - 1) 0).toNat = (per.getD (per.length - 1) 0).toNat
    · rw [if_pos h]
      exact seq_loop k _ _ (by simp; omega) (by simp; omega) (by simp; omega) (by simp; omega)
    · rw [if_neg h]; exact ⟨_, _, rfl⟩
theorem seq_some {pre per : List UInt8} (hq : 0 < per.length) (l1 : pre.length ≤ 100000) (l2 : per.length ≤ 100000) : ∃ r, impl_sequence pre per = some r := by
  obtain ⟨n, n1, n2, n3, n4, n5⟩ := root_ok hq l2
  unfold impl_sequence
  rw [n5]
  simp only [Option.bind_some]
  obtain ⟨a, b, h⟩ := seq_loop (t := (([] : List UInt8), ([] : List UInt8), ())) _ pre (per.take n) rfl (by simp; omega) l1 (by simp; omega)
  rw [h]; exact ⟨_, rfl⟩
/-- The sequence of any angle whose orbit is found: the digits ahead and the period's. -/
def sqq (a : Ang) (q p : Nat) : Sq := (WD a q, WD (dblN a q) p, ())
theorem sqq_at {a : Ang} {q p : Nat} (h0 : 0 < p) (hp : dblN (dblN a q) p = dblN a q) (k : Nat) : sAt (sqq a q p) k = dgt (dblN a k) := by
  unfold sAt sqq
  simp only [WD_len]
  by_cases hk : k < q
  · rw [if_pos hk, WD_at hk]
  · rw [if_neg hk, WD_at (Nat.mod_lt _ h0), dblN_mod hp, dblN_add]
    congr 2; omega
/-- An angle whose orbit is found: `q` steps ahead, period `p`. -/
structure isQ (a : Ang) (q p : Nat) : Prop where
  isA : isA a
  ob : ob a = (orbL a (q + p), (q : Int), true)
  pos : 1 ≤ p
  le : q + p ≤ 64
  dis : Dis a (q + p)
  back : dblN a (q + p) = dblN a q
theorem isQ_of {a : Ang} (h : isA a) (hk : (ob a).2.2 = true) : ∃ q p, isQ a q p := by
  obtain ⟨m, m1, m2, m3, m4, m5⟩ := ob_ok2 h hk
  have e : pre a + (m - pre a) = m := by omega
  exact ⟨pre a, m - pre a, h, by rw [e]; exact m5, by omega, by omega, by rw [e]; exact m3, by rw [e]; exact m4⟩
theorem isQ.okS {a : Ang} {q p : Nat} (h : isQ a q p) : okS (sqq a q p) := by
  have := h.pos; have := h.le
  exact ⟨by simp only [sqq, WD_len]; omega, by simp only [sqq, WD_len]; omega, by simp only [sqq, WD_len]; omega⟩
theorem isQ.per {a : Ang} {q p : Nat} (h : isQ a q p) : dblN (dblN a q) p = dblN a q := by rw [dblN_add]; exact h.back
theorem isQ.b7 {a : Ang} {q p : Nat} (h : isQ a q p) (k : Nat) : sAt (sqq a q p) k < 128 := by
  rw [sqq_at h.pos h.per]
  rcases dgt_or (dblN a k) with e | e <;> rw [e] <;> decide
theorem WD_split {a : Ang} {q p : Nat} : WD a (q + p) = WD a q ++ WD (dblN a q) p := by
  induction p with
  | zero => simp [WD, tab]
  | succ p ih =>
    have e1 : WD a (q + (p + 1)) = WD a (q + p) ++ [dgt (dblN a (q + p))] := tab_succ
    have e2 : WD (dblN a q) (p + 1) = WD (dblN a q) p ++ [dgt (dblN (dblN a q) p)] := tab_succ
    rw [e1, e2, ih, dblN_add, List.append_assoc]
theorem isQ.spec {a : Ang} {q p : Nat} (h : isQ a q p) : spec_l01Expansion a = some (sqq a q p, true) := by
  have hle := h.le
  unfold spec_l01Expansion
  rw [ob_spec h.isA, h.ob]
  simp only [Option.bind_some]
  have := loop_count (step := spec_l01Expansion_l0) (fun i => ((([] : List UInt8), ([] : List UInt8), ()), orbL a (q + p), (q : Int), true, (WD a (min i q), WD (dblN a q) (i - q), ()), (i : Int), ())) (q + p) ((([] : List UInt8), ([] : List UInt8), ()), true, sqq a q p, ()) (fun i hi => by
    have hl : i < (orbL a (q + p)).length := by rw [orbL_len]; exact hi
    have hg : (orbL a (q + p)).getD i dA0 = dblN a i := orbL_at hi
    have hw : w64 ((i : Int) + 1) = ((i + 1 : Nat) : Int) := w64_succ (by omega)
    have hs1 : decide ((WD a (min i q)).length + [dgt (dblN a i)].length ≤ 1152921504606846976) = true := decide_eq_true (by rw [WD_len]; simp; omega)
    have hs2 : decide ((WD (dblN a q) (i - q)).length + [dgt (dblN a i)].length ≤ 1152921504606846976) = true := decide_eq_true (by rw [WD_len]; simp; omega)
    by_cases hiq : i < q
    · have hc : decide ((i : Int) < (q : Int)) = true := decide_eq_true (by omega)
      have m1 : min i q = i := by omega
      have m2 : min (i + 1) q = i + 1 := by omega
      have m3 : i - q = 0 := by omega
      have m4 : i + 1 - q = 0 := by omega
      simp only [spec_l01Expansion_l0, ltb hl, inb hl, cond_true, hc, cond_false, Int.toNat_natCast, hg, spec_digit (dblN_isA h.isA i), Option.bind_some, hs1, hw, nn0 i, Bool.and_true, Bool.true_and]
      have : WD a (i + 1) = WD a i ++ [dgt (dblN a i)] := tab_succ
      rw [m1, m2, m3, m4, this]
    · have hc : decide ((i : Int) < (q : Int)) = false := decide_eq_false (by omega)
      have m1 : min i q = q := by omega
      have m2 : min (i + 1) q = q := by omega
      have m4 : i + 1 - q = (i - q) + 1 := by omega
      simp only [spec_l01Expansion_l0, ltb hl, inb hl, cond_true, hc, cond_false, Int.toNat_natCast, hg, spec_digit (dblN_isA h.isA i), Option.bind_some, hs2, hw, nn0 i, Bool.and_true, Bool.true_and]
      have e : WD (dblN a q) (i - q + 1) = WD (dblN a q) (i - q) ++ [dgt (dblN (dblN a q) (i - q))] := tab_succ
      have e2 : dblN (dblN a q) (i - q) = dblN a i := by rw [dblN_add]; congr 1; omega
      rw [m1, m2, m4, e, e2]) (by
    have hl : ¬ q + p < (orbL a (q + p)).length := by rw [orbL_len]; omega
    have m1 : min (q + p) q = q := by omega
    have m2 : q + p - q = p := by omega
    simp only [spec_l01Expansion_l0, nltb hl, cond_false, m1, m2]
    rfl) 0 (by omega)
  have m0 : min 0 q = 0 := by omega
  have m00 : 0 - q = 0 := by omega
  rw [m0, m00] at this
  have e : loop spec_l01Expansion_l0 ((([] : List UInt8), ([] : List UInt8), ()), orbL a (q + p), (q : Int), true, (([] : List UInt8), ([] : List UInt8), ()), (0 : Int), ()) = _ := this
  rw [e]; rfl
theorem isQ.seq {a : Ang} {q p : Nat} (h : isQ a q p) : impl_sequence (WD a q) (WD (dblN a q) p) = some (sqq a q p) := by
  have h1 := h.pos
  have hle := h.le
  obtain ⟨n, n1, n2, n3, n4, n5⟩ := root_ok (w := WD (dblN a q) p) (by rw [WD_len]; omega) (by rw [WD_len]; omega)
  rw [WD_len] at n2 n3 n4
  have hmin : ∀ k, 0 < k → k < p → dblN (dblN a q) k ≠ dblN a q := fun k k1 k2 he => by
    rw [dblN_add] at he
    exact h.dis q (q + k) (by omega) (by omega) he.symm
  have hn : n = p := by
    by_cases hlt : n < p
    · exact absurd n4 (WD_prim (dblN_isA h.isA q) h.per hmin n1 hlt n3)
    · omega
  have ht : (WD (dblN a q) p).take n = WD (dblN a q) p := List.take_of_length_le (by rw [WD_len]; omega)
  unfold impl_sequence
  rw [n5, ht]
  simp only [Option.bind_some]
  have hst : impl_sequence_l0 (WD a q, WD (dblN a q) p, (([] : List UInt8), ([] : List UInt8), ()), ()) = some (.stop (WD a q, WD (dblN a q) p, (([] : List UInt8), ([] : List UInt8), ()), ())) := by
    by_cases hq : q = 0
    · subst hq; exact seq_nil
    · rw [seq_step (by rw [WD_len]; omega) (by rw [WD_len]; omega) (by rw [WD_len]; omega) (by rw [WD_len]; omega), if_neg]
      rw [WD_len, WD_len, WD_at (by omega), WD_at (by omega), dblN_add]
      intro he
      have hd : dgt (dblN a (q - 1)) = dgt (dblN a (q + (p - 1))) := UInt8.toNat_inj.1 he
      have hv := dgt_val (dblN_isA h.isA (q - 1)) (dblN_isA h.isA (q + (p - 1))) hd
      have e1 : dbl (dblN a (q - 1)) = dblN a q := by
        show dblN a (q - 1 + 1) = _
        congr 1; omega
      have e2 : dbl (dblN a (q + (p - 1))) = dblN a q := by
        show dblN a (q + (p - 1) + 1) = _
        rw [← h.back]; congr 1; omega
      rw [e1, e2] at hv
      exact h.dis (q - 1) (q + (p - 1)) (by omega) (by omega) (val_inj (dblN_isA h.isA _) (dblN_isA h.isA _) (by omega))
  rw [loop_eq, hst]; rfl
theorem isQ.impl {a : Ang} {q p : Nat} (h : isQ a q p) : impl_ExpansionOf a = some (sqq a q p, 0) := by
  have h1 := h.pos
  have hle := h.le
  have hInA : InA a := by
    obtain ⟨q1, q2, q3, q4, _⟩ := h.isA
    exact ⟨⟨by omega, by omega⟩, ⟨by omega, by omega⟩⟩
  have ho : impl_orbitOf a = some (orbL a (q + p), (q : Int), (0 : Int)) := by
    unfold impl_orbitOf
    rw [impl_isA hInA, ob_impl h.isA, h.ob, decide_eq_true h.isA]
    rfl
  unfold impl_ExpansionOf
  rw [ho]
  simp only [Option.bind_some]
  have e0 : ((0 : Int) != 0) = false := rfl
  rw [e0, cond_false]
  have hsp : impl_spelled (orbL a (q + p)) (q : Int) = some (sqq a q p) := by
    unfold impl_spelled
    have := loop_count (step := impl_spelled_l0) (fun i => (orbL a (q + p), (q : Int), (), (), (([] : List UInt8), ([] : List UInt8), ()), tab (fun j => (((dgt (dblN a j)).toNat : Nat) : Int)) i, orbL a (q + p), (((orbL a (q + p)).length : Nat) : Int), (i : Int), ())) (q + p) ((q : Int), (([] : List UInt8), ([] : List UInt8), ()), tab (fun j => (((dgt (dblN a j)).toNat : Nat) : Int)) (q + p), ()) (fun i hi => by
      have hl : i < (orbL a (q + p)).length := by rw [orbL_len]; exact hi
      have hg : (orbL a (q + p)).getD i dA0 = dblN a i := orbL_at hi
      have hw : w64 ((i : Int) + 1) = ((i + 1 : Nat) : Int) := w64_succ (by omega)
      have hs : decide (((tab (fun j => (((dgt (dblN a j)).toNat : Nat) : Int)) i).length + [(((dgt (dblN a i)).toNat : Nat) : Int)].length) * 1 ≤ 140737488355328) = true := decide_eq_true (by rw [tab_len]; simp; omega)
      simp only [impl_spelled_l0, ltb hl, inb hl, cond_true, Int.toNat_natCast, hg, impl_digit (dblN_isA h.isA i), Option.bind_some, hs, hw, nn0 i, Bool.and_true, Bool.true_and]
      rw [tab_succ]) (by
      have hl : ¬ q + p < (orbL a (q + p)).length := by rw [orbL_len]; omega
      simp only [impl_spelled_l0, nltb hl, cond_false]) 0 (by omega)
    have e : loop impl_spelled_l0 (orbL a (q + p), (q : Int), (), (), (([] : List UInt8), ([] : List UInt8), ()), ([] : List Int), orbL a (q + p), (((orbL a (q + p)).length : Nat) : Int), (0 : Int), ()) = _ := this
    rw [e]
    simp only [Option.bind_some]
    have hT : (tab (fun j => (((dgt (dblN a j)).toNat : Nat) : Int)) (q + p)).length = q + p := tab_len
    have c1 : (((decide ((0 : Int) ≤ (0 : Int))) && (decide ((0 : Int) ≤ (q : Int)))) && (decide ((q : Int) ≤ ((q + p : Nat) : Int)))) = true := by simp only [Bool.and_eq_true, decide_eq_true_eq]; omega
    have c2 : (((decide ((0 : Int) ≤ (q : Int))) && (decide ((q : Int) ≤ ((q + p : Nat) : Int)))) && (decide (((q + p : Nat) : Int) ≤ ((q + p : Nat) : Int)))) = true := by simp only [Bool.and_eq_true, decide_eq_true_eq]; omega
    rw [hT, c1, c2, cond_true, cond_true, Int.toNat_natCast, Int.toNat_natCast]
    have hmap : (tab (fun j => (((dgt (dblN a j)).toNat : Nat) : Int)) (q + p)).map (fun z4 => (UInt8.ofNat z4.toNat)) = WD a (q + p) := by
      show List.map _ ((List.range (q + p)).map _) = (List.range (q + p)).map _
      rw [List.map_map]
      apply List.map_congr_left
      intro i _
      simp
    have m1 : (((tab (fun j => (((dgt (dblN a j)).toNat : Nat) : Int)) (q + p)).take q).drop (0 : Int).toNat).map (fun z4 => (UInt8.ofNat z4.toNat)) = WD a q := by
      show ((tab (fun j => (((dgt (dblN a j)).toNat : Nat) : Int)) (q + p)).take q).map _ = _
      rw [List.map_take, hmap, WD_split, List.take_left' WD_len]
    have m2 : (((tab (fun j => (((dgt (dblN a j)).toNat : Nat) : Int)) (q + p)).take (q + p)).drop q).map (fun z5 => (UInt8.ofNat z5.toNat)) = WD (dblN a q) p := by
      rw [List.take_of_length_le (by rw [hT]; omega), List.map_drop, hmap, WD_split, List.drop_left' WD_len]
    rw [m1, m2, h.seq]; rfl
  rw [hsp]; rfl
theorem noQ {a : Ang} (h : isA a) (hk : (ob a).2.2 = false) : (∃ s, spec_l01Expansion a = some (s, false)) ∧ impl_ExpansionOf a = some (([], [], ()), 3) := by
  obtain ⟨_, e⟩ := ob_no h hk
  constructor
  · refine ⟨(([] : List UInt8), ([] : List UInt8), ()), ?_⟩
    unfold spec_l01Expansion
    rw [ob_spec h, e]
    simp only [Option.bind_some]
    rw [loop_eq]
    rfl
  · have hInA : InA a := by
      obtain ⟨q1, q2, q3, q4, _⟩ := h
      exact ⟨⟨by omega, by omega⟩, ⟨by omega, by omega⟩⟩
    unfold impl_ExpansionOf impl_orbitOf
    rw [impl_isA hInA, ob_impl h, e, decide_eq_true h]
    rfl
end Go.K.Pure

/- Plain laws of ray pairs, part L: the words of a pair; what is renormalizable. -/
set_option linter.all false
namespace Go.K.Pure
open Classical
theorem toA (a : Ang) : laws_toAngle a = some a := rfl
/-- The sequence of an angle that comes back. -/
def sq (a : Ang) (n : Nat) : Sq := ([], WD a n, ())
theorem sq_at {a : Ang} {n : Nat} (h0 : 0 < n) (hp : dblN a n = a) (k : Nat) : sAt (sq a n) k = dgt (dblN a k) := by
  unfold sAt sq
  simp only [List.length_nil, Nat.not_lt_zero, if_false, Nat.sub_zero]
  rw [WD_len, WD_at (Nat.mod_lt _ h0), dblN_mod hp]
theorem sq_ok {a : Ang} {n : Nat} (h0 : 0 < n) (h1 : n ≤ 10000) : okS (sq a n) := ⟨by unfold sq; simp only [WD_len]; exact h0, by simp [sq], by unfold sq; simp only [WD_len]; exact h1⟩
theorem dgt_lt (x : Ang) : dgt x < 128 := by rcases dgt_or x with h | h <;> rw [h] <;> decide
theorem words_in {t2 : Int × List (List UInt8) × Unit} {n : Int} {c : Int} {L : List UInt8 → List (List UInt8)} {i : Nat} (hi : i < 2) (hg : ∀ u, (L u).getD i [] = u) (hs : ∀ u v, (L u).set i v = L v) {s : Sq} (h : okS s) (h7 : ∀ k, sAt s k < 128) {t19 : List Ang} {t20 t21 : Int} {m : Nat} (hm : m ≤ 10000) :
    loop impl_wordsOf_l1 (t2, n, (c, L [], ()), (i : Int), s, t19, t20, t21, (m : Int), (0 : Int), ()) = some (t2, n, (c, L (tab (sAt s) m), ()), t19, t20, t21, ()) := by
  have := loop_count (step := impl_wordsOf_l1) (fun j => (t2, n, (c, L (tab (sAt s) j), ()), (i : Int), s, t19, t20, t21, (m : Int), (j : Int), ())) m (t2, n, (c, L (tab (sAt s) m), ()), t19, t20, t21, ()) (fun j hj => by
    have hw : w64 ((j : Int) + 1) = ((j + 1 : Nat) : Int) := w64_succ (by omega)
    have h7' : (sAt s j).toNat < 128 := h7 j
    have hb : (decide ((0 : Int) ≤ (((sAt s j).toNat : Nat) : Int)) && decide ((((sAt s j).toNat : Nat) : Int) < 128)) = true := by
      simp only [Bool.and_eq_true, decide_eq_true_eq]; omega
    have hi2 : ((decide ((0 : Int) ≤ (i : Int))) && (decide ((i : Int) < ((2 : Nat) : Int)))) = true := inb hi
    have hsz : decide ((tab (sAt s) j).length + [(UInt8.ofNat (sAt s j).toNat)].length ≤ 1152921504606846976) = true := decide_eq_true (by rw [tab_len]; simp; omega)
    simp only [impl_wordsOf_l1, ltb hj, cond_true, hi2, impl_at h (show j ≤ 1000000000 by omega), Option.bind_some, hb, Int.toNat_natCast, hg, hsz, hs, hw]
    rw [tab_succ]
    simp) (by
    simp only [impl_wordsOf_l1, nltb (Nat.lt_irrefl _), cond_false]) 0 (by omega)
  exact this
theorem tab_sq {a : Ang} {n : Nat} (h0 : 0 < n) (hp : dblN a n = a) : tab (sAt (sq a n)) n = WD a n := tab_ext fun k _ => sq_at h0 hp k
/-- An angle of period `n`. -/
structure isP (a : Ang) (n : Nat) : Prop where
  isA : isA a
  per : pg a = n
  pos : 1 ≤ n
theorem isP.le {a : Ang} {n : Nat} (h : isP a n) : n ≤ 8 := by
  have := (pg_back h.isA (by rw [h.per]; exact h.pos)).1
  rw [h.per] at this; exact this
theorem isP.back {a : Ang} {n : Nat} (h : isP a n) : dblN a n = a := by
  have := (pg_back h.isA (by rw [h.per]; exact h.pos)).2.1
  rw [h.per] at this; exact this
theorem isP.impl {a : Ang} {n : Nat} (h : isP a n) : impl_ExpansionOf a = some (sq a n, 0) := by
  have := impl_exp h.isA (by rw [h.per]; exact h.pos)
  rw [h.per] at this; exact this
theorem isP.spec {a : Ang} {n : Nat} (h : isP a n) : spec_l01Expansion a = some (sq a n, true) := by
  have := spec_exp h.isA (by rw [h.per]; exact h.pos)
  rw [h.per] at this; exact this
theorem isP.okS {a : Ang} {n : Nat} (h : isP a n) : okS (sq a n) := sq_ok h.pos (by have := h.le; omega)
theorem isP.b7 {a : Ang} {n : Nat} (h : isP a n) (k : Nat) : sAt (sq a n) k < 128 := by rw [sq_at h.pos h.back]; exact dgt_lt _
theorem impl_words {p : Pr} {n : Nat} (h1 : isP p.1 n) (h2 : isP p.2.1 n) : impl_wordsOf p = some ((n : Int), [WD p.1 n, WD p.2.1 n], ()) := by
  have h8 := h1.le
  unfold impl_wordsOf
  rw [impl_period h1.isA, h1.per]
  simp only [Option.bind_some]
  have e0 : List.replicate 2 ([] : List UInt8) = [[], []] := rfl
  have l0 := words_in (t2 := ((0 : Int), [[], []], ())) (n := (n : Int)) (c := (n : Int)) (L := fun u => [u, []]) (i := 0) (by omega) (fun u => rfl) (fun u v => rfl) h1.okS h1.b7 (t19 := [p.1, p.2.1]) (t20 := 2) (t21 := 0) (m := n) (by omega)
  have l1 := words_in (t2 := ((0 : Int), [[], []], ())) (n := (n : Int)) (c := (n : Int)) (L := fun u => [WD p.1 n, u]) (i := 1) (by omega) (fun u => rfl) (fun u v => rfl) h2.okS h2.b7 (t19 := [p.1, p.2.1]) (t20 := 2) (t21 := 1) (m := n) (by omega)
  rw [tab_sq h1.pos h1.back] at l0
  rw [tab_sq h2.pos h2.back] at l1
  have g0 : [p.1, p.2.1].getD (0 : Int).toNat ((0 : Int), (0 : Int), ()) = p.1 := rfl
  have g1 : [p.1, p.2.1].getD (1 : Int).toNat ((0 : Int), (0 : Int), ()) = p.2.1 := rfl
  have s0 : impl_wordsOf_l0 (((0 : Int), [[], []], ()), (n : Int), ((n : Int), [[], []], ()), [p.1, p.2.1], (2 : Int), (0 : Int), ()) = some (.next (((0 : Int), [[], []], ()), (n : Int), ((n : Int), [WD p.1 n, []], ()), [p.1, p.2.1], (2 : Int), (1 : Int), ())) := by
    simp only [impl_wordsOf_l0, g0, h1.impl, Option.bind_some]
    have l0' : loop impl_wordsOf_l1 (((0 : Int), [[], []], ()), (n : Int), ((n : Int), [[], []], ()), (0 : Int), sq p.1 n, [p.1, p.2.1], (2 : Int), (0 : Int), (n : Int), (0 : Int), ()) = _ := l0
    rw [l0']
    rfl
  have s1 : impl_wordsOf_l0 (((0 : Int), [[], []], ()), (n : Int), ((n : Int), [WD p.1 n, []], ()), [p.1, p.2.1], (2 : Int), (1 : Int), ()) = some (.next (((0 : Int), [[], []], ()), (n : Int), ((n : Int), [WD p.1 n, WD p.2.1 n], ()), [p.1, p.2.1], (2 : Int), (2 : Int), ())) := by
    simp only [impl_wordsOf_l0, g1, h2.impl, Option.bind_some]
    have l1' : loop impl_wordsOf_l1 (((0 : Int), [[], []], ()), (n : Int), ((n : Int), [WD p.1 n, []], ()), (1 : Int), sq p.2.1 n, [p.1, p.2.1], (2 : Int), (1 : Int), (n : Int), (0 : Int), ()) = _ := l1
    rw [l1']
    rfl
  have hl2 : ((([p.1, p.2.1] : List Ang).length : Nat) : Int) = 2 := rfl
  rw [e0, hl2, loop_eq, s0]
  simp only
  rw [loop_eq, s1]
  simp only
  rw [loop_eq]
  rfl
theorem spec_words {p : Pr} {n : Nat} (h1 : isP p.1 n) (h2 : isP p.2.1 n) : spec_l09Words p = some (WD p.1 n, WD p.2.1 n) := by
  unfold spec_l09Words
  rw [h1.spec, h2.spec]; rfl
/-- Whether a sequence is made of a pair's words. -/
noncomputable def mkd (s : Sq) (p : Pr) : Bool := decide (okCut s (WD p.1 (pg p.1)) (WD p.2.1 (pg p.1)) (pg p.1))
structure isPP (p : Pr) (n : Nat) : Prop where
  a : isP p.1 n
  b : isP p.2.1 n
theorem isPP.spec {p : Pr} {n : Nat} (h : isPP p n) {s : Sq} (hs : okS s) : ∃ r, (spec_l09Words p).bind (fun r0 => spec_l09Cut s r0.1 r0.2) = some r ∧ r.2.2 = mkd s p := by
  rw [spec_words h.a h.b]
  simp only [Option.bind_some]
  rw [spec_cut hs (WD_len) h.a.pos (by have := h.a.le; omega)]
  refine ⟨_, rfl, ?_⟩
  unfold mkd
  rw [h.a.per]
  split
  · simp [*]
  · simp [*]
theorem isPP.impl {p : Pr} {n : Nat} (h : isPP p n) {s : Sq} (hs : okS s) (h7 : ∀ k, sAt s k < 128) : ∃ r, (impl_wordsOf p).bind (fun r0 => impl_words_cut r0 s) = some r ∧ r.2 = mkd s p := by
  have h8 := h.a.le
  rw [impl_words h.a h.b]
  simp only [Option.bind_some]
  rw [impl_cut hs (lo := WD p.1 n) (up := WD p.2.1 n) (n := n) WD_len h.a.pos (by omega) h7]
  unfold mkd
  rw [h.a.per]
  split
  · rename_i hc
    have hA := AH_le (n := n) hs.l1 h.a.pos
    have hl : (letts s (WD p.1 n) n (CN s n)).length = AH s n + s.2.1.length := tab_len
    have h2 := hs.l2
    have h3 := hs.per
    obtain ⟨r, hr⟩ := seq_some (pre := (letts s (WD p.1 n) n (CN s n)).take (AH s n)) (per := (letts s (WD p.1 n) n (CN s n)).drop (AH s n)) (by rw [List.length_drop]; omega) (by rw [List.length_take]; omega) (by rw [List.length_drop]; omega)
    rw [hr]
    exact ⟨_, rfl, by simp [hc]⟩
  · rename_i hc
    exact ⟨_, rfl, by simp [hc]⟩
theorem UP_PP {n : Nat} (h8 : n ≤ 8) {x : Pr} (h : x ∈ (UP n).map aP) : ∃ k, 2 ≤ k ∧ k ≤ n ∧ isPP x k := by
  obtain ⟨p, hp, rfl⟩ := List.mem_map.1 h
  obtain ⟨k, k1, k2, k3, k4, k5, k6⟩ := UP_period h8 hp
  exact ⟨k, k1, k2, ⟨k6.1.2.1, k4, by omega⟩, ⟨k6.2.1.2.1, k5, by omega⟩⟩
theorem filter_step {α : Type} {f : α → Bool} {xs : List α} {i : Nat} {d : α} (h : i < xs.length) : (xs.take (i + 1)).filter f = (xs.take i).filter f ++ (if f (xs.getD i d) then [xs.getD i d] else []) := by
  rw [List.take_succ_eq_append_getElem h, List.filter_append, getD_at h]
  congr 1
  by_cases hf : f xs[i] = true
  · simp [hf]
  · simp [hf]
noncomputable def YS (n : Nat) : List Pr := (impl_pairsOf (n : Int)).getD []
theorem YS_ok {n : Nat} (h2 : 2 ≤ n) (h8 : n ≤ 8) : impl_pairsOf (n : Int) = some (YS n) ∧ (YS n).Perm ((NP n).map aP) ∧ srtd (YS n) := by
  obtain ⟨ys, y1, y2, y3⟩ := impl_pairs h2 h8
  have : YS n = ys := by unfold YS; rw [y1]; rfl
  rw [this]; exact ⟨y1, y2, y3⟩
theorem YS_PP {n : Nat} (h2 : 2 ≤ n) (h8 : n ≤ 8) {x : Pr} (h : x ∈ YS n) : isPP x n := by
  obtain ⟨p, hp, rfl⟩ := List.mem_map.1 ((YS_ok h2 h8).2.1.subset h)
  obtain ⟨a1, a2, a3⟩ := NP_mem h2 h8 hp
  exact ⟨⟨a3.1.2.1, period_AN (by omega) h8 a1, by omega⟩, ⟨a3.2.1.2.1, period_AN (by omega) h8 a2, by omega⟩⟩
theorem YS_len {n : Nat} (h2 : 2 ≤ n) (h8 : n ≤ 8) : (YS n).length ≤ 2040 := by
  rw [(YS_ok h2 h8).2.1.length_eq, List.length_map]
  obtain ⟨m, rfl⟩ : ∃ m, n = m + 2 := ⟨n - 2, by omega⟩
  have := (UP_ok h8).2
  rw [(UP_new h8).1, List.length_append] at this
  omega
end Go.K.Pure

/- Plain laws of ray pairs, part P: all renormalizations. -/
set_option linter.all false
namespace Go.K.Pure
open Classical
theorem spec_all {n : Nat} (h8 : n ≤ 8) {s : Sq} (hs0 : okS s) : spec_l09All s (n : Int) = some (((UP n).map aP).filter (mkd s)) := by
  have hlen : ((UP n).map aP).length ≤ 2040 := by
    rw [List.length_map]
    have := (UP_ok h8).2
    omega
  unfold spec_l09All
  rw [spec_upTo h8]
  simp only [Option.bind_some]
  have := loop_count (step := spec_l09All_l0) (fun i => (s, (UP n).map aP, (((UP n).map aP).take i).filter (mkd s), (i : Int), (UP n).map aP, ())) ((UP n).map aP).length (((UP n).map aP).filter (mkd s), ()) (fun i hi => by
    have hm : ((UP n).map aP).getD i dP ∈ (UP n).map aP := by rw [getD_at hi]; exact List.getElem_mem hi
    obtain ⟨k, _, _, hk⟩ := UP_PP h8 hm
    obtain ⟨r, r1, r2⟩ := hk.spec hs0
    have hw : w64 ((i : Int) + 1) = ((i + 1 : Nat) : Int) := w64_succ (by omega)
    have hfl : ((((UP n).map aP).take i).filter (mkd s)).length ≤ 2040 := Nat.le_trans (List.length_filter_le _ _) (by rw [List.length_take]; omega)
    have hs : decide ((((((UP n).map aP).take i).filter (mkd s)).length + [((UP n).map aP).getD i dP].length) * 32 ≤ 140737488355328) = true := decide_eq_true (by simp only [List.length_singleton]; omega)
    rw [spec_words hk.a hk.b] at r1
    simp only [Option.bind_some] at r1
    simp only [spec_l09All_l0, ltb hi, inb hi, cond_true, Int.toNat_natCast, spec_words hk.a hk.b, Option.bind_some, r1, r2, hs, hw, nn0 i, Bool.and_true, Bool.true_and]
    rw [filter_step (d := dP) hi]
    cases mkd s (((UP n).map aP).getD i dP) <;> simp) (by
    simp only [spec_l09All_l0, nltb (Nat.lt_irrefl _), cond_false, List.take_length]) 0 (by omega)
  have e : loop spec_l09All_l0 (s, (UP n).map aP, ([] : List Pr), (0 : Int), (UP n).map aP, ()) = _ := this
  rw [e]; rfl
noncomputable def RN (s : Sq) : Nat → List Pr
  | 0 => []
  | n + 1 => RN s n ++ (if 2 ≤ n + 1 then (YS (n + 1)).filter (mkd s) else [])
theorem RN_len {s : Sq} : ∀ {n : Nat}, n ≤ 8 → (RN s n).length ≤ 2040 * n
  | 0, _ => by simp [RN]
  | n + 1, h => by
    have := RN_len (s := s) (n := n) (by omega)
    unfold RN
    rw [List.length_append]
    split
    · rename_i h2
      have h3 := YS_len h2 h
      have h4 := List.length_filter_le (mkd s) (YS (n + 1))
      omega
    · simp; omega
theorem impl_renorm {n : Nat} (h8 : n ≤ 8) {s : Sq} (hs0 : okS s) (h7 : ∀ k, sAt s k < 128) : impl_renormalizations s (n : Int) = some (RN s n) := by
  unfold impl_renormalizations
  have h1 : RN s 1 = [] := by simp [RN]
  have h0 : RN s 0 = [] := rfl
  have := loop_count (step := impl_renormalizations_l0) (fun i => ((n : Int), s, RN s (i + 1), ((i + 2 : Nat) : Int), ())) (n - 1) (RN s n, ()) (fun i hi => by
    have hc : decide (((i + 2 : Nat) : Int) ≤ (n : Int)) = true := by simp only [decide_eq_true_eq]; omega
    have hw : w64 (((i + 2 : Nat) : Int) + 1) = ((i + 1 + 2 : Nat) : Int) := w64_succ (by omega)
    have hYl := YS_len (n := i + 2) (by omega) (by omega)
    have hRl := RN_len (s := s) (n := i + 1) (by omega)
    have hin := loop_count (step := impl_renormalizations_l1) (fun j => ((n : Int), s, RN s (i + 1) ++ ((YS (i + 2)).take j).filter (mkd s), ((i + 2 : Nat) : Int), YS (i + 2), (((YS (i + 2)).length : Nat) : Int), (j : Int), ())) (YS (i + 2)).length ((n : Int), s, RN s (i + 2), ((i + 2 : Nat) : Int), ()) (fun j hj => by
      have hm : (YS (i + 2)).getD j dP ∈ YS (i + 2) := by rw [getD_at hj]; exact List.getElem_mem hj
      have hk := YS_PP (by omega) (by omega) hm
      obtain ⟨r, r1, r2⟩ := hk.impl hs0 h7
      rw [impl_words hk.a hk.b] at r1
      simp only [Option.bind_some] at r1
      have hw : w64 ((j : Int) + 1) = ((j + 1 : Nat) : Int) := w64_succ (by omega)
      have hfl : (((YS (i + 2)).take j).filter (mkd s)).length ≤ 2040 := Nat.le_trans (List.length_filter_le _ _) (by rw [List.length_take]; omega)
      have hs : decide (((RN s (i + 1) ++ ((YS (i + 2)).take j).filter (mkd s)).length + [(YS (i + 2)).getD j dP].length) * 32 ≤ 140737488355328) = true := decide_eq_true (by simp only [List.length_append, List.length_singleton]; omega)
      simp only [impl_renormalizations_l1, ltb hj, inb hj, cond_true, Int.toNat_natCast, impl_words hk.a hk.b, Option.bind_some, r1, r2, hs, hw, nn0 j, Bool.and_true, Bool.true_and]
      rw [filter_step (d := dP) hj]
      cases mkd s ((YS (i + 2)).getD j dP) <;> simp) (by
      simp only [impl_renormalizations_l1, nltb (Nat.lt_irrefl _), cond_false, List.take_length]
      have : RN s (i + 2) = RN s (i + 1) ++ (YS (i + 2)).filter (mkd s) := by
        show RN s (i + 1) ++ (if 2 ≤ i + 1 + 1 then _ else _) = _
        rw [if_pos (by omega)]
      rw [this]) 0 (by omega)
    rw [List.take_zero, List.filter_nil, List.append_nil] at hin
    have hin' : loop impl_renormalizations_l1 ((n : Int), s, RN s (i + 1), ((i + 2 : Nat) : Int), YS (i + 2), (((YS (i + 2)).length : Nat) : Int), (0 : Int), ()) = some ((n : Int), s, RN s (i + 2), ((i + 2 : Nat) : Int), ()) := hin
    simp only [impl_renormalizations_l0, hc, cond_true, (YS_ok (n := i + 2) (by omega) (by omega)).1, Option.bind_some, hin', hw]) (by
    have hc : decide (((n - 1 + 2 : Nat) : Int) ≤ (n : Int)) = false := by simp only [decide_eq_false_iff_not]; omega
    have e : RN s (n - 1 + 1) = RN s n := by
      rcases (by omega : n = 0 ∨ n - 1 + 1 = n) with rfl | h2
      · rw [h0]; exact h1
      · rw [h2]
    simp only [impl_renormalizations_l0, hc, cond_false, e]) 0 (by omega)
  rw [h1] at this
  have e : loop impl_renormalizations_l0 ((n : Int), s, ([] : List Pr), (2 : Int), ()) = _ := this
  rw [e]; rfl
theorem RN_mem {s : Sq} : ∀ {n : Nat}, n ≤ 8 → ∀ x, x ∈ RN s n ↔ x ∈ ((UP n).map aP).filter (mkd s)
  | 0, _, x => by simp [RN, UP, upToN]
  | 1, _, x => by simp [RN, UP, upToN]
  | n + 2, h, x => by
    unfold RN
    rw [List.mem_append, RN_mem (n := n + 1) (by omega) x, (UP_new h).1, List.map_append, List.filter_append, List.mem_append, if_pos (by omega)]
    rw [((YS_ok (n := n + 2) (by omega) h).2.1.filter (mkd s)).mem_iff]
end Go.K.Pure

/- Plain laws of ray pairs, part R: lists of pairs; the law of RenormalizationsOf. -/
set_option linter.all false
namespace Go.K.Pure
open Classical
theorem eq_angle (a : Ang) : laws_eqAngle a a = some true := by
  unfold laws_eqAngle; simp
theorem eq_pair (a : Pr) : laws_eqRayPair a a = some true := by
  unfold laws_eqRayPair
  rw [eq_angle, eq_angle]; rfl
theorem eq_pairS {a : List Pr} (h : a.length ≤ 1000000) : laws_eqRayPairS a a = some true := by
  unfold laws_eqRayPairS
  simp only [bne_self_eq_false, cond_false]
  have := loop_count (step := laws_eqRayPairS_l0) (fun n => (a, a, (n : Int), ())) a.length (.inr ()) (by
    intro n hn
    simp only [laws_eqRayPairS_l0, ltb hn, nn, Bool.and_self, cond_true, Int.toNat_natCast]
    rw [eq_pair]
    simp only [Option.bind_some, Bool.not_true, cond_false]
    rw [w64_succ (by omega)]) (by simp only [laws_eqRayPairS_l0, nltb (Nat.lt_irrefl a.length), cond_false]) 0 (Nat.zero_le _)
  have t2 : loop laws_eqRayPairS_l0 (a, a, (0 : Int), ()) = some (.inr ()) := this
  rw [t2]
  rfl
/-- The mark at a place. -/
def mk4 (i : Nat) : Pr := ((((4 * i + 1 : Nat) : Int), ((4 * i + 2 : Nat) : Int), ()), (((4 * i + 3 : Nat) : Int), ((4 * i + 4 : Nat) : Int), ()), ())
theorem w4 {n : Nat} (h : n ≤ 1000000) : w64 (((4 * n + 1 : Nat) : Int) + 1) = ((4 * n + 2 : Nat) : Int) ∧ w64 (((4 * n + 2 : Nat) : Int) + 1) = ((4 * n + 3 : Nat) : Int) ∧ w64 (((4 * n + 3 : Nat) : Int) + 1) = ((4 * n + 4 : Nat) : Int) ∧ w64 (((4 * n + 4 : Nat) : Int) + 1) = ((4 * (n + 1) + 1 : Nat) : Int) :=
  ⟨w64_succ (by omega), w64_succ (by omega), w64_succ (by omega), (w64_succ (by omega)).trans (by congr 1)⟩
theorem mark_step {A : List Pr} {n : Nat} (hn : n < A.length) (h : n ≤ 1000000) : laws_markRayPairS_l0 (A, ((4 * n + 1 : Nat) : Int), (n : Int), ()) = some (.next (A.set n (mk4 n), ((4 * (n + 1) + 1 : Nat) : Int), ((n + 1 : Nat) : Int), ())) := by
  have gs : ∀ x : Pr, (A.set n x).getD n dP = x := fun x => by
    rw [getD_at (by simpa using hn)]; simp
  obtain ⟨w1, w2, w3, w5⟩ := w4 h
  simp only [laws_markRayPairS_l0, List.length_set, ltb hn, nn, Bool.and_self, cond_true, Int.toNat_natCast, List.set_set, gs, w1, w2, w3, w5, w64_succ (show n < 4611686018427387904 by omega)]
  rfl
theorem mark_pairS {a : List Pr} (h : a.length ≤ 1000000) : laws_markRayPairS a 1 = some (((4 * a.length + 1 : Nat) : Int), tab mk4 a.length) := by
  unfold laws_markRayPairS
  have := loop_count (step := laws_markRayPairS_l0) (fun n => (tab (fun i => if i < n then mk4 i else a.getD i dP) a.length, ((4 * n + 1 : Nat) : Int), (n : Int), ())) a.length (tab (fun i => if i < a.length then mk4 i else a.getD i dP) a.length, ((4 * a.length + 1 : Nat) : Int), ()) (by
    intro n hn
    have hn' : n < (tab (fun i => if i < n then mk4 i else a.getD i dP) a.length).length := by rw [tab_len]; exact hn
    rw [mark_step hn' (by omega), tab_set hn]
    congr 2
    refine Prod.ext (tab_ext fun p hp => ?_) rfl
    by_cases e : p = n
    · subst e; simp
    · by_cases c : p < n
      · simp [e, c, show p < n + 1 by omega]
      · simp [e, c, show ¬ p < n + 1 by omega]) (by
    have : ¬ a.length < (tab (fun i => if i < a.length then mk4 i else a.getD i dP) a.length).length := by rw [tab_len]; omega
    simp only [laws_markRayPairS_l0, nltb this, cond_false]) 0 (Nat.zero_le _)
  have e0 : tab (fun i => if i < 0 then mk4 i else a.getD i dP) a.length = a := by
    rw [show (fun i : Nat => if i < 0 then mk4 i else a.getD i dP) = fun i => a.getD i dP from funext fun i => if_neg (Nat.not_lt_zero i)]
    exact tab_self a
  have t2 : loop laws_markRayPairS_l0 (a, (1 : Int), (0 : Int), ()) = some (tab (fun i => if i < a.length then mk4 i else a.getD i dP) a.length, ((4 * a.length + 1 : Nat) : Int), ()) := by
    have t := this
    simp only [e0] at t
    exact t
  rw [t2]
  simp only [Option.bind_some]
  congr 2
  exact tab_ext fun p hp => if_pos hp
theorem held_pairS {n : Nat} (h : n ≤ 1000000) : laws_heldRayPairS (tab mk4 n) 1 = some ((4 * n + 1 : Nat) : Int) := by
  unfold laws_heldRayPairS
  have := loop_count (step := laws_heldRayPairS_l0) (fun i => (tab mk4 n, ((4 * i + 1 : Nat) : Int), (i : Int), ())) n (.inr (((4 * n + 1 : Nat) : Int), ())) (by
    intro i hi
    have hi' : i < (tab mk4 n).length := by rw [tab_len]; exact hi
    obtain ⟨w1, w2, w3, w5⟩ := w4 (show i ≤ 1000000 by omega)
    simp only [laws_heldRayPairS_l0, ltb hi', nn, Bool.and_self, cond_true, Int.toNat_natCast]
    rw [tab_at hi]
    unfold mk4
    simp only [w1, w2, w3, w5, bne_self_eq_false, cond_false]
    rw [w64_succ (by omega)]) (by
    have : ¬ n < (tab mk4 n).length := by rw [tab_len]; omega
    simp only [laws_heldRayPairS_l0, nltb this, cond_false]) 0 (Nat.zero_le _)
  have t2 : loop laws_heldRayPairS_l0 (tab mk4 n, (1 : Int), (0 : Int), ()) = some (.inr (((4 * n + 1 : Nat) : Int), ())) := this
  rw [t2]
  rfl

theorem flat_uniq2 : ∀ {l : List (Nat × Nat)}, (l.flatMap fun p => [p.1, p.2]).Nodup → ∀ {p q : Nat × Nat}, p ∈ l → q ∈ l → p.1 = q.1 → p = q
  | [], _, p, q, hp, _, _ => by cases hp
  | a :: l, hn, p, q, hp, hq, h1 => by
    rw [List.flatMap_cons, List.nodup_append] at hn
    obtain ⟨n1, n2, n3⟩ := hn
    have hin : ∀ {p : Nat × Nat}, p ∈ l → p.1 ∈ l.flatMap fun p => [p.1, p.2] := fun {p} hp => List.mem_flatMap.2 ⟨p, hp, by simp⟩
    rcases List.mem_cons.1 hp with hp | hp <;> rcases List.mem_cons.1 hq with hq | hq
    · rw [hp, hq]
    · have := hin hq
      rw [← h1, hp] at this
      exact absurd rfl (n3 a.1 (by simp) a.1 this)
    · have := hin hp
      rw [h1, hq] at this
      exact absurd rfl (n3 a.1 (by simp) a.1 this)
    · exact flat_uniq2 n2 hp hq h1
theorem join_asc : ∀ {k : Nat} {ps : List (Nat × Nat)} {l : List Nat} {qs : List (Nat × Nat)}, joinN k ps l = some qs → l.Pairwise (· < ·) → ∃ new, qs = ps ++ new ∧ (∀ p ∈ new, p.1 ∈ l) ∧ new.Pairwise fun p q => p.1 < q.1
  | 0, ps, l, qs, h, _ => by cases h
  | k + 1, ps, [], qs, h, _ => by
    simp only [joinN, Option.some.injEq] at h
    exact ⟨[], by simp [h], by simp, List.Pairwise.nil⟩
  | k + 1, ps, a :: rest, qs, h, hs => by
    unfold joinN at h
    cases ht : takeF (freeN a ps) rest with
    | none => rw [ht] at h; cases h
    | some q =>
      obtain ⟨b, r⟩ := q
      rw [ht] at h
      simp only at h
      have hs2 := List.pairwise_cons.1 hs
      obtain ⟨hb, hr⟩ := takeF_sub ht
      obtain ⟨new, h1, h2, h3⟩ := join_asc h (hs2.2.sublist hr)
      refine ⟨(a, b) :: new, by rw [h1]; simp, fun p hp => ?_, List.pairwise_cons.2 ⟨fun p hp => hs2.1 _ (hr.subset (h2 p hp)), h3⟩⟩
      rcases List.mem_cons.1 hp with rfl | hp
      · simp
      · simp [hr.subset (h2 p hp)]
theorem NP_asc {n : Nat} (h : n + 2 ≤ 8) : (NP (n + 2)).Pairwise fun p q => p.1 < q.1 := by
  obtain ⟨new, h1, _, h3⟩ := join_asc (UP_join h) (AN_sorted (by omega) h)
  have : NP (n + 2) = new := by unfold NP; rw [h1]; simp
  rw [this]; exact h3
theorem YS_eq {n : Nat} (h2 : 2 ≤ n) (h8 : n ≤ 8) : YS n = (NP n).map aP := by
  obtain ⟨m, rfl⟩ : ∃ m, n = m + 2 := ⟨n - 2, by omega⟩
  obtain ⟨y1, y2, y3⟩ := YS_ok h2 h8
  obtain ⟨u1, u2, u3⟩ := UP_new h8
  have hnd : ((NP (m + 2)).flatMap fun p => [p.1, p.2]).Nodup := u3.nodup_iff.2 ((AN_sorted (by omega) h8).imp (fun hab => Nat.ne_of_lt hab))
  refine List.Perm.eq_of_pairwise (le := fun a b : Pr => val a.1 ≤ val b.1) ?_ y3 ?_ y2
  · intro a b ha hb h1 h2'
    obtain ⟨p, hp, rfl⟩ := List.mem_map.1 (y2.subset ha)
    obtain ⟨q, hq, rfl⟩ := List.mem_map.1 hb
    have okp := (NP_mem h2 h8 hp).2.2.1
    have okq := (NP_mem h2 h8 hq).2.2.1
    have e : p.1 = q.1 := by
      have a1 := okN_lt okp okq
      have a2 := okN_lt okq okp
      have b1 : ¬ val (aN p.1) < val (aN q.1) := by
        have : val (aN q.1) ≤ val (aN p.1) := h2'
        omega
      have b2 : ¬ val (aN q.1) < val (aN p.1) := by
        have : val (aN p.1) ≤ val (aN q.1) := h1
        omega
      rw [a1] at b1
      rw [a2] at b2
      omega
    rw [flat_uniq2 hnd hp hq e]
  · refine List.pairwise_map.2 ?_
    refine List.Pairwise.imp_of_mem ?_ (NP_asc h8)
    intro p q hp hq hlt
    have okp := (NP_mem h2 h8 hp).2.2.1
    have okq := (NP_mem h2 h8 hq).2.2.1
    have := (okN_lt okp okq).2 hlt
    show val (aN p.1) ≤ val (aN q.1)
    omega
theorem RN_eq {s : Sq} : ∀ {n : Nat}, n ≤ 8 → RN s n = ((UP n).map aP).filter (mkd s)
  | 0, _ => by simp [RN, UP, upToN]
  | 1, _ => by simp [RN, UP, upToN]
  | n + 2, h => by
    have := RN_eq (s := s) (n := n + 1) (by omega)
    unfold RN
    rw [this, (UP_new h).1, List.map_append, List.filter_append, if_pos (by omega), YS_eq (by omega) h]
theorem law_RenormalizationsOf {y : Ang} {n : Int} (hy : InA y) : laws_FnExactRenormalizationsOf y n = some true := by
  have key : ∃ r, spec_RenormalizationsOf y n = some r ∧ impl_RenormalizationsOf y n = some r ∧ r.1.length ≤ 1000000 := by
    unfold spec_RenormalizationsOf impl_RenormalizationsOf
    rw [spec_isA hy, impl_isA hy]
    by_cases hY : isA y
    · rw [decide_eq_true hY]
      simp only [Option.bind_some, Bool.not_true, cond_false, spec_in, impl_in, impl_isPeriod]
      by_cases hr : 2 ≤ n ∧ n ≤ 8
      · rw [decide_eq_true hr]
        simp only [Bool.not_true, cond_false]
        obtain ⟨m, rfl⟩ : ∃ m : Nat, n = (m : Int) := ⟨n.toNat, by omega⟩
        cases hk : (ob y).2.2 with
        | false =>
          obtain ⟨⟨s, n1⟩, n2⟩ := noQ hY hk
          rw [n1, n2]
          exact ⟨_, rfl, rfl, by simp⟩
        | true =>
          obtain ⟨q, p, hQ⟩ := isQ_of hY hk
          have e0 : ((0 : Int) != 0) = false := rfl
          rw [hQ.spec, hQ.impl]
          simp only [Option.bind_some, Bool.not_true, cond_false, e0]
          rw [spec_all (by omega) hQ.okS, impl_renorm (by omega) hQ.okS hQ.b7, RN_eq (by omega)]
          refine ⟨_, rfl, rfl, ?_⟩
          have h1 := List.length_filter_le (mkd (sqq y q p)) ((UP m).map aP)
          have h2 := (UP_ok (n := m) (by omega)).2
          rw [List.length_map] at h1
          show (((UP m).map aP).filter (mkd (sqq y q p))).length ≤ 1000000
          omega
      · rw [decide_eq_false hr]
        exact ⟨_, rfl, rfl, by simp⟩
    · rw [decide_eq_false hY]
      exact ⟨_, rfl, rfl, by simp⟩
  obtain ⟨r, h1, h2, hl⟩ := key
  unfold laws_FnExactRenormalizationsOf
  rw [toA]
  simp only [Option.bind_some]
  rw [h1, h2]
  simp only [Option.bind_some]
  obtain ⟨g, c⟩ := r
  simp only at hl
  simp only
  rw [eq_pairS (by omega)]
  simp only [Option.bind_some, Bool.not_true, cond_false, bne_self_eq_false]
  rw [mark_pairS (by omega)]
  simp only [Option.bind_some]
  rw [held_pairS (by omega)]
  have e : decide (((4 * g.length + 1 : Nat) : Int) < 0) = false := decide_eq_false (by omega)
  simp only [Option.bind_some, e, cond_false, bne_self_eq_false]
end Go.K.Pure

