/- Part 2 of the plain law: the functions of the program as plain functions on lists and numbers, and what is shown of them; no condition. -/
import Derived.Test.YtgeageanmhpfjaaGreatP1
set_option linter.all false
/- Plain laws of ray pairs, part O: the pair of an angle; the law of IsRenormalizable. -/
set_option linter.all false
namespace Go.K.Pure
open Classical
theorem angN_self {x d : Nat} (hx : x < d) (hg : Nat.gcd x d = 1) : angN x d = ((x : Int), (d : Int), ()) := by
  unfold angN
  rw [Nat.mod_eq_of_lt hx, hg]; simp
/-- An angle of period `n` is among the angles of that period. -/
theorem isP_AN {t : Ang} {n : Nat} (h : isP t n) : ∃ N, N ∈ AN n ∧ aN N = t := by
  have h8 := h.le
  have h1 := h.pos
  have hb := h.back
  have hper := h.per
  obtain ⟨x, d, rfl, d1, d2, hx, hg⟩ := isA_nat h.isA
  have e := angN_self hx hg
  rw [← e] at hb hper
  rw [dblN_angN (by omega), ← angN_mod] at hb
  have hm := angN_inj d1 d2 (Nat.mod_lt _ (by omega)) hx hb
  have hdvd : d ∣ (2 ^ n - 1) * x := by
    have h2 : 2 ^ n * x = d * (2 ^ n * x / d) + x := by
      have := Nat.div_add_mod (2 ^ n * x) d
      omega
    refine ⟨2 ^ n * x / d, ?_⟩
    rw [Nat.sub_mul, Nat.one_mul]
    omega
  have hd : d ∣ 2 ^ n - 1 := Nat.Coprime.dvd_of_dvd_mul_right (Nat.Coprime.symm hg) hdvd
  obtain ⟨c, hc⟩ := hd
  obtain ⟨f1, f2⟩ := den_facts h1 h8
  have hc0 : 0 < c := by
    rcases Nat.eq_zero_or_pos c with h0 | h0
    · rw [h0, Nat.mul_zero] at hc; omega
    · exact h0
  have e2 : angN (c * x) (2 ^ n - 1) = angN x d := by rw [hc, Nat.mul_comm d c]; exact angN_scale hc0 (by omega)
  have hlt : c * x < 2 ^ n - 1 := by rw [hc, Nat.mul_comm d c]; exact Nat.mul_lt_mul_of_pos_left hx hc0
  refine ⟨c * x * (LL / (2 ^ n - 1)), ?_, ?_⟩
  · refine List.mem_map.2 ⟨c * x, ?_, rfl⟩
    refine List.mem_filter.2 ⟨List.mem_range.2 hlt, ?_⟩
    have := pg_perJ h1 h8 hlt
    rw [e2, hper] at this
    rw [← this]; exact Nat.beq_refl n
  · rw [aN_of h1 h8, e2, e]
theorem aN_inj {N M : Nat} (h : okN N) (g : okN M) (e : aN N = aN M) : N = M := by
  have h1 := h.2.2
  have h2 := g.2.2
  rw [e, h2] at h1
  have := Int.eq_of_mul_eq_mul_right (Int.ne_of_gt KK_pos) h1
  omega
theorem flat_uniq : ∀ {l : List (Nat × Nat)}, (l.flatMap fun p => [p.1, p.2]).Nodup → ∀ {p q : Nat × Nat} {N : Nat}, p ∈ l → q ∈ l → (p.1 = N ∨ p.2 = N) → (q.1 = N ∨ q.2 = N) → p = q
  | [], _, p, q, N, hp, _, _, _ => by cases hp
  | a :: l, hn, p, q, N, hp, hq, h1, h2 => by
    rw [List.flatMap_cons, List.nodup_append] at hn
    obtain ⟨n1, n2, n3⟩ := hn
    have hin : ∀ {p : Nat × Nat}, p ∈ l → (p.1 = N ∨ p.2 = N) → N ∈ l.flatMap fun p => [p.1, p.2] := fun {p} hp h => List.mem_flatMap.2 ⟨p, hp, by rcases h with h | h <;> simp [h]⟩
    have hia : ∀ {p : Nat × Nat}, p = a → (p.1 = N ∨ p.2 = N) → N ∈ [a.1, a.2] := fun {p} hp h => by subst hp; rcases h with h | h <;> simp [h]
    rcases List.mem_cons.1 hp with hp | hp <;> rcases List.mem_cons.1 hq with hq | hq
    · rw [hp, hq]
    · exact absurd rfl (n3 N (hia hp h1) N (hin hq h2))
    · exact absurd rfl (n3 N (hia hq h2) N (hin hp h1))
    · exact flat_uniq n2 hp hq h1 h2
def hasA (t : Ang) (x : Pr) : Bool := decide (x.1 = t) || decide (x.2.1 = t)
theorem hasA_iff {t : Ang} {x : Pr} : hasA t x = true ↔ x.1 = t ∨ x.2.1 = t := by simp [hasA]
/-- The pair of an angle of period `n`: there is one, and it is the only one. -/
theorem pair_one {t : Ang} {n : Nat} (h : isP t n) (h2 : 2 ≤ n) : ∃ P, isPP P n ∧ P ∈ (NP n).map aP ∧ hasA t P = true ∧ ∀ x, x ∈ (UP n).map aP → hasA t x = true → x = P := by
  have h8 := h.le
  obtain ⟨N, hN, rfl⟩ := isP_AN h
  obtain ⟨m, rfl⟩ : ∃ m, n = m + 2 := ⟨n - 2, by omega⟩
  obtain ⟨u1, u2, u3⟩ := UP_new h8
  have hmem : N ∈ (NP (m + 2)).flatMap fun p => [p.1, p.2] := u3.mem_iff.2 hN
  obtain ⟨p, hp, hpN⟩ := List.mem_flatMap.1 hmem
  have hpN' : p.1 = N ∨ p.2 = N := by
    rcases List.mem_cons.1 hpN with e | e
    · exact .inl e.symm
    · exact .inr (List.mem_singleton.1 e).symm
  have hnd : ((NP (m + 2)).flatMap fun p => [p.1, p.2]).Nodup := u3.nodup_iff.2 ((AN_sorted (by omega) h8).imp (fun hab => Nat.ne_of_lt hab))
  obtain ⟨a1, a2, a3⟩ := NP_mem (by omega) h8 hp
  have hoN := okN_AN (by omega) h8 hN
  refine ⟨aP p, ⟨⟨a3.1.2.1, period_AN (by omega) h8 a1, by omega⟩, ⟨a3.2.1.2.1, period_AN (by omega) h8 a2, by omega⟩⟩, List.mem_map.2 ⟨p, hp, rfl⟩, ?_, ?_⟩
  · rw [hasA_iff]
    rcases hpN' with e | e
    · left; show aN p.1 = aN N; rw [e]
    · right; show aN p.2 = aN N; rw [e]
  · intro x hx hax
    obtain ⟨q, hq, rfl⟩ := List.mem_map.1 hx
    obtain ⟨k, k1, k2, k3, k4, k5, k6⟩ := UP_period h8 hq
    have hper : pg (aN N) = m + 2 := h.per
    have hqN : q.1 = N ∨ q.2 = N := by
      rcases hasA_iff.1 hax with e | e
      · left; exact aN_inj k6.1 hoN e
      · right; exact aN_inj k6.2.1 hoN e
    have hk : k = m + 2 := by
      rcases hqN with e | e
      · rw [e] at k4; omega
      · rw [e] at k5; omega
    subst hk
    rw [flat_uniq hnd k3 hp hqN hpN']
theorem spec_pair {t : Ang} {n : Nat} (h : isP t n) (h2 : 2 ≤ n) : ∃ P, isPP P n ∧ spec_l04Pair t = some P ∧ ∀ x, x ∈ (UP n).map aP → hasA t x = true → x = P := by
  have h8 := h.le
  obtain ⟨P, hP, hPm, hPt, huniq⟩ := pair_one h h2
  refine ⟨P, hP, ?_, huniq⟩
  have hPU : P ∈ (UP n).map aP := by
    obtain ⟨p, hp, rfl⟩ := List.mem_map.1 hPm
    exact List.mem_map.2 ⟨p, (UP_mem h8 p).2 ⟨n, h2, by omega, hp⟩, rfl⟩
  have hps : ps t = n := by
    have := ps_pg h.isA
    rw [h.per] at this
    split at this <;> omega
  have hlen : ((UP n).map aP).length ≤ 2040 := by
    rw [List.length_map]
    have := (UP_ok h8).2
    omega
  unfold spec_l04Pair
  rw [spec_period h.isA, hps]
  simp only [Option.bind_some]
  rw [spec_upTo h8]
  simp only [Option.bind_some]
  generalize hL : (UP n).map aP = L at *
  rcases loop_find (step := spec_l04Pair_l0) (fun i => (t, dP, L, (i : Int), L, ())) L.length (.inr (dP, ())) (fun i => if hasA t (L.getD i dP) = true then some (.inl (L.getD i dP, ())) else none) (fun i hi => by
      have hw : w64 ((i : Int) + 1) = ((i + 1 : Nat) : Int) := w64_succ (by omega)
      simp only [spec_l04Pair_l0, ltb hi, cond_true, Int.toNat_natCast, hw, nn0 i, Bool.and_self]
      rw [beqA, beqA]
      unfold hasA
      by_cases q1 : (L.getD i dP).1 = t
      · rw [decide_eq_true q1]; rfl
      · rw [decide_eq_false q1]
        by_cases q2 : (L.getD i dP).2.1 = t
        · rw [decide_eq_true q2]; rfl
        · rw [decide_eq_false q2]; rfl) (by
      simp only [spec_l04Pair_l0, nltb (Nat.lt_irrefl _), cond_false]) 0 (by omega) with ⟨g1, g2⟩ | ⟨j, c, _, g2, g3, g4, g5⟩
  · obtain ⟨i, hi, hiP⟩ := List.mem_iff_getElem.1 hPU
    have := g2 i (by omega) hi
    rw [getD_at hi, hiP, if_pos hPt] at this
    cases this
  · have e : loop spec_l04Pair_l0 (t, dP, L, (0 : Int), L, ()) = _ := g4
    rw [e]
    split at g3
    · rename_i hj
      simp only [Option.some.injEq] at g3
      subst g3
      simp only [Option.bind_some, alt]
      congr 1
      exact huniq _ (by rw [getD_at g2]; exact List.getElem_mem g2) hj
    · cases g3
theorem impl_pair {t : Ang} {n : Nat} (h : isP t n) (h2 : 2 ≤ n) {P : Pr} (huniq : ∀ x, x ∈ (UP n).map aP → hasA t x = true → x = P) : impl_PairOf t = some (P, 0) := by
  have h8 := h.le
  have hInA : InA t := by
    obtain ⟨q1, q2, q3, q4, _⟩ := h.isA
    exact ⟨⟨by omega, by omega⟩, ⟨by omega, by omega⟩⟩
  obtain ⟨P', hP', hPm, hPt, _⟩ := pair_one h h2
  obtain ⟨y1, y2, y3⟩ := YS_ok h2 h8
  have hYl := YS_len h2 h8
  have hsub : ∀ x, x ∈ YS n → x ∈ (UP n).map aP := fun x hx => by
    obtain ⟨p, hp, rfl⟩ := List.mem_map.1 (y2.subset hx)
    exact List.mem_map.2 ⟨p, (UP_mem h8 p).2 ⟨n, h2, by omega, hp⟩, rfl⟩
  have hPY : P' ∈ YS n := y2.mem_iff.2 hPm
  unfold impl_PairOf
  rw [impl_code (L := [t]) (by simpa using hInA) (by simp), if_pos (by simpa using h.isA)]
  have e0 : ((0 : Int) != 0) = false := rfl
  have d1 : decide ((2 : Int) ≤ (n : Int) ∧ (n : Int) ≤ 8) = true := decide_eq_true (by omega)
  simp only [Option.bind_some, e0, cond_false, impl_period h.isA, h.per, impl_isPeriod, impl_in, d1, Bool.not_true, y1]
  generalize YS n = L at *
  have hidx : slices_IndexFunc__impl_RayPair_impl_RayPair_v3 L t = some (match L.findIdx? (hasA t) with | some k => (k : Int) | none => -1) := by
    unfold slices_IndexFunc__impl_RayPair_impl_RayPair_v3
    have := loop_fidx (step := slices_IndexFunc__impl_RayPair_impl_RayPair_v3_l0) (fun i => (L, (), (t, ()), ((L.length : Nat) : Int), (i : Int), ())) L dP (hasA t) (fun i => ((i : Int), ())) (fun i hi => by
      have hw : w64 ((i : Int) + 1) = ((i + 1 : Nat) : Int) := w64_succ (by omega)
      have hf : impl_PairOf_f1 (L.getD i dP) t = some (hasA t (L.getD i dP)) := by
        unfold impl_PairOf_f1 hasA
        rw [beqA, beqA]
        cases decide ((L.getD i dP).1 = t) <;> rfl
      simp only [slices_IndexFunc__impl_RayPair_impl_RayPair_v3_l0, ltb hi, cond_true, inb hi, Int.toNat_natCast, hf, Option.bind_some, hw, nn0 i, Bool.and_true, Bool.true_and]
      cases hasA t (L.getD i dP) <;> rfl) (by
      simp only [slices_IndexFunc__impl_RayPair_impl_RayPair_v3_l0, nltb (Nat.lt_irrefl _), cond_false])
    have e : loop slices_IndexFunc__impl_RayPair_impl_RayPair_v3_l0 (L, (), (t, ()), ((L.length : Nat) : Int), (0 : Int), ()) = _ := this
    rw [e]
    cases L.findIdx? (hasA t) <;> rfl
  rw [hidx]
  cases hk : L.findIdx? (hasA t) with
  | none =>
    have := List.findIdx?_eq_none_iff.1 hk P' hPY
    rw [hPt] at this; cases this
  | some k =>
    obtain ⟨hkl, hk1, _⟩ := List.findIdx?_eq_some_iff_getElem.1 hk
    simp only [Option.bind_some, inb hkl, cond_true, Int.toNat_natCast]
    have : L.getD k dP = P := huniq _ (hsub _ (by rw [getD_at hkl]; exact List.getElem_mem hkl)) (by rw [getD_at hkl]; exact hk1)
    rw [this]
end Go.K.Pure

/- Plain laws of ray pairs, part S: letters become words. -/
set_option linter.all false
namespace Go.K.Pure
open Classical
/-- Each letter's word. -/
def puts (lo up : List UInt8) (t : List UInt8) : List UInt8 := t.flatMap fun c => if c = 49 then up else lo
theorem puts_len {lo up t : List UInt8} {n : Nat} (h1 : lo.length = n) (h2 : up.length = n) : (puts lo up t).length = t.length * n := by
  unfold puts
  induction t with
  | nil => simp
  | cons c t ih =>
    rw [List.flatMap_cons, List.length_append, ih, List.length_cons, Nat.succ_mul]
    split <;> omega
theorem puts_take {lo up t : List UInt8} {i : Nat} (h : i < t.length) : puts lo up (t.take (i + 1)) = puts lo up (t.take i) ++ (if t.getD i 0 = 49 then up else lo) := by
  unfold puts
  rw [List.take_succ_eq_append_getElem h, List.flatMap_append, getD_at h]
  simp
theorem spec_put {lo up t : List UInt8} {n : Nat} (h1 : lo.length = n) (h2 : up.length = n) (hn : n ≤ 1000) (hl : t.length ≤ 1000) : spec_l09Put t lo up = some (puts lo up t) := by
  unfold spec_l09Put
  have := loop_count (step := spec_l09Put_l0) (fun i => (t, lo, up, puts lo up (t.take i), (i : Int), ())) t.length (puts lo up t, ()) (fun i hi => by
    have hw : w64 ((i : Int) + 1) = ((i + 1 : Nat) : Int) := w64_succ (by omega)
    have hpl : (puts lo up (t.take i)).length ≤ 1000 * 1000 := by
      rw [puts_len h1 h2, List.length_take]
      exact Nat.mul_le_mul (by omega) hn
    have hs1 : decide ((puts lo up (t.take i)).length + up.length ≤ 1152921504606846976) = true := decide_eq_true (by omega)
    have hs2 : decide ((puts lo up (t.take i)).length + lo.length ≤ 1152921504606846976) = true := decide_eq_true (by omega)
    simp only [spec_l09Put_l0, ltb hi, cond_true, Int.toNat_natCast, hw, nn0 i, Bool.and_self, hs1, hs2]
    rw [puts_take hi]
    by_cases hc : t.getD i 0 = 49
    · rw [if_pos hc, hc]; rfl
    · rw [if_neg hc]
      have : ((((t.getD i 0).toNat : Nat) : Int) == 49) = false := by
        simp only [beq_eq_false_iff_ne, ne_eq]
        intro e
        exact hc (UInt8.toNat_inj.1 (by have : (t.getD i 0).toNat = 49 := by omega
                                        rw [this]; rfl))
      rw [this]; rfl) (by
    simp only [spec_l09Put_l0, nltb (Nat.lt_irrefl _), cond_false, List.take_length]) 0 (by omega)
  have e : loop spec_l09Put_l0 (t, lo, up, (Array.toList (List.toArray ([] : List UInt8))), (0 : Int), ()) = _ := this
  rw [e]; rfl
theorem impl_put {lo up t : List UInt8} {n : Nat} (h1 : lo.length = n) (h2 : up.length = n) (hn : n ≤ 1000) (hl : t.length ≤ 1000) (hb : ∀ c ∈ t, c = 48 ∨ c = 49) : impl_words_put ((n : Int), [lo, up], ()) t = some (puts lo up t) := by
  unfold impl_words_put
  have hc : decide (t.length ≤ 140737488355328) = true := decide_eq_true (by omega)
  rw [hc, cond_true]
  have hL : ∀ f : UInt8 → Int, (t.map f).length = t.length := fun f => List.length_map _
  have := loop_count (step := impl_words_put_l0) (fun i => (((n : Int), [lo, up], ()), puts lo up (t.take i), t.map (fun z3 => ((z3.toNat : Nat) : Int)), ((t.length : Nat) : Int), (i : Int), ())) t.length (puts lo up t, ()) (fun i hi => by
    have hw : w64 ((i : Int) + 1) = ((i + 1 : Nat) : Int) := w64_succ (by omega)
    have hpl : (puts lo up (t.take i)).length ≤ 1000 * 1000 := by
      rw [puts_len h1 h2, List.length_take]
      exact Nat.mul_le_mul (by omega) hn
    have hi2 : i < (t.map (fun z3 => ((z3.toNat : Nat) : Int))).length := by rw [hL]; exact hi
    have hg : (t.map (fun z3 => ((z3.toNat : Nat) : Int))).getD i 0 = (((t.getD i 0).toNat : Nat) : Int) := by
      rw [getD_at hi2, getD_at hi, List.getElem_map]
    have hm : t.getD i 0 ∈ t := by rw [getD_at hi]; exact List.getElem_mem hi
    have hs1 : decide ((puts lo up (t.take i)).length + up.length ≤ 1152921504606846976) = true := decide_eq_true (by omega)
    have hs2 : decide ((puts lo up (t.take i)).length + lo.length ≤ 1152921504606846976) = true := decide_eq_true (by omega)
    simp only [impl_words_put_l0, ltb hi, ltb hi2, cond_true, Int.toNat_natCast, hw, nn0 i, Bool.and_self, hg]
    rw [puts_take hi]
    rcases hb _ hm with e | e
    · rw [e, if_neg (by decide)]
      have q : (wu8 ((((48 : UInt8).toNat : Nat) : Int) - 48)) = 0 := by decide
      rw [q]
      have g : [lo, up].getD (0 : Int).toNat ([] : List UInt8) = lo := rfl
      rw [g, hs2]; rfl
    · rw [e, if_pos rfl]
      have q : (wu8 ((((49 : UInt8).toNat : Nat) : Int) - 48)) = 1 := by decide
      rw [q]
      have g : [lo, up].getD (1 : Int).toNat ([] : List UInt8) = up := rfl
      rw [g, hs1]; rfl) (by
    simp only [impl_words_put_l0, nltb (Nat.lt_irrefl _), cond_false, List.take_length]) 0 (by omega)
  rw [hL]
  have e : loop impl_words_put_l0 (((n : Int), [lo, up], ()), (Array.toList (List.toArray ([] : List UInt8))), t.map (fun z3 => ((z3.toNat : Nat) : Int)), ((t.length : Nat) : Int), (0 : Int), ()) = _ := this
  rw [e]; rfl
end Go.K.Pure

/- Plain laws of ray pairs, part 19: the law of TunedWords. -/
set_option linter.all false
namespace Go.K.Pure
open Classical
theorem mark_1 : laws_markText 1 = some [109, 49] := by
  unfold laws_markText
  have h : loop laws_markText_l0 ((1 : Int), ([] : List UInt8), ()) = some ([49], ()) := loop_iter.2 ⟨2, by rfl⟩
  simp only [show decide ((1 : Int) ≤ 0) = false from rfl, cond_false, h]
  rfl
theorem mark_2 : laws_markText 2 = some [109, 50] := by
  unfold laws_markText
  have h : loop laws_markText_l0 ((2 : Int), ([] : List UInt8), ()) = some ([50], ()) := loop_iter.2 ⟨2, by rfl⟩
  simp only [show decide ((2 : Int) ≤ 0) = false from rfl, cond_false, h]
  rfl
/-- What is written into a result of two texts is held there. -/
theorem marks {l : List (List UInt8)} (h : l = [] ∨ ∃ x y, l = [x, y]) : ∃ m r, laws_markStringS l 1 = some (m, r) ∧ laws_heldStringS r 1 = some m ∧ 0 ≤ m := by
  rcases h with rfl | ⟨x, y, rfl⟩
  · refine ⟨1, [], ?_, ?_, by omega⟩
    · unfold laws_markStringS
      rw [show loop laws_markStringS_l0 (([] : List (List UInt8)), (1 : Int), (0 : Int), ()) = some ([], 1, ()) from loop_iter.2 ⟨1, by rfl⟩]
      rfl
    · unfold laws_heldStringS
      rw [show loop laws_heldStringS_l0 (([] : List (List UInt8)), (1 : Int), (0 : Int), ()) = some (.inr (1, ())) from loop_iter.2 ⟨1, by rfl⟩]
      rfl
  · have e1 : laws_markStringS_l0 ([x, y], 1, 0, ()) = some (.next ([[109, 49], y], 2, 1, ())) := by
      simp only [laws_markStringS_l0, mark_1]; rfl
    have e2 : laws_markStringS_l0 ([[109, 49], y], 2, 1, ()) = some (.next ([[109, 49], [109, 50]], 3, 2, ())) := by
      simp only [laws_markStringS_l0, mark_2]; rfl
    have e3 : laws_markStringS_l0 ([[109, 49], [109, 50]], 3, 2, ()) = some (.stop ([[109, 49], [109, 50]], 3, ())) := by
      simp only [laws_markStringS_l0]; rfl
    have f1 : laws_heldStringS_l0 ([[109, 49], [109, 50]], 1, 0, ()) = some (.next ([[109, 49], [109, 50]], 2, 1, ())) := by
      simp only [laws_heldStringS_l0, mark_1]; rfl
    have f2 : laws_heldStringS_l0 ([[109, 49], [109, 50]], 2, 1, ()) = some (.next ([[109, 49], [109, 50]], 3, 2, ())) := by
      simp only [laws_heldStringS_l0, mark_2]; rfl
    have f3 : laws_heldStringS_l0 ([[109, 49], [109, 50]], 3, 2, ()) = some (.stop (.inr (3, ()))) := by
      simp only [laws_heldStringS_l0]; rfl
    refine ⟨3, [[109, 49], [109, 50]], ?_, ?_, by omega⟩
    · unfold laws_markStringS
      rw [loop_eq, e1]
      simp only
      rw [loop_eq, e2]
      simp only
      rw [loop_eq, e3]
      rfl
    · unfold laws_heldStringS
      rw [loop_eq, f1]
      simp only
      rw [loop_eq, f2]
      simp only
      rw [loop_eq, f3]
      rfl
theorem eq_strS {a : List (List UInt8)} (h : a.length ≤ 1000000) : laws_eqStringS a a = some true := by
  unfold laws_eqStringS
  simp only [bne_self_eq_false, cond_false]
  have := loop_count (step := laws_eqStringS_l0) (fun n => (a, a, (n : Int), ())) a.length (.inr ()) (by
    intro n hn
    simp only [laws_eqStringS_l0, ltb hn, nn, Bool.and_self, cond_true, Int.toNat_natCast, beq_self_eq_true, Bool.not_true, cond_false]
    rw [w64_succ (by omega)]) (by simp only [laws_eqStringS_l0, nltb (Nat.lt_irrefl a.length), cond_false]) 0 (Nat.zero_le _)
  have t2 : loop laws_eqStringS_l0 (a, a, (0 : Int), ()) = some (.inr ()) := this
  rw [t2]
  rfl
theorem WD_bits (a : Ang) (p : Nat) : ∀ c ∈ WD a p, c = 48 ∨ c = 49 := fun c hc => by
  unfold WD tab at hc
  obtain ⟨i, _, rfl⟩ := List.mem_map.1 hc
  rcases dgt_or (dblN a i) with e | e <;> simp [e]
theorem law_TunedWords {t y : Ang} (ht : InA t) (hy : InA y) : laws_FnExactTunedWords t y = some true := by
  have key : ∃ r, spec_TunedWords t y = some r ∧ impl_TunedWords t y = some r ∧ (r.1 = [] ∨ ∃ a b, r.1 = [a, b]) := by
    unfold spec_TunedWords impl_TunedWords spec_l09Both spec_l09Code impl_bothPairs impl_wordsFor
    rw [spec_isA ht, spec_isA hy, impl_code (L := [y]) (by simpa using hy) (by simp)]
    by_cases hY : isA y
    · have hL : ∀ x ∈ [y], isA x := by simpa using hY
      rw [if_pos hL, decide_eq_true hY]
      have e0 : ((0 : Int) != 0) = false := rfl
      have e1 : ((1 : Int) != 0) = true := rfl
      have e2 : ((2 : Int) != 0) = true := rfl
      have e3 : ((3 : Int) != 0) = true := rfl
      by_cases hT : isA t
      · have hp := ps_pg hT
        by_cases hr : 2 ≤ ps t ∧ ps t ≤ 8
        · have hpg : pg t = ps t := by rw [hp, if_pos hr.2]
          have hP : isP t (ps t) := ⟨hT, hpg, by omega⟩
          obtain ⟨P, p1, p2, p3⟩ := spec_pair hP hr.1
          have d1 : decide ((2 : Int) ≤ (ps t : Int) ∧ (ps t : Int) ≤ 8) = true := decide_eq_true (by omega)
          simp only [decide_eq_true hT, decide_eq_true hY, Option.bind_some, Bool.not_true, cond_false, spec_l04Code, spec_isA ht, spec_isA hy, spec_period hT, spec_period hY, spec_in, d1, e0, p2, impl_pair hP hr.1 p3, spec_words p1.a p1.b, impl_words p1.a p1.b]
          have hpY := ps_pg hY
          by_cases hrY : 2 ≤ ps y ∧ ps y ≤ 8
          · have hpgY : pg y = ps y := by rw [hpY, if_pos hrY.2]
            have hPY : isP y (ps y) := ⟨hY, hpgY, by omega⟩
            obtain ⟨R, q1, q2, q3⟩ := spec_pair hPY hrY.1
            have d2 : decide ((2 : Int) ≤ (ps y : Int) ∧ (ps y : Int) ≤ 8) = true := decide_eq_true (by omega)
            simp only [d2, Bool.not_true, cond_false, Option.bind_some, q2, impl_pair hPY hrY.1 q3, e0, spec_words q1.a q1.b, impl_words q1.a q1.b]
            have hm : ps y * ps t ≤ 8 * 8 := Nat.mul_le_mul hrY.2 hr.2
            have l1 : (WD R.1 (ps y)).length = ps y := WD_len
            have l2 : (WD P.1 (ps t)).length = ps t := WD_len
            have w1 : w64 (((ps y : Nat) : Int) * ((ps t : Nat) : Int)) = ((ps y * ps t : Nat) : Int) := by rw [← Int.natCast_mul, w64_nat (by omega)]
            have w2 : w64 (((ps t : Nat) : Int) * ((ps y : Nat) : Int)) = ((ps y * ps t : Nat) : Int) := by rw [Int.mul_comm]; exact w1
            have d3 : decide (((ps y * ps t : Nat) : Int) > 64) = false := decide_eq_false (by omega)
            rw [l1, l2, w1, w2, d3]
            simp only [cond_false]
            rw [spec_put (lo := WD P.1 (ps t)) (up := WD P.2.1 (ps t)) (n := ps t) WD_len WD_len (by omega) (by rw [WD_len]; omega), spec_put (lo := WD P.1 (ps t)) (up := WD P.2.1 (ps t)) (n := ps t) WD_len WD_len (by omega) (by rw [WD_len]; omega)]
            have z0 : ((decide ((0 : Int) ≤ 0)) && (decide ((0 : Int) < ((2 : Nat) : Int)))) = true := rfl
            have z1 : ((decide ((0 : Int) ≤ 1)) && (decide ((1 : Int) < ((2 : Nat) : Int)))) = true := rfl
            have g0 : ([WD R.1 (ps y), WD R.2.1 (ps y)] : List (List UInt8)).getD (0 : Int).toNat [] = WD R.1 (ps y) := rfl
            have g1 : ([WD R.1 (ps y), WD R.2.1 (ps y)] : List (List UInt8)).getD (1 : Int).toNat [] = WD R.2.1 (ps y) := rfl
            simp only [z0, z1, g0, g1, cond_true]
            rw [impl_put (lo := WD P.1 (ps t)) (up := WD P.2.1 (ps t)) (n := ps t) WD_len WD_len (by omega) (by rw [WD_len]; omega) (WD_bits _ _), impl_put (lo := WD P.1 (ps t)) (up := WD P.2.1 (ps t)) (n := ps t) WD_len WD_len (by omega) (by rw [WD_len]; omega) (WD_bits _ _)]
            exact ⟨_, rfl, rfl, .inr ⟨_, _, rfl⟩⟩
          · have d2 : decide ((2 : Int) ≤ (ps y : Int) ∧ (ps y : Int) ≤ 8) = false := decide_eq_false (by omega)
            have d3 : decide ((2 : Int) ≤ (pg y : Int) ∧ (pg y : Int) ≤ 8) = false := decide_eq_false (by
              rw [hpY]
              split <;> omega)
            unfold impl_PairOf
            rw [impl_code (L := [y]) (by simpa using hy) (by simp), if_pos (by simpa using hY)]
            simp only [Option.bind_some, Bool.not_true, Bool.not_false, cond_true, cond_false, impl_period hY, impl_isPeriod, impl_in, d2, d3, e0, e2]
            exact ⟨_, rfl, rfl, .inl rfl⟩
        · have d1 : decide ((2 : Int) ≤ (ps t : Int) ∧ (ps t : Int) ≤ 8) = false := decide_eq_false (by omega)
          have d2 : decide ((2 : Int) ≤ (pg t : Int) ∧ (pg t : Int) ≤ 8) = false := decide_eq_false (by
            rw [hp]
            split <;> omega)
          unfold impl_PairOf
          rw [impl_code (L := [t]) (by simpa using ht) (by simp), if_pos (by simpa using hT)]
          simp only [decide_eq_true hT, Option.bind_some, Bool.not_true, Bool.not_false, cond_true, cond_false, spec_l04Code, spec_isA ht, spec_period hT, impl_period hT, impl_isPeriod, impl_in, spec_in, d1, d2, e0, e2]
          exact ⟨_, rfl, rfl, .inl rfl⟩
      · unfold impl_PairOf
        rw [impl_code (L := [t]) (by simpa using ht) (by simp), if_neg (by simpa using hT)]
        simp only [decide_eq_false hT, Option.bind_some, Bool.not_false, cond_true, cond_false, e0, e1]
        exact ⟨_, rfl, rfl, .inl rfl⟩
    · have hL : ¬ ∀ x ∈ [y], isA x := by simpa using hY
      rw [if_neg hL, decide_eq_false hY]
      cases decide (isA t) <;> exact ⟨_, rfl, rfl, .inl rfl⟩
  obtain ⟨r, h1, h2, h3⟩ := key
  have hl : r.1.length ≤ 1000000 := by
    rcases h3 with h | ⟨a, b, h⟩ <;> rw [h] <;> simp
  obtain ⟨m, u, m1, m2, m3⟩ := marks h3
  unfold laws_FnExactTunedWords
  rw [toA, toA]
  simp only [Option.bind_some]
  rw [h1, h2]
  simp only [Option.bind_some, eq_strS hl, m1, m2, Bool.not_true, cond_false, bne_self_eq_false, show decide (m < 0) = false from decide_eq_false (by omega)]
end Go.K.Pure

