/- Part 2 of the plain law: the functions of the program as plain functions on lists and numbers, and what is shown of them; no condition. -/
import Derived.Test.YtgeageanmhpfjaaGreatP1
set_option linter.all false
/- Plain laws of ray pairs, part L: the words of a pair; what is renormalizable. -/
set_option linter.all false
namespace Go.K.Pure
open Classical
theorem toA (a : Ang) : laws_toAngle a = some a := rfl
/-- The sequence of an angle that comes back. -/
def sq (a : Ang) (n : Nat) : Sq := ([], WD a n, ())
theorem sq_at {a : Ang} {n : Nat} (h0 : 0 < n) (hp : dblN a n = a) (k : Nat) : sAt (sq a n) k = dgt (dblN a k) := by
  unfold sAt sq
  simp only [List.length_nil, Nat.not_lt_zero, if_false, Nat.sub_zero]
  rw [WD_len, WD_at (Nat.mod_lt _ h0), dblN_mod hp]
theorem sq_ok {a : Ang} {n : Nat} (h0 : 0 < n) (h1 : n ≤ 10000) : okS (sq a n) := ⟨by unfold sq; simp only [WD_len]; exact h0, by simp [sq], by unfold sq; simp only [WD_len]; exact h1⟩
theorem dgt_lt (x : Ang) : dgt x < 128 := by rcases dgt_or x with h | h <;> rw [h] <;> decide
theorem words_in {t2 : Int × List (List UInt8) × Unit} {n : Int} {c : Int} {L : List UInt8 → List (List UInt8)} {i : Nat} (hi : i < 2) (hg : ∀ u, (L u).getD i [] = u) (hs : ∀ u v, (L u).set i v = L v) {s : Sq} (h : okS s) (h7 : ∀ k, sAt s k < 128) {t19 : List Ang} {t20 t21 : Int} {m : Nat} (hm : m ≤ 10000) :
    loop impl_wordsOf_l1 (t2, n, (c, L [], ()), (i : Int), s, t19, t20, t21, (m : Int), (0 : Int), ()) = some (t2, n, (c, L (tab (sAt s) m), ()), t19, t20, t21, ()) := by
  have := loop_count (step := impl_wordsOf_l1) (fun j => (t2, n, (c, L (tab (sAt s) j), ()), (i : Int), s, t19, t20, t21, (m : Int), (j : Int), ())) m (t2, n, (c, L (tab (sAt s) m), ()), t19, t20, t21, ()) (fun j hj => by
    have hw : w64 ((j : Int) + 1) = ((j + 1 : Nat) : Int) := w64_succ (by omega)
    have h7' : (sAt s j).toNat < 128 := h7 j
    have hb : (decide ((0 : Int) ≤ (((sAt s j).toNat : Nat) : Int)) && decide ((((sAt s j).toNat : Nat) : Int) < 128)) = true := by
      simp only [Bool.and_eq_true, decide_eq_true_eq]; omega
    have hi2 : ((decide ((0 : Int) ≤ (i : Int))) && (decide ((i : Int) < ((2 : Nat) : Int)))) = true := inb hi
    have hsz : decide ((tab (sAt s) j).length + [(UInt8.ofNat (sAt s j).toNat)].length ≤ 1152921504606846976) = true := decide_eq_true (by rw [tab_len]; simp; omega)
    simp only [impl_wordsOf_l1, ltb hj, cond_true, hi2, impl_at h (show j ≤ 1000000000 by omega), Option.bind_some, hb, Int.toNat_natCast, hg, hsz, hs, hw]
    rw [tab_succ]
    simp) (by
    simp only [impl_wordsOf_l1, nltb (Nat.lt_irrefl _), cond_false]) 0 (by omega)
  exact this
theorem tab_sq {a : Ang} {n : Nat} (h0 : 0 < n) (hp : dblN a n = a) : tab (sAt (sq a n)) n = WD a n := tab_ext fun k _ => sq_at h0 hp k
/-- An angle of period `n`. -/
structure isP (a : Ang) (n : Nat) : Prop where
  isA : isA a
  per : pg a = n
  pos : 1 ≤ n
theorem isP.le {a : Ang} {n : Nat} (h : isP a n) : n ≤ 8 := by
  have := (pg_back h.isA (by rw [h.per]; exact h.pos)).1
  rw [h.per] at this; exact this
theorem isP.back {a : Ang} {n : Nat} (h : isP a n) : dblN a n = a := by
  have := (pg_back h.isA (by rw [h.per]; exact h.pos)).2.1
  rw [h.per] at this; exact this
theorem isP.impl {a : Ang} {n : Nat} (h : isP a n) : impl_ExpansionOf a = some (sq a n, 0) := by
  have := impl_exp h.isA (by rw [h.per]; exact h.pos)
  rw [h.per] at this; exact this
theorem isP.spec {a : Ang} {n : Nat} (h : isP a n) : spec_l01Expansion a = some (sq a n, true) := by
  have := spec_exp h.isA (by rw [h.per]; exact h.pos)
  rw [h.per] at this; exact this
theorem isP.okS {a : Ang} {n : Nat} (h : isP a n) : okS (sq a n) := sq_ok h.pos (by have := h.le; omega)
theorem isP.b7 {a : Ang} {n : Nat} (h : isP a n) (k : Nat) : sAt (sq a n) k < 128 := by rw [sq_at h.pos h.back]; exact dgt_lt _
theorem impl_words {p : Pr} {n : Nat} (h1 : isP p.1 n) (h2 : isP p.2.1 n) : impl_wordsOf p = some ((n : Int), [WD p.1 n, WD p.2.1 n], ()) := by
  have h8 := h1.le
  unfold impl_wordsOf
  rw [impl_period h1.isA, h1.per]
  simp only [Option.bind_some]
  have e0 : List.replicate 2 ([] : List UInt8) = [[], []] := rfl
  have l0 := words_in (t2 := ((0 : Int), [[], []], ())) (n := (n : Int)) (c := (n : Int)) (L := fun u => [u, []]) (i := 0) (by omega) (fun u => rfl) (fun u v => rfl) h1.okS h1.b7 (t19 := [p.1, p.2.1]) (t20 := 2) (t21 := 0) (m := n) (by omega)
  have l1 := words_in (t2 := ((0 : Int), [[], []], ())) (n := (n : Int)) (c := (n : Int)) (L := fun u => [WD p.1 n, u]) (i := 1) (by omega) (fun u => rfl) (fun u v => rfl) h2.okS h2.b7 (t19 := [p.1, p.2.1]) (t20 := 2) (t21 := 1) (m := n) (by omega)
  rw [tab_sq h1.pos h1.back] at l0
  rw [tab_sq h2.pos h2.back] at l1
  have g0 : [p.1, p.2.1].getD (0 : Int).toNat ((0 : Int), (0 : Int), ()) = p.1 := rfl
  have g1 : [p.1, p.2.1].getD (1 : Int).toNat ((0 : Int), (0 : Int), ()) = p.2.1 := rfl
  have s0 : impl_wordsOf_l0 (((0 : Int), [[], []], ()), (n : Int), ((n : Int), [[], []], ()), [p.1, p.2.1], (2 : Int), (0 : Int), ()) = some (.next (((0 : Int), [[], []], ()), (n : Int), ((n : Int), [WD p.1 n, []], ()), [p.1, p.2.1], (2 : Int), (1 : Int), ())) := by
    simp only [impl_wordsOf_l0, g0, h1.impl, Option.bind_some]
    have l0' : loop impl_wordsOf_l1 (((0 : Int), [[], []], ()), (n : Int), ((n : Int), [[], []], ()), (0 : Int), sq p.1 n, [p.1, p.2.1], (2 : Int), (0 : Int), (n : Int), (0 : Int), ()) = _ := l0
    rw [l0']
    rfl
  have s1 : impl_wordsOf_l0 (((0 : Int), [[], []], ()), (n : Int), ((n : Int), [WD p.1 n, []], ()), [p.1, p.2.1], (2 : Int), (1 : Int), ()) = some (.next (((0 : Int), [[], []], ()), (n : Int), ((n : Int), [WD p.1 n, WD p.2.1 n], ()), [p.1, p.2.1], (2 : Int), (2 : Int), ())) := by
    simp only [impl_wordsOf_l0, g1, h2.impl, Option.bind_some]
    have l1' : loop impl_wordsOf_l1 (((0 : Int), [[], []], ()), (n : Int), ((n : Int), [WD p.1 n, []], ()), (1 : Int), sq p.2.1 n, [p.1, p.2.1], (2 : Int), (1 : Int), (n : Int), (0 : Int), ()) = _ := l1
    rw [l1']
    rfl
  have hl2 : ((([p.1, p.2.1] : List Ang).length : Nat) : Int) = 2 := rfl
  rw [e0, hl2, loop_eq, s0]
  simp only
  rw [loop_eq, s1]
  simp only
  rw [loop_eq]
  rfl
theorem spec_words {p : Pr} {n : Nat} (h1 : isP p.1 n) (h2 : isP p.2.1 n) : spec_l09Words p = some (WD p.1 n, WD p.2.1 n) := by
  unfold spec_l09Words
  rw [h1.spec, h2.spec]; rfl
structure isPP (p : Pr) (n : Nat) : Prop where
  a : isP p.1 n
  b : isP p.2.1 n
theorem UP_PP {n : Nat} (h8 : n ≤ 8) {x : Pr} (h : x ∈ (UP n).map aP) : ∃ k, 2 ≤ k ∧ k ≤ n ∧ isPP x k := by
  obtain ⟨p, hp, rfl⟩ := List.mem_map.1 h
  obtain ⟨k, k1, k2, k3, k4, k5, k6⟩ := UP_period h8 hp
  exact ⟨k, k1, k2, ⟨k6.1.2.1, k4, by omega⟩, ⟨k6.2.1.2.1, k5, by omega⟩⟩
theorem filter_step {α : Type} {f : α → Bool} {xs : List α} {i : Nat} {d : α} (h : i < xs.length) : (xs.take (i + 1)).filter f = (xs.take i).filter f ++ (if f (xs.getD i d) then [xs.getD i d] else []) := by
  rw [List.take_succ_eq_append_getElem h, List.filter_append, getD_at h]
  congr 1
  by_cases hf : f xs[i] = true
  · simp [hf]
  · simp [hf]
noncomputable def YS (n : Nat) : List Pr := (impl_pairsOf (n : Int)).getD []
theorem YS_ok {n : Nat} (h2 : 2 ≤ n) (h8 : n ≤ 8) : impl_pairsOf (n : Int) = some (YS n) ∧ (YS n).Perm ((NP n).map aP) ∧ srtd (YS n) := by
  obtain ⟨ys, y1, y2, y3⟩ := impl_pairs h2 h8
  have : YS n = ys := by unfold YS; rw [y1]; rfl
  rw [this]; exact ⟨y1, y2, y3⟩
theorem YS_PP {n : Nat} (h2 : 2 ≤ n) (h8 : n ≤ 8) {x : Pr} (h : x ∈ YS n) : isPP x n := by
  obtain ⟨p, hp, rfl⟩ := List.mem_map.1 ((YS_ok h2 h8).2.1.subset h)
  obtain ⟨a1, a2, a3⟩ := NP_mem h2 h8 hp
  exact ⟨⟨a3.1.2.1, period_AN (by omega) h8 a1, by omega⟩, ⟨a3.2.1.2.1, period_AN (by omega) h8 a2, by omega⟩⟩
theorem YS_len {n : Nat} (h2 : 2 ≤ n) (h8 : n ≤ 8) : (YS n).length ≤ 2040 := by
  rw [(YS_ok h2 h8).2.1.length_eq, List.length_map]
  obtain ⟨m, rfl⟩ : ∃ m, n = m + 2 := ⟨n - 2, by omega⟩
  have := (UP_ok h8).2
  rw [(UP_new h8).1, List.length_append] at this
  omega
end Go.K.Pure

/- Plain laws of ray pairs, part Q: lists of angles. -/
set_option linter.all false
namespace Go.K.Pure
open Classical
theorem impl_all {L : List Ang} (h : ∀ a ∈ L, InA a) (hl : L.length < 1000000) : impl_areAll_impl_Angle L = some (decide (∀ a ∈ L, isA a)) := by
  unfold impl_areAll_impl_Angle slices_ContainsFunc__impl_Angle_impl_Angle slices_IndexFunc__impl_Angle_impl_Angle
  have := loop_fidx (step := slices_IndexFunc__impl_Angle_impl_Angle_l0) (fun i => (L, (), (((), ()), ()), ((L.length : Nat) : Int), (i : Int), ())) L dA0 (fun a => !decide (isA a)) (fun i => ((i : Int), ())) (fun i hi => by
    have hm : L.getD i dA0 ∈ L := by rw [getD_at hi]; exact List.getElem_mem hi
    have hw : w64 ((i : Int) + 1) = ((i + 1 : Nat) : Int) := w64_succ (by omega)
    have hf : impl_areAll_impl_Angle_f1 (L.getD i dA0) = some (!decide (isA (L.getD i dA0))) := by
      unfold impl_areAll_impl_Angle_f1
      rw [impl_isA (h _ hm)]; rfl
    simp only [slices_IndexFunc__impl_Angle_impl_Angle_l0, ltb hi, cond_true, inb hi, Int.toNat_natCast, hf, Option.bind_some, hw, nn0 i, Bool.and_true, Bool.true_and]
    cases decide (isA (L.getD i dA0)) <;> rfl) (by
    simp only [slices_IndexFunc__impl_Angle_impl_Angle_l0, nltb (Nat.lt_irrefl _), cond_false])
  have e : loop slices_IndexFunc__impl_Angle_impl_Angle_l0 (L, (), (((), ()), ()), ((L.length : Nat) : Int), (0 : Int), ()) = _ := this
  rw [e]
  cases hf : L.findIdx? fun a => !decide (isA a) with
  | none =>
    have hn := List.findIdx?_eq_none_iff.1 hf
    have : ∀ a ∈ L, isA a := fun a ha => by
      have := hn a ha
      by_cases hA : isA a
      · exact hA
      · simp [hA] at this
    rw [decide_eq_true this]
    simp [alt]
  | some k =>
    obtain ⟨h1, h2, _⟩ := List.findIdx?_eq_some_iff_getElem.1 hf
    have : ¬ ∀ a ∈ L, isA a := fun hA => by
      have := hA _ (List.getElem_mem h1)
      rw [decide_eq_true this] at h2; cases h2
    rw [decide_eq_false this]
    simp [alt]
theorem impl_code {L : List Ang} (h : ∀ a ∈ L, InA a) (hl : L.length < 1000000) : impl_anglesCode L = some (if ∀ a ∈ L, isA a then 0 else 1) := by
  unfold impl_anglesCode
  rw [impl_all h hl]
  by_cases hA : ∀ a ∈ L, isA a
  · rw [decide_eq_true hA, if_pos hA]; rfl
  · rw [decide_eq_false hA, if_neg hA]; rfl
end Go.K.Pure

/- Plain laws of ray pairs, part O: the pair of an angle; the law of IsRenormalizable. -/
set_option linter.all false
namespace Go.K.Pure
open Classical
theorem angN_self {x d : Nat} (hx : x < d) (hg : Nat.gcd x d = 1) : angN x d = ((x : Int), (d : Int), ()) := by
  unfold angN
  rw [Nat.mod_eq_of_lt hx, hg]; simp
/-- An angle of period `n` is among the angles of that period. -/
theorem isP_AN {t : Ang} {n : Nat} (h : isP t n) : ∃ N, N ∈ AN n ∧ aN N = t := by
  have h8 := h.le
  have h1 := h.pos
  have hb := h.back
  have hper := h.per
  obtain ⟨x, d, rfl, d1, d2, hx, hg⟩ := isA_nat h.isA
  have e := angN_self hx hg
  rw [← e] at hb hper
  rw [dblN_angN (by omega), ← angN_mod] at hb
  have hm := angN_inj d1 d2 (Nat.mod_lt _ (by omega)) hx hb
  have hdvd : d ∣ (2 ^ n - 1) * x := by
    have h2 : 2 ^ n * x = d * (2 ^ n * x / d) + x := by
      have := Nat.div_add_mod (2 ^ n * x) d
      omega
    refine ⟨2 ^ n * x / d, ?_⟩
    rw [Nat.sub_mul, Nat.one_mul]
    omega
  have hd : d ∣ 2 ^ n - 1 := Nat.Coprime.dvd_of_dvd_mul_right (Nat.Coprime.symm hg) hdvd
  obtain ⟨c, hc⟩ := hd
  obtain ⟨f1, f2⟩ := den_facts h1 h8
  have hc0 : 0 < c := by
    rcases Nat.eq_zero_or_pos c with h0 | h0
    · rw [h0, Nat.mul_zero] at hc; omega
    · exact h0
  have e2 : angN (c * x) (2 ^ n - 1) = angN x d := by rw [hc, Nat.mul_comm d c]; exact angN_scale hc0 (by omega)
  have hlt : c * x < 2 ^ n - 1 := by rw [hc, Nat.mul_comm d c]; exact Nat.mul_lt_mul_of_pos_left hx hc0
  refine ⟨c * x * (LL / (2 ^ n - 1)), ?_, ?_⟩
  · refine List.mem_map.2 ⟨c * x, ?_, rfl⟩
    refine List.mem_filter.2 ⟨List.mem_range.2 hlt, ?_⟩
    have := pg_perJ h1 h8 hlt
    rw [e2, hper] at this
    rw [← this]; exact Nat.beq_refl n
  · rw [aN_of h1 h8, e2, e]
theorem aN_inj {N M : Nat} (h : okN N) (g : okN M) (e : aN N = aN M) : N = M := by
  have h1 := h.2.2
  have h2 := g.2.2
  rw [e, h2] at h1
  have := Int.eq_of_mul_eq_mul_right (Int.ne_of_gt KK_pos) h1
  omega
theorem flat_uniq : ∀ {l : List (Nat × Nat)}, (l.flatMap fun p => [p.1, p.2]).Nodup → ∀ {p q : Nat × Nat} {N : Nat}, p ∈ l → q ∈ l → (p.1 = N ∨ p.2 = N) → (q.1 = N ∨ q.2 = N) → p = q
  | [], _, p, q, N, hp, _, _, _ => by cases hp
  | a :: l, hn, p, q, N, hp, hq, h1, h2 => by
    rw [List.flatMap_cons, List.nodup_append] at hn
    obtain ⟨n1, n2, n3⟩ := hn
    have hin : ∀ {p : Nat × Nat}, p ∈ l → (p.1 = N ∨ p.2 = N) → N ∈ l.flatMap fun p => [p.1, p.2] := fun {p} hp h => List.mem_flatMap.2 ⟨p, hp, by rcases h with h | h <;> simp [h]⟩
    have hia : ∀ {p : Nat × Nat}, p = a → (p.1 = N ∨ p.2 = N) → N ∈ [a.1, a.2] := fun {p} hp h => by subst hp; rcases h with h | h <;> simp [h]
    rcases List.mem_cons.1 hp with hp | hp <;> rcases List.mem_cons.1 hq with hq | hq
    · rw [hp, hq]
    · exact absurd rfl (n3 N (hia hp h1) N (hin hq h2))
    · exact absurd rfl (n3 N (hia hq h2) N (hin hp h1))
    · exact flat_uniq n2 hp hq h1 h2
def hasA (t : Ang) (x : Pr) : Bool := decide (x.1 = t) || decide (x.2.1 = t)
theorem hasA_iff {t : Ang} {x : Pr} : hasA t x = true ↔ x.1 = t ∨ x.2.1 = t := by simp [hasA]
/-- The pair of an angle of period `n`: there is one, and it is the only one. -/
theorem pair_one {t : Ang} {n : Nat} (h : isP t n) (h2 : 2 ≤ n) : ∃ P, isPP P n ∧ P ∈ (NP n).map aP ∧ hasA t P = true ∧ ∀ x, x ∈ (UP n).map aP → hasA t x = true → x = P := by
  have h8 := h.le
  obtain ⟨N, hN, rfl⟩ := isP_AN h
  obtain ⟨m, rfl⟩ : ∃ m, n = m + 2 := ⟨n - 2, by omega⟩
  obtain ⟨u1, u2, u3⟩ := UP_new h8
  have hmem : N ∈ (NP (m + 2)).flatMap fun p => [p.1, p.2] := u3.mem_iff.2 hN
  obtain ⟨p, hp, hpN⟩ := List.mem_flatMap.1 hmem
  have hpN' : p.1 = N ∨ p.2 = N := by
    rcases List.mem_cons.1 hpN with e | e
    · exact .inl e.symm
    · exact .inr (List.mem_singleton.1 e).symm
  have hnd : ((NP (m + 2)).flatMap fun p => [p.1, p.2]).Nodup := u3.nodup_iff.2 ((AN_sorted (by omega) h8).imp (fun hab => Nat.ne_of_lt hab))
  obtain ⟨a1, a2, a3⟩ := NP_mem (by omega) h8 hp
  have hoN := okN_AN (by omega) h8 hN
  refine ⟨aP p, ⟨⟨a3.1.2.1, period_AN (by omega) h8 a1, by omega⟩, ⟨a3.2.1.2.1, period_AN (by omega) h8 a2, by omega⟩⟩, List.mem_map.2 ⟨p, hp, rfl⟩, ?_, ?_⟩
  · rw [hasA_iff]
    rcases hpN' with e | e
    · left; show aN p.1 = aN N; rw [e]
    · right; show aN p.2 = aN N; rw [e]
  · intro x hx hax
    obtain ⟨q, hq, rfl⟩ := List.mem_map.1 hx
    obtain ⟨k, k1, k2, k3, k4, k5, k6⟩ := UP_period h8 hq
    have hper : pg (aN N) = m + 2 := h.per
    have hqN : q.1 = N ∨ q.2 = N := by
      rcases hasA_iff.1 hax with e | e
      · left; exact aN_inj k6.1 hoN e
      · right; exact aN_inj k6.2.1 hoN e
    have hk : k = m + 2 := by
      rcases hqN with e | e
      · rw [e] at k4; omega
      · rw [e] at k5; omega
    subst hk
    rw [flat_uniq hnd k3 hp hqN hpN']
theorem spec_pair {t : Ang} {n : Nat} (h : isP t n) (h2 : 2 ≤ n) : ∃ P, isPP P n ∧ spec_l04Pair t = some P ∧ ∀ x, x ∈ (UP n).map aP → hasA t x = true → x = P := by
  have h8 := h.le
  obtain ⟨P, hP, hPm, hPt, huniq⟩ := pair_one h h2
  refine ⟨P, hP, ?_, huniq⟩
  have hPU : P ∈ (UP n).map aP := by
    obtain ⟨p, hp, rfl⟩ := List.mem_map.1 hPm
    exact List.mem_map.2 ⟨p, (UP_mem h8 p).2 ⟨n, h2, by omega, hp⟩, rfl⟩
  have hps : ps t = n := by
    have := ps_pg h.isA
    rw [h.per] at this
    split at this <;> omega
  have hlen : ((UP n).map aP).length ≤ 2040 := by
    rw [List.length_map]
    have := (UP_ok h8).2
    omega
  unfold spec_l04Pair
  rw [spec_period h.isA, hps]
  simp only [Option.bind_some]
  rw [spec_upTo h8]
  simp only [Option.bind_some]
  generalize hL : (UP n).map aP = L at *
  rcases loop_find (step := spec_l04Pair_l0) (fun i => (t, dP, L, (i : Int), L, ())) L.length (.inr (dP, ())) (fun i => if hasA t (L.getD i dP) = true then some (.inl (L.getD i dP, ())) else none) (fun i hi => by
      have hw : w64 ((i : Int) + 1) = ((i + 1 : Nat) : Int) := w64_succ (by omega)
      simp only [spec_l04Pair_l0, ltb hi, cond_true, Int.toNat_natCast, hw, nn0 i, Bool.and_self]
      rw [beqA, beqA]
      unfold hasA
      by_cases q1 : (L.getD i dP).1 = t
      · rw [decide_eq_true q1]; rfl
      · rw [decide_eq_false q1]
        by_cases q2 : (L.getD i dP).2.1 = t
        · rw [decide_eq_true q2]; rfl
        · rw [decide_eq_false q2]; rfl) (by
      simp only [spec_l04Pair_l0, nltb (Nat.lt_irrefl _), cond_false]) 0 (by omega) with ⟨g1, g2⟩ | ⟨j, c, _, g2, g3, g4, g5⟩
  · obtain ⟨i, hi, hiP⟩ := List.mem_iff_getElem.1 hPU
    have := g2 i (by omega) hi
    rw [getD_at hi, hiP, if_pos hPt] at this
    cases this
  · have e : loop spec_l04Pair_l0 (t, dP, L, (0 : Int), L, ()) = _ := g4
    rw [e]
    split at g3
    · rename_i hj
      simp only [Option.some.injEq] at g3
      subst g3
      simp only [Option.bind_some, alt]
      congr 1
      exact huniq _ (by rw [getD_at g2]; exact List.getElem_mem g2) hj
    · cases g3
theorem impl_pair {t : Ang} {n : Nat} (h : isP t n) (h2 : 2 ≤ n) {P : Pr} (huniq : ∀ x, x ∈ (UP n).map aP → hasA t x = true → x = P) : impl_PairOf t = some (P, 0) := by
  have h8 := h.le
  have hInA : InA t := by
    obtain ⟨q1, q2, q3, q4, _⟩ := h.isA
    exact ⟨⟨by omega, by omega⟩, ⟨by omega, by omega⟩⟩
  obtain ⟨P', hP', hPm, hPt, _⟩ := pair_one h h2
  obtain ⟨y1, y2, y3⟩ := YS_ok h2 h8
  have hYl := YS_len h2 h8
  have hsub : ∀ x, x ∈ YS n → x ∈ (UP n).map aP := fun x hx => by
    obtain ⟨p, hp, rfl⟩ := List.mem_map.1 (y2.subset hx)
    exact List.mem_map.2 ⟨p, (UP_mem h8 p).2 ⟨n, h2, by omega, hp⟩, rfl⟩
  have hPY : P' ∈ YS n := y2.mem_iff.2 hPm
  unfold impl_PairOf
  rw [impl_code (L := [t]) (by simpa using hInA) (by simp), if_pos (by simpa using h.isA)]
  have e0 : ((0 : Int) != 0) = false := rfl
  have d1 : decide ((2 : Int) ≤ (n : Int) ∧ (n : Int) ≤ 8) = true := decide_eq_true (by omega)
  simp only [Option.bind_some, e0, cond_false, impl_period h.isA, h.per, impl_isPeriod, impl_in, d1, Bool.not_true, y1]
  generalize YS n = L at *
  have hidx : slices_IndexFunc__impl_RayPair_impl_RayPair_v3 L t = some (match L.findIdx? (hasA t) with | some k => (k : Int) | none => -1) := by
    unfold slices_IndexFunc__impl_RayPair_impl_RayPair_v3
    have := loop_fidx (step := slices_IndexFunc__impl_RayPair_impl_RayPair_v3_l0) (fun i => (L, (), (t, ()), ((L.length : Nat) : Int), (i : Int), ())) L dP (hasA t) (fun i => ((i : Int), ())) (fun i hi => by
      have hw : w64 ((i : Int) + 1) = ((i + 1 : Nat) : Int) := w64_succ (by omega)
      have hf : impl_PairOf_f1 (L.getD i dP) t = some (hasA t (L.getD i dP)) := by
        unfold impl_PairOf_f1 hasA
        rw [beqA, beqA]
        cases decide ((L.getD i dP).1 = t) <;> rfl
      simp only [slices_IndexFunc__impl_RayPair_impl_RayPair_v3_l0, ltb hi, cond_true, inb hi, Int.toNat_natCast, hf, Option.bind_some, hw, nn0 i, Bool.and_true, Bool.true_and]
      cases hasA t (L.getD i dP) <;> rfl) (by
      simp only [slices_IndexFunc__impl_RayPair_impl_RayPair_v3_l0, nltb (Nat.lt_irrefl _), cond_false])
    have e : loop slices_IndexFunc__impl_RayPair_impl_RayPair_v3_l0 (L, (), (t, ()), ((L.length : Nat) : Int), (0 : Int), ()) = _ := this
    rw [e]
    cases L.findIdx? (hasA t) <;> rfl
  rw [hidx]
  cases hk : L.findIdx? (hasA t) with
  | none =>
    have := List.findIdx?_eq_none_iff.1 hk P' hPY
    rw [hPt] at this; cases this
  | some k =>
    obtain ⟨hkl, hk1, _⟩ := List.findIdx?_eq_some_iff_getElem.1 hk
    simp only [Option.bind_some, inb hkl, cond_true, Int.toNat_natCast]
    have : L.getD k dP = P := huniq _ (hsub _ (by rw [getD_at hkl]; exact List.getElem_mem hkl)) (by rw [getD_at hkl]; exact hk1)
    rw [this]
end Go.K.Pure

/- Plain laws of ray pairs, part T: the canonical form of a sequence. -/
set_option linter.all false
namespace Go.K.Pure
open Classical
theorem take_getD {w : List UInt8} {k i : Nat} (h : i < k) : (w.take k).getD i 0 = w.getD i 0 := by
  rw [List.getD_eq_getElem?_getD, List.getElem?_take, if_pos h, ← List.getD_eq_getElem?_getD]
theorem ext_getD {u v : List UInt8} (hl : u.length = v.length) (h : ∀ i, i < u.length → u.getD i 0 = v.getD i 0) : u = v := by
  refine List.ext_getElem hl fun i h1 h2 => ?_
  have := h i h1
  rw [getD_at h1, getD_at h2] at this
  exact this
theorem rep_iff {w : List UInt8} {k : Nat} (h1 : 1 ≤ k) (hk : k ≤ w.length) (hd : k ∣ w.length) : Lib.repeatL (w.take k) (w.length / k) = w ↔ ∀ i, k ≤ i → i < w.length → w.getD i 0 = w.getD (i - k) 0 := by
  have hl : (w.take k).length = k := by rw [List.length_take]; omega
  have hmul := Nat.div_mul_cancel hd
  have at' : ∀ i, i < w.length → (Lib.repeatL (w.take k) (w.length / k)).getD i 0 = w.getD (i % k) 0 := fun i hi => by
    rw [repeatL_at _ _ _ (by rw [hl, hmul]; exact hi), hl, take_getD (Nat.mod_lt _ (by omega))]
  constructor
  · intro he i hi hiw
    have e1 := at' i hiw
    have e2 := at' (i - k) (by omega)
    rw [he] at e1 e2
    rw [e1, e2, Nat.mod_eq_sub_mod hi]
  · intro h
    have key : ∀ n i, i ≤ n → i < w.length → w.getD i 0 = w.getD (i % k) 0 := by
      intro n
      induction n with
      | zero => intro i hi hiw; have : i = 0 := by omega
                subst this; rw [Nat.zero_mod]
      | succ n ih =>
        intro i hi hiw
        by_cases hik : i < k
        · rw [Nat.mod_eq_of_lt hik]
        · rw [h i (by omega) hiw, ih (i - k) (by omega) (by omega), ← Nat.mod_eq_sub_mod (by omega)]
    refine ext_getD (by rw [Lib.repeatL_length, hl, hmul]) fun i hi => ?_
    rw [Lib.repeatL_length, hl, hmul] at hi
    rw [at' i hi, ← key i i (Nat.le_refl _) hi]
/-- A word's shortest root. -/
theorem root_min {w : List UInt8} (h0 : 0 < w.length) (hl : w.length ≤ 100000) : ∃ n, 1 ≤ n ∧ n ≤ w.length ∧ n ∣ w.length ∧ Lib.repeatL (w.take n) (w.length / n) = w ∧ impl_root w = some (w.take n) ∧ ∀ j, 1 ≤ j → j < n → ¬ (j ∣ w.length ∧ Lib.repeatL (w.take j) (w.length / j) = w) := by
  have key : ∀ k n, w.length - n = k → 1 ≤ n → n ≤ w.length → ∃ m, n ≤ m ∧ m ≤ w.length ∧ m ∣ w.length ∧ Lib.repeatL (w.take m) (w.length / m) = w ∧ loop impl_root_l0 (w, (n : Int), ()) = some (w, (m : Int), ()) ∧ ∀ j, n ≤ j → j < m → ¬ (j ∣ w.length ∧ Lib.repeatL (w.take j) (w.length / j) = w) := by
    intro k
    induction k with
    | zero =>
      intro n hk h1 h2
      have hn : n = w.length := by omega
      subst hn
      refine ⟨w.length, by omega, by omega, Nat.dvd_refl _, by rw [Nat.div_self h0, Lib.repeatL_one]; simp, ?_, fun j j1 j2 => by omega⟩
      have hb : ((w.length : Int) == 0) = false := by simp only [beq_eq_false_iff_ne, ne_eq]; omega
      have hc : (((decide ((0 : Int) ≤ (0 : Int))) && (decide ((0 : Int) ≤ (w.length : Int)))) && (decide ((w.length : Int) ≤ ((w.length : Nat) : Int)))) = true := by simp
      have hr : strings_Repeat ((w.take w.length).drop 0) (w64 ((w.length : Int).tdiv (w.length : Int))) = some w := by
        rw [tdiv_nat, Nat.div_self h0]
        unfold strings_Repeat repeatOf
        have e1 : w64 ((1 : Nat) : Int) = 1 := rfl
        rw [e1]
        have e2 : (decide ((0 : Int) ≤ 1) && decide ((1 : Int) ≤ 9223372036854775807) && decide (((w.take w.length).drop 0).length * (1 : Int).toNat ≤ 140737488355328)) = true := by
          have t1 : (1 : Int).toNat = 1 := rfl
          have t2 : ((w.take w.length).drop 0).length = w.length := by simp
          rw [t1, t2]
          simp only [Bool.and_eq_true, decide_eq_true_eq]
          omega
        rw [e2, cond_true]
        have e3 : (1 : Int).toNat = 1 := rfl
        rw [e3, Lib.repeatL_one]; simp
      rw [loop_eq]
      simp only [impl_root_l0, hb, Bool.not_false, cond_true, tmod_nat, Nat.mod_self, hc, Int.toNat_natCast]
      have e0 : (((0 : Nat) : Int) != 0) = false := rfl
      simp only [e0, cond_false]
      have hr' : strings_Repeat ((w.take w.length).drop (0 : Int).toNat) (w64 ((w.length : Int).tdiv (w.length : Int))) = some w := hr
      rw [hr']
      simp
    | succ k ih =>
      intro n hk h1 h2
      have hb : ((n : Int) == 0) = false := by simp only [beq_eq_false_iff_ne, ne_eq]; omega
      have hw : w64 ((n : Int) + 1) = ((n + 1 : Nat) : Int) := w64_succ (by omega)
      obtain ⟨m, m1, m2, m3, m4, m5, m6⟩ := ih (n + 1) (by omega) (by omega) (by omega)
      by_cases hd : n ∣ w.length
      · have hm0 : w.length % n = 0 := Nat.mod_eq_zero_of_dvd hd
        have hc : (((decide ((0 : Int) ≤ (0 : Int))) && (decide ((0 : Int) ≤ (n : Int)))) && (decide ((n : Int) ≤ ((w.length : Nat) : Int)))) = true := by simp; omega
        have hln : ((w.take n).drop (0 : Int).toNat).length = n := by simp; omega
        have hr : strings_Repeat ((w.take n).drop (0 : Int).toNat) (w64 ((w.length : Int).tdiv (n : Int))) = some (Lib.repeatL (w.take n) (w.length / n)) := by
          have hdl : w.length / n ≤ w.length := Nat.div_le_self _ _
          have hmul := Nat.mul_div_cancel' hd
          rw [tdiv_nat]
          generalize w.length / n = q at *
          rw [w64_id (by omega) (by omega)]
          unfold strings_Repeat repeatOf
          have e2 : (decide ((0 : Int) ≤ (q : Int)) && decide ((q : Int) ≤ 9223372036854775807) && decide (((w.take n).drop (0 : Int).toNat).length * (q : Int).toNat ≤ 140737488355328)) = true := by
            rw [hln, Int.toNat_natCast, hmul]
            simp only [Bool.and_eq_true, decide_eq_true_eq]
            omega
          rw [e2, cond_true, Int.toNat_natCast]
          rfl
        have e0 : ((((w.length % n : Nat) : Int)) != 0) = false := by rw [hm0]; rfl
        by_cases he : Lib.repeatL (w.take n) (w.length / n) = w
        · refine ⟨n, by omega, h2, hd, he, ?_, fun j j1 j2 => by omega⟩
          rw [loop_eq]
          simp only [impl_root_l0, hb, Bool.not_false, cond_true, tmod_nat, hc, Int.toNat_natCast, e0, cond_false]
          rw [hr, he]
          simp
        · refine ⟨m, by omega, m2, m3, m4, ?_, fun j j1 j2 hj => by
            by_cases e : j = n
            · rw [e] at hj; exact he hj.2
            · exact m6 j (by omega) j2 hj⟩
          have hbe : (Lib.repeatL (w.take n) (w.length / n) == w) = false := by simpa using he
          rw [loop_eq]
          simp only [impl_root_l0, hb, Bool.not_false, cond_true, tmod_nat, hc, Int.toNat_natCast, e0, cond_false]
          rw [hr]
          simp only [Option.bind_some, hbe, Bool.not_false, cond_true, hw]
          exact m5
      · refine ⟨m, by omega, m2, m3, m4, ?_, fun j j1 j2 hj => by
          by_cases e : j = n
          · rw [e] at hj; exact hd hj.1
          · exact m6 j (by omega) j2 hj⟩
        have e0 : ((((w.length % n : Nat) : Int)) != 0) = true := by
          have : w.length % n ≠ 0 := fun e => hd (Nat.dvd_of_mod_eq_zero e)
          simp only [bne_iff_ne, ne_eq]; omega
        rw [loop_eq]
        simp only [impl_root_l0, hb, Bool.not_false, cond_true, tmod_nat, e0, hw]
        exact m5
  obtain ⟨m, m1, m2, m3, m4, m5, m6⟩ := key _ 1 rfl (by omega) (by omega)
  refine ⟨m, m1, m2, m3, m4, ?_, m6⟩
  unfold impl_root
  have m5' : loop impl_root_l0 (w, (1 : Int), ()) = _ := m5
  rw [m5']
  have hc : (((decide ((0 : Int) ≤ (0 : Int))) && (decide ((0 : Int) ≤ (m : Int)))) && (decide ((m : Int) ≤ ((w.length : Nat) : Int)))) = true := by simp; omega
  simp only [Option.bind_some, hc, cond_true, Int.toNat_natCast]
  rfl
theorem canon_in {pre per : List UInt8} {t : Sq} {k : Nat} (h1 : 1 ≤ k) (hk : k ≤ per.length) (l2 : per.length ≤ 100000) :
    loop spec_l01Canonical_l1 (pre, per, t, (per.length : Int), (k : Int), true, (k : Int), ()) = some (pre, per, t, (per.length : Int), (k : Int), decide (∀ i, k ≤ i → i < per.length → per.getD i 0 = per.getD (i - k) 0), ()) := by
  have := loop_count (step := spec_l01Canonical_l1) (fun j => (pre, per, t, (per.length : Int), (k : Int), decide (∀ i, k ≤ i → i < k + j → per.getD i 0 = per.getD (i - k) 0), ((k + j : Nat) : Int), ())) (per.length - k) (pre, per, t, (per.length : Int), (k : Int), decide (∀ i, k ≤ i → i < per.length → per.getD i 0 = per.getD (i - k) 0), ()) (fun j hj => by
    have hi : k + j < per.length := by omega
    have hw : w64 (((k + j : Nat) : Int) + 1) = ((k + (j + 1) : Nat) : Int) := w64_succ (by omega)
    have hw2 : w64 (((k + j : Nat) : Int) - (k : Int)) = ((j : Nat) : Int) := by rw [w64_id (by omega) (by omega)]; omega
    have hj2 : j < per.length := by omega
    have hc : ((((per.getD (k + j) 0).toNat : Nat) : Int) == (((per.getD j 0).toNat : Nat) : Int)) = decide (per.getD (k + j) 0 = per.getD j 0) := by
      by_cases e : per.getD (k + j) 0 = per.getD j 0
      · rw [e]; simp
      · rw [decide_eq_false e]
        simp only [beq_eq_false_iff_ne, ne_eq, Int.natCast_inj]
        exact fun h => e (UInt8.toNat_inj.1 h)
    by_cases hs : ∀ i, k ≤ i → i < k + j → per.getD i 0 = per.getD (i - k) 0
    · have e : decide (per.getD (k + j) 0 = per.getD j 0) = decide (∀ i, k ≤ i → i < k + (j + 1) → per.getD i 0 = per.getD (i - k) 0) := by
        refine decide_eq_decide.2 ⟨fun h i h1 h2 => ?_, fun h => ?_⟩
        · by_cases hi' : i = k + j
          · rw [hi', Nat.add_sub_cancel_left]; exact h
          · exact hs i h1 (by omega)
        · have := h (k + j) (by omega) (by omega)
          rw [Nat.add_sub_cancel_left] at this; exact this
      rw [decide_eq_true hs]
      simp only [spec_l01Canonical_l1, ltb hi, cond_true, nn0, Bool.and_self, hw2, ltb hj2, Int.toNat_natCast, hc, hw, e]
    · have e : decide (∀ i, k ≤ i → i < k + (j + 1) → per.getD i 0 = per.getD (i - k) 0) = false := decide_eq_false (fun h => hs (fun i h1 h2 => h i h1 (by omega)))
      rw [decide_eq_false hs]
      simp only [spec_l01Canonical_l1, ltb hi, cond_true, cond_false, hw, e]) (by
    have hn : k + (per.length - k) = per.length := by omega
    simp only [hn, spec_l01Canonical_l1, nltb (Nat.lt_irrefl _), cond_false]) 0 (by omega)
  have e : decide (∀ i, k ≤ i → i < k → per.getD i 0 = per.getD (i - k) 0) = true := decide_eq_true (fun i h1 h2 => by omega)
  simp only [Nat.add_zero] at this
  rw [e] at this
  exact this
theorem canon_l0 {pre per : List UInt8} {t : Sq} {n : Nat} (n1 : 1 ≤ n) (n2 : n ≤ per.length) (l2 : per.length ≤ 100000) (n3 : n ∣ per.length) (n4 : Lib.repeatL (per.take n) (per.length / n) = per) (n5 : ∀ j, 1 ≤ j → j < n → ¬ (j ∣ per.length ∧ Lib.repeatL (per.take j) (per.length / j) = per)) :
    loop spec_l01Canonical_l0 (pre, per, t, (per.length : Int), (1 : Int), ()) = some (pre, per.take n, t, ()) := by
  have key : ∀ f k, n - k = f → 1 ≤ k → k ≤ n → loop spec_l01Canonical_l0 (pre, per, t, (per.length : Int), (k : Int), ()) = some (pre, per.take n, t, ()) := by
    intro f
    induction f with
    | zero =>
      intro k hk k1 k2
      have : k = n := by omega
      subst this
      have hc : decide ((k : Int) ≤ (per.length : Int)) = true := decide_eq_true (by omega)
      have hb : ((k : Int) == 0) = false := by simp only [beq_eq_false_iff_ne, ne_eq]; omega
      have hm : ((((per.length % k : Nat) : Int)) != 0) = false := by rw [Nat.mod_eq_zero_of_dvd n3]; rfl
      have hi : (((decide ((0 : Int) ≤ (0 : Int))) && (decide ((0 : Int) ≤ (k : Int)))) && (decide ((k : Int) ≤ ((per.length : Nat) : Int)))) = true := by
        simp only [Bool.and_eq_true, decide_eq_true_eq]; omega
      have hd : decide (∀ i, k ≤ i → i < per.length → per.getD i 0 = per.getD (i - k) 0) = true := decide_eq_true ((rep_iff k1 n2 n3).1 n4)
      rw [loop_eq]
      simp only [spec_l01Canonical_l0, hc, cond_true, hb, Bool.not_false, tmod_nat, hm, cond_false, canon_in k1 n2 l2, Option.bind_some, hd, hi, Int.toNat_natCast]
      rfl
    | succ f ih =>
      intro k hk k1 k2
      have hc : decide ((k : Int) ≤ (per.length : Int)) = true := decide_eq_true (by omega)
      have hb : ((k : Int) == 0) = false := by simp only [beq_eq_false_iff_ne, ne_eq]; omega
      have hw : w64 ((k : Int) + 1) = ((k + 1 : Nat) : Int) := w64_succ (by omega)
      have hn := ih (k + 1) (by omega) (by omega) (by omega)
      by_cases hd : k ∣ per.length
      · have hm : ((((per.length % k : Nat) : Int)) != 0) = false := by rw [Nat.mod_eq_zero_of_dvd hd]; rfl
        have hf : decide (∀ i, k ≤ i → i < per.length → per.getD i 0 = per.getD (i - k) 0) = false := decide_eq_false (fun h => n5 k k1 (by omega) ⟨hd, (rep_iff k1 (by omega) hd).2 h⟩)
        rw [loop_eq]
        simp only [spec_l01Canonical_l0, hc, cond_true, hb, Bool.not_false, tmod_nat, hm, cond_false, canon_in k1 (by omega : k ≤ per.length) l2, Option.bind_some, hf, hw, hn]
      · have hm : ((((per.length % k : Nat) : Int)) != 0) = true := by
          have : per.length % k ≠ 0 := fun e => hd (Nat.dvd_of_mod_eq_zero e)
          simp only [bne_iff_ne, ne_eq]; omega
        rw [loop_eq]
        simp only [spec_l01Canonical_l0, hc, cond_true, hb, Bool.not_false, tmod_nat, hm, hw, hn]
  exact key _ 1 rfl (by omega) n1
theorem canon_step {pre per : List UInt8} {t : Sq} (hp : 0 < pre.length) (hq : 0 < per.length) (l1 : pre.length ≤ 100000) (l2 : per.length ≤ 100000) :
    spec_l01Canonical_l2 (pre, per, t, ()) = if (pre.getD (pre.length - 1) 0).toNat = (per.getD (per.length - 1) 0).toNat then some (.next (pre.take (pre.length - 1), per.drop (per.length - 1) ++ per.take (per.length - 1), t, ())) else some (.stop (pre, per, t, ())) := by
  have hne : decide (((pre.length : Nat) : Int) > (0 : Int)) = true := decide_eq_true (by omega)
  have w1 := w64_pred2 hp (by omega)
  have w2 := w64_pred2 hq (by omega)
  have i1 : ((decide ((0 : Int) ≤ ((pre.length - 1 : Nat) : Int))) && (decide (((pre.length - 1 : Nat) : Int) < ((pre.length : Nat) : Int)))) = true := inb (by omega)
  have i2 : ((decide ((0 : Int) ≤ ((per.length - 1 : Nat) : Int))) && (decide (((per.length - 1 : Nat) : Int) < ((per.length : Nat) : Int)))) = true := inb (by omega)
  have i3 : (((decide ((0 : Int) ≤ (0 : Int))) && (decide ((0 : Int) ≤ ((pre.length - 1 : Nat) : Int)))) && (decide (((pre.length - 1 : Nat) : Int) ≤ ((pre.length : Nat) : Int)))) = true := by
    simp only [Bool.and_eq_true, decide_eq_true_eq]; omega
  have i4 : (((decide ((0 : Int) ≤ ((per.length - 1 : Nat) : Int))) && (decide (((per.length - 1 : Nat) : Int) ≤ ((per.length : Nat) : Int)))) && (decide (((per.length : Nat) : Int) ≤ ((per.length : Nat) : Int)))) = true := by
    simp only [Bool.and_eq_true, decide_eq_true_eq]; omega
  have i5 : (((decide ((0 : Int) ≤ (0 : Int))) && (decide ((0 : Int) ≤ ((per.length - 1 : Nat) : Int)))) && (decide (((per.length - 1 : Nat) : Int) ≤ ((per.length : Nat) : Int)))) = true := by
    simp only [Bool.and_eq_true, decide_eq_true_eq]; omega
  have t1 : per.take per.length = per := List.take_of_length_le (Nat.le_refl _)
  have d0 : ∀ l : List UInt8, l.drop (0 : Int).toNat = l := fun l => rfl
  have i6 : decide ((per.drop (per.length - 1)).length + (per.take (per.length - 1)).length ≤ 1152921504606846976) = true := decide_eq_true (by simp; omega)
  simp only [spec_l01Canonical_l2, hne, Bool.not_false, cond_true, w1, w2, i1, i2, i3, i4, i5, Int.toNat_natCast, t1, d0, i6]
  by_cases h : (pre.getD (pre.length - 1) 0).toNat = (per.getD (per.length - 1) 0).toNat
  · rw [if_pos h, h]; simp
  · rw [if_neg h]
    have : (((((pre.getD (pre.length - 1) 0).toNat : Nat) : Int)) == (((per.getD (per.length - 1) 0).toNat : Nat) : Int)) = false := by
      simp only [beq_eq_false_iff_ne, ne_eq, Int.natCast_inj]; exact h
    rw [this]; rfl
theorem canon_nil {per : List UInt8} {t : Sq} : spec_l01Canonical_l2 ([], per, t, ()) = some (.stop ([], per, t, ())) := by
  simp [spec_l01Canonical_l2]
/-- The word with its last letter put first. -/
def rot (w : List UInt8) : List UInt8 := w.drop (w.length - 1) ++ w.take (w.length - 1)
theorem rot_len (w : List UInt8) : (rot w).length = w.length := by simp [rot]
theorem rot_at {w : List UInt8} (h : 0 < w.length) (i : Nat) (hi : i < w.length) : (rot w).getD i 0 = if i = 0 then w.getD (w.length - 1) 0 else w.getD (i - 1) 0 := by
  unfold rot
  by_cases h0 : i = 0
  · rw [if_pos h0, h0, List.getD_eq_getElem?_getD, List.getElem?_append_left (by simp; omega), List.getElem?_drop, List.getD_eq_getElem?_getD]; rfl
  · have hl : (w.drop (w.length - 1)).length = 1 := by simp; omega
    rw [if_neg h0, List.getD_eq_getElem?_getD, List.getElem?_append_right (by omega), hl, List.getElem?_take, if_pos (by omega), List.getD_eq_getElem?_getD]
def prim (w : List UInt8) : Prop := ∀ j, 1 ≤ j → j < w.length → ¬ (j ∣ w.length ∧ Lib.repeatL (w.take j) (w.length / j) = w)
theorem rot_prim {w : List UInt8} (h : 0 < w.length) (hp : prim w) : prim (rot w) := by
  intro j j1 j2 ⟨j3, j4⟩
  rw [rot_len] at j2 j3
  have hr := (rep_iff (w := rot w) j1 (by rw [rot_len]; omega) (by rw [rot_len]; exact j3)).1 j4
  rw [rot_len] at hr
  refine hp j j1 j2 ⟨j3, (rep_iff j1 (by omega) j3).2 ?_⟩
  have hs : ∀ m, j ≤ m → m < w.length - 1 → w.getD m 0 = w.getD (m - j) 0 := fun m m1 m2 => by
    have := hr (m + 1) (by omega) (by omega)
    rw [rot_at h _ (by omega), rot_at h _ (by omega), if_neg (by omega), if_neg (by omega)] at this
    rw [Nat.add_sub_cancel] at this
    rw [this]; congr 1; omega
  have hm : ∀ n m, m ≤ n → m < w.length - 1 → w.getD m 0 = w.getD (m % j) 0 := by
    intro n
    induction n with
    | zero => intro m m1 m2; have : m = 0 := by omega
              subst this; rw [Nat.zero_mod]
    | succ n ih =>
      intro m m1 m2
      by_cases hmj : m < j
      · rw [Nat.mod_eq_of_lt hmj]
      · rw [hs m (by omega) m2, ih (m - j) (by omega) (by omega), ← Nat.mod_eq_sub_mod (by omega)]
  intro m m1 m2
  by_cases hl : m < w.length - 1
  · exact hs m m1 hl
  · have e : m = w.length - 1 := by omega
    have h0 := hr j (Nat.le_refl _) j2
    rw [rot_at h _ j2, rot_at h _ (by omega), if_neg (by omega), if_pos (by omega)] at h0
    obtain ⟨q, hq⟩ := j3
    have hq2 : 2 ≤ q := by
      rcases Nat.lt_or_ge q 2 with h' | h'
      · have : q = 0 ∨ q = 1 := by omega
        rcases this with e | e <;> rw [e] at hq <;> omega
      · exact h'
    have hmod : (m - j) % j = j - 1 := by
      obtain ⟨r, rfl⟩ : ∃ r, q = r + 2 := ⟨q - 2, by omega⟩
      have : m - j = j - 1 + j * r := by rw [e, hq, Nat.mul_add]; omega
      rw [this, Nat.add_mul_mod_self_left, Nat.mod_eq_of_lt (by omega)]
    rw [hm _ (m - j) (Nat.le_refl _) (by omega), hmod, h0, e]
/-- A sequence told in the one way. -/
structure canon (s : Sq) : Prop where
  per : 0 < s.2.1.length
  prim : prim s.2.1
  last : 0 < s.1.length → s.1.getD (s.1.length - 1) 0 ≠ s.2.1.getD (s.2.1.length - 1) 0
theorem rot_mem {w : List UInt8} {c : UInt8} : c ∈ rot w ↔ c ∈ w := by
  unfold rot
  rw [List.mem_append, or_comm, ← List.mem_append, List.take_append_drop]
theorem seq_canon {t : Sq} : ∀ (k : Nat) (pre per : List UInt8), pre.length = k → 0 < per.length → prim per → pre.length ≤ 100000 → per.length ≤ 100000 → ∃ a b, loop impl_sequence_l0 (pre, per, t, ()) = some (a, b, t, ()) ∧ loop spec_l01Canonical_l2 (pre, per, t, ()) = some (a, b, t, ()) ∧ canon (a, b, ()) ∧ a.length ≤ pre.length ∧ b.length = per.length ∧ (∀ c ∈ a, c ∈ pre) ∧ ∀ c ∈ b, c ∈ per
  | 0, pre, per, hk, hq, hr, l1, l2 => by
    have : pre = [] := List.length_eq_zero_iff.1 hk
    subst this
    exact ⟨[], per, by rw [loop_eq, seq_nil], by rw [loop_eq, canon_nil], ⟨hq, hr, fun h => absurd h (by simp)⟩, Nat.le_refl _, rfl, fun c h => h, fun c h => h⟩
  | k + 1, pre, per, hk, hq, hr, l1, l2 => by
    rw [loop_eq, loop_eq, seq_step (by omega) hq l1 l2, canon_step (by omega) hq l1 l2]
    by_cases h : (pre.getD (pre.length - 1) 0).toNat = (per.getD (per.length - 1) 0).toNat
    · rw [if_pos h]
      obtain ⟨a, b, h1, h2, h3, h4, h5, h6, h7⟩ := seq_canon (t := t) k (pre.take (pre.length - 1)) (rot per) (by simp; omega) (by rw [rot_len]; omega) (rot_prim hq hr) (by simp; omega) (by rw [rot_len]; omega)
      exact ⟨a, b, h1, h2, h3, by simp at h4; omega, by rw [h5, rot_len], fun c hc => List.mem_of_mem_take (h6 c hc), fun c hc => rot_mem.1 (h7 c hc)⟩
    · rw [if_neg h]
      exact ⟨_, _, rfl, rfl, ⟨hq, hr, fun _ e => h (by rw [e])⟩, Nat.le_refl _, rfl, fun c h => h, fun c h => h⟩
theorem canon_ok {pre per : List UInt8} (hq : 0 < per.length) (l1 : pre.length ≤ 100000) (l2 : per.length ≤ 100000) : ∃ s : Sq, impl_sequence pre per = some s ∧ spec_l01Canonical pre per = some s ∧ canon s ∧ s.1.length ≤ pre.length ∧ s.2.1.length ≤ per.length ∧ (∀ c ∈ s.1, c ∈ pre) ∧ ∀ c ∈ s.2.1, c ∈ per := by
  obtain ⟨n, n1, n2, n3, n4, n5, n6⟩ := root_min hq l2
  have hl : (per.take n).length = n := by rw [List.length_take]; omega
  have hpr : prim (per.take n) := by
    intro j j1 j2 ⟨j3, j4⟩
    rw [hl] at j2 j3 j4
    refine n6 j j1 j2 ⟨Nat.dvd_trans j3 n3, (rep_iff j1 (by omega) (Nat.dvd_trans j3 n3)).2 ?_⟩
    have r1 := (rep_iff n1 n2 n3).1 n4
    have r2 := (rep_iff (w := per.take n) j1 (by omega) (by rw [hl]; exact j3)).1 (by rw [hl]; exact j4)
    rw [hl] at r2
    have key : ∀ m i, i ≤ m → j ≤ i → i < per.length → per.getD i 0 = per.getD (i - j) 0 := by
      intro m
      induction m with
      | zero => intro i i1 i2 i3; omega
      | succ m ih =>
        intro i i1 i2 i3
        by_cases hi : i < n
        · have := r2 i i2 hi
          rwa [take_getD hi, take_getD (by omega)] at this
        · rw [r1 i (by omega) i3]
          by_cases hij : j ≤ i - n
          · rw [ih (i - n) (by omega) hij (by omega), show i - n - j = i - j - n by omega]
            by_cases hn : n ≤ i - j
            · exact (r1 (i - j) hn (by omega)).symm
            · omega
          · have e1 : i - j < n := by omega
            obtain ⟨q, hq⟩ := j3
            have hmm : ∀ f x, x ≤ f → x < n → per.getD x 0 = per.getD (x % j) 0 := by
              intro f
              induction f with
              | zero => intro x x1 x2; have : x = 0 := by omega
                        subst this; rw [Nat.zero_mod]
              | succ f ih2 =>
                intro x x1 x2
                by_cases hxj : x < j
                · rw [Nat.mod_eq_of_lt hxj]
                · have := r2 x (by omega) x2
                  rw [take_getD x2, take_getD (by omega)] at this
                  rw [this, ih2 (x - j) (by omega) (by omega), ← Nat.mod_eq_sub_mod (by omega)]
            rw [hmm _ (i - j) (Nat.le_refl _) e1]
            have e2 : (i - j) % j = i - n := by
              obtain ⟨q', rfl⟩ : ∃ q', q = q' + 1 := ⟨q - 1, by
                rcases q with _ | q
                · omega
                · omega⟩
              have : i - j = (i - n) + j * q' := by rw [Nat.mul_succ] at hq; omega
              rw [this, Nat.add_mul_mod_self_left, Nat.mod_eq_of_lt (by omega)]
            rw [e2]
    exact fun i i1 i2 => key _ i (Nat.le_refl _) i1 i2
  obtain ⟨a, b, h1, h2, h3, h4, h5, h6, h7⟩ := seq_canon (t := (([] : List UInt8), ([] : List UInt8), ())) _ pre (per.take n) rfl (by omega) hpr l1 (by omega)
  refine ⟨(a, b, ()), ?_, ?_, h3, h4, by simp only [h5, hl]; exact n2, h6, fun c hc => List.mem_of_mem_take (h7 c hc)⟩
  · unfold impl_sequence
    rw [n5]; simp only [Option.bind_some]; rw [h1]; rfl
  · unfold spec_l01Canonical
    rw [canon_l0 n1 n2 l2 n3 n4 n6]; simp only [Option.bind_some]; rw [h2]; rfl
/-- A canonical sequence stays what it is. -/
theorem canon_self {s : Sq} (h : canon s) (l1 : s.1.length ≤ 100000) (l2 : s.2.1.length ≤ 100000) : impl_sequence s.1 s.2.1 = some s := by
  obtain ⟨n, n1, n2, n3, n4, n5, n6⟩ := root_min h.per l2
  have hn : n = s.2.1.length := by
    by_cases hlt : n < s.2.1.length
    · exact absurd ⟨n3, n4⟩ (h.prim n n1 hlt)
    · omega
  unfold impl_sequence
  rw [n5, List.take_of_length_le (by omega)]
  simp only [Option.bind_some]
  rw [loop_eq]
  by_cases hp : 0 < s.1.length
  · rw [seq_step hp h.per l1 l2, if_neg (fun e => h.last hp (UInt8.toNat_inj.1 e))]
    rfl
  · have : s.1 = [] := List.length_eq_zero_iff.1 (by omega)
    obtain ⟨a, b, u⟩ := s
    simp only at this
    subst this
    rw [seq_nil]; rfl
end Go.K.Pure

/- Plain laws of ray pairs, part U: the value of a sequence. -/
set_option linter.all false
namespace Go.K.Pure
open Classical
def bt (c : UInt8) : Nat := c.toNat - 48
def bv : List UInt8 → Nat
  | [] => 0
  | c :: w => bt c * 2 ^ w.length + bv w
def isB (w : List UInt8) : Prop := ∀ c ∈ w, c = 48 ∨ c = 49
theorem bt_0 : bt 48 = 0 := rfl
theorem bt_1 : bt 49 = 1 := rfl
theorem bv_app (u : List UInt8) : ∀ v, bv (u ++ v) = bv u * 2 ^ v.length + bv v := by
  induction u with
  | nil => intro v; simp [bv]
  | cons c u ih =>
    intro v
    show bt c * 2 ^ (u ++ v).length + bv (u ++ v) = (bt c * 2 ^ u.length + bv u) * 2 ^ v.length + bv v
    rw [ih, List.length_append, Nat.pow_add]
    grind
theorem bv_lt : ∀ {w : List UInt8}, isB w → bv w < 2 ^ w.length
  | [], _ => by simp [bv]
  | c :: w, h => by
    have h1 := bv_lt (w := w) (fun x hx => h x (List.mem_cons_of_mem _ hx))
    show bt c * 2 ^ w.length + bv w < 2 ^ (w.length + 1)
    rw [Nat.pow_succ]
    rcases h c (List.mem_cons_self ..) with e | e <;> rw [e]
    · rw [bt_0]; omega
    · rw [bt_1]; omega
theorem isB_app {u v : List UInt8} (hu : isB u) (hv : isB v) : isB (u ++ v) := fun c hc => (List.mem_append.1 hc).elim (hu c) (hv c)
theorem isB_tail {c : UInt8} {w : List UInt8} (h : isB (c :: w)) : isB w := fun x hx => h x (List.mem_cons_of_mem _ hx)
theorem isB_WD (a : Ang) (p : Nat) : isB (WD a p) := fun c hc => by
  unfold WD tab at hc
  obtain ⟨i, _, rfl⟩ := List.mem_map.1 hc
  rcases dgt_or (dblN a i) with e | e <;> simp [e]
theorem pow_pos2 (n : Nat) : (0 : Int) < 2 ^ n := Int.pow_pos (by decide)
/-- The value's parts. -/
def dV (u v : List UInt8) : Int := 2 ^ u.length * (2 ^ v.length - 1)
def nV (u v : List UInt8) : Int := (bv u : Int) * (2 ^ v.length - 1) + bv v
def isV (a : Ang) (u v : List UInt8) : Prop := val a * dV u v = nV u v * KK
def prop (v : List UInt8) : Prop := bv v + 1 < 2 ^ v.length
def Dg (a : Ang) (s : Sq) : Prop := ∀ k, dgt (dblN a k) = sAt s k
theorem dgt_KK {a : Ang} (h : isA a) : a.2.1 ≤ 2 * a.1 ↔ KK ≤ 2 * val a := by
  have h1 := KK_div h
  have h2 := kd_pos h
  have e : 2 * val a - KK = (2 * a.1 - a.2.1) * (KK / a.2.1) := by
    unfold val
    rw [Int.sub_mul, h1, Int.mul_assoc]
  constructor
  · intro hc
    have : 0 ≤ (2 * a.1 - a.2.1) * (KK / a.2.1) := Int.mul_nonneg (by omega) (by omega)
    omega
  · intro hc
    have h3 : 0 ≤ (2 * a.1 - a.2.1) * (KK / a.2.1) := by omega
    have := Int.nonneg_of_mul_nonneg_left h3 h2
    omega
/-- One digit. -/
theorem half {a : Ang} (h : isA a) {c : UInt8} (hc : c = 48 ∨ c = 49) {D N : Int} (hN : 0 ≤ N) (hD : N < D) (he : 2 * val a * D = ((bt c : Int) * D + N) * KK) : dgt a = c ∧ val (dbl a) * D = N * KK := by
  have hK := KK_pos
  have hlt : N * KK < D * KK := Int.mul_lt_mul_of_pos_right hD hK
  have hn : 0 ≤ N * KK := Int.mul_nonneg hN (Int.le_of_lt hK)
  rw [dbl_val2 h]
  rcases hc with rfl | rfl
  · rw [bt_0] at he
    have e1 : 2 * val a * D = N * KK := by grind
    have hlow : ¬ a.2.1 ≤ 2 * a.1 := by
      rw [dgt_KK h]
      intro hk
      have : KK * D ≤ 2 * val a * D := Int.mul_le_mul_of_nonneg_right hk (by omega)
      rw [Int.mul_comm KK] at this
      omega
    unfold dgt
    rw [if_neg hlow, if_neg hlow]
    exact ⟨rfl, by rw [Int.sub_zero]; exact e1⟩
  · rw [bt_1] at he
    have e1 : 2 * val a * D = D * KK + N * KK := by grind
    have hup : a.2.1 ≤ 2 * a.1 := by
      rw [dgt_KK h]
      rcases Int.lt_or_le (2 * val a) KK with hk | hk
      · have : 2 * val a * D < KK * D := Int.mul_lt_mul_of_pos_right hk (by omega)
        rw [Int.mul_comm KK] at this
        omega
      · exact hk
    unfold dgt
    rw [if_pos hup, if_pos hup]
    exact ⟨rfl, by grind⟩
theorem nV_nonneg {u v : List UInt8} : 0 ≤ nV u v := by
  unfold nV
  have h1 := pow_pos2 v.length
  have : 0 ≤ (bv u : Int) * (2 ^ v.length - 1) := Int.mul_nonneg (by omega) (by omega)
  omega
theorem prop_int {v : List UInt8} (h : prop v) : (bv v : Int) + 1 < 2 ^ v.length := by
  unfold prop at h
  have h1 : ((bv v + 1 : Nat) : Int) < ((2 ^ v.length : Nat) : Int) := by omega
  push_cast at h1; exact h1
theorem isB_int {v : List UInt8} (h : isB v) : (bv v : Int) < 2 ^ v.length := by
  have h0 := bv_lt h
  have h1 : ((bv v : Nat) : Int) < ((2 ^ v.length : Nat) : Int) := by omega
  push_cast at h1; exact h1
theorem nV_lt {u v : List UInt8} (hu : isB u) (hp : prop v) : nV u v < dV u v := by
  unfold nV dV
  have h1 := isB_int hu
  have h2 := prop_int hp
  generalize (2 : Int) ^ u.length = P at *
  generalize (2 : Int) ^ v.length = Q at *
  have : (bv u : Int) * (Q - 1) ≤ (P - 1) * (Q - 1) := Int.mul_le_mul_of_nonneg_right (by omega) (by omega)
  have e : (P - 1) * (Q - 1) = P * (Q - 1) - (Q - 1) := by grind
  omega
theorem prop_rot {c : UInt8} {v : List UInt8} (hc : c = 48 ∨ c = 49) (hb : isB v) (h : prop (c :: v)) : prop (v ++ [c]) := by
  unfold prop at *
  rw [bv_app]
  have h1 := bv_lt hb
  have e1 : bv (c :: v) = bt c * 2 ^ v.length + bv v := rfl
  have e2 : bv [c] = bt c := by simp [bv]
  have e3 : (v ++ [c]).length = v.length + 1 := by simp
  have e4 : (c :: v).length = v.length + 1 := rfl
  have e5 : ([c] : List UInt8).length = 1 := rfl
  rw [e1, e4, Nat.pow_succ] at h
  rw [e2, e3, e5, Nat.pow_succ]
  rcases hc with rfl | rfl
  · rw [bt_0] at *; omega
  · rw [bt_1] at *; omega
theorem step_pre {a : Ang} (h : isA a) {c : UInt8} {u v : List UInt8} (hc : c = 48 ∨ c = 49) (hu : isB u) (hp : prop v) (hv : isV a (c :: u) v) : dgt a = c ∧ isV (dbl a) u v := by
  refine half h hc nV_nonneg (nV_lt hu hp) ?_
  unfold isV at hv
  have e1 : dV (c :: u) v = 2 * dV u v := by
    unfold dV
    rw [List.length_cons, Int.pow_succ]; grind
  have e2 : nV (c :: u) v = bt c * dV u v + nV u v := by
    unfold dV nV
    have : bv (c :: u) = bt c * 2 ^ u.length + bv u := rfl
    rw [this]
    push_cast; grind
  rw [e1, e2] at hv
  rw [← hv]; grind
theorem step_per {a : Ang} (h : isA a) {c : UInt8} {v : List UInt8} (hc : c = 48 ∨ c = 49) (hb : isB v) (hp : prop (c :: v)) (hv : isV a [] (c :: v)) : dgt a = c ∧ isV (dbl a) [] (v ++ [c]) := by
  refine half h hc nV_nonneg (nV_lt (fun x hx => by simp at hx) (prop_rot hc hb hp)) ?_
  unfold isV at hv
  have e5 : ([c] : List UInt8).length = 1 := rfl
  have e2 : bv [c] = bt c := by simp [bv]
  have e1 : dV [] (c :: v) = 2 * 2 ^ v.length - 1 := by
    unfold dV
    rw [List.length_cons, Int.pow_succ]; simp; grind
  have e3 : dV [] (v ++ [c]) = 2 * 2 ^ v.length - 1 := by
    unfold dV
    rw [List.length_append, e5, Int.pow_succ]; simp; grind
  have e4 : nV [] (c :: v) = bt c * 2 ^ v.length + bv v := by
    unfold nV
    have : bv (c :: v) = bt c * 2 ^ v.length + bv v := rfl
    rw [this]; simp [bv]
  have e6 : nV [] (v ++ [c]) = bv v * 2 + bt c := by
    unfold nV
    rw [bv_app, e5, e2]; simp [bv]
  rw [e1, e4] at hv
  rw [e3, e6, show 2 * val a * (2 * 2 ^ v.length - 1) = 2 * (val a * (2 * 2 ^ v.length - 1)) by grind, hv]
  rcases hc with rfl | rfl
  · rw [bt_0]; grind
  · rw [bt_1]; grind
theorem sAt_cons {c : UInt8} {u v : List UInt8} (k : Nat) : sAt (c :: u, v, ()) (k + 1) = sAt (u, v, ()) k := by
  unfold sAt
  simp only [List.length_cons, Nat.add_lt_add_iff_right, Nat.add_sub_add_right, List.getD_cons_succ]
theorem sAt_rot {c : UInt8} {v : List UInt8} (k : Nat) : sAt ([], c :: v, ()) (k + 1) = sAt ([], v ++ [c], ()) k := by
  unfold sAt
  simp only [List.length_nil, Nat.not_lt_zero, if_false, Nat.sub_zero, List.length_cons, List.length_append, Nat.zero_add]
  have hr : k % (v.length + 1) < v.length + 1 := Nat.mod_lt _ (by omega)
  have hk : (k + 1) % (v.length + 1) = (k % (v.length + 1) + 1) % (v.length + 1) := by rw [Nat.mod_add_mod]
  rw [hk]
  generalize k % (v.length + 1) = r at *
  by_cases hv : r = v.length
  · rw [hv, Nat.mod_self, List.getD_eq_getElem?_getD, List.getD_eq_getElem?_getD]
    simp
  · rw [Nat.mod_eq_of_lt (by omega), List.getD_cons_succ, app_getD' (by omega)]
theorem isV_Dg : ∀ (k : Nat) (u v : List UInt8) (a : Ang), isA a → isB u → isB v → prop v → isV a u v → dgt (dblN a k) = sAt (u, v, ()) k := by
  intro k
  induction k with
  | zero =>
    intro u v a h hu hb hp hv
    cases u with
    | cons c u => exact (step_pre h (hu c (List.mem_cons_self ..)) (isB_tail hu) hp hv).1
    | nil =>
      cases v with
      | nil => exact absurd hp (by simp [prop])
      | cons c v => exact (step_per h (hb c (List.mem_cons_self ..)) (isB_tail hb) hp hv).1
  | succ k ih =>
    intro u v a h hu hb hp hv
    have e : dblN a (k + 1) = dblN (dbl a) k := by
      rw [Nat.add_comm, ← dblN_add]; rfl
    rw [e]
    cases u with
    | cons c u =>
      rw [sAt_cons]
      exact ih u v _ (dbl_isA h) (isB_tail hu) hb hp (step_pre h (hu c (List.mem_cons_self ..)) (isB_tail hu) hp hv).2
    | nil =>
      cases v with
      | nil => exact absurd hp (by simp [prop])
      | cons c v =>
        have hc := hb c (List.mem_cons_self ..)
        rw [sAt_rot]
        exact ih [] (v ++ [c]) _ (dbl_isA h) hu (isB_app (isB_tail hb) (fun x hx => by rw [List.mem_singleton.1 hx]; exact hc)) (prop_rot hc (isB_tail hb) hp) (step_per h hc (isB_tail hb) hp hv).2
/-- What is left of a value behind some digits. -/
theorem val_WD {a : Ang} (h : isA a) : ∀ j, val (dblN a j) + KK * (bv (WD a j) : Int) = 2 ^ j * val a
  | 0 => by simp [dblN, WD, tab, bv]
  | j + 1 => by
    have ih := val_WD h j
    have e1 : WD a (j + 1) = WD a j ++ [dgt (dblN a j)] := tab_succ
    have e2 : dblN a (j + 1) = dbl (dblN a j) := rfl
    have e3 : (bt (dgt (dblN a j)) : Int) * KK = if (dblN a j).2.1 ≤ 2 * (dblN a j).1 then KK else 0 := by
      unfold dgt
      split
      · rw [bt_1]; simp
      · rw [bt_0]; simp
    have e4 : bv [dgt (dblN a j)] = bt (dgt (dblN a j)) := by simp [bv]
    rw [e1, e2, bv_app, e4, dbl_val2 (dblN_isA h j), Int.pow_succ]
    rw [← e3]
    simp only [List.length_singleton]
    push_cast
    grind
theorem Dg_shift {a : Ang} {u v : List UInt8} (h : Dg a (u, v, ())) : ∀ k, k ≤ u.length → Dg (dblN a k) (u.drop k, v, ()) := by
  intro k
  induction k with
  | zero => intro _; exact h
  | succ k ih =>
    intro hk j
    have := ih (by omega) (j + 1)
    rw [dblN_add] at this ⊢
    have e : u.drop k = u[k] :: u.drop (k + 1) := List.drop_eq_getElem_cons (by omega)
    rw [e, sAt_cons] at this
    rw [← this]; congr 2; omega
theorem Dg_back {a : Ang} (h : isA a) {v : List UInt8} (hv : 0 < v.length) (hd : Dg a ([], v, ())) : dblN a v.length = a := by
  refine dgt_inj (dblN_isA h _) h fun i => ?_
  rw [dblN_add, hd, hd]
  unfold sAt
  simp
theorem Dg_WD {a : Ang} {u v : List UInt8} (hd : Dg a (u, v, ())) : WD a u.length = u := by
  refine ext_getD WD_len fun i hi => ?_
  rw [WD_len] at hi
  rw [WD_at hi, hd]
  unfold sAt
  rw [if_pos hi]
theorem Dg_WD2 {a : Ang} {v : List UInt8} (hd : Dg a ([], v, ())) : WD a v.length = v := by
  refine ext_getD WD_len fun i hi => ?_
  rw [WD_len] at hi
  rw [WD_at hi, hd]
  unfold sAt
  simp only [List.length_nil, Nat.not_lt_zero, if_false, Nat.sub_zero]
  rw [Nat.mod_eq_of_lt hi]
theorem Dg_isV {a : Ang} (h : isA a) {u v : List UInt8} (hv : 0 < v.length) (hd : Dg a (u, v, ())) : isV a u v := by
  have h1 := val_WD h u.length
  rw [Dg_WD hd] at h1
  have hs := Dg_shift hd u.length (Nat.le_refl _)
  rw [List.drop_length] at hs
  have hb := Dg_back (dblN_isA h _) hv hs
  have h2 := val_WD (dblN_isA h u.length) v.length
  rw [Dg_WD2 hs, hb] at h2
  unfold isV dV nV
  generalize (2 : Int) ^ u.length = P at *
  generalize (2 : Int) ^ v.length = Q at *
  generalize val (dblN a u.length) = x at *
  grind
theorem isV_inj {a b : Ang} (ha : isA a) (hb : isA b) {s : Sq} (h1 : Dg a s) (h2 : Dg b s) : a = b := dgt_inj ha hb fun i => by rw [h1, h2]
end Go.K.Pure

/- Plain laws of ray pairs, part Y: the program's angle of a sequence. -/
set_option linter.all false
namespace Go.K.Pure
open Classical
theorem idx_none {c : UInt8} : ∀ {l : List UInt8}, c ∉ l → Lib.indexByte l c = -1
  | [], _ => rfl
  | x :: l, h => by
    have h1 : x ≠ c := fun e => h (by rw [e]; exact List.mem_cons_self ..)
    have h2 := idx_none (c := c) (l := l) (fun hm => h (List.mem_cons_of_mem _ hm))
    unfold Lib.indexByte
    simp [h1, h2]
theorem isB_no {w : List UInt8} (h : isB w) : strings_Contains w (Array.toList (List.toArray [(42 : UInt8)])) = some false := by
  show hasByte w [42] = _
  unfold hasByte
  simp only
  rw [idx_none (fun hm => by rcases h _ hm with e | e <;> cases e)]
  rfl
theorem impl_lets {w : List UInt8} (h : isB w) (hl : w.length ≤ 100000) : impl_areLetters w = some true := by
  unfold impl_areLetters
  have hc : decide (w.length ≤ 140737488355328) = true := decide_eq_true (by omega)
  rw [hc, cond_true]
  unfold impl_areAll_byte slices_ContainsFunc__byte_byte slices_IndexFunc__byte_byte
  have hL : (w.map (fun z2 => ((z2.toNat : Nat) : Int))).length = w.length := List.length_map _
  have := loop_count (step := slices_IndexFunc__byte_byte_l0) (fun i => (w.map (fun z2 => ((z2.toNat : Nat) : Int)), (), (((), ()), ()), ((w.length : Nat) : Int), (i : Int), ())) w.length (.inr ()) (fun i hi => by
    have hw : w64 ((i : Int) + 1) = ((i + 1 : Nat) : Int) := w64_succ (by omega)
    have hi2 : i < (w.map (fun z2 => ((z2.toNat : Nat) : Int))).length := by rw [hL]; exact hi
    have hg : (w.map (fun z3 => ((z3.toNat : Nat) : Int))).getD i 0 = (((w.getD i 0).toNat : Nat) : Int) := by
      rw [getD_at hi2, getD_at hi, List.getElem_map]
    have hm : w.getD i 0 ∈ w := by rw [getD_at hi]; exact List.getElem_mem hi
    have hf : impl_areAll_byte_f1 (((w.getD i 0).toNat : Nat) : Int) = some false := by
      unfold impl_areAll_byte_f1 impl_areLetters_f1
      rcases h _ hm with e | e <;> rw [e] <;> rfl
    simp only [slices_IndexFunc__byte_byte_l0, ltb hi, ltb hi2, cond_true, cond_false, Int.toNat_natCast, hw, nn0 i, Bool.and_self, hg, hf, Option.bind_some]) (by
    simp only [slices_IndexFunc__byte_byte_l0, nltb (Nat.lt_irrefl _), cond_false]) 0 (by omega)
  rw [hL]
  have e : loop slices_IndexFunc__byte_byte_l0 (w.map (fun z2 => ((z2.toNat : Nat) : Int)), (), (((), ()), ()), ((w.length : Nat) : Int), (0 : Int), ()) = _ := this
  rw [e]; rfl
theorem impl_isSeq {s : Sq} (h : canon s) (h1 : isB s.1) (h2 : isB s.2.1) (hl : s.1.length + s.2.1.length ≤ 64) : impl_IsSequence s = some true := by
  unfold impl_IsSequence
  have hc : decide (s.1.length + s.2.1.length ≤ 1152921504606846976) = true := decide_eq_true (by omega)
  rw [hc, cond_true, impl_lets (isB_app h1 h2) (by simp; omega)]
  unfold impl_areGiven
  have hp := h.per
  have hne : (s.2.1 == (Array.toList (List.toArray ([] : List UInt8)))) = false := by
    have : s.2.1 ≠ [] := fun e => by rw [e] at hp; simp at hp
    simpa using this
  have hw : w64 (((s.1.length : Nat) : Int) + ((s.2.1.length : Nat) : Int)) = ((s.1.length + s.2.1.length : Nat) : Int) := by rw [w64_id (by omega) (by omega)]; omega
  have hd : decide (((s.1.length + s.2.1.length : Nat) : Int) ≤ 64) = true := decide_eq_true (by omega)
  simp only [Option.bind_some, cond_true, hne, Bool.not_false, hw, hd, canon_self h (by omega) (by omega)]
  simp
theorem take_bv {w : List UInt8} {i : Nat} (h : i < w.length) : bv (w.take (i + 1)) = 2 * bv (w.take i) + bt (w.getD i 0) := by
  rw [List.take_succ_eq_append_getElem h, bv_app, getD_at h]
  simp [bv]; omega
theorem or_bit {n b : Nat} (hn : 2 * n + b < 2 ^ 64) (hb : b ≤ 1) :
    wu64 (((BitVec.toNat (HOr.hOr (BitVec.ofInt 64 (wu64 ((n : Int) * ((2 : Int) ^ (min (1 : Int).toNat 64))))) (BitVec.ofInt 64 (b : Int)))) : Nat) : Int) = ((2 * n + b : Nat) : Int) := by
  have e1 : ((2 : Int) ^ (min (1 : Int).toNat 64)) = 2 := rfl
  have hu : ∀ m : Nat, m < 2 ^ 64 → wu64 (m : Int) = (m : Int) := fun m hm => by
    show IntKind.wrap .u64 _ = _
    have : (m : Int) < 18446744073709551616 := by omega
    simp [IntKind.wrap, IntKind.bits, IntKind.signed]
    omega
  have e2 : ((n : Int) * 2) = ((2 * n : Nat) : Int) := by omega
  rw [e1, e2, hu (2 * n) (by omega)]
  have e3 : (BitVec.toNat (HOr.hOr (BitVec.ofInt 64 ((2 * n : Nat) : Int)) (BitVec.ofInt 64 (b : Int)))) = 2 * n + b := by
    rw [BitVec.toNat_or, BitVec.ofInt_natCast, BitVec.ofInt_natCast, BitVec.toNat_ofNat, BitVec.toNat_ofNat, Nat.mod_eq_of_lt (by omega), Nat.mod_eq_of_lt (by omega)]
    have := Nat.two_pow_add_eq_or_of_lt (i := 1) (b := b) (by omega) n
    rw [Nat.pow_one] at this
    exact this.symm
  rw [e3, hu _ hn]
theorem wu8_bit {c : UInt8} (h : c = 48 ∨ c = 49) : wu64 (wu8 (((c.toNat : Nat) : Int) - 48)) = ((bt c : Nat) : Int) := by
  rcases h with e | e <;> rw [e] <;> decide
theorem impl_bits {s : Sq} {t : Ang} (h2 : isB s.2.1) (hl : s.2.1.length ≤ 64) :
    loop impl_AngleOfSequence_l0 (s, t, (0 : Int), (0 : Int), s.2.1.map (fun z7 => ((z7.toNat : Nat) : Int)), ((s.2.1.length : Nat) : Int), (0 : Int), ()) = some (s, t, ((bv s.2.1 : Nat) : Int), ((2 ^ s.2.1.length - 1 : Nat) : Int), ()) := by
  have hL : (s.2.1.map (fun z2 => ((z2.toNat : Nat) : Int))).length = s.2.1.length := List.length_map _
  have := loop_count (step := impl_AngleOfSequence_l0) (fun i => (s, t, ((bv (s.2.1.take i) : Nat) : Int), ((2 ^ i - 1 : Nat) : Int), s.2.1.map (fun z7 => ((z7.toNat : Nat) : Int)), ((s.2.1.length : Nat) : Int), (i : Int), ())) s.2.1.length (s, t, ((bv s.2.1 : Nat) : Int), ((2 ^ s.2.1.length - 1 : Nat) : Int), ()) (fun i hi => by
    have hw : w64 ((i : Int) + 1) = ((i + 1 : Nat) : Int) := w64_succ (by omega)
    have hi2 : i < (s.2.1.map (fun z2 => ((z2.toNat : Nat) : Int))).length := by rw [hL]; exact hi
    have hg : (s.2.1.map (fun z3 => ((z3.toNat : Nat) : Int))).getD i 0 = (((s.2.1.getD i 0).toNat : Nat) : Int) := by
      rw [getD_at hi2, getD_at hi, List.getElem_map]
    have hm : s.2.1.getD i 0 ∈ s.2.1 := by rw [getD_at hi]; exact List.getElem_mem hi
    have hc := h2 _ hm
    have hb1 : bt (s.2.1.getD i 0) ≤ 1 := by rcases hc with e | e <;> rw [e] <;> decide
    have hlt := bv_lt (w := s.2.1.take (i + 1)) (fun c hc => h2 c (List.mem_of_mem_take hc))
    have hle : (s.2.1.take (i + 1)).length = i + 1 := by rw [List.length_take]; omega
    rw [hle, take_bv hi] at hlt
    have h64 : 2 ^ (i + 1) ≤ 2 ^ 64 := Nat.pow_le_pow_right (by decide) (by omega)
    have o1 := or_bit (n := bv (s.2.1.take i)) (b := bt (s.2.1.getD i 0)) (by omega) hb1
    have hp2 : 2 ^ (i + 1) = 2 * 2 ^ i := by rw [Nat.pow_succ]; omega
    have hpos : 0 < 2 ^ i := Nat.pow_pos (by decide)
    have o2 := or_bit (n := 2 ^ i - 1) (b := 1) (by omega) (by omega)
    have e2 : 2 * (2 ^ i - 1) + 1 = 2 ^ (i + 1) - 1 := by omega
    rw [e2] at o2
    have n1 : decide ((0 : Int) ≤ (1 : Int)) = true := rfl
    have o2' : wu64 (((BitVec.toNat (HOr.hOr (BitVec.ofInt 64 (wu64 (((2 ^ i - 1 : Nat) : Int) * ((2 : Int) ^ (min (1 : Int).toNat 64))))) (BitVec.ofInt 64 (1 : Int)))) : Nat) : Int) = ((2 ^ (i + 1) - 1 : Nat) : Int) := o2
    simp only [impl_AngleOfSequence_l0, ltb hi, ltb hi2, cond_true, cond_false, nn0 i, Bool.and_self, n1]
    simp only [Int.toNat_natCast]
    rw [hg, wu8_bit hc, o1, o2', hw, take_bv hi]) (by
    simp only [impl_AngleOfSequence_l0, nltb (Nat.lt_irrefl _), cond_false, List.take_length]) 0 (by omega)
  have e : loop impl_AngleOfSequence_l0 (s, t, (0 : Int), (0 : Int), s.2.1.map (fun z7 => ((z7.toNat : Nat) : Int)), ((s.2.1.length : Nat) : Int), (0 : Int), ()) = _ := this
  rw [e]
theorem impl_euc {s : Sq} {t : Ang} {n d : Int} {a b : Int} (ha : 0 ≤ a) (hb : 0 ≤ b) :
    loop impl_AngleOfSequence_l1 (s, t, n, d, a, b, ()) = some (s, t, n, d, (Int.gcd a b : Int), ()) := by
  obtain ⟨r, h1, h2⟩ := loop_inv (step := impl_AngleOfSequence_l1) (fun x => x.1 = s ∧ x.2.1 = t ∧ x.2.2.1 = n ∧ x.2.2.2.1 = d ∧ 0 ≤ x.2.2.2.2.1 ∧ 0 ≤ x.2.2.2.2.2.1 ∧ Int.gcd x.2.2.2.2.1 x.2.2.2.2.2.1 = Int.gcd a b) (fun x => x.2.2.2.2.2.1.toNat) (fun r => r = (s, t, n, d, (Int.gcd a b : Int), ())) (by
    rintro ⟨s', t', n', d', x, y, ⟨⟩⟩ ⟨rfl, rfl, rfl, rfl, hx, hy, hg⟩
    simp only at hx hy hg
    by_cases h : y > 0
    · right
      refine ⟨(s', t', n', d', y, x.tmod y, ()), ?_, ⟨rfl, rfl, rfl, rfl, hy, Int.tmod_nonneg _ hx, ?_⟩, ?_⟩
      · have : ¬ y = 0 := by omega
        have e : (y == 0) = false := by simpa using this
        have e2 : (y != 0) = true := by simpa using this
        simp [impl_AngleOfSequence_l1, e, e2]
      · simp only; rw [gcd_step hx h]; exact hg
      · have h1 := Int.tmod_lt_of_pos x h
        have h2 := Int.tmod_nonneg y hx
        simp only
        omega
    · left
      have : y = 0 := by omega
      subst this
      refine ⟨(s', t', n', d', x, ()), by simp [impl_AngleOfSequence_l1], ?_⟩
      rw [← hg, Int.gcd_zero_right]
      have : ((x.natAbs : Nat) : Int) = x := by omega
      rw [this]) (s, t, n, d, a, b, ()) ⟨rfl, rfl, rfl, rfl, ha, hb, rfl⟩
  rw [h1, h2]
/-- A fraction in its lowest terms that is the value. -/
structure low (n d : Nat) (u v : List UInt8) : Prop where
  cop : Nat.gcd n d = 1
  le : n ≤ d
  pos : 1 ≤ d
  val : (n : Int) * dV u v = nV u v * d
theorem low_step {n d : Nat} {c : UInt8} {u v : List UInt8} (hc : c = 48 ∨ c = 49) (h : low n d u v) : low (if (n + d * bt c) % 2 = 0 then (n + d * bt c) / 2 else n + d * bt c) (if (n + d * bt c) % 2 = 0 then d else 2 * d) (c :: u) v := by
  obtain ⟨h1, h2, h3, h4⟩ := h
  have e1 : dV (c :: u) v = 2 * dV u v := by
    unfold dV
    rw [List.length_cons, Int.pow_succ]; grind
  have e2 : nV (c :: u) v = bt c * dV u v + nV u v := by
    unfold dV nV
    have : bv (c :: u) = bt c * 2 ^ u.length + bv u := rfl
    rw [this]
    push_cast; grind
  have hle : n + d * bt c ≤ 2 * d := by
    rcases hc with e | e <;> rw [e]
    · rw [bt_0]; omega
    · rw [bt_1]; omega
  have hg : Nat.gcd (n + d * bt c) d = 1 := by rw [Nat.gcd_add_mul_left_left, h1]
  have hm : ((n + d * bt c : Nat) : Int) * dV u v = (bt c * dV u v + nV u v) * d := by
    push_cast; grind
  generalize hx : n + d * bt c = x at *
  by_cases he : x % 2 = 0
  · rw [if_pos he, if_pos he]
    obtain ⟨y, rfl⟩ : ∃ y, x = 2 * y := ⟨x / 2, by omega⟩
    rw [Nat.mul_div_cancel_left _ (by decide)]
    refine ⟨?_, by omega, h3, ?_⟩
    · exact Nat.Coprime.coprime_mul_left (k := 2) hg
    · rw [e1, e2, ← hm]; push_cast; grind
  · rw [if_neg he, if_neg he]
    refine ⟨?_, by omega, by omega, ?_⟩
    · refine Nat.Coprime.mul_right ?_ hg
      have : x.gcd 2 = 1 := by
        have h2 := Nat.gcd_rec 2 x
        have : x % 2 = 1 := by omega
        rw [this] at h2
        rw [Nat.gcd_comm, h2]; decide
      exact this
    · rw [e1, e2]; push_cast
      rw [show (x : Int) * (2 * dV u v) = 2 * ((x : Int) * dV u v) by grind, hm]; grind
theorem wu_id {m : Nat} (h : m < 18446744073709551616) : wu64 (m : Int) = (m : Int) := by
  show IntKind.wrap .u64 _ = _
  simp [IntKind.wrap, IntKind.bits, IntKind.signed]
  omega
theorem impl_pre {s : Sq} {t : Ang} (h1 : isB s.1) (hl : s.1.length ≤ 64) : ∀ (j n d : Nat), j ≤ s.1.length → d < 18446744073709551616 → low n d (s.1.drop j) s.2.1 →
    ∃ j' n' d', j' ≤ j ∧ d' < 18446744073709551616 ∧ low n' d' (s.1.drop j') s.2.1 ∧ (j' = 0 ∨ 8191 < d') ∧ (d ≤ 8191 → j' < j ∨ j = 0) ∧
      loop impl_AngleOfSequence_l2 (s, t, (n : Int), (d : Int), (j : Int) - 1, ()) = some (t, (n' : Int), (d' : Int), ()) := by
  intro j
  induction j with
  | zero =>
    intro n d _ hd hlow
    refine ⟨0, n, d, Nat.le_refl _, hd, hlow, .inl rfl, fun _ => .inr rfl, ?_⟩
    have : decide (((0 : Nat) : Int) - 1 ≥ 0) = false := rfl
    rw [loop_eq]
    simp only [impl_AngleOfSequence_l2, this, cond_false]
  | succ j ih =>
    intro n d hj hd hlow
    have e1 : (((j + 1 : Nat) : Int) - 1) = (j : Int) := by omega
    have e2 : decide ((j : Int) ≥ 0) = true := decide_eq_true (by omega)
    rw [e1, loop_eq]
    by_cases h8 : d ≤ 8191
    · have hj2 : j < s.1.length := by omega
      have hm : s.1.getD j 0 ∈ s.1 := by rw [getD_at hj2]; exact List.getElem_mem hj2
      have hc := h1 _ hm
      have hdr : s.1.drop j = s.1.getD j 0 :: s.1.drop (j + 1) := by rw [getD_at hj2]; exact List.drop_eq_getElem_cons hj2
      have hst := low_step hc hlow
      rw [← hdr] at hst
      have hb1 : bt (s.1.getD j 0) ≤ 1 := by rcases hc with e | e <;> rw [e] <;> decide
      have hdb : d * bt (s.1.getD j 0) ≤ d * 1 := Nat.mul_le_mul_left _ hb1
      have hle := hlow.le
      generalize hx : n + d * bt (s.1.getD j 0) = x at *
      have hd8 : decide ((d : Int) ≤ 8191) = true := decide_eq_true (by omega)
      have hn2 : (!((2 : Int) == (0 : Int))) = true := rfl
      have w1 : wu64 ((d : Int) * ((bt (s.1.getD j 0) : Nat) : Int)) = ((d * bt (s.1.getD j 0) : Nat) : Int) := by
        rw [← Int.natCast_mul, wu_id (by omega)]
      have w2 : wu64 ((n : Int) + ((d * bt (s.1.getD j 0) : Nat) : Int)) = (x : Int) := by
        rw [← Int.natCast_add, wu_id (by omega), hx]
      have w3 : w64 ((j : Int) - 1) = (j : Int) - 1 := w64_id (by omega) (by omega)
      have t2 : (x : Int).tmod (2 : Int) = ((x % 2 : Nat) : Int) := tmod_nat x 2
      have q2 : (x : Int).tdiv (2 : Int) = ((x / 2 : Nat) : Int) := tdiv_nat x 2
      have w4 : wu64 ((d : Int) * 2) = ((2 * d : Nat) : Int) := by
        rw [show (d : Int) * 2 = ((2 * d : Nat) : Int) by omega, wu_id (by omega)]
      have hin := inb hj2
      simp only [impl_AngleOfSequence_l2, e2, cond_true, hd8, hin, hn2, ltb hj2, Bool.and_self]
      simp only [Int.toNat_natCast]
      rw [wu8_bit hc, w1, w2, t2, q2, w4, w3]
      by_cases he : x % 2 = 0
      · rw [if_pos he, if_pos he] at hst
        have hb : (((x % 2 : Nat) : Int) == 0) = true := by rw [he]; rfl
        rw [hb, wu_id (by omega)]
        simp only [cond_true]
        obtain ⟨j', n', d', a1, a2, a3, a4, _, a6⟩ := ih (x / 2) d (by omega) (by omega) hst
        exact ⟨j', n', d', by omega, a2, a3, a4, fun _ => .inl (by omega), a6⟩
      · rw [if_neg he, if_neg he] at hst
        have hb : (((x % 2 : Nat) : Int) == 0) = false := by simp only [beq_eq_false_iff_ne, ne_eq]; omega
        rw [hb]
        simp only [cond_false]
        obtain ⟨j', n', d', a1, a2, a3, a4, _, a6⟩ := ih x (2 * d) (by omega) (by omega) hst
        exact ⟨j', n', d', by omega, a2, a3, a4, fun _ => .inl (by omega), a6⟩
    · have hd8 : decide ((d : Int) ≤ 8191) = false := decide_eq_false (by omega)
      refine ⟨j + 1, n, d, Nat.le_refl _, hd, hlow, .inr (by omega), fun h => absurd h h8, ?_⟩
      simp only [impl_AngleOfSequence_l2, e2, cond_true, hd8, cond_false]
theorem low_per {v : List UInt8} (hb : isB v) (h0 : 0 < v.length) : low (bv v / Nat.gcd (bv v) (2 ^ v.length - 1)) ((2 ^ v.length - 1) / Nat.gcd (bv v) (2 ^ v.length - 1)) [] v := by
  have h1 := bv_lt hb
  have h2 : 2 ^ 1 ≤ 2 ^ v.length := Nat.pow_le_pow_right (by decide) h0
  have hg : 0 < Nat.gcd (bv v) (2 ^ v.length - 1) := Nat.gcd_pos_of_pos_right _ (by omega)
  refine ⟨Nat.coprime_div_gcd_div_gcd hg, Nat.div_le_div_right (by omega), Nat.div_pos (Nat.le_of_dvd (by omega) (Nat.gcd_dvd_right _ _)) hg, ?_⟩
  have e1 := Nat.div_mul_cancel (Nat.gcd_dvd_left (bv v) (2 ^ v.length - 1))
  have e2 := Nat.div_mul_cancel (Nat.gcd_dvd_right (bv v) (2 ^ v.length - 1))
  have e3 : dV [] v = ((2 ^ v.length - 1 : Nat) : Int) := by
    unfold dV
    rw [Int.natCast_sub (by omega)]; simp
  have e4 : nV [] v = (bv v : Int) := by unfold nV; simp [bv]
  rw [e3, e4]
  generalize 2 ^ v.length - 1 = M at *
  generalize bv v = Q at *
  have : Q / Q.gcd M * M = Q * (M / Q.gcd M) := by
    generalize Q.gcd M = g at *
    generalize Q / g = a at *
    generalize M / g = b at *
    subst e1 e2; grind
  exact_mod_cast this
/-- What AngleOfSequence answers. -/
theorem impl_AOS {s : Sq} (h : canon s) (h1 : isB s.1) (h2 : isB s.2.1) (hl : s.1.length + s.2.1.length ≤ 64) :
    ∃ j n d : Nat, j ≤ s.1.length ∧ low n d (s.1.drop j) s.2.1 ∧ (j = 0 ∨ 8191 < d) ∧ ((2 ^ s.2.1.length - 1) / Nat.gcd (bv s.2.1) (2 ^ s.2.1.length - 1) ≤ 8191 → j < s.1.length ∨ s.1.length = 0) ∧ impl_AngleOfSequence s = some (if 8191 < d then (((0, 0, ()) : Ang), 3) else (angN n d, 0)) := by
  have hp := h.per
  have hlow := low_per h2 hp
  have hd : (2 ^ s.2.1.length - 1) / Nat.gcd (bv s.2.1) (2 ^ s.2.1.length - 1) < 18446744073709551616 := by
    have h64 : 2 ^ s.2.1.length ≤ 2 ^ 64 := Nat.pow_le_pow_right (by decide) (by omega)
    exact Nat.lt_of_le_of_lt (Nat.div_le_self _ _) (by omega)
  have hdr : s.1.drop s.1.length = [] := List.drop_length
  rw [← hdr] at hlow
  obtain ⟨j, n, d, a1, a2, a3, a4, a5, a6⟩ := impl_pre (t := ((0, 0, ()) : Ang)) h1 (by omega) s.1.length _ _ (Nat.le_refl _) hd hlow
  refine ⟨j, n, d, a1, a3, a4, a5, ?_⟩
  unfold impl_AngleOfSequence
  have hc : decide (s.1.length + s.2.1.length ≤ 1152921504606846976) = true := decide_eq_true (by omega)
  have hc2 : decide (s.2.1.length ≤ 140737488355328) = true := decide_eq_true (by omega)
  have hL : (s.2.1.map (fun z8 => ((z8.toNat : Nat) : Int))).length = s.2.1.length := List.length_map _
  rw [impl_isSeq h h1 h2 hl]
  simp only [Option.bind_some, Bool.not_true, cond_false, hc, cond_true, isB_no (isB_app h1 h2), hc2, hL]
  have hb := impl_bits (s := s) (t := ((0, 0, ()) : Ang)) h2 (by omega)
  rw [hb]
  simp only [Option.bind_some]
  rw [impl_euc (by omega) (by omega)]
  simp only [Option.bind_some]
  have hg : (Int.gcd ((bv s.2.1 : Nat) : Int) ((2 ^ s.2.1.length - 1 : Nat) : Int)) = Nat.gcd (bv s.2.1) (2 ^ s.2.1.length - 1) := rfl
  have h21 : 2 ^ 1 ≤ 2 ^ s.2.1.length := Nat.pow_le_pow_right (by decide) hp
  have hgp : 0 < Nat.gcd (bv s.2.1) (2 ^ s.2.1.length - 1) := Nat.gcd_pos_of_pos_right _ (by omega)
  have h64 : 2 ^ s.2.1.length ≤ 2 ^ 64 := Nat.pow_le_pow_right (by decide) (by omega)
  have hbl := bv_lt h2
  rw [hg, tdiv_nat, tdiv_nat, wu_id (Nat.lt_of_le_of_lt (Nat.div_le_self _ _) (by omega)), wu_id hd]
  have hw : w64 (((s.1.length : Nat) : Int) - 1) = ((s.1.length : Nat) : Int) - 1 := w64_id (by omega) (by omega)
  simp only [e0_false hgp, Bool.not_false, cond_true, hw]
  rw [a6]
  simp only [Option.bind_some]
  by_cases h8 : 8191 < d
  · have : decide ((d : Int) > 8191) = true := decide_eq_true (by omega)
    rw [this, cond_true, if_pos h8]
  · have : decide ((d : Int) > 8191) = false := decide_eq_false (by omega)
    have hnd := a3.le
    have hdp := a3.pos
    rw [this, cond_false, if_neg h8, w64_nat (by omega), w64_nat (by omega), impl_angN (by omega) (by omega) (by omega)]
    rfl
end Go.K.Pure

/- Plain laws of ray pairs, part Z: the reference's angle of a sequence, and that both are the same. -/
set_option linter.all false
namespace Go.K.Pure
open Classical
theorem sAt_B {s : Sq} (h : okS s) (h1 : isB s.1) (h2 : isB s.2.1) (k : Nat) : sAt s k = 48 ∨ sAt s k = 49 := by
  unfold sAt
  split
  · rename_i hk
    exact h1 _ (by rw [getD_at hk]; exact List.getElem_mem hk)
  · have hm : (k - s.1.length) % s.2.1.length < s.2.1.length := Nat.mod_lt _ h.per
    exact h2 _ (by rw [getD_at hm]; exact List.getElem_mem hm)
theorem sAt_per {s : Sq} {k : Nat} (hk : s.1.length ≤ k) : sAt s (k + s.2.1.length) = sAt s k := by
  unfold sAt
  rw [if_neg (by omega), if_neg (by omega), show k + s.2.1.length - s.1.length = (k - s.1.length) + s.2.1.length by omega, Nat.add_mod_right]
theorem Dg_iff {a : Ang} (h : isA a) {s : Sq} (ho : okS s) : Dg a s ↔ (∀ i, i < s.1.length + s.2.1.length → dgt (dblN a i) = sAt s i) ∧ dblN a (s.1.length + s.2.1.length) = dblN a s.1.length := by
  constructor
  · intro hd
    refine ⟨fun i _ => hd i, dgt_inj (dblN_isA h _) (dblN_isA h _) fun i => ?_⟩
    rw [dblN_add, dblN_add, hd, hd, show s.1.length + s.2.1.length + i = (s.1.length + i) + s.2.1.length by omega, sAt_per (by omega)]
  · rintro ⟨h1, h2⟩
    have key : ∀ n k, k ≤ n → dgt (dblN a k) = sAt s k := by
      intro n
      induction n with
      | zero => intro k hk; exact h1 k (by have := ho.per; omega)
      | succ n ih =>
        intro k hk
        by_cases hc : k < s.1.length + s.2.1.length
        · exact h1 k hc
        · have hp := ho.per
          have e1 : dblN a k = dblN a (k - s.2.1.length) := by
            have := dblN_add a (s.1.length + s.2.1.length) (k - (s.1.length + s.2.1.length))
            rw [h2, dblN_add] at this
            rw [show s.1.length + s.2.1.length + (k - (s.1.length + s.2.1.length)) = k by omega] at this
            rw [← this]; congr 1; omega
          rw [e1, ih _ (by omega)]
          have := sAt_per (s := s) (k := k - s.2.1.length) (by omega)
          rw [Nat.sub_add_cancel (by omega)] at this
          exact this.symm
    exact fun k => key k k (Nat.le_refl _)
theorem spec_begins {a : Ang} (h : isA a) {s : Sq} (ho : okS s) : spec_l01Begins a s = some (decide (Dg a s)) := by
  unfold spec_l01Begins
  obtain ⟨hp, hl1, hl2⟩ := ho
  have hw0 : w64 (((s.1.length : Nat) : Int) + ((s.2.1.length : Nat) : Int)) = ((s.1.length + s.2.1.length : Nat) : Int) := by rw [w64_id (by omega) (by omega)]; omega
  have hL := loop_any (step := spec_l01Begins_l0) (fun i => (a, s, dblN a i, (i : Int), ())) (s.1.length + s.2.1.length) (.inr (a, s, dblN a (s.1.length + s.2.1.length), ())) (.inl (false, ())) (fun i => dgt (dblN a i) ≠ sAt s i) (fun i hi _ => by
    have hw : w64 ((i : Int) + 1) = ((i + 1 : Nat) : Int) := w64_succ (by omega)
    have hA := dblN_isA h i
    have c0 : ((decide ((0 : Int) ≤ (0 : Int))) && (decide ((0 : Int) < (([dgt (dblN a i)].length : Nat) : Int)))) = true := rfl
    have g0 : [dgt (dblN a i)].getD (0 : Int).toNat 0 = dgt (dblN a i) := rfl
    simp only [spec_l01Begins_l0, hw0, ltb hi, cond_true, spec_digit hA, Option.bind_some, c0, g0, spec_at ⟨hp, hl1, hl2⟩ (by omega : i ≤ 1000000000), spec_dbl hA, hw]
    by_cases e : dgt (dblN a i) = sAt s i
    · rw [sel_neg (fun hn => hn e), e]
      simp [dblN]
    · rw [sel_pos e]
      have : ((((dgt (dblN a i)).toNat : Nat) : Int) != (((sAt s i).toNat : Nat) : Int)) = true := by
        simp only [bne_iff_ne, ne_eq, Int.natCast_inj]
        exact fun h => e (UInt8.toNat_inj.1 h)
      rw [this]; rfl) (fun _ => by
    simp only [spec_l01Begins_l0, hw0, nltb (Nat.lt_irrefl _), cond_false])
  have e : loop spec_l01Begins_l0 (a, s, a, (0 : Int), ()) = _ := hL
  rw [e]
  simp only [Option.bind_some]
  have hiff := Dg_iff h ⟨hp, hl1, hl2⟩
  by_cases hx : ∃ i, i < s.1.length + s.2.1.length ∧ dgt (dblN a i) ≠ sAt s i
  · rw [sel_pos hx]
    obtain ⟨i, i1, i2⟩ := hx
    rw [decide_eq_false (fun hd => i2 (hd i))]; rfl
  · rw [sel_neg hx]
    have hall : ∀ i, i < s.1.length + s.2.1.length → dgt (dblN a i) = sAt s i := fun i hi => Classical.byContradiction fun hn => hx ⟨i, hi, hn⟩
    have := loop_count (step := spec_l01Begins_l1) (fun i => (s, dblN a (s.1.length + s.2.1.length), dblN a i, (i : Int), ())) s.1.length (dblN a (s.1.length + s.2.1.length), dblN a s.1.length, ()) (fun i hi => by
      have hw : w64 ((i : Int) + 1) = ((i + 1 : Nat) : Int) := w64_succ (by omega)
      have hA := dblN_isA h i
      simp only [spec_l01Begins_l1, ltb hi, cond_true, spec_dbl hA, Option.bind_some, hw]
      rfl) (by simp only [spec_l01Begins_l1, nltb (Nat.lt_irrefl _), cond_false]) 0 (by omega)
    have e2 : loop spec_l01Begins_l1 (s, dblN a (s.1.length + s.2.1.length), a, (0 : Int), ()) = _ := this
    show ((loop spec_l01Begins_l1 (s, dblN a (s.1.length + s.2.1.length), a, (0 : Int), ())).bind fun r3 => some (((r3.1.1 == r3.2.1.1) && ((r3.1.2.1 == r3.2.1.2.1) && true)))) = _
    rw [e2]
    simp only [Option.bind_some]
    rw [beqA]
    exact congrArg some (decide_eq_decide.2 ⟨fun h2 => hiff.2 ⟨hall, h2⟩, fun hd => (hiff.1 hd).2⟩)
/-- The angle that has these digits, if there is one within the limit. -/
noncomputable def VL (s : Sq) : Ang × Bool := if h : ∃ a, isA a ∧ Dg a s then (Classical.choose h, true) else ((0, 0, ()), false)
theorem VL_yes {s : Sq} {a : Ang} (h : isA a) (hd : Dg a s) : VL s = (a, true) := by
  have he : ∃ a, isA a ∧ Dg a s := ⟨a, h, hd⟩
  unfold VL
  rw [dif_pos he]
  have := Classical.choose_spec he
  rw [isV_inj this.1 h this.2 hd]
theorem VL_no {s : Sq} (h : ∀ a, isA a → ¬ Dg a s) : VL s = ((0, 0, ()), false) := by
  unfold VL
  rw [dif_neg (fun ⟨a, h1, h2⟩ => h a h1 h2)]
def fst (s : Sq) : Nat := bv (tab (sAt s) 30)
theorem fst_isB {s : Sq} (ho : okS s) (h1 : isB s.1) (h2 : isB s.2.1) (n : Nat) : isB (tab (sAt s) n) := fun c hc => by
  obtain ⟨i, _, rfl⟩ := List.mem_map.1 hc
  exact sAt_B ho h1 h2 i
theorem spec_first {s : Sq} {t : Ang} (ho : okS s) (h1 : isB s.1) (h2 : isB s.2.1) : loop spec_l01Value_l0 (s, t, (0 : Int), (0 : Int), ()) = some (s, t, ((fst s : Nat) : Int), ()) := by
  have := loop_count (step := spec_l01Value_l0) (fun i => (s, t, ((bv (tab (sAt s) i) : Nat) : Int), (i : Int), ())) 30 (s, t, ((fst s : Nat) : Int), ()) (fun i hi => by
    have hw : w64 ((i : Int) + 1) = ((i + 1 : Nat) : Int) := w64_succ (by omega)
    have hc := sAt_B ho h1 h2 i
    have hlt := bv_lt (fst_isB ho h1 h2 i)
    rw [tab_len] at hlt
    have h30 : 2 ^ i ≤ 2 ^ 30 := Nat.pow_le_pow_right (by decide) (by omega)
    have hd : decide ((i : Int) < 30) = true := decide_eq_true (by omega)
    have hb : w64 (wu8 ((((sAt s i).toNat : Nat) : Int) - 48)) = ((bt (sAt s i) : Nat) : Int) := by
      rcases hc with e | e <;> rw [e] <;> decide
    have hb1 : bt (sAt s i) ≤ 1 := by rcases hc with e | e <;> rw [e] <;> decide
    have e1 : bv (tab (sAt s) (i + 1)) = 2 * bv (tab (sAt s) i) + bt (sAt s i) := by
      rw [tab_succ, bv_app]; simp [bv]; omega
    have e2 : w64 ((2 : Int) * ((bv (tab (sAt s) i) : Nat) : Int)) = ((2 * bv (tab (sAt s) i) : Nat) : Int) := by
      rw [w64_id (by omega) (by omega)]; omega
    simp only [spec_l01Value_l0, hd, cond_true, spec_at ho (by omega : i ≤ 1000000000), Option.bind_some, hb, hw, e1, e2]
    rw [w64_id (by omega) (by omega)]
    push_cast
    rfl) (by
    have hd : decide (((30 : Nat) : Int) < 30) = false := rfl
    simp only [spec_l01Value_l0, hd, cond_false]
    rfl) 0 (by omega)
  exact this
theorem fdiv_nat (x d : Nat) : ((x : Nat) : Int).fdiv ((d : Nat) : Int) = ((x / d : Nat) : Int) := by
  rw [Int.fdiv_eq_ediv_of_nonneg _ (by omega)]; rfl
def qF (F i : Nat) : Nat := (F * (i + 1) + 1073741823) / 1073741824
theorem pow30 : ((2 : Int) ^ (min (30 : Int).toNat 64)) = ((1073741824 : Nat) : Int) := by
  have e : min (30 : Int).toNat 64 = 30 := by decide
  rw [e]
  simp
theorem try_step {s : Sq} {t : Ang} (ho : okS s) {F i q m : Nat} (hf : F < 1073741824) (hi : i < 8191) (hqe : q = (F * (i + 1) + 1073741823) / 1073741824) (hme : m = (F + 1) * (i + 1)) :
    spec_l01Value_l1 (s, t, ((F : Nat) : Int), ((i + 1 : Nat) : Int), ()) = some (sel (q * 1073741824 < m ∧ q < i + 1 ∧ Nat.gcd q (i + 1) = 1 ∧ Dg (((q : Nat) : Int), ((i + 1 : Nat) : Int), ()) s) (.stop (.inl ((((q : Nat) : Int), ((i + 1 : Nat) : Int), ()), true, ()))) (.next (s, t, ((F : Nat) : Int), ((i + 1 + 1 : Nat) : Int), ()))) := by
  obtain ⟨P, hP⟩ : ∃ P, P = F * (i + 1) := ⟨_, rfl⟩
  have hm : P ≤ 1073741824 * 8191 := by rw [hP]; exact Nat.mul_le_mul (Nat.le_of_lt hf) hi
  have hm2 : m ≤ 1073741824 * 8191 := by rw [hme]; exact Nat.mul_le_mul hf hi
  have b1 : P < 9223372036854775808 := Nat.lt_of_le_of_lt hm (by decide)
  have b2 : m < 9223372036854775808 := Nat.lt_of_le_of_lt hm2 (by decide)
  have a1 : w64 (((F : Nat) : Int) * ((i + 1 : Nat) : Int)) = ((P : Nat) : Int) := by
    rw [← Int.natCast_mul, ← hP, w64_nat b1]
  have b3 : w64 (((F : Nat) : Int) + 1) = ((F + 1 : Nat) : Int) := w64_succ (Nat.lt_trans hf (by decide))
  have a5 : w64 (w64 (((F : Nat) : Int) + 1) * ((i + 1 : Nat) : Int)) = ((m : Nat) : Int) := by
    rw [b3, ← Int.natCast_mul, ← hme, w64_nat b2]
  rw [← hP] at hqe
  clear hP hme b3
  have hq : q ≤ 100000 := by omega
  have hw : w64 (((i + 1 : Nat) : Int) + 1) = ((i + 1 + 1 : Nat) : Int) := w64_succ (by clear a1 a5; omega)
  have hd : decide (((i + 1 : Nat) : Int) ≤ 8191) = true := decide_eq_true (by clear a1 a5 hw; omega)
  have n1 : decide ((0 : Int) ≤ (30 : Int)) = true := rfl
  have a2 : w64 (((P : Nat) : Int) + 1073741824) = ((P + 1073741824 : Nat) : Int) := by
    clear a1 a5 hw hd n1 hqe
    rw [w64_id (by omega) (by omega)]; omega
  have a3 : w64 (((P + 1073741824 : Nat) : Int) - 1) = ((P + 1073741823 : Nat) : Int) := by
    clear a1 a5 hw hd n1 hqe a2
    rw [w64_id (by omega) (by omega)]; omega
  have a6 : w64 ((q : Int) * 1073741824) = ((q * 1073741824 : Nat) : Int) := by
    clear a1 a5 hw hd n1 hqe a2 a3
    rw [w64_id (by omega) (by omega)]; omega
  have a4 : (((P + 1073741823 : Nat) : Int)).fdiv ((1073741824 : Nat) : Int) = ((q : Nat) : Int) := by
    rw [fdiv_nat, hqe]
  unfold spec_l01Value_l1
  dsimp only
  rw [hd, cond_true, n1, cond_true, a1, a2, a3, pow30, a4, a5, hw]
  rw [a6]
  clear a1 a2 a3 a4 a5 a6 hw hd n1 hqe hm hm2
  by_cases c1 : q * 1073741824 < m
  · have d1 : decide (((q * 1073741824 : Nat) : Int) ≥ (m : Int)) = false := decide_eq_false (by omega)
    rw [d1, cond_false]
    by_cases c2 : q < i + 1
    · have d2 : decide ((q : Int) ≥ ((i + 1 : Nat) : Int)) = false := decide_eq_false (by omega)
      rw [d2, cond_false, spec_div (by omega) (by omega)]
      simp only [Option.bind_some]
      have hg : Int.gcd (q : Int) ((i + 1 : Nat) : Int) = Nat.gcd q (i + 1) := rfl
      rw [hg]
      by_cases c3 : Nat.gcd q (i + 1) = 1
      · have hA : isA ((q : Int), ((i + 1 : Nat) : Int), ()) := isA_of (by omega) (by omega) c2 c3
        have d3 : (((Nat.gcd q (i + 1) : Nat) : Int) != 1) = false := by rw [c3]; rfl
        rw [d3, cond_false, spec_begins hA ho]
        simp only [Option.bind_some]
        by_cases c4 : Dg ((q : Int), ((i + 1 : Nat) : Int), ()) s
        · rw [sel_pos ⟨c1, c2, c3, c4⟩, decide_eq_true c4]; rfl
        · rw [sel_neg (fun h => c4 h.2.2.2), decide_eq_false c4]; rfl
      · have d3 : (((Nat.gcd q (i + 1) : Nat) : Int) != 1) = true := by
          simp only [bne_iff_ne, ne_eq]; omega
        rw [d3, sel_neg (fun h => c3 h.2.2.1)]; rfl
    · have d2 : decide ((q : Int) ≥ ((i + 1 : Nat) : Int)) = true := decide_eq_true (by omega)
      rw [d2, sel_neg (fun h => c2 h.2.1)]; rfl
  · have d1 : decide (((q * 1073741824 : Nat) : Int) ≥ (m : Int)) = true := decide_eq_true (by omega)
    rw [d1, sel_neg (fun h => c1 h.1)]; rfl
theorem spec_tries {s : Sq} {t : Ang} (ho : okS s) (h1 : isB s.1) (h2 : isB s.2.1) : loop spec_l01Value_l1 (s, t, ((fst s : Nat) : Int), (1 : Int), ()) = some (match VL s with | (a, true) => .inl (a, true, ()) | (_, false) => .inr (t, ())) := by
  have hf : fst s < 1073741824 := by
    have hf := bv_lt (fst_isB ho h1 h2 30)
    rw [tab_len] at hf
    exact hf
  generalize hF : fst s = F at *
  have hL := loop_first (step := spec_l01Value_l1) (fun i => (s, t, ((F : Nat) : Int), ((i + 1 : Nat) : Int), ())) 8191 (.inr (t, ())) (fun i => .inl ((((qF F i : Nat) : Int), ((i + 1 : Nat) : Int), ()), true, ()))
    (fun i => qF F i * 1073741824 < (F + 1) * (i + 1) ∧ qF F i < i + 1 ∧ Nat.gcd (qF F i) (i + 1) = 1 ∧ Dg (((qF F i : Nat) : Int), ((i + 1 : Nat) : Int), ()) s) (fun i hi _ => try_step ho hf hi rfl rfl) (fun _ => by
      have hd : decide (((8191 + 1 : Nat) : Int) ≤ 8191) = false := rfl
      simp only [spec_l01Value_l1, hd, cond_false])
  have e : loop spec_l01Value_l1 (s, t, ((F : Nat) : Int), (1 : Int), ()) = loop spec_l01Value_l1 (s, t, ((F : Nat) : Int), ((0 + 1 : Nat) : Int), ()) := rfl
  rw [e]
  rcases hL with ⟨i, i1, i2, i3⟩ | ⟨i1, i2⟩
  · have hA : isA (((qF F i : Nat) : Int), ((i + 1 : Nat) : Int), ()) := isA_of (by omega) (by omega) i2.2.1 i2.2.2.1
    rw [i3, VL_yes hA i2.2.2.2]
  · have hno : ∀ a, isA a → ¬ Dg a s := fun a ha hd => by
      have hv := val_WD ha 30
      have hWD : WD a 30 = tab (sAt s) 30 := tab_ext fun p _ => hd p
      rw [hWD, show bv (tab (sAt s) 30) = F from hF] at hv
      have b1 := val_nonneg (dblN_isA ha 30)
      have b2 := val_lt_KK (dblN_isA ha 30)
      obtain ⟨n, d, rfl, c1, c2, c3, c4⟩ := isA_nat ha
      have hk := KK_div ha
      have hkp := kd_pos ha
      have hv' : val (dblN ((n : Int), (d : Int), ()) 30) + KK * ((F : Nat) : Int) = 1073741824 * val ((n : Int), (d : Int), ()) := hv
      generalize val (dblN ((n : Int), (d : Int), ()) 30) = x at *
      have hva : val ((n : Int), (d : Int), ()) = (n : Int) * (KK / (d : Int)) := rfl
      rw [hva] at hv'
      simp only at hk hkp
      generalize KK / (d : Int) = r at *
      have hy : (1073741824 * (n : Int) - (d : Int) * ((F : Nat) : Int)) * r = x := by rw [← hk] at hv'; grind
      have q1 : 0 ≤ 1073741824 * (n : Int) - (d : Int) * ((F : Nat) : Int) := Int.nonneg_of_mul_nonneg_left (by rw [hy]; exact b1) hkp
      have q2 : 1073741824 * (n : Int) - (d : Int) * ((F : Nat) : Int) < (d : Int) := Int.lt_of_mul_lt_mul_right (a := r) (by rw [hy, hk]; exact b2) (Int.le_of_lt hkp)
      have hm : (d : Int) * ((F : Nat) : Int) = ((F * d : Nat) : Int) := by push_cast; grind
      rw [hm] at q1 q2
      refine i1 (d - 1) (by omega) ?_
      have e1 : d - 1 + 1 = d := by omega
      have e3 : qF F (d - 1) = n := by unfold qF; rw [e1]; omega
      have e2 : (F + 1) * d = F * d + d := by grind
      rw [e3, e1, e2]
      exact ⟨by omega, c3, c4, hd⟩
    rw [i2, VL_no hno]
/-- The value that both are to tell. -/
noncomputable def valS (s : Sq) : Ang × Bool := if s.2.1 = [49] then (if s.1 = [] then ((0, 1, ()), true) else VL (s.1.take (s.1.length - 1) ++ [49], [48], ())) else VL s
theorem alt_VL {s : Sq} {t : Ang} : (alt (match VL s with | (a, true) => (Sum.inl (a, true, ()) : (Ang × Bool × Unit) ⊕ (Ang × Unit)) | (_, false) => .inr (t, ())) (fun r6 => some (r6.1, r6.2.1)) (fun _ => some (((0 : Int), (0 : Int), ()), false))) = some (VL s) := by
  generalize hr : VL s = r
  obtain ⟨a, b⟩ := r
  cases b with
  | true => rfl
  | false =>
    have : a = (0, 0, ()) := by
      unfold VL at hr
      split at hr
      · simp at hr
      · simp at hr; exact hr.symm
    subst this; rfl
theorem okS_of {s : Sq} (h0 : 0 < s.2.1.length) (hl : s.1.length + s.2.1.length ≤ 64) : okS s := ⟨h0, by omega, by omega⟩
theorem spec_value {s : Sq} (h0 : 0 < s.2.1.length) (h1 : isB s.1) (h2 : isB s.2.1) (hl : s.1.length + s.2.1.length ≤ 64) : spec_l01Value s = some (valS s) := by
  have core : ∀ s : Sq, 0 < s.2.1.length → isB s.1 → isB s.2.1 → s.1.length + s.2.1.length ≤ 64 → ((loop spec_l01Value_l0 (s, ((0 : Int), (0 : Int), ()), (0 : Int), (0 : Int), ())).bind fun r4 =>
      (loop spec_l01Value_l1 (r4.1, r4.2.1, r4.2.2.1, (1 : Int), ())).bind fun r5 =>
      alt r5 (fun r6 => some (r6.1, r6.2.1)) (fun r7 => some (((0 : Int), (0 : Int), ()), false))) = some (VL s) := fun s g0 g1 g2 gl => by
    rw [spec_first (okS_of g0 gl) g1 g2]
    simp only [Option.bind_some]
    rw [spec_tries (okS_of g0 gl) g1 g2]
    simp only [Option.bind_some]
    exact alt_VL
  unfold spec_l01Value valS
  have ha : (Array.toList (List.toArray [(49 : UInt8)])) = [49] := rfl
  have hb : (Array.toList (List.toArray ([] : List UInt8))) = [] := rfl
  by_cases hv : s.2.1 = [49]
  · rw [ha, hv, if_pos rfl]
    have e1 : (([49] : List UInt8) == [49]) = true := rfl
    rw [e1, cond_true, hb]
    by_cases hu : s.1 = []
    · rw [hu, if_pos rfl]; rfl
    · have hup : 0 < s.1.length := List.length_pos_iff.2 hu
      have e2 : (s.1 == ([] : List UInt8)) = false := by simpa using hu
      rw [e2, cond_false, if_neg hu]
      have hw : w64 (((s.1.length : Nat) : Int) - (1 : Int)) = ((s.1.length - 1 : Nat) : Int) := w64_pred2 hup (by omega)
      rw [hw]
      have c1 : (((decide ((0 : Int) ≤ (0 : Int))) && (decide ((0 : Int) ≤ ((s.1.length - 1 : Nat) : Int)))) && (decide (((s.1.length - 1 : Nat) : Int) ≤ ((s.1.length : Nat) : Int)))) = true := by
        simp only [Bool.and_eq_true, decide_eq_true_eq]; omega
      have d0 : ∀ l : List UInt8, l.drop (0 : Int).toNat = l := fun l => rfl
      rw [c1, cond_true]
      simp only [Int.toNat_natCast, d0]
      have hlt : (s.1.take (s.1.length - 1)).length = s.1.length - 1 := by rw [List.length_take]; omega
      have c2 : decide ((s.1.take (s.1.length - 1)).length + ([49] : List UInt8).length ≤ 1152921504606846976) = true := decide_eq_true (by rw [hlt]; simp; omega)
      rw [c2, cond_true]
      refine core (s.1.take (s.1.length - 1) ++ [49], [48], ()) (by simp) ?_ ?_ ?_
      · exact isB_app (fun c hc => h1 c (List.mem_of_mem_take hc)) (fun c hc => by rw [List.mem_singleton.1 hc]; exact .inr rfl)
      · intro c hc; rw [List.mem_singleton.1 hc]; exact .inl rfl
      · rw [hv] at hl
        simp only [List.length_append, hlt, List.length_singleton] at hl ⊢; omega
  · rw [if_neg hv, ha]
    have e1 : (s.2.1 == ([49] : List UInt8)) = false := by simpa using hv
    rw [e1, cond_false]
    exact core s h0 h1 h2 hl
theorem low_isV {n d : Nat} {u v : List UInt8} (h : low n d u v) (hu : isB u) (hp : prop v) (h8 : d ≤ 8191) : isA ((n : Int), (d : Int), ()) ∧ isV ((n : Int), (d : Int), ()) u v := by
  obtain ⟨h1, h2, h3, h4⟩ := h
  have hlt := nV_lt hu hp
  have hn0 : 0 ≤ nV u v := nV_nonneg
  have hA : isA ((n : Int), (d : Int), ()) := by
    refine isA_of h3 h8 ?_ h1
    have : nV u v * (d : Int) < dV u v * (d : Int) := Int.mul_lt_mul_of_pos_right hlt (by omega)
    rw [← h4, Int.mul_comm (dV u v)] at this
    have := Int.lt_of_mul_lt_mul_right this (by omega)
    omega
  refine ⟨hA, ?_⟩
  unfold isV
  have hk := KK_div hA
  have hva : val ((n : Int), (d : Int), ()) = (n : Int) * (KK / (d : Int)) := rfl
  rw [hva]
  simp only at hk
  generalize KK / (d : Int) = r at *
  rw [← hk]; grind
theorem low_den {n d : Nat} {u v : List UInt8} (h : low n d u v) (h0 : 0 < v.length) {b : Ang} (hb : isA b) (hv : isV b u v) : d ≤ 8191 := by
  obtain ⟨h1, h2, h3, h4⟩ := h
  have hdp : 0 < dV u v := by
    unfold dV
    have : (2 : Int) ^ 1 ≤ 2 ^ v.length := by
      have : (2 : Nat) ^ 1 ≤ 2 ^ v.length := Nat.pow_le_pow_right (by decide) h0
      exact_mod_cast this
    exact Int.mul_pos (pow_pos2 _) (by omega)
  obtain ⟨m, e, rfl, c1, c2, c3, c4⟩ := isA_nat hb
  unfold isV at hv
  have hk := KK_div hb
  have hkp := kd_pos hb
  have hva : val ((m : Int), (e : Int), ()) = (m : Int) * (KK / (e : Int)) := rfl
  rw [hva] at hv
  simp only at hk hkp
  generalize KK / (e : Int) = r at *
  have e1 : (m : Int) * dV u v = nV u v * e := by
    rw [← hk] at hv
    apply Int.eq_of_mul_eq_mul_right (show r ≠ 0 by omega)
    grind
  have e2 : (m : Int) * d = (n : Int) * e := by
    apply Int.eq_of_mul_eq_mul_right (show dV u v ≠ 0 by omega)
    grind
  have e3 : m * d = n * e := by exact_mod_cast e2
  have hdv : d ∣ n * e := ⟨m, by rw [← e3, Nat.mul_comm]⟩
  have hde : d ∣ e := Nat.Coprime.dvd_of_dvd_mul_left (by rw [Nat.Coprime, Nat.gcd_comm]; exact h1) hdv
  have := Nat.le_of_dvd (by omega) hde
  omega
theorem low_final {u v : List UInt8} (hu : isB u) (hb : isB v) (hp : prop v) {j n d : Nat} (hj : j ≤ u.length) (hlow : low n d (u.drop j) v) (hor : j = 0 ∨ 8191 < d) :
    (if 8191 < d then (((0, 0, ()) : Ang), (3 : Int)) else (angN n d, 0)) = ((VL (u, v, ())).1, if (VL (u, v, ())).2 then 0 else 3) := by
  have h0 : 0 < v.length := by
    cases v with
    | nil => exact absurd hp (by simp [prop])
    | cons c v => simp
  by_cases h8 : 8191 < d
  · rw [if_pos h8, VL_no (fun a ha hd => ?_)]
    · rfl
    · have := low_den hlow h0 (dblN_isA ha j) (Dg_isV (dblN_isA ha j) h0 (Dg_shift hd j hj))
      omega
  · have hj0 : j = 0 := by omega
    subst hj0
    obtain ⟨hA, hV⟩ := low_isV hlow hu hp (by omega)
    have hdg : Dg ((n : Int), (d : Int), ()) (u, v, ()) := fun k => isV_Dg k u v _ hA hu hb hp hV
    rw [if_neg h8, VL_yes hA hdg]
    have hnd : n < d := by have := hA.2.2.2.1; simp only at this; omega
    have hg := hlow.cop
    have e : angN n d = ((n : Int), (d : Int), ()) := by
      unfold angN
      rw [Nat.mod_eq_of_lt hnd, hg, Nat.div_one, Nat.div_one]
    rw [e]; rfl
theorem ones : ∀ {v : List UInt8}, isB v → ¬ prop v → ∀ c ∈ v, c = 49
  | [], _, _ => fun c hc => by simp at hc
  | x :: v, hb, hn => by
    have h1 := bv_lt (isB_tail hb)
    unfold prop at hn
    have e1 : bv (x :: v) = bt x * 2 ^ v.length + bv v := rfl
    rw [e1, List.length_cons, Nat.pow_succ] at hn
    have hx : x = 49 := by
      rcases hb x (List.mem_cons_self ..) with e | e
      · rw [e, bt_0] at hn; omega
      · exact e
    have hv : ¬ prop v := by
      unfold prop
      rw [hx, bt_1] at hn; omega
    intro c hc
    rcases List.mem_cons.1 hc with e | e
    · rw [e, hx]
    · exact ones (isB_tail hb) hv c e
theorem canon_prop {s : Sq} (h : canon s) (hb : isB s.2.1) (hn : s.2.1 ≠ [49]) : prop s.2.1 := by
  refine Classical.byContradiction fun hp => ?_
  have ho := ones hb hp
  have h0 := h.per
  have hat : ∀ i, i < s.2.1.length → s.2.1.getD i 0 = 49 := fun i hi => ho _ (by rw [getD_at hi]; exact List.getElem_mem hi)
  by_cases h1 : 1 < s.2.1.length
  · exact h.prim 1 (Nat.le_refl _) h1 ⟨Nat.one_dvd _, (rep_iff (Nat.le_refl _) (by omega) (Nat.one_dvd _)).2 fun i i1 i2 => by rw [hat i i2, hat (i - 1) (by omega)]⟩
  · refine hn (ext_getD (by simp; omega) fun i hi => ?_)
    have : i = 0 := by omega
    subst this
    rw [hat 0 h0]; rfl
theorem impl_value {s : Sq} (h : canon s) (h1 : isB s.1) (h2 : isB s.2.1) (hl : s.1.length + s.2.1.length ≤ 64) : impl_AngleOfSequence s = some ((valS s).1, if (valS s).2 then 0 else 3) := by
  obtain ⟨j, n, d, a1, a2, a3, a4, a5⟩ := impl_AOS h h1 h2 hl
  rw [a5]
  congr 1
  by_cases hv : s.2.1 = [49]
  · unfold valS
    rw [if_pos hv]
    rw [hv] at a2 a4
    have hg : (2 ^ ([49] : List UInt8).length - 1) / Nat.gcd (bv [49]) (2 ^ ([49] : List UInt8).length - 1) ≤ 8191 := by decide
    by_cases hu : s.1 = []
    · rw [if_pos hu]
      rw [hu] at a1 a2
      have hj : j = 0 := by simpa using a1
      subst hj
      have e1 : dV ([] : List UInt8) [49] = 1 := by simp [dV]
      have e2 : nV ([] : List UInt8) [49] = 1 := by simp [nV, bv, bt_1]
      have hval := a2.val
      simp only [List.drop_nil] at hval
      rw [e1, e2] at hval
      have hnd : n = d := by omega
      have hc := a2.cop
      rw [hnd, Nat.gcd_self] at hc
      rw [hnd, hc]
      decide
    · rw [if_neg hu]
      have hup : 0 < s.1.length := List.length_pos_iff.2 hu
      have hj : j ≤ s.1.length - 1 := by
        rcases a4 hg with e | e <;> omega
      have hla := h.last hup
      rw [hv] at hla
      have hlast : s.1.getD (s.1.length - 1) 0 = 48 := by
        rcases h1 (s.1.getD (s.1.length - 1) 0) (by rw [getD_at (by omega)]; exact List.getElem_mem _) with e | e
        · exact e
        · exact absurd e hla
      have hsp : s.1 = s.1.take (s.1.length - 1) ++ [48] := by
        have e := List.take_succ_eq_append_getElem (show s.1.length - 1 < s.1.length by omega)
        rw [← getD_at (d := 0) (show s.1.length - 1 < s.1.length by omega), hlast, show s.1.length - 1 + 1 = s.1.length by omega, List.take_length] at e
        exact e
      have hwl : (s.1.take (s.1.length - 1)).length = s.1.length - 1 := by rw [List.length_take]; omega
      have hB : isB (s.1.take (s.1.length - 1)) := fun c hc => h1 c (List.mem_of_mem_take hc)
      generalize s.1.take (s.1.length - 1) = w at *
      have hd1 : s.1.drop j = w.drop j ++ [48] := by rw [hsp, List.drop_append_of_le_length (by omega)]
      have hd2 : (w ++ [49]).drop j = w.drop j ++ [49] := by rw [List.drop_append_of_le_length (by omega)]
      have hlow : low n d ((w ++ [49]).drop j) [48] := by
        refine ⟨a2.cop, a2.le, a2.pos, ?_⟩
        have := a2.val
        rw [hd1] at this
        rw [hd2]
        have e1 : dV (w.drop j ++ [49]) [48] = dV (w.drop j ++ [48]) [49] := by simp [dV]
        have e2 : nV (w.drop j ++ [49]) [48] = nV (w.drop j ++ [48]) [49] := by
          simp [nV, bv_app, bv, bt_0, bt_1]
        rw [e1, e2]; exact this
      refine low_final ?_ ?_ ?_ (by simp; omega) hlow a3
      · exact isB_app hB (fun c hc => by rw [List.mem_singleton.1 hc]; exact .inr rfl)
      · intro c hc; rw [List.mem_singleton.1 hc]; exact .inl rfl
      · unfold prop; simp [bv, bt_0]
  · unfold valS
    rw [if_neg hv]
    exact low_final h1 h2 (canon_prop h h2 hv) a1 a2 a3
theorem eq_ang1 (a : Ang) : laws_eqAngle a a = some true := by
  unfold laws_eqAngle; simp
theorem valS_no {s : Sq} (h : (valS s).2 = false) : (valS s).1 = (0, 0, ()) := by
  have hv : ∀ s : Sq, (VL s).2 = false → (VL s).1 = (0, 0, ()) := fun s h => by
    unfold VL at *
    split at h
    · simp at h
    · rename_i hn; rw [dif_neg hn]
  unfold valS at *
  split at h
  · rename_i e1
    split at h
    · simp at h
    · rename_i e2
      rw [if_pos e1, if_neg e2]
      exact hv _ h
  · rename_i e1
    rw [if_neg e1]
    exact hv _ h
theorem valS_yes {s : Sq} (h : (valS s).2 = true) : isA (valS s).1 := by
  have hv : ∀ s : Sq, (VL s).2 = true → isA (VL s).1 := fun s h => by
    unfold VL at *
    split at h
    · rename_i he; rw [dif_pos he]; exact (Classical.choose_spec he).1
    · simp at h
  unfold valS at *
  split at h
  · rename_i e1
    split at h
    · rename_i e2
      rw [if_pos e1, if_pos e2]; decide
    · rename_i e2
      rw [if_pos e1, if_neg e2]
      exact hv _ h
  · rename_i e1
    rw [if_neg e1]
    exact hv _ h
end Go.K.Pure

/- Plain laws of ray pairs, part S: letters become words. -/
set_option linter.all false
namespace Go.K.Pure
open Classical
/-- Each letter's word. -/
def puts (lo up : List UInt8) (t : List UInt8) : List UInt8 := t.flatMap fun c => if c = 49 then up else lo
theorem puts_len {lo up t : List UInt8} {n : Nat} (h1 : lo.length = n) (h2 : up.length = n) : (puts lo up t).length = t.length * n := by
  unfold puts
  induction t with
  | nil => simp
  | cons c t ih =>
    rw [List.flatMap_cons, List.length_append, ih, List.length_cons, Nat.succ_mul]
    split <;> omega
theorem puts_take {lo up t : List UInt8} {i : Nat} (h : i < t.length) : puts lo up (t.take (i + 1)) = puts lo up (t.take i) ++ (if t.getD i 0 = 49 then up else lo) := by
  unfold puts
  rw [List.take_succ_eq_append_getElem h, List.flatMap_append, getD_at h]
  simp
theorem spec_put {lo up t : List UInt8} {n : Nat} (h1 : lo.length = n) (h2 : up.length = n) (hn : n ≤ 1000) (hl : t.length ≤ 1000) : spec_l09Put t lo up = some (puts lo up t) := by
  unfold spec_l09Put
  have := loop_count (step := spec_l09Put_l0) (fun i => (t, lo, up, puts lo up (t.take i), (i : Int), ())) t.length (puts lo up t, ()) (fun i hi => by
    have hw : w64 ((i : Int) + 1) = ((i + 1 : Nat) : Int) := w64_succ (by omega)
    have hpl : (puts lo up (t.take i)).length ≤ 1000 * 1000 := by
      rw [puts_len h1 h2, List.length_take]
      exact Nat.mul_le_mul (by omega) hn
    have hs1 : decide ((puts lo up (t.take i)).length + up.length ≤ 1152921504606846976) = true := decide_eq_true (by omega)
    have hs2 : decide ((puts lo up (t.take i)).length + lo.length ≤ 1152921504606846976) = true := decide_eq_true (by omega)
    simp only [spec_l09Put_l0, ltb hi, cond_true, Int.toNat_natCast, hw, nn0 i, Bool.and_self, hs1, hs2]
    rw [puts_take hi]
    by_cases hc : t.getD i 0 = 49
    · rw [if_pos hc, hc]; rfl
    · rw [if_neg hc]
      have : ((((t.getD i 0).toNat : Nat) : Int) == 49) = false := by
        simp only [beq_eq_false_iff_ne, ne_eq]
        intro e
        exact hc (UInt8.toNat_inj.1 (by have : (t.getD i 0).toNat = 49 := by omega
                                        rw [this]; rfl))
      rw [this]; rfl) (by
    simp only [spec_l09Put_l0, nltb (Nat.lt_irrefl _), cond_false, List.take_length]) 0 (by omega)
  have e : loop spec_l09Put_l0 (t, lo, up, (Array.toList (List.toArray ([] : List UInt8))), (0 : Int), ()) = _ := this
  rw [e]; rfl
theorem impl_put {lo up t : List UInt8} {n : Nat} (h1 : lo.length = n) (h2 : up.length = n) (hn : n ≤ 1000) (hl : t.length ≤ 1000) (hb : ∀ c ∈ t, c = 48 ∨ c = 49) : impl_words_put ((n : Int), [lo, up], ()) t = some (puts lo up t) := by
  unfold impl_words_put
  have hc : decide (t.length ≤ 140737488355328) = true := decide_eq_true (by omega)
  rw [hc, cond_true]
  have hL : ∀ f : UInt8 → Int, (t.map f).length = t.length := fun f => List.length_map _
  have := loop_count (step := impl_words_put_l0) (fun i => (((n : Int), [lo, up], ()), puts lo up (t.take i), t.map (fun z3 => ((z3.toNat : Nat) : Int)), ((t.length : Nat) : Int), (i : Int), ())) t.length (puts lo up t, ()) (fun i hi => by
    have hw : w64 ((i : Int) + 1) = ((i + 1 : Nat) : Int) := w64_succ (by omega)
    have hpl : (puts lo up (t.take i)).length ≤ 1000 * 1000 := by
      rw [puts_len h1 h2, List.length_take]
      exact Nat.mul_le_mul (by omega) hn
    have hi2 : i < (t.map (fun z3 => ((z3.toNat : Nat) : Int))).length := by rw [hL]; exact hi
    have hg : (t.map (fun z3 => ((z3.toNat : Nat) : Int))).getD i 0 = (((t.getD i 0).toNat : Nat) : Int) := by
      rw [getD_at hi2, getD_at hi, List.getElem_map]
    have hm : t.getD i 0 ∈ t := by rw [getD_at hi]; exact List.getElem_mem hi
    have hs1 : decide ((puts lo up (t.take i)).length + up.length ≤ 1152921504606846976) = true := decide_eq_true (by omega)
    have hs2 : decide ((puts lo up (t.take i)).length + lo.length ≤ 1152921504606846976) = true := decide_eq_true (by omega)
    simp only [impl_words_put_l0, ltb hi, ltb hi2, cond_true, Int.toNat_natCast, hw, nn0 i, Bool.and_self, hg]
    rw [puts_take hi]
    rcases hb _ hm with e | e
    · rw [e, if_neg (by decide)]
      have q : (wu8 ((((48 : UInt8).toNat : Nat) : Int) - 48)) = 0 := by decide
      rw [q]
      have g : [lo, up].getD (0 : Int).toNat ([] : List UInt8) = lo := rfl
      rw [g, hs2]; rfl
    · rw [e, if_pos rfl]
      have q : (wu8 ((((49 : UInt8).toNat : Nat) : Int) - 48)) = 1 := by decide
      rw [q]
      have g : [lo, up].getD (1 : Int).toNat ([] : List UInt8) = up := rfl
      rw [g, hs1]; rfl) (by
    simp only [impl_words_put_l0, nltb (Nat.lt_irrefl _), cond_false, List.take_length]) 0 (by omega)
  rw [hL]
  have e : loop impl_words_put_l0 (((n : Int), [lo, up], ()), (Array.toList (List.toArray ([] : List UInt8))), t.map (fun z3 => ((z3.toNat : Nat) : Int)), ((t.length : Nat) : Int), (0 : Int), ()) = _ := this
  rw [e]; rfl
end Go.K.Pure

/- Plain laws of ray pairs, part 1: what an angle is tuned to. -/
set_option linter.all false
namespace Go.K.Pure
open Classical
theorem puts_B {lo up t : List UInt8} (h1 : isB lo) (h2 : isB up) : isB (puts lo up t) := fun c hc => by
  unfold puts at hc
  obtain ⟨x, _, h⟩ := List.mem_flatMap.1 hc
  split at h
  · exact h2 c h
  · exact h1 c h
theorem tune_ok {lo up : List UInt8} {n : Nat} (n1 : 1 ≤ n) (n8 : n ≤ 8) (l1 : lo.length = n) (l2 : up.length = n) (b1 : isB lo) (b2 : isB up) {x : Ang} (hx : isA x) :
    ∃ r : Ang × Bool, spec_l09Tune x lo up = some r ∧ impl_words_tune ((n : Int), [lo, up], ()) x = some (r.1, if r.2 then 0 else 3) ∧ (r.2 = false → r.1 = (0, 0, ())) ∧ (r.2 = true → isA r.1) := by
  unfold spec_l09Tune impl_words_tune
  cases hk : (ob x).2.2 with
  | false =>
    obtain ⟨⟨s, n1⟩, n2⟩ := noQ hx hk
    rw [n1, n2]
    exact ⟨(((0 : Int), (0 : Int), ()), false), rfl, rfl, fun _ => rfl, fun h => by cases h⟩
  | true =>
    obtain ⟨q, p, hQ⟩ := isQ_of hx hk
    have hp := hQ.pos
    have hle := hQ.le
    rw [hQ.spec, hQ.impl]
    have e0 : ((0 : Int) != 0) = false := rfl
    have q1 : (sqq x q p).1.length = q := WD_len
    have q2 : (sqq x q p).2.1.length = p := WD_len
    have hm : (q + p) * n ≤ 64 * 8 := Nat.mul_le_mul hle n8
    have w1 : w64 ((w64 (((q : Nat) : Int) + ((p : Nat) : Int))) * ((n : Nat) : Int)) = (((q + p) * n : Nat) : Int) := by
      rw [w64_id (n := ((q : Nat) : Int) + ((p : Nat) : Int)) (by omega) (by omega), ← Int.natCast_add, ← Int.natCast_mul, w64_nat (by omega)]
    have w2 : w64 (((n : Nat) : Int) * (w64 (((q : Nat) : Int) + ((p : Nat) : Int)))) = (((q + p) * n : Nat) : Int) := by
      rw [Int.mul_comm]
      rw [w64_id (n := ((q : Nat) : Int) + ((p : Nat) : Int)) (by omega) (by omega), ← Int.natCast_add, ← Int.natCast_mul, w64_nat (by omega)]
    simp only [Option.bind_some, Bool.not_true, cond_false, e0, q1, q2, l1, w1, w2]
    by_cases h64 : (q + p) * n ≤ 64
    · have d1 : decide ((((q + p) * n : Nat) : Int) > 64) = false := decide_eq_false (by omega)
      rw [d1]
      simp only [cond_false]
      have hb1 : ∀ c ∈ (sqq x q p).1, c = 48 ∨ c = 49 := isB_WD x q
      have hb2 : ∀ c ∈ (sqq x q p).2.1, c = 48 ∨ c = 49 := isB_WD (dblN x q) p
      rw [spec_put l1 l2 (by omega) (by rw [q1]; omega), spec_put l1 l2 (by omega) (by rw [q2]; omega), impl_put l1 l2 (by omega) (by rw [q1]; omega) hb1, impl_put l1 l2 (by omega) (by rw [q2]; omega) hb2]
      simp only [Option.bind_some]
      have p1 : (puts lo up (sqq x q p).1).length = q * n := by rw [puts_len l1 l2, q1]
      have p2 : (puts lo up (sqq x q p).2.1).length = p * n := by rw [puts_len l1 l2, q2]
      have hpn : 1 * 1 ≤ p * n := Nat.mul_le_mul hp n1
      have hsum : (q + p) * n = q * n + p * n := Nat.add_mul _ _ _
      obtain ⟨s, s1, s2, s3, s4, s5, s6, s7⟩ := canon_ok (pre := puts lo up (sqq x q p).1) (per := puts lo up (sqq x q p).2.1) (by omega) (by omega) (by omega)
      rw [s1, s2]
      simp only [Option.bind_some]
      have t1 : isB s.1 := fun c hc => puts_B b1 b2 c (s6 c hc)
      have t2 : isB s.2.1 := fun c hc => puts_B b1 b2 c (s7 c hc)
      rw [spec_value s3.per t1 t2 (by omega), impl_value s3 t1 t2 (by omega)]
      exact ⟨valS s, rfl, rfl, valS_no, valS_yes⟩
    · have d1 : decide ((((q + p) * n : Nat) : Int) > 64) = true := decide_eq_true (by omega)
      rw [d1]
      exact ⟨(((0 : Int), (0 : Int), ()), false), rfl, rfl, fun _ => rfl, fun h => by cases h⟩
end Go.K.Pure

/- Plain laws of ray pairs, part 4: the law of TunePair. -/
set_option linter.all false
namespace Go.K.Pure
open Classical
theorem eq_pair4 (a : Pr) : laws_eqRayPair a a = some true := by
  unfold laws_eqRayPair
  simp [eq_ang1]
theorem law_TunePair {t y : Ang} (ht : InA t) (hy : InA y) : laws_FnExactTunePair t y = some true := by
  have key : ∃ r, spec_TunePair t y = some r ∧ impl_TunePair t y = some r := by
    unfold spec_TunePair impl_TunePair spec_l09Both spec_l09Code impl_bothPairs impl_wordsFor
    rw [spec_isA ht, spec_isA hy, impl_code (L := [y]) (by simpa using hy) (by simp)]
    by_cases hY : isA y
    · have hL : ∀ x ∈ [y], isA x := by simpa using hY
      rw [if_pos hL, decide_eq_true hY]
      have e0 : ((0 : Int) != 0) = false := rfl
      have e1 : ((1 : Int) != 0) = true := rfl
      have e2 : ((2 : Int) != 0) = true := rfl
      have e3 : ((3 : Int) != 0) = true := rfl
      by_cases hT : isA t
      · have hp := ps_pg hT
        by_cases hr : 2 ≤ ps t ∧ ps t ≤ 8
        · have hpg : pg t = ps t := by rw [hp, if_pos hr.2]
          have hP : isP t (ps t) := ⟨hT, hpg, by omega⟩
          obtain ⟨P, p1, p2, p3⟩ := spec_pair hP hr.1
          have d1 : decide ((2 : Int) ≤ (ps t : Int) ∧ (ps t : Int) ≤ 8) = true := decide_eq_true (by omega)
          simp only [decide_eq_true hT, decide_eq_true hY, Option.bind_some, Bool.not_true, cond_false, spec_l04Code, spec_isA ht, spec_isA hy, spec_period hT, spec_period hY, spec_in, d1, e0, p2, impl_pair hP hr.1 p3, spec_words p1.a p1.b, impl_words p1.a p1.b]
          have hpY := ps_pg hY
          by_cases hrY : 2 ≤ ps y ∧ ps y ≤ 8
          · have hpgY : pg y = ps y := by rw [hpY, if_pos hrY.2]
            have hPY : isP y (ps y) := ⟨hY, hpgY, by omega⟩
            obtain ⟨R, q1, q2, q3⟩ := spec_pair hPY hrY.1
            have d2 : decide ((2 : Int) ≤ (ps y : Int) ∧ (ps y : Int) ≤ 8) = true := decide_eq_true (by omega)
            obtain ⟨r, r1, r2, r3, r4⟩ := tune_ok (lo := WD P.1 (ps t)) (up := WD P.2.1 (ps t)) (n := ps t) (by omega) (by omega) WD_len WD_len (isB_WD _ _) (isB_WD _ _) q1.a.isA
            obtain ⟨u, u1, u2, u3, u4⟩ := tune_ok (lo := WD P.1 (ps t)) (up := WD P.2.1 (ps t)) (n := ps t) (by omega) (by omega) WD_len WD_len (isB_WD _ _) (isB_WD _ _) q1.b.isA
            simp only [d2, Bool.not_true, cond_false, Option.bind_some, q2, impl_pair hPY hrY.1 q3, e0, r1, r2, u1, u2]
            obtain ⟨ra, rb⟩ := r
            obtain ⟨ua, ub⟩ := u
            cases rb with
            | false => cases ub <;> exact ⟨_, rfl, rfl⟩
            | true =>
              cases ub with
              | false => exact ⟨_, rfl, rfl⟩
              | true =>
                have ha := r4 rfl
                have hb := u4 rfl
                simp only at ha hb
                simp only [Bool.not_true, cond_false, if_true, e0, spec_less hb ha, impl_compare ha hb, Option.bind_some]
                unfold cmpA
                by_cases c : lt ua ra
                · have c2 : ¬ lt ra ua := fun h => by unfold lt at *; omega
                  rw [if_neg c2, if_pos c, decide_eq_true c]
                  exact ⟨_, rfl, rfl⟩
                · rw [decide_eq_false c, if_neg c]
                  split <;> exact ⟨_, rfl, rfl⟩
          · have d2 : decide ((2 : Int) ≤ (ps y : Int) ∧ (ps y : Int) ≤ 8) = false := decide_eq_false (by omega)
            have d3 : decide ((2 : Int) ≤ (pg y : Int) ∧ (pg y : Int) ≤ 8) = false := decide_eq_false (by
              rw [hpY]
              split <;> omega)
            unfold impl_PairOf
            rw [impl_code (L := [y]) (by simpa using hy) (by simp), if_pos (by simpa using hY)]
            simp only [Option.bind_some, Bool.not_true, Bool.not_false, cond_true, cond_false, impl_period hY, impl_isPeriod, impl_in, d2, d3, e0, e2]
            exact ⟨_, rfl, rfl⟩
        · have d1 : decide ((2 : Int) ≤ (ps t : Int) ∧ (ps t : Int) ≤ 8) = false := decide_eq_false (by omega)
          have d2 : decide ((2 : Int) ≤ (pg t : Int) ∧ (pg t : Int) ≤ 8) = false := decide_eq_false (by
            rw [hp]
            split <;> omega)
          unfold impl_PairOf
          rw [impl_code (L := [t]) (by simpa using ht) (by simp), if_pos (by simpa using hT)]
          simp only [decide_eq_true hT, Option.bind_some, Bool.not_true, Bool.not_false, cond_true, cond_false, spec_l04Code, spec_isA ht, spec_period hT, impl_period hT, impl_isPeriod, impl_in, spec_in, d1, d2, e0, e2]
          exact ⟨_, rfl, rfl⟩
      · unfold impl_PairOf
        rw [impl_code (L := [t]) (by simpa using ht) (by simp), if_neg (by simpa using hT)]
        simp only [decide_eq_false hT, Option.bind_some, Bool.not_false, cond_true, cond_false, e0, e1]
        exact ⟨_, rfl, rfl⟩
    · have hL : ¬ ∀ x ∈ [y], isA x := by simpa using hY
      rw [if_neg hL, decide_eq_false hY]
      cases decide (isA t) <;> exact ⟨_, rfl, rfl⟩
  obtain ⟨r, h1, h2⟩ := key
  unfold laws_FnExactTunePair
  rw [toA, toA]
  simp only [Option.bind_some]
  rw [h1, h2]
  simp only [Option.bind_some, eq_pair4]
  simp
end Go.K.Pure

