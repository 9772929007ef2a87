/- Part 2 of the plain law: the functions of the program as plain functions on lists and numbers, and what is shown of them; no condition. -/
import Derived.Test.YtgeageanmhpfjaaGreatP1
set_option linter.all false
/- Plain laws of ray pairs, part L: the words of a pair; what is renormalizable. -/
set_option linter.all false
namespace Go.K.Pure
open Classical
/-- The sequence of an angle that comes back. -/
def sq (a : Ang) (n : Nat) : Sq := ([], WD a n, ())
theorem sq_at {a : Ang} {n : Nat} (h0 : 0 < n) (hp : dblN a n = a) (k : Nat) : sAt (sq a n) k = dgt (dblN a k) := by
  unfold sAt sq
  simp only [List.length_nil, Nat.not_lt_zero, if_false, Nat.sub_zero]
  rw [WD_len, WD_at (Nat.mod_lt _ h0), dblN_mod hp]
theorem sq_ok {a : Ang} {n : Nat} (h0 : 0 < n) (h1 : n ≤ 10000) : okS (sq a n) := ⟨by unfold sq; simp only [WD_len]; exact h0, by simp [sq], by unfold sq; simp only [WD_len]; exact h1⟩
theorem dgt_lt (x : Ang) : dgt x < 128 := by rcases dgt_or x with h | h <;> rw [h] <;> decide
theorem words_in {t2 : Int × List (List UInt8) × Unit} {n : Int} {c : Int} {L : List UInt8 → List (List UInt8)} {i : Nat} (hi : i < 2) (hg : ∀ u, (L u).getD i [] = u) (hs : ∀ u v, (L u).set i v = L v) {s : Sq} (h : okS s) (h7 : ∀ k, sAt s k < 128) {t19 : List Ang} {t20 t21 : Int} {m : Nat} (hm : m ≤ 10000) :
    loop impl_wordsOf_l1 (t2, n, (c, L [], ()), (i : Int), s, t19, t20, t21, (m : Int), (0 : Int), ()) = some (t2, n, (c, L (tab (sAt s) m), ()), t19, t20, t21, ()) := by
  have := loop_count (step := impl_wordsOf_l1) (fun j => (t2, n, (c, L (tab (sAt s) j), ()), (i : Int), s, t19, t20, t21, (m : Int), (j : Int), ())) m (t2, n, (c, L (tab (sAt s) m), ()), t19, t20, t21, ()) (fun j hj => by
    have hw : w64 ((j : Int) + 1) = ((j + 1 : Nat) : Int) := w64_succ (by omega)
    have h7' : (sAt s j).toNat < 128 := h7 j
    have hb : (decide ((0 : Int) ≤ (((sAt s j).toNat : Nat) : Int)) && decide ((((sAt s j).toNat : Nat) : Int) < 128)) = true := by
      simp only [Bool.and_eq_true, decide_eq_true_eq]; omega
    have hi2 : ((decide ((0 : Int) ≤ (i : Int))) && (decide ((i : Int) < ((2 : Nat) : Int)))) = true := inb hi
    have hsz : decide ((tab (sAt s) j).length + [(UInt8.ofNat (sAt s j).toNat)].length ≤ 1152921504606846976) = true := decide_eq_true (by rw [tab_len]; simp; omega)
    simp only [impl_wordsOf_l1, ltb hj, cond_true, hi2, impl_at h (show j ≤ 1000000000 by omega), Option.bind_some, hb, Int.toNat_natCast, hg, hsz, hs, hw]
    rw [tab_succ]
    simp) (by
    simp only [impl_wordsOf_l1, nltb (Nat.lt_irrefl _), cond_false]) 0 (by omega)
  exact this
theorem tab_sq {a : Ang} {n : Nat} (h0 : 0 < n) (hp : dblN a n = a) : tab (sAt (sq a n)) n = WD a n := tab_ext fun k _ => sq_at h0 hp k
/-- An angle of period `n`. -/
structure isP (a : Ang) (n : Nat) : Prop where
  isA : isA a
  per : pg a = n
  pos : 1 ≤ n
theorem isP.le {a : Ang} {n : Nat} (h : isP a n) : n ≤ 8 := by
  have := (pg_back h.isA (by rw [h.per]; exact h.pos)).1
  rw [h.per] at this; exact this
theorem isP.back {a : Ang} {n : Nat} (h : isP a n) : dblN a n = a := by
  have := (pg_back h.isA (by rw [h.per]; exact h.pos)).2.1
  rw [h.per] at this; exact this
theorem isP.impl {a : Ang} {n : Nat} (h : isP a n) : impl_ExpansionOf a = some (sq a n, 0) := by
  have := impl_exp h.isA (by rw [h.per]; exact h.pos)
  rw [h.per] at this; exact this
theorem isP.spec {a : Ang} {n : Nat} (h : isP a n) : spec_l01Expansion a = some (sq a n, true) := by
  have := spec_exp h.isA (by rw [h.per]; exact h.pos)
  rw [h.per] at this; exact this
theorem isP.okS {a : Ang} {n : Nat} (h : isP a n) : okS (sq a n) := sq_ok h.pos (by have := h.le; omega)
theorem isP.b7 {a : Ang} {n : Nat} (h : isP a n) (k : Nat) : sAt (sq a n) k < 128 := by rw [sq_at h.pos h.back]; exact dgt_lt _
theorem impl_words {p : Pr} {n : Nat} (h1 : isP p.1 n) (h2 : isP p.2.1 n) : impl_wordsOf p = some ((n : Int), [WD p.1 n, WD p.2.1 n], ()) := by
  have h8 := h1.le
  unfold impl_wordsOf
  rw [impl_period h1.isA, h1.per]
  simp only [Option.bind_some]
  have e0 : List.replicate 2 ([] : List UInt8) = [[], []] := rfl
  have l0 := words_in (t2 := ((0 : Int), [[], []], ())) (n := (n : Int)) (c := (n : Int)) (L := fun u => [u, []]) (i := 0) (by omega) (fun u => rfl) (fun u v => rfl) h1.okS h1.b7 (t19 := [p.1, p.2.1]) (t20 := 2) (t21 := 0) (m := n) (by omega)
  have l1 := words_in (t2 := ((0 : Int), [[], []], ())) (n := (n : Int)) (c := (n : Int)) (L := fun u => [WD p.1 n, u]) (i := 1) (by omega) (fun u => rfl) (fun u v => rfl) h2.okS h2.b7 (t19 := [p.1, p.2.1]) (t20 := 2) (t21 := 1) (m := n) (by omega)
  rw [tab_sq h1.pos h1.back] at l0
  rw [tab_sq h2.pos h2.back] at l1
  have g0 : [p.1, p.2.1].getD (0 : Int).toNat ((0 : Int), (0 : Int), ()) = p.1 := rfl
  have g1 : [p.1, p.2.1].getD (1 : Int).toNat ((0 : Int), (0 : Int), ()) = p.2.1 := rfl
  have s0 : impl_wordsOf_l0 (((0 : Int), [[], []], ()), (n : Int), ((n : Int), [[], []], ()), [p.1, p.2.1], (2 : Int), (0 : Int), ()) = some (.next (((0 : Int), [[], []], ()), (n : Int), ((n : Int), [WD p.1 n, []], ()), [p.1, p.2.1], (2 : Int), (1 : Int), ())) := by
    simp only [impl_wordsOf_l0, g0, h1.impl, Option.bind_some]
    have l0' : loop impl_wordsOf_l1 (((0 : Int), [[], []], ()), (n : Int), ((n : Int), [[], []], ()), (0 : Int), sq p.1 n, [p.1, p.2.1], (2 : Int), (0 : Int), (n : Int), (0 : Int), ()) = _ := l0
    rw [l0']
    rfl
  have s1 : impl_wordsOf_l0 (((0 : Int), [[], []], ()), (n : Int), ((n : Int), [WD p.1 n, []], ()), [p.1, p.2.1], (2 : Int), (1 : Int), ()) = some (.next (((0 : Int), [[], []], ()), (n : Int), ((n : Int), [WD p.1 n, WD p.2.1 n], ()), [p.1, p.2.1], (2 : Int), (2 : Int), ())) := by
    simp only [impl_wordsOf_l0, g1, h2.impl, Option.bind_some]
    have l1' : loop impl_wordsOf_l1 (((0 : Int), [[], []], ()), (n : Int), ((n : Int), [WD p.1 n, []], ()), (1 : Int), sq p.2.1 n, [p.1, p.2.1], (2 : Int), (1 : Int), (n : Int), (0 : Int), ()) = _ := l1
    rw [l1']
    rfl
  have hl2 : ((([p.1, p.2.1] : List Ang).length : Nat) : Int) = 2 := rfl
  rw [e0, hl2, loop_eq, s0]
  simp only
  rw [loop_eq, s1]
  simp only
  rw [loop_eq]
  rfl
theorem spec_words {p : Pr} {n : Nat} (h1 : isP p.1 n) (h2 : isP p.2.1 n) : spec_l09Words p = some (WD p.1 n, WD p.2.1 n) := by
  unfold spec_l09Words
  rw [h1.spec, h2.spec]; rfl
/-- Whether a sequence is made of a pair's words. -/
noncomputable def mkd (s : Sq) (p : Pr) : Bool := decide (okCut s (WD p.1 (pg p.1)) (WD p.2.1 (pg p.1)) (pg p.1))
structure isPP (p : Pr) (n : Nat) : Prop where
  a : isP p.1 n
  b : isP p.2.1 n
theorem isPP.spec {p : Pr} {n : Nat} (h : isPP p n) {s : Sq} (hs : okS s) : ∃ r, (spec_l09Words p).bind (fun r0 => spec_l09Cut s r0.1 r0.2) = some r ∧ r.2.2 = mkd s p := by
  rw [spec_words h.a h.b]
  simp only [Option.bind_some]
  rw [spec_cut hs (WD_len) h.a.pos (by have := h.a.le; omega)]
  refine ⟨_, rfl, ?_⟩
  unfold mkd
  rw [h.a.per]
  split
  · simp [*]
  · simp [*]
theorem isPP.impl {p : Pr} {n : Nat} (h : isPP p n) {s : Sq} (hs : okS s) (h7 : ∀ k, sAt s k < 128) : ∃ r, (impl_wordsOf p).bind (fun r0 => impl_words_cut r0 s) = some r ∧ r.2 = mkd s p := by
  have h8 := h.a.le
  rw [impl_words h.a h.b]
  simp only [Option.bind_some]
  rw [impl_cut hs (lo := WD p.1 n) (up := WD p.2.1 n) (n := n) WD_len h.a.pos (by omega) h7]
  unfold mkd
  rw [h.a.per]
  split
  · rename_i hc
    have hA := AH_le (n := n) hs.l1 h.a.pos
    have hl : (letts s (WD p.1 n) n (CN s n)).length = AH s n + s.2.1.length := tab_len
    have h2 := hs.l2
    have h3 := hs.per
    obtain ⟨r, hr⟩ := seq_some (pre := (letts s (WD p.1 n) n (CN s n)).take (AH s n)) (per := (letts s (WD p.1 n) n (CN s n)).drop (AH s n)) (by rw [List.length_drop]; omega) (by rw [List.length_take]; omega) (by rw [List.length_drop]; omega)
    rw [hr]
    exact ⟨_, rfl, by simp [hc]⟩
  · rename_i hc
    exact ⟨_, rfl, by simp [hc]⟩
theorem UP_PP {n : Nat} (h8 : n ≤ 8) {x : Pr} (h : x ∈ (UP n).map aP) : ∃ k, 2 ≤ k ∧ k ≤ n ∧ isPP x k := by
  obtain ⟨p, hp, rfl⟩ := List.mem_map.1 h
  obtain ⟨k, k1, k2, k3, k4, k5, k6⟩ := UP_period h8 hp
  exact ⟨k, k1, k2, ⟨k6.1.2.1, k4, by omega⟩, ⟨k6.2.1.2.1, k5, by omega⟩⟩
theorem filter_step {α : Type} {f : α → Bool} {xs : List α} {i : Nat} {d : α} (h : i < xs.length) : (xs.take (i + 1)).filter f = (xs.take i).filter f ++ (if f (xs.getD i d) then [xs.getD i d] else []) := by
  rw [List.take_succ_eq_append_getElem h, List.filter_append, getD_at h]
  congr 1
  by_cases hf : f xs[i] = true
  · simp [hf]
  · simp [hf]
noncomputable def YS (n : Nat) : List Pr := (impl_pairsOf (n : Int)).getD []
theorem YS_ok {n : Nat} (h2 : 2 ≤ n) (h8 : n ≤ 8) : impl_pairsOf (n : Int) = some (YS n) ∧ (YS n).Perm ((NP n).map aP) ∧ srtd (YS n) := by
  obtain ⟨ys, y1, y2, y3⟩ := impl_pairs h2 h8
  have : YS n = ys := by unfold YS; rw [y1]; rfl
  rw [this]; exact ⟨y1, y2, y3⟩
theorem YS_PP {n : Nat} (h2 : 2 ≤ n) (h8 : n ≤ 8) {x : Pr} (h : x ∈ YS n) : isPP x n := by
  obtain ⟨p, hp, rfl⟩ := List.mem_map.1 ((YS_ok h2 h8).2.1.subset h)
  obtain ⟨a1, a2, a3⟩ := NP_mem h2 h8 hp
  exact ⟨⟨a3.1.2.1, period_AN (by omega) h8 a1, by omega⟩, ⟨a3.2.1.2.1, period_AN (by omega) h8 a2, by omega⟩⟩
theorem YS_len {n : Nat} (h2 : 2 ≤ n) (h8 : n ≤ 8) : (YS n).length ≤ 2040 := by
  rw [(YS_ok h2 h8).2.1.length_eq, List.length_map]
  obtain ⟨m, rfl⟩ : ∃ m, n = m + 2 := ⟨n - 2, by omega⟩
  have := (UP_ok h8).2
  rw [(UP_new h8).1, List.length_append] at this
  omega
end Go.K.Pure

/- Plain laws of ray pairs, part Q: lists of angles. -/
set_option linter.all false
namespace Go.K.Pure
open Classical
theorem toA (a : Ang) : laws_toAngle a = some a := rfl
theorem impl_all {L : List Ang} (h : ∀ a ∈ L, InA a) (hl : L.length < 1000000) : impl_areAll_impl_Angle L = some (decide (∀ a ∈ L, isA a)) := by
  unfold impl_areAll_impl_Angle slices_ContainsFunc__impl_Angle_impl_Angle slices_IndexFunc__impl_Angle_impl_Angle
  have := loop_fidx (step := slices_IndexFunc__impl_Angle_impl_Angle_l0) (fun i => (L, (), (((), ()), ()), ((L.length : Nat) : Int), (i : Int), ())) L dA0 (fun a => !decide (isA a)) (fun i => ((i : Int), ())) (fun i hi => by
    have hm : L.getD i dA0 ∈ L := by rw [getD_at hi]; exact List.getElem_mem hi
    have hw : w64 ((i : Int) + 1) = ((i + 1 : Nat) : Int) := w64_succ (by omega)
    have hf : impl_areAll_impl_Angle_f1 (L.getD i dA0) = some (!decide (isA (L.getD i dA0))) := by
      unfold impl_areAll_impl_Angle_f1
      rw [impl_isA (h _ hm)]; rfl
    simp only [slices_IndexFunc__impl_Angle_impl_Angle_l0, ltb hi, cond_true, inb hi, Int.toNat_natCast, hf, Option.bind_some, hw, nn0 i, Bool.and_true, Bool.true_and]
    cases decide (isA (L.getD i dA0)) <;> rfl) (by
    simp only [slices_IndexFunc__impl_Angle_impl_Angle_l0, nltb (Nat.lt_irrefl _), cond_false])
  have e : loop slices_IndexFunc__impl_Angle_impl_Angle_l0 (L, (), (((), ()), ()), ((L.length : Nat) : Int), (0 : Int), ()) = _ := this
  rw [e]
  cases hf : L.findIdx? fun a => !decide (isA a) with
  | none =>
    have hn := List.findIdx?_eq_none_iff.1 hf
    have : ∀ a ∈ L, isA a := fun a ha => by
      have := hn a ha
      by_cases hA : isA a
      · exact hA
      · simp [hA] at this
    rw [decide_eq_true this]
    simp [alt]
  | some k =>
    obtain ⟨h1, h2, _⟩ := List.findIdx?_eq_some_iff_getElem.1 hf
    have : ¬ ∀ a ∈ L, isA a := fun hA => by
      have := hA _ (List.getElem_mem h1)
      rw [decide_eq_true this] at h2; cases h2
    rw [decide_eq_false this]
    simp [alt]
theorem impl_code {L : List Ang} (h : ∀ a ∈ L, InA a) (hl : L.length < 1000000) : impl_anglesCode L = some (if ∀ a ∈ L, isA a then 0 else 1) := by
  unfold impl_anglesCode
  rw [impl_all h hl]
  by_cases hA : ∀ a ∈ L, isA a
  · rw [decide_eq_true hA, if_pos hA]; rfl
  · rw [decide_eq_false hA, if_neg hA]; rfl
end Go.K.Pure

/- Plain laws of ray pairs, part O: the pair of an angle; the law of IsRenormalizable. -/
set_option linter.all false
namespace Go.K.Pure
open Classical
theorem angN_self {x d : Nat} (hx : x < d) (hg : Nat.gcd x d = 1) : angN x d = ((x : Int), (d : Int), ()) := by
  unfold angN
  rw [Nat.mod_eq_of_lt hx, hg]; simp
/-- An angle of period `n` is among the angles of that period. -/
theorem isP_AN {t : Ang} {n : Nat} (h : isP t n) : ∃ N, N ∈ AN n ∧ aN N = t := by
  have h8 := h.le
  have h1 := h.pos
  have hb := h.back
  have hper := h.per
  obtain ⟨x, d, rfl, d1, d2, hx, hg⟩ := isA_nat h.isA
  have e := angN_self hx hg
  rw [← e] at hb hper
  rw [dblN_angN (by omega), ← angN_mod] at hb
  have hm := angN_inj d1 d2 (Nat.mod_lt _ (by omega)) hx hb
  have hdvd : d ∣ (2 ^ n - 1) * x := by
    have h2 : 2 ^ n * x = d * (2 ^ n * x / d) + x := by
      have := Nat.div_add_mod (2 ^ n * x) d
      omega
    refine ⟨2 ^ n * x / d, ?_⟩
    rw [Nat.sub_mul, Nat.one_mul]
    omega
  have hd : d ∣ 2 ^ n - 1 := Nat.Coprime.dvd_of_dvd_mul_right (Nat.Coprime.symm hg) hdvd
  obtain ⟨c, hc⟩ := hd
  obtain ⟨f1, f2⟩ := den_facts h1 h8
  have hc0 : 0 < c := by
    rcases Nat.eq_zero_or_pos c with h0 | h0
    · rw [h0, Nat.mul_zero] at hc; omega
    · exact h0
  have e2 : angN (c * x) (2 ^ n - 1) = angN x d := by rw [hc, Nat.mul_comm d c]; exact angN_scale hc0 (by omega)
  have hlt : c * x < 2 ^ n - 1 := by rw [hc, Nat.mul_comm d c]; exact Nat.mul_lt_mul_of_pos_left hx hc0
  refine ⟨c * x * (LL / (2 ^ n - 1)), ?_, ?_⟩
  · refine List.mem_map.2 ⟨c * x, ?_, rfl⟩
    refine List.mem_filter.2 ⟨List.mem_range.2 hlt, ?_⟩
    have := pg_perJ h1 h8 hlt
    rw [e2, hper] at this
    rw [← this]; exact Nat.beq_refl n
  · rw [aN_of h1 h8, e2, e]
theorem aN_inj {N M : Nat} (h : okN N) (g : okN M) (e : aN N = aN M) : N = M := by
  have h1 := h.2.2
  have h2 := g.2.2
  rw [e, h2] at h1
  have := Int.eq_of_mul_eq_mul_right (Int.ne_of_gt KK_pos) h1
  omega
theorem flat_uniq : ∀ {l : List (Nat × Nat)}, (l.flatMap fun p => [p.1, p.2]).Nodup → ∀ {p q : Nat × Nat} {N : Nat}, p ∈ l → q ∈ l → (p.1 = N ∨ p.2 = N) → (q.1 = N ∨ q.2 = N) → p = q
  | [], _, p, q, N, hp, _, _, _ => by cases hp
  | a :: l, hn, p, q, N, hp, hq, h1, h2 => by
    rw [List.flatMap_cons, List.nodup_append] at hn
    obtain ⟨n1, n2, n3⟩ := hn
    have hin : ∀ {p : Nat × Nat}, p ∈ l → (p.1 = N ∨ p.2 = N) → N ∈ l.flatMap fun p => [p.1, p.2] := fun {p} hp h => List.mem_flatMap.2 ⟨p, hp, by rcases h with h | h <;> simp [h]⟩
    have hia : ∀ {p : Nat × Nat}, p = a → (p.1 = N ∨ p.2 = N) → N ∈ [a.1, a.2] := fun {p} hp h => by subst hp; rcases h with h | h <;> simp [h]
    rcases List.mem_cons.1 hp with hp | hp <;> rcases List.mem_cons.1 hq with hq | hq
    · rw [hp, hq]
    · exact absurd rfl (n3 N (hia hp h1) N (hin hq h2))
    · exact absurd rfl (n3 N (hia hq h2) N (hin hp h1))
    · exact flat_uniq n2 hp hq h1 h2
def hasA (t : Ang) (x : Pr) : Bool := decide (x.1 = t) || decide (x.2.1 = t)
theorem hasA_iff {t : Ang} {x : Pr} : hasA t x = true ↔ x.1 = t ∨ x.2.1 = t := by simp [hasA]
/-- The pair of an angle of period `n`: there is one, and it is the only one. -/
theorem pair_one {t : Ang} {n : Nat} (h : isP t n) (h2 : 2 ≤ n) : ∃ P, isPP P n ∧ P ∈ (NP n).map aP ∧ hasA t P = true ∧ ∀ x, x ∈ (UP n).map aP → hasA t x = true → x = P := by
  have h8 := h.le
  obtain ⟨N, hN, rfl⟩ := isP_AN h
  obtain ⟨m, rfl⟩ : ∃ m, n = m + 2 := ⟨n - 2, by omega⟩
  obtain ⟨u1, u2, u3⟩ := UP_new h8
  have hmem : N ∈ (NP (m + 2)).flatMap fun p => [p.1, p.2] := u3.mem_iff.2 hN
  obtain ⟨p, hp, hpN⟩ := List.mem_flatMap.1 hmem
  have hpN' : p.1 = N ∨ p.2 = N := by
    rcases List.mem_cons.1 hpN with e | e
    · exact .inl e.symm
    · exact .inr (List.mem_singleton.1 e).symm
  have hnd : ((NP (m + 2)).flatMap fun p => [p.1, p.2]).Nodup := u3.nodup_iff.2 ((AN_sorted (by omega) h8).imp (fun hab => Nat.ne_of_lt hab))
  obtain ⟨a1, a2, a3⟩ := NP_mem (by omega) h8 hp
  have hoN := okN_AN (by omega) h8 hN
  refine ⟨aP p, ⟨⟨a3.1.2.1, period_AN (by omega) h8 a1, by omega⟩, ⟨a3.2.1.2.1, period_AN (by omega) h8 a2, by omega⟩⟩, List.mem_map.2 ⟨p, hp, rfl⟩, ?_, ?_⟩
  · rw [hasA_iff]
    rcases hpN' with e | e
    · left; show aN p.1 = aN N; rw [e]
    · right; show aN p.2 = aN N; rw [e]
  · intro x hx hax
    obtain ⟨q, hq, rfl⟩ := List.mem_map.1 hx
    obtain ⟨k, k1, k2, k3, k4, k5, k6⟩ := UP_period h8 hq
    have hper : pg (aN N) = m + 2 := h.per
    have hqN : q.1 = N ∨ q.2 = N := by
      rcases hasA_iff.1 hax with e | e
      · left; exact aN_inj k6.1 hoN e
      · right; exact aN_inj k6.2.1 hoN e
    have hk : k = m + 2 := by
      rcases hqN with e | e
      · rw [e] at k4; omega
      · rw [e] at k5; omega
    subst hk
    rw [flat_uniq hnd k3 hp hqN hpN']
theorem spec_pair {t : Ang} {n : Nat} (h : isP t n) (h2 : 2 ≤ n) : ∃ P, isPP P n ∧ spec_l04Pair t = some P ∧ ∀ x, x ∈ (UP n).map aP → hasA t x = true → x = P := by
  have h8 := h.le
  obtain ⟨P, hP, hPm, hPt, huniq⟩ := pair_one h h2
  refine ⟨P, hP, ?_, huniq⟩
  have hPU : P ∈ (UP n).map aP := by
    obtain ⟨p, hp, rfl⟩ := List.mem_map.1 hPm
    exact List.mem_map.2 ⟨p, (UP_mem h8 p).2 ⟨n, h2, by omega, hp⟩, rfl⟩
  have hps : ps t = n := by
    have := ps_pg h.isA
    rw [h.per] at this
    split at this <;> omega
  have hlen : ((UP n).map aP).length ≤ 2040 := by
    rw [List.length_map]
    have := (UP_ok h8).2
    omega
  unfold spec_l04Pair
  rw [spec_period h.isA, hps]
  simp only [Option.bind_some]
  rw [spec_upTo h8]
  simp only [Option.bind_some]
  generalize hL : (UP n).map aP = L at *
  rcases loop_find (step := spec_l04Pair_l0) (fun i => (t, dP, L, (i : Int), L, ())) L.length (.inr (dP, ())) (fun i => if hasA t (L.getD i dP) = true then some (.inl (L.getD i dP, ())) else none) (fun i hi => by
      have hw : w64 ((i : Int) + 1) = ((i + 1 : Nat) : Int) := w64_succ (by omega)
      simp only [spec_l04Pair_l0, ltb hi, cond_true, Int.toNat_natCast, hw, nn0 i, Bool.and_self]
      rw [beqA, beqA]
      unfold hasA
      by_cases q1 : (L.getD i dP).1 = t
      · rw [decide_eq_true q1]; rfl
      · rw [decide_eq_false q1]
        by_cases q2 : (L.getD i dP).2.1 = t
        · rw [decide_eq_true q2]; rfl
        · rw [decide_eq_false q2]; rfl) (by
      simp only [spec_l04Pair_l0, nltb (Nat.lt_irrefl _), cond_false]) 0 (by omega) with ⟨g1, g2⟩ | ⟨j, c, _, g2, g3, g4, g5⟩
  · obtain ⟨i, hi, hiP⟩ := List.mem_iff_getElem.1 hPU
    have := g2 i (by omega) hi
    rw [getD_at hi, hiP, if_pos hPt] at this
    cases this
  · have e : loop spec_l04Pair_l0 (t, dP, L, (0 : Int), L, ()) = _ := g4
    rw [e]
    split at g3
    · rename_i hj
      simp only [Option.some.injEq] at g3
      subst g3
      simp only [Option.bind_some, alt]
      congr 1
      exact huniq _ (by rw [getD_at g2]; exact List.getElem_mem g2) hj
    · cases g3
theorem impl_pair {t : Ang} {n : Nat} (h : isP t n) (h2 : 2 ≤ n) {P : Pr} (huniq : ∀ x, x ∈ (UP n).map aP → hasA t x = true → x = P) : impl_PairOf t = some (P, 0) := by
  have h8 := h.le
  have hInA : InA t := by
    obtain ⟨q1, q2, q3, q4, _⟩ := h.isA
    exact ⟨⟨by omega, by omega⟩, ⟨by omega, by omega⟩⟩
  obtain ⟨P', hP', hPm, hPt, _⟩ := pair_one h h2
  obtain ⟨y1, y2, y3⟩ := YS_ok h2 h8
  have hYl := YS_len h2 h8
  have hsub : ∀ x, x ∈ YS n → x ∈ (UP n).map aP := fun x hx => by
    obtain ⟨p, hp, rfl⟩ := List.mem_map.1 (y2.subset hx)
    exact List.mem_map.2 ⟨p, (UP_mem h8 p).2 ⟨n, h2, by omega, hp⟩, rfl⟩
  have hPY : P' ∈ YS n := y2.mem_iff.2 hPm
  unfold impl_PairOf
  rw [impl_code (L := [t]) (by simpa using hInA) (by simp), if_pos (by simpa using h.isA)]
  have e0 : ((0 : Int) != 0) = false := rfl
  have d1 : decide ((2 : Int) ≤ (n : Int) ∧ (n : Int) ≤ 8) = true := decide_eq_true (by omega)
  simp only [Option.bind_some, e0, cond_false, impl_period h.isA, h.per, impl_isPeriod, impl_in, d1, Bool.not_true, y1]
  generalize YS n = L at *
  have hidx : slices_IndexFunc__impl_RayPair_impl_RayPair_v3 L t = some (match L.findIdx? (hasA t) with | some k => (k : Int) | none => -1) := by
    unfold slices_IndexFunc__impl_RayPair_impl_RayPair_v3
    have := loop_fidx (step := slices_IndexFunc__impl_RayPair_impl_RayPair_v3_l0) (fun i => (L, (), (t, ()), ((L.length : Nat) : Int), (i : Int), ())) L dP (hasA t) (fun i => ((i : Int), ())) (fun i hi => by
      have hw : w64 ((i : Int) + 1) = ((i + 1 : Nat) : Int) := w64_succ (by omega)
      have hf : impl_PairOf_f1 (L.getD i dP) t = some (hasA t (L.getD i dP)) := by
        unfold impl_PairOf_f1 hasA
        rw [beqA, beqA]
        cases decide ((L.getD i dP).1 = t) <;> rfl
      simp only [slices_IndexFunc__impl_RayPair_impl_RayPair_v3_l0, ltb hi, cond_true, inb hi, Int.toNat_natCast, hf, Option.bind_some, hw, nn0 i, Bool.and_true, Bool.true_and]
      cases hasA t (L.getD i dP) <;> rfl) (by
      simp only [slices_IndexFunc__impl_RayPair_impl_RayPair_v3_l0, nltb (Nat.lt_irrefl _), cond_false])
    have e : loop slices_IndexFunc__impl_RayPair_impl_RayPair_v3_l0 (L, (), (t, ()), ((L.length : Nat) : Int), (0 : Int), ()) = _ := this
    rw [e]
    cases L.findIdx? (hasA t) <;> rfl
  rw [hidx]
  cases hk : L.findIdx? (hasA t) with
  | none =>
    have := List.findIdx?_eq_none_iff.1 hk P' hPY
    rw [hPt] at this; cases this
  | some k =>
    obtain ⟨hkl, hk1, _⟩ := List.findIdx?_eq_some_iff_getElem.1 hk
    simp only [Option.bind_some, inb hkl, cond_true, Int.toNat_natCast]
    have : L.getD k dP = P := huniq _ (hsub _ (by rw [getD_at hkl]; exact List.getElem_mem hkl)) (by rw [getD_at hkl]; exact hk1)
    rw [this]
theorem law_IsRenormalizable {t y : Ang} (ht : InA t) (hy : InA y) : laws_FnExactIsRenormalizable t y = some true := by
  have key : ∃ r, spec_IsRenormalizable t y = some r ∧ impl_IsRenormalizable t y = some r := by
    unfold spec_IsRenormalizable impl_IsRenormalizable spec_l09Code impl_wordsFor
    rw [spec_isA ht, spec_isA hy, impl_code (L := [y]) (by simpa using hy) (by simp)]
    by_cases hY : isA y
    · have hL : ∀ x ∈ [y], isA x := by simpa using hY
      rw [if_pos hL, decide_eq_true hY]
      have e0 : ((0 : Int) != 0) = false := rfl
      have e1 : ((1 : Int) != 0) = true := rfl
      have e2 : ((2 : Int) != 0) = true := rfl
      by_cases hT : isA t
      · have hp := ps_pg hT
        by_cases hr : 2 ≤ ps t ∧ ps t ≤ 8
        · have hpg : pg t = ps t := by rw [hp, if_pos hr.2]
          have hP : isP t (ps t) := ⟨hT, hpg, by omega⟩
          obtain ⟨P, p1, p2, p3⟩ := spec_pair hP hr.1
          have d1 : decide ((2 : Int) ≤ (ps t : Int) ∧ (ps t : Int) ≤ 8) = true := decide_eq_true (by omega)
          simp only [decide_eq_true hT, Option.bind_some, Bool.not_true, cond_false, spec_l04Code, spec_isA ht, spec_period hT, spec_in, d1, e0, p2, impl_pair hP hr.1 p3, spec_words p1.a p1.b, impl_words p1.a p1.b]
          unfold spec_l09Back
          cases hk : (ob y).2.2 with
          | false =>
            obtain ⟨⟨s, n1⟩, n2⟩ := noQ hY hk
            rw [n1, n2]
            exact ⟨_, rfl, rfl⟩
          | true =>
            obtain ⟨q, p, hQ⟩ := isQ_of hY hk
            rw [hQ.spec, hQ.impl]
            obtain ⟨r1, c1, c2⟩ := p1.spec hQ.okS
            obtain ⟨r2, c3, c4⟩ := p1.impl hQ.okS hQ.b7
            rw [spec_words p1.a p1.b] at c1
            rw [impl_words p1.a p1.b] at c3
            simp only [Option.bind_some] at c1 c3
            simp only [Option.bind_some, Bool.not_true, cond_false, e0, c1, c3, c2, c4]
            exact ⟨_, rfl, rfl⟩
        · have d1 : decide ((2 : Int) ≤ (ps t : Int) ∧ (ps t : Int) ≤ 8) = false := decide_eq_false (by omega)
          have d2 : decide ((2 : Int) ≤ (pg t : Int) ∧ (pg t : Int) ≤ 8) = false := decide_eq_false (by
            rw [hp]
            split <;> omega)
          unfold impl_PairOf
          rw [impl_code (L := [t]) (by simpa using ht) (by simp), if_pos (by simpa using hT)]
          simp only [decide_eq_true hT, Option.bind_some, Bool.not_true, Bool.not_false, cond_true, cond_false, spec_l04Code, spec_isA ht, spec_period hT, impl_period hT, impl_isPeriod, impl_in, spec_in, d1, d2, e0, e2]
          exact ⟨_, rfl, rfl⟩
      · unfold impl_PairOf
        rw [impl_code (L := [t]) (by simpa using ht) (by simp), if_neg (by simpa using hT)]
        simp only [decide_eq_false hT, Option.bind_some, Bool.not_false, cond_true, cond_false, e0, e1]
        exact ⟨_, rfl, rfl⟩
    · have hL : ¬ ∀ x ∈ [y], isA x := by simpa using hY
      rw [if_neg hL, decide_eq_false hY]
      cases decide (isA t) <;> exact ⟨_, rfl, rfl⟩
  obtain ⟨r, h1, h2⟩ := key
  unfold laws_FnExactIsRenormalizable
  rw [toA, toA]
  simp only [Option.bind_some]
  rw [h1, h2]
  simp
end Go.K.Pure

