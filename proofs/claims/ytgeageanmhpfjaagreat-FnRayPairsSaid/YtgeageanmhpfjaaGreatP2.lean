/- Part 2 of the plain law: the functions of the program as plain functions on lists and numbers, and what is shown of them; no condition. -/
import Derived.Test.YtgeageanmhpfjaaGreatP1
set_option linter.all false
/- Plain laws of ray pairs, part 11: the letters of an orbit, on whole numbers: both angles of a pair have the same. -/
set_option linter.all false
namespace Go.K.Pure
open Classical
def ltN (M N : Nat) : Nat := if Nat.beq (2 * M) N || Nat.beq (2 * M) (N + LL) then 42 else if Nat.blt N (2 * M) && Nat.blt (2 * M) (N + LL) then 49 else 48
def itN : Nat → Nat → Nat
  | 0, M => M
  | k + 1, M => 2 * itN k M % LL
def knN (N : Nat) : Nat → Nat → List Nat
  | 0, _ => []
  | f + 1, M => ltN M N :: knN N f (2 * M % LL)
def samN : List Nat → List Nat → Bool
  | [], [] => true
  | a :: x, b :: y => Nat.beq a b && samN x y
  | _, _ => false
theorem samN_eq : ∀ {x y : List Nat}, samN x y = true → x = y
  | [], [], _ => rfl
  | a :: x, b :: y, h => by
    unfold samN at h
    rw [Bool.and_eq_true] at h
    rw [Nat.eq_of_beq_eq_true h.1, samN_eq h.2]
  | [], _ :: _, h => by cases h
  | _ :: _, [], h => by cases h
theorem itN_succ (M : Nat) : ∀ k, itN k (2 * M % LL) = itN (k + 1) M
  | 0 => rfl
  | k + 1 => by show 2 * itN k (2 * M % LL) % LL = 2 * itN (k + 1) M % LL; rw [itN_succ M k]
theorem knN_eq (N : Nat) : ∀ f M, knN N f M = (List.range f).map fun k => ltN (itN k M) N
  | 0, M => rfl
  | f + 1, M => by
    rw [List.range_succ_eq_map, List.map_cons, List.map_map]
    show ltN M N :: knN N f (2 * M % LL) = _
    rw [knN_eq N f]
    congr 1
    refine List.map_congr_left fun k _ => ?_
    show ltN (itN k (2 * M % LL)) N = ltN (itN (k + 1) M) N
    rw [itN_succ]
set_option maxRecDepth 1000000 in
theorem kn_all : (match upToN 8 with | some ps => ps.all fun p => samN (knN p.1 8 p.1) (knN p.2 8 p.2) | none => false) = true := by decide +kernel
theorem kn_same {p : Nat × Nat} (hp : p ∈ UP 8) {k : Nat} (hk : k < 8) : ltN (itN k p.1) p.1 = ltN (itN k p.2) p.2 := by
  have h := kn_all
  rw [UP_eq (Nat.le_refl 8)] at h
  have h2 := samN_eq (List.all_eq_true.1 h p hp)
  rw [knN_eq, knN_eq] at h2
  have h3 := congrArg (fun l => l[k]?) h2
  simpa [hk] using h3
/-- An angle is so many of the common parts. -/
structure isN (a : Ang) (M : Nat) : Prop where
  ia : isA a
  l : M < LL
  v : val a * (LL : Int) = (M : Int) * KK
theorem dgt_KK1 {a : Ang} (h : isA a) : a.2.1 ≤ 2 * a.1 ↔ KK ≤ 2 * val a := by
  have h1 := KK_div h
  have h2 := kd_pos h
  have e : 2 * val a - KK = (2 * a.1 - a.2.1) * (KK / a.2.1) := by
    unfold val
    rw [Int.sub_mul, h1, Int.mul_assoc]
  constructor
  · intro hc
    have : 0 ≤ (2 * a.1 - a.2.1) * (KK / a.2.1) := Int.mul_nonneg (by omega) (by omega)
    omega
  · intro hc
    have h3 : 0 ≤ (2 * a.1 - a.2.1) * (KK / a.2.1) := by omega
    have := Int.nonneg_of_mul_nonneg_left h3 h2
    omega
theorem isN.dbl {a : Ang} {M : Nat} (h : isN a M) : isN (dbl a) (2 * M % LL) := by
  have hK := KK_pos
  have hL : (0 : Int) < (LL : Int) := by decide
  refine ⟨dbl_isA h.ia, Nat.mod_lt _ (by decide), ?_⟩
  rw [dbl_val2 h.ia]
  have hv := h.v
  have hl := h.l
  have key : KK ≤ 2 * val a ↔ LL ≤ 2 * M := by
    have e : 2 * val a * (LL : Int) = ((2 * M : Nat) : Int) * KK := by push_cast; grind
    constructor
    · intro hc
      have h1 : KK * (LL : Int) ≤ 2 * val a * (LL : Int) := Int.mul_le_mul_of_nonneg_right hc (Int.le_of_lt hL)
      rw [e, Int.mul_comm] at h1
      have := Int.le_of_mul_le_mul_right h1 hK
      omega
    · intro hc
      have h1 : (LL : Int) * KK ≤ ((2 * M : Nat) : Int) * KK := Int.mul_le_mul_of_nonneg_right (by omega) (Int.le_of_lt hK)
      rw [← e, Int.mul_comm] at h1
      exact Int.le_of_mul_le_mul_right h1 hL
  by_cases hc : LL ≤ 2 * M
  · rw [if_pos ((dgt_KK1 h.ia).2 (key.2 hc)), Nat.mod_eq_sub_mod hc, Nat.mod_eq_of_lt (by omega), Int.ofNat_sub hc]
    push_cast
    generalize (LL : Int) = L at *
    grind
  · rw [if_neg (fun h' => hc (key.1 ((dgt_KK1 h.ia).1 h'))), Nat.mod_eq_of_lt (by omega)]
    push_cast
    generalize (LL : Int) = L at *
    grind
theorem isN.dblN {a : Ang} {M : Nat} (h : isN a M) : ∀ k, isN (dblN a k) (itN k M)
  | 0 => h
  | k + 1 => (isN.dblN h k).dbl
/-- The letter of an angle for another one. -/
noncomputable def ltV (x t : Ang) : Int := if 2 * val x = val t ∨ 2 * val x = val t + KK then 42 else if val t < 2 * val x ∧ 2 * val x < val t + KK then 49 else 48
theorem ltV_eq {x t : Ang} {M N : Nat} (hx : isN x M) (ht : isN t N) : ltV x t = (ltN M N : Int) := by
  have hK := KK_pos
  have hL : (0 : Int) < (LL : Int) := by decide
  have vx := hx.v
  have vt := ht.v
  have i1 : ∀ {u w : Int} {A B : Nat}, u * (LL : Int) = (A : Int) * KK → w * (LL : Int) = (B : Int) * KK → (u < w ↔ A < B) := fun {u w A B} hu hw => by
    constructor
    · intro h
      have h1 : u * (LL : Int) < w * (LL : Int) := Int.mul_lt_mul_of_pos_right h hL
      rw [hu, hw] at h1
      have := Int.lt_of_mul_lt_mul_right h1 (Int.le_of_lt hK)
      omega
    · intro h
      have h1 : (A : Int) * KK < (B : Int) * KK := Int.mul_lt_mul_of_pos_right (by omega) hK
      rw [← hu, ← hw] at h1
      exact Int.lt_of_mul_lt_mul_right h1 (Int.le_of_lt hL)
  have e1 : (2 * val x) * (LL : Int) = ((2 * M : Nat) : Int) * KK := by push_cast; grind
  have e2 : (val t + KK) * (LL : Int) = ((N + LL : Nat) : Int) * KK := by push_cast; grind
  have a1 := i1 e1 vt
  have a2 := i1 vt e1
  have a3 := i1 e1 e2
  have a4 := i1 e2 e1
  unfold ltV ltN
  by_cases c1 : 2 * M = N ∨ 2 * M = N + LL
  · rw [if_pos (by omega)]
    have : (Nat.beq (2 * M) N || Nat.beq (2 * M) (N + LL)) = true := by
      rw [Bool.or_eq_true, Nat.beq_eq, Nat.beq_eq]; exact c1
    rw [this]; rfl
  · rw [if_neg (by omega)]
    have h1 : (Nat.beq (2 * M) N || Nat.beq (2 * M) (N + LL)) = false := by
      rw [← Bool.not_eq_true, Bool.or_eq_true, Nat.beq_eq, Nat.beq_eq]; exact c1
    rw [h1]
    by_cases c2 : N < 2 * M ∧ 2 * M < N + LL
    · rw [if_pos (by omega)]
      have : (Nat.blt N (2 * M) && Nat.blt (2 * M) (N + LL)) = true := by
        rw [Bool.and_eq_true, Nat.blt_eq, Nat.blt_eq]; exact c2
      rw [this]; rfl
    · rw [if_neg (by omega)]
      have : (Nat.blt N (2 * M) && Nat.blt (2 * M) (N + LL)) = false := by
        rw [← Bool.not_eq_true, Bool.and_eq_true, Nat.blt_eq, Nat.blt_eq]; exact c2
      rw [this]; rfl
/-- Both angles of a pair have the same letters along their orbits. -/
theorem kn_pair {P : Pr} {n : Nat} (h8 : n ≤ 8) (hP : P ∈ (UP n).map aP) {k : Nat} (hk : k < 8) : ltV (dblN P.1 k) P.1 = ltV (dblN P.2.1 k) P.2.1 := by
  obtain ⟨p, hp, rfl⟩ := List.mem_map.1 hP
  obtain ⟨⟨a1, a2, a3⟩, ⟨b1, b2, b3⟩, _⟩ := (UP_ok h8).1 p hp
  have hp8 : p ∈ UP 8 := by
    obtain ⟨r, hr⟩ := UP_pre h8 (Nat.le_refl 8)
    rw [hr]; exact List.mem_append_left _ hp
  have ha : isN (aP p).1 p.1 := ⟨a2, a1, a3⟩
  have hb : isN (aP p).2.1 p.2 := ⟨b2, b1, b3⟩
  rw [ltV_eq (ha.dblN k) ha, ltV_eq (hb.dblN k) hb, kn_same hp8 hk]
end Go.K.Pure

/- Plain laws of ray pairs, part Ra: the pairs of a period in order. -/
set_option linter.all false
namespace Go.K.Pure
open Classical
theorem flat_uniq2 : ∀ {l : List (Nat × Nat)}, (l.flatMap fun p => [p.1, p.2]).Nodup → ∀ {p q : Nat × Nat}, p ∈ l → q ∈ l → p.1 = q.1 → p = q
  | [], _, p, q, hp, _, _ => by cases hp
  | a :: l, hn, p, q, hp, hq, h1 => by
    rw [List.flatMap_cons, List.nodup_append] at hn
    obtain ⟨n1, n2, n3⟩ := hn
    have hin : ∀ {p : Nat × Nat}, p ∈ l → p.1 ∈ l.flatMap fun p => [p.1, p.2] := fun {p} hp => List.mem_flatMap.2 ⟨p, hp, by simp⟩
    rcases List.mem_cons.1 hp with hp | hp <;> rcases List.mem_cons.1 hq with hq | hq
    · rw [hp, hq]
    · have := hin hq
      rw [← h1, hp] at this
      exact absurd rfl (n3 a.1 (by simp) a.1 this)
    · have := hin hp
      rw [h1, hq] at this
      exact absurd rfl (n3 a.1 (by simp) a.1 this)
    · exact flat_uniq2 n2 hp hq h1
theorem join_asc : ∀ {k : Nat} {ps : List (Nat × Nat)} {l : List Nat} {qs : List (Nat × Nat)}, joinN k ps l = some qs → l.Pairwise (· < ·) → ∃ new, qs = ps ++ new ∧ (∀ p ∈ new, p.1 ∈ l) ∧ new.Pairwise fun p q => p.1 < q.1
  | 0, ps, l, qs, h, _ => by cases h
  | k + 1, ps, [], qs, h, _ => by
    simp only [joinN, Option.some.injEq] at h
    exact ⟨[], by simp [h], by simp, List.Pairwise.nil⟩
  | k + 1, ps, a :: rest, qs, h, hs => by
    unfold joinN at h
    cases ht : takeF (freeN a ps) rest with
    | none => rw [ht] at h; cases h
    | some q =>
      obtain ⟨b, r⟩ := q
      rw [ht] at h
      simp only at h
      have hs2 := List.pairwise_cons.1 hs
      obtain ⟨hb, hr⟩ := takeF_sub ht
      obtain ⟨new, h1, h2, h3⟩ := join_asc h (hs2.2.sublist hr)
      refine ⟨(a, b) :: new, by rw [h1]; simp, fun p hp => ?_, List.pairwise_cons.2 ⟨fun p hp => hs2.1 _ (hr.subset (h2 p hp)), h3⟩⟩
      rcases List.mem_cons.1 hp with rfl | hp
      · simp
      · simp [hr.subset (h2 p hp)]
theorem NP_asc {n : Nat} (h : n + 2 ≤ 8) : (NP (n + 2)).Pairwise fun p q => p.1 < q.1 := by
  obtain ⟨new, h1, _, h3⟩ := join_asc (UP_join h) (AN_sorted (by omega) h)
  have : NP (n + 2) = new := by unfold NP; rw [h1]; simp
  rw [this]; exact h3
theorem YS_eq {n : Nat} (h2 : 2 ≤ n) (h8 : n ≤ 8) : YS n = (NP n).map aP := by
  obtain ⟨m, rfl⟩ : ∃ m, n = m + 2 := ⟨n - 2, by omega⟩
  obtain ⟨y1, y2, y3⟩ := YS_ok h2 h8
  obtain ⟨u1, u2, u3⟩ := UP_new h8
  have hnd : ((NP (m + 2)).flatMap fun p => [p.1, p.2]).Nodup := u3.nodup_iff.2 ((AN_sorted (by omega) h8).imp (fun hab => Nat.ne_of_lt hab))
  refine List.Perm.eq_of_pairwise (le := fun a b : Pr => val a.1 ≤ val b.1) ?_ y3 ?_ y2
  · intro a b ha hb h1 h2'
    obtain ⟨p, hp, rfl⟩ := List.mem_map.1 (y2.subset ha)
    obtain ⟨q, hq, rfl⟩ := List.mem_map.1 hb
    have okp := (NP_mem h2 h8 hp).2.2.1
    have okq := (NP_mem h2 h8 hq).2.2.1
    have e : p.1 = q.1 := by
      have a1 := okN_lt okp okq
      have a2 := okN_lt okq okp
      have b1 : ¬ val (aN p.1) < val (aN q.1) := by
        have : val (aN q.1) ≤ val (aN p.1) := h2'
        omega
      have b2 : ¬ val (aN q.1) < val (aN p.1) := by
        have : val (aN p.1) ≤ val (aN q.1) := h1
        omega
      rw [a1] at b1
      rw [a2] at b2
      omega
    rw [flat_uniq2 hnd hp hq e]
  · refine List.pairwise_map.2 ?_
    refine List.Pairwise.imp_of_mem ?_ (NP_asc h8)
    intro p q hp hq hlt
    have okp := (NP_mem h2 h8 hp).2.2.1
    have okq := (NP_mem h2 h8 hq).2.2.1
    have := (okN_lt okp okq).2 hlt
    show val (aN p.1) ≤ val (aN q.1)
    omega
end Go.K.Pure

/- Plain laws of ray pairs, part Jr: the root of a word. -/
set_option linter.all false
namespace Go.K.Pure
open Classical
theorem root_ok {w : List UInt8} (h0 : 0 < w.length) (hl : w.length ≤ 100000) : ∃ n, 1 ≤ n ∧ n ≤ w.length ∧ n ∣ w.length ∧ Lib.repeatL (w.take n) (w.length / n) = w ∧ impl_root w = some (w.take n) := by
  have key : ∀ k n, w.length - n = k → 1 ≤ n → n ≤ w.length → ∃ m, n ≤ m ∧ m ≤ w.length ∧ m ∣ w.length ∧ Lib.repeatL (w.take m) (w.length / m) = w ∧ loop impl_root_l0 (w, (n : Int), ()) = some (w, (m : Int), ()) := by
    intro k
    induction k with
    | zero =>
      intro n hk h1 h2
      have hn : n = w.length := by omega
      subst hn
      refine ⟨w.length, by omega, by omega, Nat.dvd_refl _, by rw [Nat.div_self h0, Lib.repeatL_one]; simp, ?_⟩
      have hb : ((w.length : Int) == 0) = false := by simp only [beq_eq_false_iff_ne, ne_eq]; omega
      have hc : (((decide ((0 : Int) ≤ (0 : Int))) && (decide ((0 : Int) ≤ (w.length : Int)))) && (decide ((w.length : Int) ≤ ((w.length : Nat) : Int)))) = true := by simp
      have hr : strings_Repeat ((w.take w.length).drop 0) (w64 ((w.length : Int).tdiv (w.length : Int))) = some w := by
        rw [tdiv_nat, Nat.div_self h0]
        unfold strings_Repeat repeatOf
        have e1 : w64 ((1 : Nat) : Int) = 1 := rfl
        rw [e1]
        have e2 : (decide ((0 : Int) ≤ 1) && decide ((1 : Int) ≤ 9223372036854775807) && decide (((w.take w.length).drop 0).length * (1 : Int).toNat ≤ 140737488355328)) = true := by
          have t1 : (1 : Int).toNat = 1 := rfl
          have t2 : ((w.take w.length).drop 0).length = w.length := by simp
          rw [t1, t2]
          simp only [Bool.and_eq_true, decide_eq_true_eq]
          omega
        rw [e2, cond_true]
        have e3 : (1 : Int).toNat = 1 := rfl
        rw [e3, Lib.repeatL_one]; simp
      rw [loop_eq]
      simp only [impl_root_l0, hb, Bool.not_false, cond_true, tmod_nat, Nat.mod_self, hc, Int.toNat_natCast]
      have e0 : (((0 : Nat) : Int) != 0) = false := rfl
      simp only [e0, cond_false]
      have hr' : strings_Repeat ((w.take w.length).drop (0 : Int).toNat) (w64 ((w.length : Int).tdiv (w.length : Int))) = some w := hr
      rw [hr']
      simp
    | succ k ih =>
      intro n hk h1 h2
      have hb : ((n : Int) == 0) = false := by simp only [beq_eq_false_iff_ne, ne_eq]; omega
      have hw : w64 ((n : Int) + 1) = ((n + 1 : Nat) : Int) := w64_succ (by omega)
      obtain ⟨m, m1, m2, m3, m4, m5⟩ := ih (n + 1) (by omega) (by omega) (by omega)
      by_cases hd : n ∣ w.length
      · have hm0 : w.length % n = 0 := Nat.mod_eq_zero_of_dvd hd
        have hc : (((decide ((0 : Int) ≤ (0 : Int))) && (decide ((0 : Int) ≤ (n : Int)))) && (decide ((n : Int) ≤ ((w.length : Nat) : Int)))) = true := by simp; omega
        have hln : ((w.take n).drop (0 : Int).toNat).length = n := by simp; omega
        have hr : strings_Repeat ((w.take n).drop (0 : Int).toNat) (w64 ((w.length : Int).tdiv (n : Int))) = some (Lib.repeatL (w.take n) (w.length / n)) := by
          have hdl : w.length / n ≤ w.length := Nat.div_le_self _ _
          have hmul := Nat.mul_div_cancel' hd
          rw [tdiv_nat]
          generalize w.length / n = q at *
          rw [w64_id (by omega) (by omega)]
          unfold strings_Repeat repeatOf
          have e2 : (decide ((0 : Int) ≤ (q : Int)) && decide ((q : Int) ≤ 9223372036854775807) && decide (((w.take n).drop (0 : Int).toNat).length * (q : Int).toNat ≤ 140737488355328)) = true := by
            rw [hln, Int.toNat_natCast, hmul]
            simp only [Bool.and_eq_true, decide_eq_true_eq]
            omega
          rw [e2, cond_true, Int.toNat_natCast]
          rfl
        have e0 : ((((w.length % n : Nat) : Int)) != 0) = false := by rw [hm0]; rfl
        by_cases he : Lib.repeatL (w.take n) (w.length / n) = w
        · refine ⟨n, by omega, h2, hd, he, ?_⟩
          rw [loop_eq]
          simp only [impl_root_l0, hb, Bool.not_false, cond_true, tmod_nat, hc, Int.toNat_natCast, e0, cond_false]
          rw [hr, he]
          simp
        · refine ⟨m, by omega, m2, m3, m4, ?_⟩
          have hbe : (Lib.repeatL (w.take n) (w.length / n) == w) = false := by simpa using he
          rw [loop_eq]
          simp only [impl_root_l0, hb, Bool.not_false, cond_true, tmod_nat, hc, Int.toNat_natCast, e0, cond_false]
          rw [hr]
          simp only [Option.bind_some, hbe, Bool.not_false, cond_true, hw]
          exact m5
      · refine ⟨m, by omega, m2, m3, m4, ?_⟩
        have e0 : ((((w.length % n : Nat) : Int)) != 0) = true := by
          have : w.length % n ≠ 0 := fun e => hd (Nat.dvd_of_mod_eq_zero e)
          simp only [bne_iff_ne, ne_eq]; omega
        rw [loop_eq]
        simp only [impl_root_l0, hb, Bool.not_false, cond_true, tmod_nat, e0, hw]
        exact m5
  obtain ⟨m, m1, m2, m3, m4, m5⟩ := key _ 1 rfl (by omega) (by omega)
  refine ⟨m, m1, m2, m3, m4, ?_⟩
  unfold impl_root
  have m5' : loop impl_root_l0 (w, (1 : Int), ()) = _ := m5
  rw [m5']
  have hc : (((decide ((0 : Int) ≤ (0 : Int))) && (decide ((0 : Int) ≤ (m : Int)))) && (decide ((m : Int) ≤ ((w.length : Nat) : Int)))) = true := by simp; omega
  simp only [Option.bind_some, hc, cond_true, Int.toNat_natCast]
  rfl
theorem sequence_nil {w : List UInt8} (h0 : 0 < w.length) (hl : w.length ≤ 100000) : ∃ n, 1 ≤ n ∧ n ≤ w.length ∧ n ∣ w.length ∧ Lib.repeatL (w.take n) (w.length / n) = w ∧ impl_sequence [] w = some ([], w.take n, ()) := by
  obtain ⟨n, h1, h2, h3, h4, h5⟩ := root_ok h0 hl
  refine ⟨n, h1, h2, h3, h4, ?_⟩
  unfold impl_sequence
  rw [h5]
  simp only [Option.bind_some]
  rw [loop_eq]
  simp [impl_sequence_l0]
end Go.K.Pure

/- Plain laws of ray pairs, part 12: what FnRayPairs asks. -/
set_option linter.all false
namespace Go.K.Pure
open Classical
theorem drawPartner_ok {code : List Int} (hl : code.length ≤ 4096) (hc : ∀ c ∈ code, 0 ≤ c ∧ c < 256) : ∃ a, spec_DrawPartnerOf code = some a ∧ InA a := by
  obtain ⟨s, h1, h2⟩ := from_ok hl hc
  obtain ⟨a, s1, h3, h4, h5⟩ := drawRay_ok h2
  unfold spec_DrawPartnerOf
  rw [h1]
  simp only [Option.bind_some]
  rw [h3]
  exact ⟨a, rfl, h4⟩
theorem drawAngles_ok {code : List Int} (hl : code.length ≤ 4096) (hc : ∀ c ∈ code, 0 ≤ c ∧ c < 256) : ∃ n : Nat, spec_DrawAnglesOfPeriod code = some (n : Int) := by
  obtain ⟨s, h1, h2⟩ := from_ok hl hc
  obtain ⟨m, s2, h6, h7, _, h8⟩ := next_ok h2 10
  obtain ⟨m1, m2⟩ := h8 (by omega)
  unfold spec_DrawAnglesOfPeriod
  rw [h1]
  simp only [Option.bind_some]
  rw [h6]
  obtain ⟨n, rfl⟩ := Int.eq_ofNat_of_zero_le m1
  exact ⟨n, rfl⟩
theorem drawPairs_ok {code : List Int} (hl : code.length ≤ 4096) (hc : ∀ c ∈ code, 0 ≤ c ∧ c < 256) : ∃ n : Nat, spec_DrawPairsOfPeriod code = some (n : Int) := by
  obtain ⟨s, h1, h2⟩ := from_ok hl hc
  obtain ⟨m, s2, h6, h7, _, h8⟩ := next_ok h2 9
  obtain ⟨m1, m2⟩ := h8 (by omega)
  unfold spec_DrawPairsOfPeriod
  rw [h1]
  simp only [Option.bind_some]
  rw [h6]
  refine ⟨(1 + m).toNat, ?_⟩
  have : (((1 + m).toNat : Nat) : Int) = 1 + m := by omega
  rw [this]
  simp only [Option.bind_some]
  rw [w64_id (by omega) (by omega)]
theorem less_some (a b : Ang) : ∃ r, spec_l01Less a b = some r := by
  unfold spec_l01Less; exact ⟨_, rfl⟩
theorem drawCross_ok {code : List Int} (hl : code.length ≤ 4096) (hc : ∀ c ∈ code, 0 ≤ c ∧ c < 256) : ∃ a b : Pr, spec_DrawArePairsCrossing code = some (a, b) ∧ (InA a.1 ∧ InA a.2.1) ∧ InA b.1 ∧ InA b.2.1 := by
  obtain ⟨s, h1, h2⟩ := from_ok hl hc
  obtain ⟨x, s1, x1, x2, x3⟩ := spoil_ok h2
  obtain ⟨y, s2, y1, y2, y3⟩ := spoil_ok x3
  obtain ⟨z, s3, z1, z2, z3⟩ := drawRay_ok y3
  obtain ⟨u, s4, u1, u2, u3⟩ := drawRay_ok z3
  unfold spec_DrawArePairsCrossing
  rw [h1]
  simp only [Option.bind_some]
  rw [x1]
  simp only [Option.bind_some]
  rw [y1]
  simp only [Option.bind_some]
  rw [z1]
  simp only [Option.bind_some]
  rw [u1]
  simp only [Option.bind_some]
  have g0 : [x, y, z, u].getD (0 : Int).toNat ((0 : Int), (0 : Int), ()) = x := rfl
  have g1 : [x, y, z, u].getD (1 : Int).toNat ((0 : Int), (0 : Int), ()) = y := rfl
  have g2 : [x, y, z, u].getD (2 : Int).toNat ((0 : Int), (0 : Int), ()) = z := rfl
  have g3 : [x, y, z, u].getD (3 : Int).toNat ((0 : Int), (0 : Int), ()) = u := rfl
  have b0 : ((decide ((0 : Int) ≤ (0 : Int))) && (decide ((0 : Int) < (([x, y, z, u].length : Nat) : Int)))) = true := rfl
  have b1 : ((decide ((0 : Int) ≤ (1 : Int))) && (decide ((1 : Int) < (([x, y, z, u].length : Nat) : Int)))) = true := rfl
  have b2 : ((decide ((0 : Int) ≤ (2 : Int))) && (decide ((2 : Int) < (([x, y, z, u].length : Nat) : Int)))) = true := rfl
  have b3 : ((decide ((0 : Int) ≤ (3 : Int))) && (decide ((3 : Int) < (([x, y, z, u].length : Nat) : Int)))) = true := rfl
  rw [g0, g1, g2, g3, b0, b1, b2, b3]
  simp only [cond_true]
  obtain ⟨r5, e5⟩ := less_some y x
  obtain ⟨r7, e7⟩ := less_some u z
  rw [e5, e7]
  simp only [Option.bind_some]
  obtain ⟨v1, t1, n1, n2, _, _⟩ := next_ok u3 12
  obtain ⟨v2, t2, n3, n4, _, _⟩ := next_ok n2 12
  cases r5 <;> simp only [cond_true, cond_false, n1, Option.bind_some] <;>
    (try (cases decide (v1 > 0) <;> simp only [cond_true, cond_false])) <;>
    cases r7 <;> simp only [cond_true, cond_false, n1, n3, Option.bind_some] <;>
    (try (cases decide (v2 > 0) <;> simp only [cond_true, cond_false])) <;>
    (try (cases decide (v1 > 0) <;> simp only [cond_true, cond_false])) <;>
    first
      | exact ⟨_, _, rfl, ⟨x2, y2⟩, z2, u2⟩
      | exact ⟨_, _, rfl, ⟨y2, x2⟩, z2, u2⟩
      | exact ⟨_, _, rfl, ⟨x2, y2⟩, u2, z2⟩
      | exact ⟨_, _, rfl, ⟨y2, x2⟩, u2, z2⟩
theorem angles9_same {T : List Ang} (hl : T.length ≤ 2040) : laws_angles9 T T = some true := by
  unfold laws_angles9
  have := loop_count (step := laws_angles9_l0) (fun i => (T, T, (i : Int), ())) T.length (.inr ()) (fun i hi => by
    have hw : w64 ((i : Int) + 1) = ((i + 1 : Nat) : Int) := w64_succ (by omega)
    simp only [laws_angles9_l0, ltb hi, cond_true, nn0 i, Bool.and_self, Int.toNat_natCast, hw]
    simp) (by simp only [laws_angles9_l0, nltb (Nat.lt_irrefl _), cond_false]) 0 (by omega)
  have e : loop laws_angles9_l0 (T, T, (0 : Int), ()) = _ := this
  rw [e]
  simp [alt]
theorem angles_same (n : Nat) : ∃ (L : List Ang) (c : Int), impl_AnglesOfPeriod (n : Int) = some (L, c) ∧ spec_AnglesOfPeriod (n : Int) = some (L, c) ∧ L.length ≤ 2040 := by
  unfold impl_AnglesOfPeriod spec_AnglesOfPeriod
  rw [impl_in, spec_in]
  by_cases hr : (1 : Int) ≤ (n : Int) ∧ (n : Int) ≤ 8
  · have h1 : 1 ≤ n := by omega
    have h8 : n ≤ 8 := by omega
    have hl := AN_len h1 h8
    rw [decide_eq_true hr]
    simp only [Option.bind_some, Bool.not_true, cond_false, impl_angles h1 h8, spec_angles h1 h8]
    exact ⟨AL n, 0, rfl, rfl, by unfold AL; rw [List.length_map]; omega⟩
  · rw [decide_eq_false hr]
    exact ⟨[], 2, rfl, rfl, by simp⟩
theorem pairsOf_same (n : Nat) : ∃ (L : List Pr) (c : Int), impl_PairsOfPeriod (n : Int) = some (L, c) ∧ spec_PairsOfPeriod_v2 (n : Int) = some (L, c) ∧ L.length ≤ 2040 ∧ (∀ x ∈ L, n ≤ 8 ∧ x ∈ (UP n).map aP) ∧ L.Pairwise SN := by
  unfold impl_PairsOfPeriod impl_isPeriod
  rw [impl_in]
  by_cases hr : (2 : Int) ≤ (n : Int) ∧ (n : Int) ≤ 8
  · have h2 : 2 ≤ n := by omega
    have h8 : n ≤ 8 := by omega
    obtain ⟨y1, y2, y3⟩ := YS_ok h2 h8
    rw [decide_eq_true hr, spec_pairsOf h2 h8]
    simp only [Option.bind_some, Bool.not_true, cond_false, y1]
    have hYl := YS_len h2 h8
    rw [YS_eq h2 h8] at hYl ⊢
    refine ⟨(NP n).map aP, 0, rfl, rfl, hYl, fun x hx => ?_, ?_⟩
    · obtain ⟨p, hp, rfl⟩ := List.mem_map.1 hx
      exact ⟨h8, List.mem_map.2 ⟨p, (UP_mem h8 p).2 ⟨n, h2, by omega, hp⟩, rfl⟩⟩
    · obtain ⟨m, rfl⟩ : ∃ m, n = m + 2 := ⟨n - 2, by omega⟩
      have h := UP_SN h8
      rw [(UP_new h8).1, List.map_append] at h
      exact (List.pairwise_append.1 h).2.1
  · unfold spec_PairsOfPeriod_v2
    rw [spec_in, decide_eq_false hr]
    exact ⟨[], 2, rfl, rfl, by simp, fun x hx => by simp at hx, List.Pairwise.nil⟩
theorem impl_leaf {l : Pr} (h1 : InA l.1) (h2 : InA l.2.1) (hA : isA l.1) (hB : isA l.2.1) : impl_IsLeaf l = some (decide (lt l.1 l.2.1)) := by
  unfold impl_IsLeaf
  rw [impl_isA h1, impl_isA h2, decide_eq_true hA, decide_eq_true hB, impl_compare hA hB]
  simp only [Option.bind_some, cond_true]
  unfold cmpA
  by_cases c : lt l.1 l.2.1
  · rw [if_pos c, decide_eq_true c]; rfl
  · rw [if_neg c, decide_eq_false c]
    split <;> rfl
/-- Whether two pairs cross: both answer the same, and the order does not matter. -/
theorem cross_same {a b : Pr} (ha : InA a.1 ∧ InA a.2.1) (hb : InA b.1 ∧ InA b.2.1) : ∃ (r : Bool) (c : Int), impl_ArePairsCrossing a b = some (r, c) ∧ spec_ArePairsCrossing a b = some (r, c) ∧ (c = 0 → impl_ArePairsCrossing b a = some (r, 0)) := by
  have e0 : ((0 : Int) != 0) = false := rfl
  have e1 : ((1 : Int) != 0) = true := rfl
  have hIn : ∀ x ∈ [a.1, a.2.1, b.1, b.2.1], InA x := by
    intro x hx
    simp only [List.mem_cons, List.not_mem_nil, or_false] at hx
    rcases hx with rfl | rfl | rfl | rfl
    · exact ha.1
    · exact ha.2
    · exact hb.1
    · exact hb.2
  have hIn2 : ∀ x ∈ [b.1, b.2.1, a.1, a.2.1], InA x := fun x hx => hIn x (by simp only [List.mem_cons, List.not_mem_nil, or_false] at hx ⊢; rcases hx with h | h | h | h <;> simp [h])
  unfold impl_ArePairsCrossing spec_ArePairsCrossing
  rw [impl_code hIn (by simp), impl_code hIn2 (by simp), spec_isA ha.1, spec_isA ha.2, spec_isA hb.1, spec_isA hb.2]
  by_cases c1 : isA a.1
  · by_cases c2 : isA a.2.1
    · by_cases c3 : isA b.1
      · by_cases c4 : isA b.2.1
        · have hall : ∀ x ∈ [a.1, a.2.1, b.1, b.2.1], isA x := by
            intro x hx
            simp only [List.mem_cons, List.not_mem_nil, or_false] at hx
            rcases hx with rfl | rfl | rfl | rfl <;> assumption
          have hall2 : ∀ x ∈ [b.1, b.2.1, a.1, a.2.1], isA x := by
            intro x hx
            simp only [List.mem_cons, List.not_mem_nil, or_false] at hx
            rcases hx with rfl | rfl | rfl | rfl <;> assumption
          have l1 : impl_RayPair_leaf a = some a := rfl
          have l2 : impl_RayPair_leaf b = some b := rfl
          rw [if_pos hall, if_pos hall2, decide_eq_true c1, decide_eq_true c2, decide_eq_true c3, decide_eq_true c4]
          simp only [Option.bind_some, Bool.not_true, cond_false, e0, l1, l2, impl_leaf ha.1 ha.2 c1 c2, impl_leaf hb.1 hb.2 c3 c4, spec_less c1 c2, spec_less c3 c4]
          by_cases d1 : lt a.1 a.2.1
          · by_cases d2 : lt b.1 b.2.1
            · rw [decide_eq_true d1, decide_eq_true d2]
              simp only [Bool.not_true, cond_false]
              have g1 : isL a := ⟨c1, c2, d1⟩
              have g2 : isL b := ⟨c3, c4, d2⟩
              rw [impl_cross g1 g2, impl_cross g2 g1, spec_cross g1 g2]
              refine ⟨decide (X a b), 0, rfl, rfl, fun _ => ?_⟩
              simp only [Option.bind_some]
              congr 2
              exact decide_eq_decide.2 (by unfold X; exact or_comm)
            · rw [decide_eq_true d1, decide_eq_false d2]
              exact ⟨false, 2, rfl, rfl, fun h => by cases h⟩
          · rw [decide_eq_false d1]
            exact ⟨false, 2, rfl, rfl, fun h => by cases h⟩
        · have hno : ¬ ∀ x ∈ [a.1, a.2.1, b.1, b.2.1], isA x := fun h => c4 (h _ (by simp))
          rw [if_neg hno, decide_eq_true c1, decide_eq_true c2, decide_eq_true c3, decide_eq_false c4]
          exact ⟨false, 1, rfl, rfl, fun h => by cases h⟩
      · have hno : ¬ ∀ x ∈ [a.1, a.2.1, b.1, b.2.1], isA x := fun h => c3 (h _ (by simp))
        rw [if_neg hno, decide_eq_true c1, decide_eq_true c2, decide_eq_false c3]
        exact ⟨false, 1, rfl, rfl, fun h => by cases h⟩
    · have hno : ¬ ∀ x ∈ [a.1, a.2.1, b.1, b.2.1], isA x := fun h => c2 (h _ (by simp))
      rw [if_neg hno, decide_eq_true c1, decide_eq_false c2]
      exact ⟨false, 1, rfl, rfl, fun h => by cases h⟩
  · have hno : ¬ ∀ x ∈ [a.1, a.2.1, b.1, b.2.1], isA x := fun h => c1 (h _ (by simp))
    rw [if_neg hno, decide_eq_false c1]
    exact ⟨false, 1, rfl, rfl, fun h => by cases h⟩
end Go.K.Pure

/- Plain laws of ray pairs, part 15: partners, pairs that do not cross, kneading sequences. -/
set_option linter.all false
namespace Go.K.Pure
open Classical
theorem cross_no {n : Nat} (h8 : n ≤ 8) {a b : Pr} (ha : a ∈ (UP n).map aP) (hb : b ∈ (UP n).map aP) (hs : SN a b) : impl_ArePairsCrossing a b = some (false, 0) := by
  have hL : ∀ {x : Pr}, x ∈ (UP n).map aP → isL x := fun {x} hx => by
    obtain ⟨p, hp, rfl⟩ := List.mem_map.1 hx
    exact okP_isL ((UP_ok h8).1 p hp)
  obtain ⟨a1, a2, a3⟩ := hL ha
  obtain ⟨b1, b2, b3⟩ := hL hb
  have hX : ¬ X a b := by
    unfold X
    unfold SN at hs
    omega
  have e0 : ((0 : Int) != 0) = false := rfl
  have hall : ∀ x ∈ [a.1, a.2.1, b.1, b.2.1], isA x := by
    intro x hx
    simp only [List.mem_cons, List.not_mem_nil, or_false] at hx
    rcases hx with rfl | rfl | rfl | rfl <;> assumption
  have l1 : impl_RayPair_leaf a = some a := rfl
  have l2 : impl_RayPair_leaf b = some b := rfl
  unfold impl_ArePairsCrossing
  rw [impl_code (fun x hx => inA_isA (hall x hx)) (by simp), if_pos hall]
  simp only [Option.bind_some, e0, cond_false, l1, l2, impl_leaf (inA_isA a1) (inA_isA a2) a1 a2, impl_leaf (inA_isA b1) (inA_isA b2) b1 b2, decide_eq_true a3, decide_eq_true b3, Bool.not_true, impl_cross ⟨a1, a2, a3⟩ ⟨b1, b2, b3⟩, decide_eq_false hX]
theorem nocross_loop {n : Nat} {L : List Pr} (hl : L.length ≤ 2040) (hm : ∀ x ∈ L, n ≤ 8 ∧ x ∈ (UP n).map aP) (hs : L.Pairwise SN) {x p : Ang} {c3 : Int} {q : Pr} {c4 : Int} :
    loop laws_FnRayPairs_l0 (L, x, p, c3, q, c4, (0 : Int), ()) = some (.inr (x, p, c3, q, c4, ())) := by
  have inner : ∀ i, i < L.length → loop laws_FnRayPairs_l1 (L, x, p, c3, q, c4, (i : Int), (0 : Int), ()) = some (.inr (L, x, p, c3, q, c4, (i : Int), ())) := fun i hi => by
    have := loop_count (step := laws_FnRayPairs_l1) (fun k => (L, x, p, c3, q, c4, (i : Int), (k : Int), ())) i (.inr (L, x, p, c3, q, c4, (i : Int), ())) (fun k hk => by
      have hkl : k < L.length := by omega
      have hw : w64 ((k : Int) + 1) = ((k + 1 : Nat) : Int) := w64_succ (by omega)
      have m1 := hm (L.getD i dP) (by rw [getD_at hi]; exact List.getElem_mem hi)
      have m2 := hm (L.getD k dP) (by rw [getD_at hkl]; exact List.getElem_mem hkl)
      have hn := List.pairwise_iff_getElem.1 hs k i hkl hi hk
      rw [← getD_at (d := dP) hkl, ← getD_at (d := dP) hi] at hn
      have hc := cross_no m1.1 m1.2 m2.2 (SN_symm hn)
      have hc' : impl_ArePairsCrossing (L.getD i ((((0 : Int), (0 : Int), ()), ((0 : Int), (0 : Int), ()), ()) : Pr)) (L.getD k ((((0 : Int), (0 : Int), ()), ((0 : Int), (0 : Int), ()), ()) : Pr)) = some (false, 0) := hc
      have e0 : ((0 : Int) != 0) = false := rfl
      simp only [laws_FnRayPairs_l1, ltb hk, cond_true, ltb hi, ltb hkl, nn0, Bool.and_self, Int.toNat_natCast]
      rw [hc']
      simp only [Option.bind_some, e0, cond_false, hw]) (by
      simp only [laws_FnRayPairs_l1, nltb (Nat.lt_irrefl _), cond_false]) 0 (by omega)
    exact this
  have := loop_count (step := laws_FnRayPairs_l0) (fun i => (L, x, p, c3, q, c4, (i : Int), ())) L.length (.inr (x, p, c3, q, c4, ())) (fun i hi => by
    have hw : w64 ((i : Int) + 1) = ((i + 1 : Nat) : Int) := w64_succ (by omega)
    simp only [laws_FnRayPairs_l0, ltb hi, cond_true, inner i hi, Option.bind_some, alt, hw]) (by
    simp only [laws_FnRayPairs_l0, nltb (Nat.lt_irrefl _), cond_false]) 0 (by omega)
  exact this
theorem impl_letter {x t : Ang} (hx : isA x) (ht : isA t) : impl_letterOf x t = some (ltV x t) := by
  have kx := KK_div hx
  have kt := KK_div ht
  have px := kd_pos hx
  have pt := kd_pos ht
  have hK := KK_pos
  have b1 := cross_bnd hx ht
  have b2 := cross_bnd ht hx
  have b3 := mul_bnd (x := x.2.1) (y := t.2.1) (by have := hx.1; omega) hx.2.1 (by have := ht.1; omega) ht.2.1
  have vx : val x = x.1 * (KK / x.2.1) := rfl
  have vt : val t = t.1 * (KK / t.2.1) := rfl
  have w1 : w64 (w64 (2 * x.1) * t.2.1) = 2 * x.1 * t.2.1 := by
    have hx1 := hx.2.2.2.1
    have hx2 := hx.2.2.1
    have hx3 := hx.2.1
    rw [w64_id (n := 2 * x.1) (by omega) (by omega), w64_id (by rw [Int.mul_assoc]; omega) (by rw [Int.mul_assoc]; omega)]
  have w2 : w64 (t.1 * x.2.1) = t.1 * x.2.1 := w64_id (by omega) (by omega)
  have w3 : w64 (x.2.1 * t.2.1) = x.2.1 * t.2.1 := w64_id (by omega) (by omega)
  have w4 : w64 (t.1 * x.2.1 + x.2.1 * t.2.1) = t.1 * x.2.1 + x.2.1 * t.2.1 := w64_id (by omega) (by omega)
  unfold impl_letterOf
  rw [w1, w2, w3, w4]
  have hm : 0 < (KK / x.2.1) * (KK / t.2.1) := Int.mul_pos px pt
  have e1 : (2 * x.1 * t.2.1) * ((KK / x.2.1) * (KK / t.2.1)) = (2 * val x) * KK := by rw [vx]; generalize KK / x.2.1 = r at *; generalize KK / t.2.1 = q at *; rw [← kt]; grind
  have e2 : (t.1 * x.2.1) * ((KK / x.2.1) * (KK / t.2.1)) = val t * KK := by rw [vt]; generalize KK / x.2.1 = r at *; generalize KK / t.2.1 = q at *; rw [← kx]; grind
  have e3 : (t.1 * x.2.1 + x.2.1 * t.2.1) * ((KK / x.2.1) * (KK / t.2.1)) = (val t + KK) * KK := by
    rw [Int.add_mul, e2, Int.add_mul]
    congr 1
    generalize hr : KK / x.2.1 = r at *
    generalize hq : KK / t.2.1 = q at *
    have : x.2.1 * t.2.1 * (r * q) = (x.2.1 * r) * (t.2.1 * q) := by grind
    rw [this, kx, kt]
  have i1 : ∀ {A B a b : Int}, A * ((KK / x.2.1) * (KK / t.2.1)) = a * KK → B * ((KK / x.2.1) * (KK / t.2.1)) = b * KK → (A < B ↔ a < b) := fun {A B a b} h1 h2 => by
    constructor
    · intro h
      have := Int.mul_lt_mul_of_pos_right h hm
      rw [h1, h2] at this
      exact Int.lt_of_mul_lt_mul_right this (Int.le_of_lt hK)
    · intro h
      have := Int.mul_lt_mul_of_pos_right h hK
      rw [← h1, ← h2] at this
      exact Int.lt_of_mul_lt_mul_right this (Int.le_of_lt hm)
  have a1 := i1 e1 e2
  have a2 := i1 e2 e1
  have a3 := i1 e1 e3
  have a4 := i1 e3 e1
  generalize 2 * x.1 * t.2.1 = A at *
  generalize t.1 * x.2.1 = B at *
  generalize B + x.2.1 * t.2.1 = C at *
  unfold ltV
  by_cases c1 : A = B
  · rw [if_pos (by omega), c1]; simp
  · have hb1 : (A == B) = false := by simpa using c1
    rw [hb1, cond_false]
    by_cases c2 : A = C
    · rw [if_pos (by omega), c2]; simp
    · have hb2 : (A == C) = false := by simpa using c2
      rw [hb2, cond_false, if_neg (by omega)]
      by_cases c3 : B < A
      · rw [decide_eq_true c3, cond_true]
        by_cases c4 : A < C
        · rw [decide_eq_true c4, cond_true, if_pos (by omega)]
        · rw [decide_eq_false c4, cond_false, if_neg (by omega)]
      · rw [decide_eq_false c3, cond_false, if_neg (by omega)]
noncomputable def knW (a : Ang) (n : Nat) : List UInt8 := tab (fun j => UInt8.ofNat (ltV (dblN a j) a).toNat) n
theorem knead_ok {a : Ang} {n : Nat} (h : isP a n) : impl_KneadingOf a = (impl_sequence [] (knW a n)).map fun s => (s, 0) := by
  have h8 := h.le
  have h1 := h.pos
  have e0 : ((0 : Int) != 0) = false := rfl
  have hob : ob a = (orbL a n, (0 : Int), true) := by
    have := ob_per h.isA (by rw [h.per]; exact h1)
    rw [h.per] at this; exact this
  have hall : ∀ x ∈ [a, a], isA x := fun x hx => by simp at hx; rw [hx]; exact h.isA
  unfold impl_KneadingOf impl_ItineraryOf
  rw [impl_code (fun x hx => inA_isA (hall x hx)) (by simp), if_pos hall]
  have ho : impl_orbitOf a = some (orbL a n, (0 : Int), (0 : Int)) := by
    unfold impl_orbitOf
    rw [impl_isA (inA_isA h.isA), ob_impl h.isA, hob, decide_eq_true h.isA]
    rfl
  simp only [Option.bind_some, e0, cond_false, ho]
  unfold impl_itinerary
  rw [ob_impl h.isA, hob]
  simp only [Option.bind_some]
  have hsp : impl_spelled (orbL a n) (0 : Int) a = impl_sequence [] (knW a n) := by
    unfold impl_spelled
    have := loop_count (step := impl_spelled_l0) (fun i => (orbL a n, (0 : Int), (), (a, ()), (([] : List UInt8), ([] : List UInt8), ()), tab (fun j => ltV (dblN a j) a) i, orbL a n, (((orbL a n).length : Nat) : Int), (i : Int), ())) n ((0 : Int), (([] : List UInt8), ([] : List UInt8), ()), tab (fun j => ltV (dblN a j) a) n, ()) (fun i hi => by
      have hl : i < (orbL a n).length := by rw [orbL_len]; exact hi
      have hg : (orbL a n).getD i dA0 = dblN a i := orbL_at hi
      have hw : w64 ((i : Int) + 1) = ((i + 1 : Nat) : Int) := w64_succ (by omega)
      have hf : impl_itinerary_f1 (dblN a i) a = some (ltV (dblN a i) a) := by
        unfold impl_itinerary_f1
        rw [impl_letter (dblN_isA h.isA i) h.isA]; rfl
      have hs : decide (((tab (fun j => ltV (dblN a j) a) i).length + [ltV (dblN a i) a].length) * 1 ≤ 140737488355328) = true := decide_eq_true (by rw [tab_len]; simp; omega)
      simp only [impl_spelled_l0, ltb hl, inb hl, cond_true, Int.toNat_natCast, hg, hf, Option.bind_some, hs, hw, nn0 i, Bool.and_true, Bool.true_and]
      rw [tab_succ]) (by
      have hl : ¬ n < (orbL a n).length := by rw [orbL_len]; omega
      simp only [impl_spelled_l0, nltb hl, cond_false]) 0 (by omega)
    have e : loop impl_spelled_l0 (orbL a n, (0 : Int), (), (a, ()), (([] : List UInt8), ([] : List UInt8), ()), ([] : List Int), orbL a n, (((orbL a n).length : Nat) : Int), (0 : Int), ()) = _ := this
    rw [e]
    simp only [Option.bind_some]
    have hT : (tab (fun j => ltV (dblN a j) a) n).length = n := tab_len
    have c1 : (((decide ((0 : Int) ≤ (0 : Int))) && (decide ((0 : Int) ≤ (0 : Int)))) && (decide ((0 : Int) ≤ ((n : Nat) : Int)))) = true := by simp
    have c2 : (((decide ((0 : Int) ≤ (0 : Int))) && (decide ((0 : Int) ≤ ((n : Nat) : Int)))) && (decide (((n : Nat) : Int) ≤ ((n : Nat) : Int)))) = true := by simp
    rw [hT, c1, c2, cond_true, cond_true, Int.toNat_natCast]
    have m1 : (((tab (fun j => ltV (dblN a j) a) n).take (0 : Int).toNat).drop (0 : Int).toNat).map (fun z5 => (UInt8.ofNat z5.toNat)) = [] := rfl
    have m2 : (((tab (fun j => ltV (dblN a j) a) n).take n).drop (0 : Int).toNat).map (fun z6 => (UInt8.ofNat z6.toNat)) = knW a n := by
      rw [List.take_of_length_le (by rw [hT]; omega)]
      show List.map _ (List.map _ (List.range n)) = List.map _ (List.range n)
      rw [List.map_map]; rfl
    rw [m1, m2]
    cases impl_sequence [] (knW a n) <;> rfl
  rw [hsp]
  cases impl_sequence [] (knW a n) <;> rfl
theorem knead_some {a : Ang} {n : Nat} (h : isP a n) : ∃ s, impl_KneadingOf a = some (s, 0) ∧ impl_sequence [] (knW a n) = some s := by
  have h8 := h.le
  have h1 := h.pos
  have hl : (knW a n).length = n := tab_len
  obtain ⟨m, _, _, _, _, e⟩ := sequence_nil (w := knW a n) (by omega) (by omega)
  exact ⟨_, by rw [knead_ok h, e]; rfl, e⟩
theorem knead_pair {P : Pr} {n : Nat} (h2 : 2 ≤ n) (h8 : n ≤ 8) (hP : P ∈ (NP n).map aP) : ∃ s, impl_KneadingOf P.1 = some (s, 0) ∧ impl_KneadingOf P.2.1 = some (s, 0) := by
  obtain ⟨g1, g2⟩ := NP_PP h2 h8 hP
  have hU : P ∈ (UP n).map aP := by
    obtain ⟨p, hp, rfl⟩ := List.mem_map.1 hP
    exact List.mem_map.2 ⟨p, (UP_mem h8 p).2 ⟨n, h2, by omega, hp⟩, rfl⟩
  have hw : knW P.1 n = knW P.2.1 n := tab_ext fun k hk => by rw [kn_pair h8 hU (by omega)]
  obtain ⟨s, s1, s2⟩ := knead_some g1.a
  obtain ⟨t, t1, t2⟩ := knead_some g1.b
  rw [← hw, s2] at t2
  simp only [Option.some.injEq] at t2
  rw [← t2] at t1
  exact ⟨s, s1, t1⟩
end Go.K.Pure

/- Plain laws of ray pairs, part 16: the law of FnRayPairs. -/
set_option linter.all false
namespace Go.K.Pure
open Classical
/-- Both angles of a pair have this pair. -/
theorem pair_of_end {P : Pr} {n : Nat} (h2 : 2 ≤ n) (h8 : n ≤ 8) (hP : P ∈ (NP n).map aP) {y : Ang} (hy : y = P.1 ∨ y = P.2.1) : impl_PairOf y = some (P, 0) := by
  obtain ⟨g1, g2⟩ := NP_PP h2 h8 hP
  have hU : P ∈ (UP n).map aP := by
    obtain ⟨p, hp, rfl⟩ := List.mem_map.1 hP
    exact List.mem_map.2 ⟨p, (UP_mem h8 p).2 ⟨n, h2, by omega, hp⟩, rfl⟩
  have hp : isP y n := by rcases hy with rfl | rfl; exact g1.a; exact g1.b
  refine impl_pair hp h2 fun q hq hh => ?_
  rcases UP_two h8 hq hU with e | e
  · exact e
  · have hL : ∀ {x : Pr}, x ∈ (UP n).map aP → isL x := fun {x} hx => by
      obtain ⟨p, hp, rfl⟩ := List.mem_map.1 hx
      exact okP_isL ((UP_ok h8).1 p hp)
    obtain ⟨a1, a2, a3⟩ := hL hq
    obtain ⟨b1, b2, b3⟩ := hL hU
    have v1 := (lt_val a1 a2).1 a3
    have v2 := (lt_val b1 b2).1 b3
    have hv : (val q.1 = val P.1 ∨ val q.1 = val P.2.1) ∨ (val q.2.1 = val P.1 ∨ val q.2.1 = val P.2.1) := by
      rcases hasA_iff.1 hh with e1 | e1 <;> rcases hy with e2 | e2
      · left; left; rw [e1, e2]
      · left; right; rw [e1, e2]
      · right; left; rw [e1, e2]
      · right; right; rw [e1, e2]
    unfold SN at e
    omega
theorem pair_has {x : Ang} {P : Pr} {n : Nat} (h : isP x n) (h2 : 2 ≤ n) (hp : impl_PairOf x = some (P, 0)) : x = P.1 ∨ x = P.2.1 := by
  obtain ⟨Q, q1, q2, q3, q4⟩ := pair_one h h2
  have := impl_pair h h2 q4
  rw [hp] at this
  simp only [Option.some.injEq, Prod.mk.injEq, and_true] at this
  subst this
  rcases hasA_iff.1 q3 with e | e
  · exact .inl e.symm
  · exact .inr e.symm
/-- What is asked of an angle that has a pair. -/
theorem partner_ok {x : Ang} {P : Pr} {n : Nat} (hx : isP x n) (h2 : 2 ≤ n) (h8 : n ≤ 8) (hP : P ∈ (NP n).map aP) (p2 : impl_PairOf x = some (P, 0)) (p3 : spec_PairOf x = some (P, 0)) :
    ∃ (y : Ang) (s : List UInt8 × List UInt8 × Unit), impl_PartnerOf x = some (y, 0) ∧ spec_PartnerOf x = some (y, 0) ∧ impl_PartnerOf y = some (x, 0) ∧ impl_KneadingOf x = some (s, 0) ∧ impl_KneadingOf y = some (s, 0) ∧
      ∃ d : Bool, laws_less9 y x = some d ∧ P = (if d then (y, x, ()) else (x, y, ())) := by
  obtain ⟨g1, g2⟩ := NP_PP h2 h8 hP
  have hne := lt_ne g2
  have e0 : ((0 : Int) != 0) = false := rfl
  obtain ⟨s, s1, s2⟩ := knead_pair h2 h8 hP
  rcases pair_has hx h2 p2 with e | e
  · have hy := pair_of_end h2 h8 hP (y := P.2.1) (.inr rfl)
    refine ⟨P.2.1, s, ?_, ?_, ?_, by rw [e]; exact s1, s2, false, ?_, ?_⟩
    · unfold impl_PartnerOf
      rw [p2]
      simp only [Option.bind_some, e0, cond_false]
      rw [beqA, decide_eq_true e.symm]; rfl
    · unfold spec_PartnerOf
      rw [p3]
      simp only [Option.bind_some, e0, cond_false]
      rw [beqA, decide_eq_true e.symm]; rfl
    · unfold impl_PartnerOf
      rw [hy]
      simp only [Option.bind_some, e0, cond_false]
      rw [beqA, decide_eq_false hne, e]; rfl
    · rw [e, less9_ok g1.b.isA g1.a.isA, decide_eq_false (fun h => by unfold lt at h g2; omega)]
    · rw [e]; rfl
  · have hy := pair_of_end h2 h8 hP (y := P.1) (.inl rfl)
    have hne2 : ¬ P.1 = x := fun h => hne (h.trans e)
    refine ⟨P.1, s, ?_, ?_, ?_, by rw [e]; exact s2, s1, true, ?_, ?_⟩
    · unfold impl_PartnerOf
      rw [p2]
      simp only [Option.bind_some, e0, cond_false]
      rw [beqA, decide_eq_false hne2]; rfl
    · unfold spec_PartnerOf
      rw [p3]
      simp only [Option.bind_some, e0, cond_false]
      rw [beqA, decide_eq_false hne2]; rfl
    · unfold impl_PartnerOf
      rw [hy]
      simp only [Option.bind_some, e0, cond_false]
      rw [beqA, decide_eq_true rfl, e]; rfl
    · rw [e, less9_ok g1.a.isA g1.b.isA, decide_eq_true g2]
    · rw [e]; rfl
theorem partner_no {x : Ang} {c : Int} (hc : c ≠ 0) (p2 : impl_PairOf x = some (dP, c)) (p3 : spec_PairOf x = some (dP, c)) : impl_PartnerOf x = some ((0, 0, ()), c) ∧ spec_PartnerOf x = some ((0, 0, ()), c) := by
  have hb : (c != 0) = true := by simpa using hc
  unfold impl_PartnerOf spec_PartnerOf
  rw [p2, p3]
  simp only [Option.bind_some, hb, cond_true]
  trivial
end Go.K.Pure

/- Plain laws of ray pairs, part 18: the law of FnRayPairs, joined. -/
set_option linter.all false
namespace Go.K.Pure
open Classical
theorem law_RayPairs {code : List Int} (hc : ∀ c ∈ code, 0 ≤ c ∧ c < 256) : laws_FnRayPairs code = some true := by
  unfold laws_FnRayPairs laws_big
  simp only [Option.bind_some]
  by_cases hl : code.length ≤ 4096
  · have hd : decide (((code.length : Nat) : Int) > 4096) = false := decide_eq_false (by omega)
    obtain ⟨n, n1⟩ := drawAngles_ok hl hc
    obtain ⟨m, m1⟩ := drawPairs_ok hl hc
    obtain ⟨x, x1, x2⟩ := drawPartner_ok hl hc
    obtain ⟨a, b, ab1, ab2, ab3⟩ := drawCross_ok hl hc
    obtain ⟨A, cA, A1, A2, A3⟩ := angles_same n
    obtain ⟨L, cL, L1, L2, L3, L4, L5⟩ := pairsOf_same m
    obtain ⟨r, c5, r1, r2, r3⟩ := cross_same ab2 ab3
    rw [hd, cond_false, n1]
    simp only [Option.bind_some]
    -- the last part, for each way to it
    have key : ∀ (y : Ang) (c3 : Int) (P : Pr) (c4 : Int), laws_FnRayPairs_R x y c3 P c4 = some true → laws_FnRayPairs_M (m : Int) (L, cL) x (y, c3) (P, c4) = some true := fun y c3 P c4 h => by
      unfold laws_FnRayPairs_M
      simp only
      cases hb : (cL == 0) with
      | false => simp only [cond_false]; exact h
      | true =>
        simp only [cond_true]
        cases hm : decide ((m : Int) < 7) with
        | false => simp only [cond_false]; exact h
        | true =>
          simp only [cond_true, nocross_loop L3 L4 L5, Option.bind_some, alt]
          exact h
    have tail : ∀ (y : Ang) (c3 : Int) (P : Pr) (c4 : Int), laws_FnRayPairs_R x y c3 P c4 = some true →
        (bif (c5 == 0) then (impl_ArePairsCrossing b a).bind fun r17 => bif (r17.2 != 0) then some false else bif (!(r17.1 == r)) then some false else laws_FnRayPairs_M (m : Int) (L, cL) x (y, c3) (P, c4) else laws_FnRayPairs_M (m : Int) (L, cL) x (y, c3) (P, c4)) = some true := fun y c3 P c4 h => by
      have hM := key y c3 P c4 h
      cases hb : (c5 == 0) with
      | false => simp only [cond_false]; exact hM
      | true =>
        have h5 : c5 = 0 := by simpa using hb
        rw [r3 h5]
        simp only [cond_true, Option.bind_some, bne_self_eq_false, cond_false, beq_self_eq_true, Bool.not_true]
        exact hM
    rcases pair_same x2 with ⟨c', p1, p2, p3⟩ | ⟨P, k, k2, k8, kP, kps, kN, p2, p3⟩
    · obtain ⟨q1, q2⟩ := partner_no p1 p2 p3
      have hb : (c' != 0) = true := by simpa using p1
      have hR : laws_FnRayPairs_R x (0, 0, ()) c' dP c' = some true := by
        unfold laws_FnRayPairs_R
        rw [hb]; rfl
      simp only [A1, A2, m1, L1, L2, x1, q1, q2, p2, p3, ab1, r1, r2, Option.bind_some, bne_self_eq_false, cond_false, beq_self_eq_true, Bool.and_self, Bool.not_true, angles9_same A3, pairs9_same L3]
      exact tail _ _ _ _ hR
    · obtain ⟨y, s, q1, q2, q3, q4, q5, d, q6, q7⟩ := partner_ok kP k2 k8 kN p2 p3
      have e0 : ((0 : Int) != 0) = false := rfl
      have e1 : ((0 : Int) == 0) = true := rfl
      have hR : laws_FnRayPairs_R x y 0 P 0 = some true := by
        unfold laws_FnRayPairs_R laws_FnRayPairs_F
        simp only [e0, cond_false, q3, q4, q5, q6, Option.bind_some, e1, cond_true, beq_self_eq_true, Bool.and_self]
        cases d with
        | true =>
          rw [q7]
          simp
        | false =>
          rw [q7]
          simp
      simp only [A1, A2, m1, L1, L2, x1, q1, q2, p2, p3, ab1, r1, r2, Option.bind_some, bne_self_eq_false, cond_false, beq_self_eq_true, Bool.and_self, Bool.not_true, angles9_same A3, pairs9_same L3]
      exact tail _ _ _ _ hR
  · have hd : decide (((code.length : Nat) : Int) > 4096) = true := decide_eq_true (by omega)
    rw [hd]; rfl
end Go.K.Pure

