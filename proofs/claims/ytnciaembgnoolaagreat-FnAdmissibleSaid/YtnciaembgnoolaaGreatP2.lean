/- Part 2 of the plain law: the functions of the program as plain functions on lists and numbers, and what is shown of them; no condition. -/
import Derived.Test.YtnciaembgnoolaaGreatP1
set_option linter.all false
/- Plain laws of ray pairs, part 11: the letters of an orbit, on whole numbers: both angles of a pair have the same. -/
set_option linter.all false
namespace Go.K.Pure
open Classical
def ltN (M N : Nat) : Nat := if Nat.beq (2 * M) N || Nat.beq (2 * M) (N + LL) then 42 else if Nat.blt N (2 * M) && Nat.blt (2 * M) (N + LL) then 49 else 48
def itN : Nat → Nat → Nat
  | 0, M => M
  | k + 1, M => 2 * itN k M % LL
def knN (N : Nat) : Nat → Nat → List Nat
  | 0, _ => []
  | f + 1, M => ltN M N :: knN N f (2 * M % LL)
def samN : List Nat → List Nat → Bool
  | [], [] => true
  | a :: x, b :: y => Nat.beq a b && samN x y
  | _, _ => false
theorem samN_eq : ∀ {x y : List Nat}, samN x y = true → x = y
  | [], [], _ => rfl
  | a :: x, b :: y, h => by
    unfold samN at h
    rw [Bool.and_eq_true] at h
    rw [Nat.eq_of_beq_eq_true h.1, samN_eq h.2]
  | [], _ :: _, h => by cases h
  | _ :: _, [], h => by cases h
theorem itN_succ (M : Nat) : ∀ k, itN k (2 * M % LL) = itN (k + 1) M
  | 0 => rfl
  | k + 1 => by show 2 * itN k (2 * M % LL) % LL = 2 * itN (k + 1) M % LL; rw [itN_succ M k]
theorem knN_eq (N : Nat) : ∀ f M, knN N f M = (List.range f).map fun k => ltN (itN k M) N
  | 0, M => rfl
  | f + 1, M => by
    rw [List.range_succ_eq_map, List.map_cons, List.map_map]
    show ltN M N :: knN N f (2 * M % LL) = _
    rw [knN_eq N f]
    congr 1
    refine List.map_congr_left fun k _ => ?_
    show ltN (itN k (2 * M % LL)) N = ltN (itN (k + 1) M) N
    rw [itN_succ]
set_option maxRecDepth 1000000 in
theorem kn_all : (match upToN 8 with | some ps => ps.all fun p => samN (knN p.1 8 p.1) (knN p.2 8 p.2) | none => false) = true := by decide +kernel
theorem kn_same {p : Nat × Nat} (hp : p ∈ UP 8) {k : Nat} (hk : k < 8) : ltN (itN k p.1) p.1 = ltN (itN k p.2) p.2 := by
  have h := kn_all
  rw [UP_eq (Nat.le_refl 8)] at h
  have h2 := samN_eq (List.all_eq_true.1 h p hp)
  rw [knN_eq, knN_eq] at h2
  have h3 := congrArg (fun l => l[k]?) h2
  simpa [hk] using h3
/-- An angle is so many of the common parts. -/
structure isN (a : Ang) (M : Nat) : Prop where
  ia : isA a
  l : M < LL
  v : val a * (LL : Int) = (M : Int) * KK
theorem dgt_KK1 {a : Ang} (h : isA a) : a.2.1 ≤ 2 * a.1 ↔ KK ≤ 2 * val a := by
  have h1 := KK_div h
  have h2 := kd_pos h
  have e : 2 * val a - KK = (2 * a.1 - a.2.1) * (KK / a.2.1) := by
    unfold val
    rw [Int.sub_mul, h1, Int.mul_assoc]
  constructor
  · intro hc
    have : 0 ≤ (2 * a.1 - a.2.1) * (KK / a.2.1) := Int.mul_nonneg (by omega) (by omega)
    omega
  · intro hc
    have h3 : 0 ≤ (2 * a.1 - a.2.1) * (KK / a.2.1) := by omega
    have := Int.nonneg_of_mul_nonneg_left h3 h2
    omega
theorem isN.dbl {a : Ang} {M : Nat} (h : isN a M) : isN (dbl a) (2 * M % LL) := by
  have hK := KK_pos
  have hL : (0 : Int) < (LL : Int) := by decide
  refine ⟨dbl_isA h.ia, Nat.mod_lt _ (by decide), ?_⟩
  rw [dbl_val2 h.ia]
  have hv := h.v
  have hl := h.l
  have key : KK ≤ 2 * val a ↔ LL ≤ 2 * M := by
    have e : 2 * val a * (LL : Int) = ((2 * M : Nat) : Int) * KK := by push_cast; grind
    constructor
    · intro hc
      have h1 : KK * (LL : Int) ≤ 2 * val a * (LL : Int) := Int.mul_le_mul_of_nonneg_right hc (Int.le_of_lt hL)
      rw [e, Int.mul_comm] at h1
      have := Int.le_of_mul_le_mul_right h1 hK
      omega
    · intro hc
      have h1 : (LL : Int) * KK ≤ ((2 * M : Nat) : Int) * KK := Int.mul_le_mul_of_nonneg_right (by omega) (Int.le_of_lt hK)
      rw [← e, Int.mul_comm] at h1
      exact Int.le_of_mul_le_mul_right h1 hL
  by_cases hc : LL ≤ 2 * M
  · rw [if_pos ((dgt_KK1 h.ia).2 (key.2 hc)), Nat.mod_eq_sub_mod hc, Nat.mod_eq_of_lt (by omega), Int.ofNat_sub hc]
    push_cast
    generalize (LL : Int) = L at *
    grind
  · rw [if_neg (fun h' => hc (key.1 ((dgt_KK1 h.ia).1 h'))), Nat.mod_eq_of_lt (by omega)]
    push_cast
    generalize (LL : Int) = L at *
    grind
theorem isN.dblN {a : Ang} {M : Nat} (h : isN a M) : ∀ k, isN (dblN a k) (itN k M)
  | 0 => h
  | k + 1 => (isN.dblN h k).dbl
/-- The letter of an angle for another one. -/
noncomputable def ltV (x t : Ang) : Int := if 2 * val x = val t ∨ 2 * val x = val t + KK then 42 else if val t < 2 * val x ∧ 2 * val x < val t + KK then 49 else 48
theorem ltV_eq {x t : Ang} {M N : Nat} (hx : isN x M) (ht : isN t N) : ltV x t = (ltN M N : Int) := by
  have hK := KK_pos
  have hL : (0 : Int) < (LL : Int) := by decide
  have vx := hx.v
  have vt := ht.v
  have i1 : ∀ {u w : Int} {A B : Nat}, u * (LL : Int) = (A : Int) * KK → w * (LL : Int) = (B : Int) * KK → (u < w ↔ A < B) := fun {u w A B} hu hw => by
    constructor
    · intro h
      have h1 : u * (LL : Int) < w * (LL : Int) := Int.mul_lt_mul_of_pos_right h hL
      rw [hu, hw] at h1
      have := Int.lt_of_mul_lt_mul_right h1 (Int.le_of_lt hK)
      omega
    · intro h
      have h1 : (A : Int) * KK < (B : Int) * KK := Int.mul_lt_mul_of_pos_right (by omega) hK
      rw [← hu, ← hw] at h1
      exact Int.lt_of_mul_lt_mul_right h1 (Int.le_of_lt hL)
  have e1 : (2 * val x) * (LL : Int) = ((2 * M : Nat) : Int) * KK := by push_cast; grind
  have e2 : (val t + KK) * (LL : Int) = ((N + LL : Nat) : Int) * KK := by push_cast; grind
  have a1 := i1 e1 vt
  have a2 := i1 vt e1
  have a3 := i1 e1 e2
  have a4 := i1 e2 e1
  unfold ltV ltN
  by_cases c1 : 2 * M = N ∨ 2 * M = N + LL
  · rw [if_pos (by omega)]
    have : (Nat.beq (2 * M) N || Nat.beq (2 * M) (N + LL)) = true := by
      rw [Bool.or_eq_true, Nat.beq_eq, Nat.beq_eq]; exact c1
    rw [this]; rfl
  · rw [if_neg (by omega)]
    have h1 : (Nat.beq (2 * M) N || Nat.beq (2 * M) (N + LL)) = false := by
      rw [← Bool.not_eq_true, Bool.or_eq_true, Nat.beq_eq, Nat.beq_eq]; exact c1
    rw [h1]
    by_cases c2 : N < 2 * M ∧ 2 * M < N + LL
    · rw [if_pos (by omega)]
      have : (Nat.blt N (2 * M) && Nat.blt (2 * M) (N + LL)) = true := by
        rw [Bool.and_eq_true, Nat.blt_eq, Nat.blt_eq]; exact c2
      rw [this]; rfl
    · rw [if_neg (by omega)]
      have : (Nat.blt N (2 * M) && Nat.blt (2 * M) (N + LL)) = false := by
        rw [← Bool.not_eq_true, Bool.and_eq_true, Nat.blt_eq, Nat.blt_eq]; exact c2
      rw [this]; rfl
/-- Both angles of a pair have the same letters along their orbits. -/
theorem kn_pair {P : Pr} {n : Nat} (h8 : n ≤ 8) (hP : P ∈ (UP n).map aP) {k : Nat} (hk : k < 8) : ltV (dblN P.1 k) P.1 = ltV (dblN P.2.1 k) P.2.1 := by
  obtain ⟨p, hp, rfl⟩ := List.mem_map.1 hP
  obtain ⟨⟨a1, a2, a3⟩, ⟨b1, b2, b3⟩, _⟩ := (UP_ok h8).1 p hp
  have hp8 : p ∈ UP 8 := by
    obtain ⟨r, hr⟩ := UP_pre h8 (Nat.le_refl 8)
    rw [hr]; exact List.mem_append_left _ hp
  have ha : isN (aP p).1 p.1 := ⟨a2, a1, a3⟩
  have hb : isN (aP p).2.1 p.2 := ⟨b2, b1, b3⟩
  rw [ltV_eq (ha.dblN k) ha, ltV_eq (hb.dblN k) hb, kn_same hp8 hk]
end Go.K.Pure

/- Plain laws of ray pairs, part Ra: the pairs of a period in order. -/
set_option linter.all false
namespace Go.K.Pure
open Classical
theorem flat_uniq2 : ∀ {l : List (Nat × Nat)}, (l.flatMap fun p => [p.1, p.2]).Nodup → ∀ {p q : Nat × Nat}, p ∈ l → q ∈ l → p.1 = q.1 → p = q
  | [], _, p, q, hp, _, _ => by cases hp
  | a :: l, hn, p, q, hp, hq, h1 => by
    rw [List.flatMap_cons, List.nodup_append] at hn
    obtain ⟨n1, n2, n3⟩ := hn
    have hin : ∀ {p : Nat × Nat}, p ∈ l → p.1 ∈ l.flatMap fun p => [p.1, p.2] := fun {p} hp => List.mem_flatMap.2 ⟨p, hp, by simp⟩
    rcases List.mem_cons.1 hp with hp | hp <;> rcases List.mem_cons.1 hq with hq | hq
    · rw [hp, hq]
    · have := hin hq
      rw [← h1, hp] at this
      exact absurd rfl (n3 a.1 (by simp) a.1 this)
    · have := hin hp
      rw [h1, hq] at this
      exact absurd rfl (n3 a.1 (by simp) a.1 this)
    · exact flat_uniq2 n2 hp hq h1
theorem join_asc : ∀ {k : Nat} {ps : List (Nat × Nat)} {l : List Nat} {qs : List (Nat × Nat)}, joinN k ps l = some qs → l.Pairwise (· < ·) → ∃ new, qs = ps ++ new ∧ (∀ p ∈ new, p.1 ∈ l) ∧ new.Pairwise fun p q => p.1 < q.1
  | 0, ps, l, qs, h, _ => by cases h
  | k + 1, ps, [], qs, h, _ => by
    simp only [joinN, Option.some.injEq] at h
    exact ⟨[], by simp [h], by simp, List.Pairwise.nil⟩
  | k + 1, ps, a :: rest, qs, h, hs => by
    unfold joinN at h
    cases ht : takeF (freeN a ps) rest with
    | none => rw [ht] at h; cases h
    | some q =>
      obtain ⟨b, r⟩ := q
      rw [ht] at h
      simp only at h
      have hs2 := List.pairwise_cons.1 hs
      obtain ⟨hb, hr⟩ := takeF_sub ht
      obtain ⟨new, h1, h2, h3⟩ := join_asc h (hs2.2.sublist hr)
      refine ⟨(a, b) :: new, by rw [h1]; simp, fun p hp => ?_, List.pairwise_cons.2 ⟨fun p hp => hs2.1 _ (hr.subset (h2 p hp)), h3⟩⟩
      rcases List.mem_cons.1 hp with rfl | hp
      · simp
      · simp [hr.subset (h2 p hp)]
theorem NP_asc {n : Nat} (h : n + 2 ≤ 8) : (NP (n + 2)).Pairwise fun p q => p.1 < q.1 := by
  obtain ⟨new, h1, _, h3⟩ := join_asc (UP_join h) (AN_sorted (by omega) h)
  have : NP (n + 2) = new := by unfold NP; rw [h1]; simp
  rw [this]; exact h3
theorem YS_eq {n : Nat} (h2 : 2 ≤ n) (h8 : n ≤ 8) : YS n = (NP n).map aP := by
  obtain ⟨m, rfl⟩ : ∃ m, n = m + 2 := ⟨n - 2, by omega⟩
  obtain ⟨y1, y2, y3⟩ := YS_ok h2 h8
  obtain ⟨u1, u2, u3⟩ := UP_new h8
  have hnd : ((NP (m + 2)).flatMap fun p => [p.1, p.2]).Nodup := u3.nodup_iff.2 ((AN_sorted (by omega) h8).imp (fun hab => Nat.ne_of_lt hab))
  refine List.Perm.eq_of_pairwise (le := fun a b : Pr => val a.1 ≤ val b.1) ?_ y3 ?_ y2
  · intro a b ha hb h1 h2'
    obtain ⟨p, hp, rfl⟩ := List.mem_map.1 (y2.subset ha)
    obtain ⟨q, hq, rfl⟩ := List.mem_map.1 hb
    have okp := (NP_mem h2 h8 hp).2.2.1
    have okq := (NP_mem h2 h8 hq).2.2.1
    have e : p.1 = q.1 := by
      have a1 := okN_lt okp okq
      have a2 := okN_lt okq okp
      have b1 : ¬ val (aN p.1) < val (aN q.1) := by
        have : val (aN q.1) ≤ val (aN p.1) := h2'
        omega
      have b2 : ¬ val (aN q.1) < val (aN p.1) := by
        have : val (aN p.1) ≤ val (aN q.1) := h1
        omega
      rw [a1] at b1
      rw [a2] at b2
      omega
    rw [flat_uniq2 hnd hp hq e]
  · refine List.pairwise_map.2 ?_
    refine List.Pairwise.imp_of_mem ?_ (NP_asc h8)
    intro p q hp hq hlt
    have okp := (NP_mem h2 h8 hp).2.2.1
    have okq := (NP_mem h2 h8 hq).2.2.1
    have := (okN_lt okp okq).2 hlt
    show val (aN p.1) ≤ val (aN q.1)
    omega
end Go.K.Pure

/- Plain laws of ray pairs, part Jr: the root of a word. -/
set_option linter.all false
namespace Go.K.Pure
open Classical
theorem root_ok {w : List UInt8} (h0 : 0 < w.length) (hl : w.length ≤ 100000) : ∃ n, 1 ≤ n ∧ n ≤ w.length ∧ n ∣ w.length ∧ Lib.repeatL (w.take n) (w.length / n) = w ∧ impl_root w = some (w.take n) := by
  have key : ∀ k n, w.length - n = k → 1 ≤ n → n ≤ w.length → ∃ m, n ≤ m ∧ m ≤ w.length ∧ m ∣ w.length ∧ Lib.repeatL (w.take m) (w.length / m) = w ∧ loop impl_root_l0 (w, (n : Int), ()) = some (w, (m : Int), ()) := by
    intro k
    induction k with
    | zero =>
      intro n hk h1 h2
      have hn : n = w.length := by omega
      subst hn
      refine ⟨w.length, by omega, by omega, Nat.dvd_refl _, by rw [Nat.div_self h0, Lib.repeatL_one]; simp, ?_⟩
      have hb : ((w.length : Int) == 0) = false := by simp only [beq_eq_false_iff_ne, ne_eq]; omega
      have hc : (((decide ((0 : Int) ≤ (0 : Int))) && (decide ((0 : Int) ≤ (w.length : Int)))) && (decide ((w.length : Int) ≤ ((w.length : Nat) : Int)))) = true := by simp
      have hr : strings_Repeat ((w.take w.length).drop 0) (w64 ((w.length : Int).tdiv (w.length : Int))) = some w := by
        rw [tdiv_nat, Nat.div_self h0]
        unfold strings_Repeat repeatOf
        have e1 : w64 ((1 : Nat) : Int) = 1 := rfl
        rw [e1]
        have e2 : (decide ((0 : Int) ≤ 1) && decide ((1 : Int) ≤ 9223372036854775807) && decide (((w.take w.length).drop 0).length * (1 : Int).toNat ≤ 140737488355328)) = true := by
          have t1 : (1 : Int).toNat = 1 := rfl
          have t2 : ((w.take w.length).drop 0).length = w.length := by simp
          rw [t1, t2]
          simp only [Bool.and_eq_true, decide_eq_true_eq]
          omega
        rw [e2, cond_true]
        have e3 : (1 : Int).toNat = 1 := rfl
        rw [e3, Lib.repeatL_one]; simp
      rw [loop_eq]
      simp only [impl_root_l0, hb, Bool.not_false, cond_true, tmod_nat, Nat.mod_self, hc, Int.toNat_natCast]
      have e0 : (((0 : Nat) : Int) != 0) = false := rfl
      simp only [e0, cond_false]
      have hr' : strings_Repeat ((w.take w.length).drop (0 : Int).toNat) (w64 ((w.length : Int).tdiv (w.length : Int))) = some w := hr
      rw [hr']
      simp
    | succ k ih =>
      intro n hk h1 h2
      have hb : ((n : Int) == 0) = false := by simp only [beq_eq_false_iff_ne, ne_eq]; omega
      have hw : w64 ((n : Int) + 1) = ((n + 1 : Nat) : Int) := w64_succ (by omega)
      obtain ⟨m, m1, m2, m3, m4, m5⟩ := ih (n + 1) (by omega) (by omega) (by omega)
      by_cases hd : n ∣ w.length
      · have hm0 : w.length % n = 0 := Nat.mod_eq_zero_of_dvd hd
        have hc : (((decide ((0 : Int) ≤ (0 : Int))) && (decide ((0 : Int) ≤ (n : Int)))) && (decide ((n : Int) ≤ ((w.length : Nat) : Int)))) = true := by simp; omega
        have hln : ((w.take n).drop (0 : Int).toNat).length = n := by simp; omega
        have hr : strings_Repeat ((w.take n).drop (0 : Int).toNat) (w64 ((w.length : Int).tdiv (n : Int))) = some (Lib.repeatL (w.take n) (w.length / n)) := by
          have hdl : w.length / n ≤ w.length := Nat.div_le_self _ _
          have hmul := Nat.mul_div_cancel' hd
          rw [tdiv_nat]
          generalize w.length / n = q at *
          rw [w64_id (by omega) (by omega)]
          unfold strings_Repeat repeatOf
          have e2 : (decide ((0 : Int) ≤ (q : Int)) && decide ((q : Int) ≤ 9223372036854775807) && decide (((w.take n).drop (0 : Int).toNat).length * (q : Int).toNat ≤ 140737488355328)) = true := by
            rw [hln, Int.toNat_natCast, hmul]
            simp only [Bool.and_eq_true, decide_eq_true_eq]
            omega
          rw [e2, cond_true, Int.toNat_natCast]
          rfl
        have e0 : ((((w.length % n : Nat) : Int)) != 0) = false := by rw [hm0]; rfl
        by_cases he : Lib.repeatL (w.take n) (w.length / n) = w
        · refine ⟨n, by omega, h2, hd, he, ?_⟩
          rw [loop_eq]
          simp only [impl_root_l0, hb, Bool.not_false, cond_true, tmod_nat, hc, Int.toNat_natCast, e0, cond_false]
          rw [hr, he]
          simp
        · refine ⟨m, by omega, m2, m3, m4, ?_⟩
          have hbe : (Lib.repeatL (w.take n) (w.length / n) == w) = false := by simpa using he
          rw [loop_eq]
          simp only [impl_root_l0, hb, Bool.not_false, cond_true, tmod_nat, hc, Int.toNat_natCast, e0, cond_false]
          rw [hr]
          simp only [Option.bind_some, hbe, Bool.not_false, cond_true, hw]
          exact m5
      · refine ⟨m, by omega, m2, m3, m4, ?_⟩
        have e0 : ((((w.length % n : Nat) : Int)) != 0) = true := by
          have : w.length % n ≠ 0 := fun e => hd (Nat.dvd_of_mod_eq_zero e)
          simp only [bne_iff_ne, ne_eq]; omega
        rw [loop_eq]
        simp only [impl_root_l0, hb, Bool.not_false, cond_true, tmod_nat, e0, hw]
        exact m5
  obtain ⟨m, m1, m2, m3, m4, m5⟩ := key _ 1 rfl (by omega) (by omega)
  refine ⟨m, m1, m2, m3, m4, ?_⟩
  unfold impl_root
  have m5' : loop impl_root_l0 (w, (1 : Int), ()) = _ := m5
  rw [m5']
  have hc : (((decide ((0 : Int) ≤ (0 : Int))) && (decide ((0 : Int) ≤ (m : Int)))) && (decide ((m : Int) ≤ ((w.length : Nat) : Int)))) = true := by simp; omega
  simp only [Option.bind_some, hc, cond_true, Int.toNat_natCast]
  rfl
theorem sequence_nil {w : List UInt8} (h0 : 0 < w.length) (hl : w.length ≤ 100000) : ∃ n, 1 ≤ n ∧ n ≤ w.length ∧ n ∣ w.length ∧ Lib.repeatL (w.take n) (w.length / n) = w ∧ impl_sequence [] w = some ([], w.take n, ()) := by
  obtain ⟨n, h1, h2, h3, h4, h5⟩ := root_ok h0 hl
  refine ⟨n, h1, h2, h3, h4, ?_⟩
  unfold impl_sequence
  rw [h5]
  simp only [Option.bind_some]
  rw [loop_eq]
  simp [impl_sequence_l0]
end Go.K.Pure

/- Plain laws of ray pairs, part 15k: kneading sequences. -/
set_option linter.all false
namespace Go.K.Pure
open Classical
theorem impl_letter {x t : Ang} (hx : isA x) (ht : isA t) : impl_letterOf x t = some (ltV x t) := by
  have kx := KK_div hx
  have kt := KK_div ht
  have px := kd_pos hx
  have pt := kd_pos ht
  have hK := KK_pos
  have b1 := cross_bnd hx ht
  have b2 := cross_bnd ht hx
  have b3 := mul_bnd (x := x.2.1) (y := t.2.1) (by have := hx.1; omega) hx.2.1 (by have := ht.1; omega) ht.2.1
  have vx : val x = x.1 * (KK / x.2.1) := rfl
  have vt : val t = t.1 * (KK / t.2.1) := rfl
  have w1 : w64 (w64 (2 * x.1) * t.2.1) = 2 * x.1 * t.2.1 := by
    have hx1 := hx.2.2.2.1
    have hx2 := hx.2.2.1
    have hx3 := hx.2.1
    rw [w64_id (n := 2 * x.1) (by omega) (by omega), w64_id (by rw [Int.mul_assoc]; omega) (by rw [Int.mul_assoc]; omega)]
  have w2 : w64 (t.1 * x.2.1) = t.1 * x.2.1 := w64_id (by omega) (by omega)
  have w3 : w64 (x.2.1 * t.2.1) = x.2.1 * t.2.1 := w64_id (by omega) (by omega)
  have w4 : w64 (t.1 * x.2.1 + x.2.1 * t.2.1) = t.1 * x.2.1 + x.2.1 * t.2.1 := w64_id (by omega) (by omega)
  unfold impl_letterOf
  rw [w1, w2, w3, w4]
  have hm : 0 < (KK / x.2.1) * (KK / t.2.1) := Int.mul_pos px pt
  have e1 : (2 * x.1 * t.2.1) * ((KK / x.2.1) * (KK / t.2.1)) = (2 * val x) * KK := by rw [vx]; generalize KK / x.2.1 = r at *; generalize KK / t.2.1 = q at *; rw [← kt]; grind
  have e2 : (t.1 * x.2.1) * ((KK / x.2.1) * (KK / t.2.1)) = val t * KK := by rw [vt]; generalize KK / x.2.1 = r at *; generalize KK / t.2.1 = q at *; rw [← kx]; grind
  have e3 : (t.1 * x.2.1 + x.2.1 * t.2.1) * ((KK / x.2.1) * (KK / t.2.1)) = (val t + KK) * KK := by
    rw [Int.add_mul, e2, Int.add_mul]
    congr 1
    generalize hr : KK / x.2.1 = r at *
    generalize hq : KK / t.2.1 = q at *
    have : x.2.1 * t.2.1 * (r * q) = (x.2.1 * r) * (t.2.1 * q) := by grind
    rw [this, kx, kt]
  have i1 : ∀ {A B a b : Int}, A * ((KK / x.2.1) * (KK / t.2.1)) = a * KK → B * ((KK / x.2.1) * (KK / t.2.1)) = b * KK → (A < B ↔ a < b) := fun {A B a b} h1 h2 => by
    constructor
    · intro h
      have := Int.mul_lt_mul_of_pos_right h hm
      rw [h1, h2] at this
      exact Int.lt_of_mul_lt_mul_right this (Int.le_of_lt hK)
    · intro h
      have := Int.mul_lt_mul_of_pos_right h hK
      rw [← h1, ← h2] at this
      exact Int.lt_of_mul_lt_mul_right this (Int.le_of_lt hm)
  have a1 := i1 e1 e2
  have a2 := i1 e2 e1
  have a3 := i1 e1 e3
  have a4 := i1 e3 e1
  generalize 2 * x.1 * t.2.1 = A at *
  generalize t.1 * x.2.1 = B at *
  generalize B + x.2.1 * t.2.1 = C at *
  unfold ltV
  by_cases c1 : A = B
  · rw [if_pos (by omega), c1]; simp
  · have hb1 : (A == B) = false := by simpa using c1
    rw [hb1, cond_false]
    by_cases c2 : A = C
    · rw [if_pos (by omega), c2]; simp
    · have hb2 : (A == C) = false := by simpa using c2
      rw [hb2, cond_false, if_neg (by omega)]
      by_cases c3 : B < A
      · rw [decide_eq_true c3, cond_true]
        by_cases c4 : A < C
        · rw [decide_eq_true c4, cond_true, if_pos (by omega)]
        · rw [decide_eq_false c4, cond_false, if_neg (by omega)]
      · rw [decide_eq_false c3, cond_false, if_neg (by omega)]
noncomputable def knW (a : Ang) (n : Nat) : List UInt8 := tab (fun j => UInt8.ofNat (ltV (dblN a j) a).toNat) n
theorem knead_ok {a : Ang} {n : Nat} (h : isP a n) : impl_KneadingOf a = (impl_sequence [] (knW a n)).map fun s => (s, 0) := by
  have h8 := h.le
  have h1 := h.pos
  have e0 : ((0 : Int) != 0) = false := rfl
  have hob : ob a = (orbL a n, (0 : Int), true) := by
    have := ob_per h.isA (by rw [h.per]; exact h1)
    rw [h.per] at this; exact this
  have hall : ∀ x ∈ [a, a], isA x := fun x hx => by simp at hx; rw [hx]; exact h.isA
  unfold impl_KneadingOf impl_ItineraryOf
  rw [impl_code (fun x hx => inA_isA (hall x hx)) (by simp), if_pos hall]
  have ho : impl_orbitOf a = some (orbL a n, (0 : Int), (0 : Int)) := by
    unfold impl_orbitOf
    rw [impl_isA (inA_isA h.isA), ob_impl h.isA, hob, decide_eq_true h.isA]
    rfl
  simp only [Option.bind_some, e0, cond_false, ho]
  unfold impl_itinerary
  rw [ob_impl h.isA, hob]
  simp only [Option.bind_some]
  have hsp : impl_spelled (orbL a n) (0 : Int) a = impl_sequence [] (knW a n) := by
    unfold impl_spelled
    have := loop_count (step := impl_spelled_l0) (fun i => (orbL a n, (0 : Int), (), (a, ()), (([] : List UInt8), ([] : List UInt8), ()), tab (fun j => ltV (dblN a j) a) i, orbL a n, (((orbL a n).length : Nat) : Int), (i : Int), ())) n ((0 : Int), (([] : List UInt8), ([] : List UInt8), ()), tab (fun j => ltV (dblN a j) a) n, ()) (fun i hi => by
      have hl : i < (orbL a n).length := by rw [orbL_len]; exact hi
      have hg : (orbL a n).getD i dA0 = dblN a i := orbL_at hi
      have hw : w64 ((i : Int) + 1) = ((i + 1 : Nat) : Int) := w64_succ (by omega)
      have hf : impl_itinerary_f1 (dblN a i) a = some (ltV (dblN a i) a) := by
        unfold impl_itinerary_f1
        rw [impl_letter (dblN_isA h.isA i) h.isA]; rfl
      have hs : decide (((tab (fun j => ltV (dblN a j) a) i).length + [ltV (dblN a i) a].length) * 1 ≤ 140737488355328) = true := decide_eq_true (by rw [tab_len]; simp; omega)
      simp only [impl_spelled_l0, ltb hl, inb hl, cond_true, Int.toNat_natCast, hg, hf, Option.bind_some, hs, hw, nn0 i, Bool.and_true, Bool.true_and]
      rw [tab_succ]) (by
      have hl : ¬ n < (orbL a n).length := by rw [orbL_len]; omega
      simp only [impl_spelled_l0, nltb hl, cond_false]) 0 (by omega)
    have e : loop impl_spelled_l0 (orbL a n, (0 : Int), (), (a, ()), (([] : List UInt8), ([] : List UInt8), ()), ([] : List Int), orbL a n, (((orbL a n).length : Nat) : Int), (0 : Int), ()) = _ := this
    rw [e]
    simp only [Option.bind_some]
    have hT : (tab (fun j => ltV (dblN a j) a) n).length = n := tab_len
    have c1 : (((decide ((0 : Int) ≤ (0 : Int))) && (decide ((0 : Int) ≤ (0 : Int)))) && (decide ((0 : Int) ≤ ((n : Nat) : Int)))) = true := by simp
    have c2 : (((decide ((0 : Int) ≤ (0 : Int))) && (decide ((0 : Int) ≤ ((n : Nat) : Int)))) && (decide (((n : Nat) : Int) ≤ ((n : Nat) : Int)))) = true := by simp
    rw [hT, c1, c2, cond_true, cond_true, Int.toNat_natCast]
    have m1 : (((tab (fun j => ltV (dblN a j) a) n).take (0 : Int).toNat).drop (0 : Int).toNat).map (fun z5 => (UInt8.ofNat z5.toNat)) = [] := rfl
    have m2 : (((tab (fun j => ltV (dblN a j) a) n).take n).drop (0 : Int).toNat).map (fun z6 => (UInt8.ofNat z6.toNat)) = knW a n := by
      rw [List.take_of_length_le (by rw [hT]; omega)]
      show List.map _ (List.map _ (List.range n)) = List.map _ (List.range n)
      rw [List.map_map]; rfl
    rw [m1, m2]
    cases impl_sequence [] (knW a n) <;> rfl
  rw [hsp]
  cases impl_sequence [] (knW a n) <;> rfl
theorem knead_some {a : Ang} {n : Nat} (h : isP a n) : ∃ s, impl_KneadingOf a = some (s, 0) ∧ impl_sequence [] (knW a n) = some s := by
  have h8 := h.le
  have h1 := h.pos
  have hl : (knW a n).length = n := tab_len
  obtain ⟨m, _, _, _, _, e⟩ := sequence_nil (w := knW a n) (by omega) (by omega)
  exact ⟨_, by rw [knead_ok h, e]; rfl, e⟩
theorem knead_pair {P : Pr} {n : Nat} (h2 : 2 ≤ n) (h8 : n ≤ 8) (hP : P ∈ (NP n).map aP) : ∃ s, impl_KneadingOf P.1 = some (s, 0) ∧ impl_KneadingOf P.2.1 = some (s, 0) := by
  obtain ⟨g1, g2⟩ := NP_PP h2 h8 hP
  have hU : P ∈ (UP n).map aP := by
    obtain ⟨p, hp, rfl⟩ := List.mem_map.1 hP
    exact List.mem_map.2 ⟨p, (UP_mem h8 p).2 ⟨n, h2, by omega, hp⟩, rfl⟩
  have hw : knW P.1 n = knW P.2.1 n := tab_ext fun k hk => by rw [kn_pair h8 hU (by omega)]
  obtain ⟨s, s1, s2⟩ := knead_some g1.a
  obtain ⟨t, t1, t2⟩ := knead_some g1.b
  rw [← hw, s2] at t2
  simp only [Option.some.injEq] at t2
  rw [← t2] at t1
  exact ⟨s, s1, t1⟩
end Go.K.Pure

/- Plain laws of sequences, part 17: rho, admissible words, on plain lists. -/
set_option linter.all false
namespace Go.K.Pure
open Classical
/-- The first place at which a sequence and the shifted one differ, counted from 1; 0 for none. -/
def rhoF (f : Nat → Nat) (len k : Nat) : Nat := match (List.range len).find? (fun i => !Nat.beq (f i) (f (i + k))) with | some i => i + k + 1 | none => 0
theorem rhoF_gt (f : Nat → Nat) (len k : Nat) : rhoF f len k = 0 ∨ k < rhoF f len k := by
  unfold rhoF
  split
  · right; omega
  · left; rfl
/-- Whether rho leads from a number to another one. -/
def rch (r : Nat → Nat) : Nat → Nat → Nat → Bool
  | 0, a, b => Nat.beq a b
  | f + 1, a, b => match Nat.blt 0 a && Nat.blt a b with
    | true => rch r f (r a) b
    | false => Nat.beq a b
theorem rch_more {r : Nat → Nat} (hr : ∀ k, r k = 0 ∨ k < r k) : ∀ f a b, b - a ≤ f → rch r f a b = rch r (f + 1) a b
  | 0, a, b, h => by
    show Nat.beq a b = _
    have : (Nat.blt 0 a && Nat.blt a b) = false := by
      rw [← Bool.not_eq_true, Bool.and_eq_true, Nat.blt_eq, Nat.blt_eq]; omega
    unfold rch
    rw [this]
  | f + 1, a, b, h => by
    show (match Nat.blt 0 a && Nat.blt a b with | true => rch r f (r a) b | false => Nat.beq a b) = _
    rw [show rch r (f + 1 + 1) a b = (match Nat.blt 0 a && Nat.blt a b with | true => rch r (f + 1) (r a) b | false => Nat.beq a b) from rfl]
    cases hc : Nat.blt 0 a && Nat.blt a b with
    | false => rfl
    | true =>
      rw [Bool.and_eq_true, Nat.blt_eq, Nat.blt_eq] at hc
      simp only
      rcases hr a with h0 | h0
      · rw [h0]
        have e : ∀ g, rch r g 0 b = Nat.beq 0 b := fun g => by cases g <;> rfl
        rw [e, e]
      · exact rch_more hr f (r a) b (by omega)
/-- The letters of a word again and again. -/
def perN (w : List Nat) (i : Nat) : Nat := w.getD (i % w.length) 0
def rhoW (w : List Nat) (k : Nat) : Nat := rhoF (perN w) w.length k
def divsW (w : List Nat) (m : Nat) : Bool := (List.range m).all fun k => Nat.beq k 0 || (!Nat.beq (m % k) 0 || !Nat.blt m (rhoW w k))
/-- Whether a star-periodic word fails for a number. -/
def failW (w : List Nat) (m : Nat) : Bool := !rch (rhoW w) m 1 m && (divsW w m && rch (rhoW w) m ((rhoW w m - 1) % m + 1) m)
def goodW (w : List Nat) : Bool := (List.range w.length).all fun m => Nat.beq m 0 || !failW w m
/-- The words of a length that begin with 1, without the star, in order. -/
def bitsW : Nat → List (List Nat)
  | 0 => [[49]]
  | n + 1 => (bitsW n).flatMap fun w => [w ++ [48], w ++ [49]]
def admW (n : Nat) : List (List Nat) := ((bitsW (n - 2)).map fun w => w ++ [42]).filter goodW
def pairsN (n : Nat) : List (Nat × Nat) := match upToN n, upToN (n - 1) with | some a, some b => a.drop b.length | _, _ => []
def hasW (l : List (List Nat)) (w : List Nat) : Bool := l.any fun v => samN v w
/-- For the periods 2 to 6: each pair's letters are among the admissible words; for those up to 5 all are met. -/
def chkW (n : Nat) : Bool := ((pairsN n).all fun p => hasW (admW n) (knN p.1 n p.1)) && (Nat.beq n 6 || (admW n).all fun w => (pairsN n).any fun p => samN (knN p.1 n p.1) w)
set_option maxRecDepth 1000000 in
theorem chk_all : (chkW 2 && (chkW 3 && (chkW 4 && (chkW 5 && chkW 6)))) = true := by decide +kernel
end Go.K.Pure

/- Plain laws of ray pairs, part K: words and cutting. -/
set_option linter.all false
namespace Go.K.Pure
open Classical
abbrev Sq := List UInt8 × List UInt8 × Unit
def sAt (s : Sq) (k : Nat) : UInt8 := if k < s.1.length then s.1.getD k 0 else s.2.1.getD ((k - s.1.length) % s.2.1.length) 0
structure okS (s : Sq) : Prop where
  per : 0 < s.2.1.length
  l1 : s.1.length ≤ 10000
  l2 : s.2.1.length ≤ 10000
theorem impl_at {s : Sq} (h : okS s) {k : Nat} (hk : k ≤ 1000000000) : impl_Sequence_at s (k : Int) = some (((sAt s k).toNat : Nat) : Int) := by
  obtain ⟨h0, h1, h2⟩ := h
  unfold impl_Sequence_at sAt
  by_cases hc : k < s.1.length
  · rw [if_pos hc]
    simp only [ltb hc, inb hc, cond_true, Int.toNat_natCast, nn0 k, Bool.and_true, Bool.true_and]
  · rw [if_neg hc]
    have hb : ((s.2.1.length : Int) == 0) = false := by simp only [beq_eq_false_iff_ne, ne_eq]; omega
    have hw : w64 ((k : Int) - (s.1.length : Int)) = ((k - s.1.length : Nat) : Int) := by rw [w64_id (by omega) (by omega)]; omega
    have hm : (k - s.1.length) % s.2.1.length < s.2.1.length := Nat.mod_lt _ h0
    simp only [nltb hc, cond_false, hb, Bool.not_false, cond_true, hw, tmod_nat, Int.toNat_natCast, ltb hm, nn0, Bool.and_self]
end Go.K.Pure

/- Plain laws of ray pairs, part Ks: the reference's letter at a place. -/
set_option linter.all false
namespace Go.K.Pure
open Classical
theorem spec_at {s : Sq} (h : okS s) {k : Nat} (hk : k ≤ 1000000000) : spec_l01At s (k : Int) = some (((sAt s k).toNat : Nat) : Int) := by
  obtain ⟨h0, h1, h2⟩ := h
  unfold spec_l01At sAt
  by_cases hc : k < s.1.length
  · rw [if_pos hc]
    simp only [ltb hc, inb hc, cond_true, Int.toNat_natCast, nn0 k, Bool.and_true, Bool.true_and]
  · rw [if_neg hc]
    have hb : ((s.2.1.length : Int) == 0) = false := by simp only [beq_eq_false_iff_ne, ne_eq]; omega
    have hw : w64 ((k : Int) - (s.1.length : Int)) = ((k - s.1.length : Nat) : Int) := by rw [w64_id (by omega) (by omega)]; omega
    have hm : (k - s.1.length) % s.2.1.length < s.2.1.length := Nat.mod_lt _ h0
    simp only [nltb hc, cond_false, hb, Bool.not_false, cond_true, hw, tmod_nat, Int.toNat_natCast, ltb hm, nn0, Bool.and_self]
end Go.K.Pure

/- Plain laws of ray pairs, part Na: the sequence of words. -/
set_option linter.all false
namespace Go.K.Pure
open Classical
theorem last_getD {l : List UInt8} (h : 0 < l.length) : (l.getD (w64 (((l.length : Nat) : Int) - (1 : Int))).toNat 0) = l.getD (l.length - 1) 0 ∨ 4611686018427387904 ≤ l.length := by
  by_cases hl : l.length < 4611686018427387904
  · left
    rw [w64_id (by omega) (by omega)]
    congr 1
    omega
  · right; omega
theorem w64_pred2 {n : Nat} (h : 0 < n) (h2 : n < 4611686018427387904) : w64 (((n : Nat) : Int) - (1 : Int)) = ((n - 1 : Nat) : Int) := by
  rw [w64_id (by omega) (by omega)]; omega
/-- One turn of the loop that pulls the period forward. -/
theorem seq_step {pre per : List UInt8} {t : Sq} (hp : 0 < pre.length) (hq : 0 < per.length) (l1 : pre.length ≤ 100000) (l2 : per.length ≤ 100000) :
    impl_sequence_l0 (pre, per, t, ()) = if (pre.getD (pre.length - 1) 0).toNat = (per.getD (per.length - 1) 0).toNat then some (.next (pre.take (pre.length - 1), per.drop (per.length - 1) ++ per.take (per.length - 1), t, ())) else some (.stop (pre, per, t, ())) := by
  have hne : (pre == (Array.toList (List.toArray ([] : List UInt8)))) = false := by
    cases pre with
    | nil => simp at hp
    | cons a b => rfl
  have w1 := w64_pred2 hp (by omega)
  have w2 := w64_pred2 hq (by omega)
  have i1 : ((decide ((0 : Int) ≤ ((pre.length - 1 : Nat) : Int))) && (decide (((pre.length - 1 : Nat) : Int) < ((pre.length : Nat) : Int)))) = true := inb (by omega)
  have i2 : ((decide ((0 : Int) ≤ ((per.length - 1 : Nat) : Int))) && (decide (((per.length - 1 : Nat) : Int) < ((per.length : Nat) : Int)))) = true := inb (by omega)
  have i3 : (((decide ((0 : Int) ≤ (0 : Int))) && (decide ((0 : Int) ≤ ((pre.length - 1 : Nat) : Int)))) && (decide (((pre.length - 1 : Nat) : Int) ≤ ((pre.length : Nat) : Int)))) = true := by
    simp only [Bool.and_eq_true, decide_eq_true_eq]; omega
  have i4 : (((decide ((0 : Int) ≤ ((per.length - 1 : Nat) : Int))) && (decide (((per.length - 1 : Nat) : Int) ≤ ((per.length : Nat) : Int)))) && (decide (((per.length : Nat) : Int) ≤ ((per.length : Nat) : Int)))) = true := by
    simp only [Bool.and_eq_true, decide_eq_true_eq]; omega
  have i5 : (((decide ((0 : Int) ≤ (0 : Int))) && (decide ((0 : Int) ≤ ((per.length - 1 : Nat) : Int)))) && (decide (((per.length - 1 : Nat) : Int) ≤ ((per.length : Nat) : Int)))) = true := by
    simp only [Bool.and_eq_true, decide_eq_true_eq]; omega
  have t1 : per.take per.length = per := List.take_of_length_le (Nat.le_refl _)
  have d0 : ∀ l : List UInt8, l.drop (0 : Int).toNat = l := fun l => rfl
  have i6 : decide ((per.drop (per.length - 1)).length + (per.take (per.length - 1)).length ≤ 1152921504606846976) = true := decide_eq_true (by simp; omega)
  simp only [impl_sequence_l0, hne, Bool.not_false, cond_true, w1, w2, i1, i2, i3, i4, i5, Int.toNat_natCast, t1, d0, i6]
  by_cases h : (pre.getD (pre.length - 1) 0).toNat = (per.getD (per.length - 1) 0).toNat
  · rw [if_pos h, h]; simp
  · rw [if_neg h]
    have : (((((pre.getD (pre.length - 1) 0).toNat : Nat) : Int)) == (((per.getD (per.length - 1) 0).toNat : Nat) : Int)) = false := by
      simp only [beq_eq_false_iff_ne, ne_eq, Int.natCast_inj]; exact h
    rw [this]; rfl
theorem seq_nil {per : List UInt8} {t : Sq} : impl_sequence_l0 ([], per, t, ()) = some (.stop ([], per, t, ())) := by
  simp [impl_sequence_l0]
theorem seq_loop {t : Sq} : ∀ (k : Nat) (pre per : List UInt8), pre.length = k → 0 < per.length → pre.length ≤ 100000 → per.length ≤ 100000 → ∃ a b, loop impl_sequence_l0 (pre, per, t, ()) = some (a, b, t, ())
  | 0, pre, per, hk, hq, l1, l2 => by
    have : pre = [] := List.length_eq_zero_iff.1 hk
    subst this
    exact ⟨[], per, by rw [loop_eq, seq_nil]⟩
  | k + 1, pre, per, hk, hq, l1, l2 => by
    rw [loop_eq, seq_step (by omega) hq l1 l2]
    by_cases h : (pre.getD (pre.length - 1) 0).toNat = (per.getD (per.length - 1) 0).toNat
    · rw [if_pos h]
      exact seq_loop k _ _ (by simp; omega) (by simp; omega) (by simp; omega) (by simp; omega)
    · rw [if_neg h]; exact ⟨_, _, rfl⟩
theorem seq_some {pre per : List UInt8} (hq : 0 < per.length) (l1 : pre.length ≤ 100000) (l2 : per.length ≤ 100000) : ∃ r, impl_sequence pre per = some r := by
  obtain ⟨n, n1, n2, n3, n4, n5⟩ := root_ok hq l2
  unfold impl_sequence
  rw [n5]
  simp only [Option.bind_some]
  obtain ⟨a, b, h⟩ := seq_loop (t := (([] : List UInt8), ([] : List UInt8), ())) _ pre (per.take n) rfl (by simp; omega) l1 (by simp; omega)
  rw [h]; exact ⟨_, rfl⟩
end Go.K.Pure

/- Plain laws of ray pairs, part T: the canonical form of a sequence. -/
set_option linter.all false
namespace Go.K.Pure
open Classical
theorem take_getD {w : List UInt8} {k i : Nat} (h : i < k) : (w.take k).getD i 0 = w.getD i 0 := by
  rw [List.getD_eq_getElem?_getD, List.getElem?_take, if_pos h, ← List.getD_eq_getElem?_getD]
theorem ext_getD {u v : List UInt8} (hl : u.length = v.length) (h : ∀ i, i < u.length → u.getD i 0 = v.getD i 0) : u = v := by
  refine List.ext_getElem hl fun i h1 h2 => ?_
  have := h i h1
  rw [getD_at h1, getD_at h2] at this
  exact this
theorem rep_iff {w : List UInt8} {k : Nat} (h1 : 1 ≤ k) (hk : k ≤ w.length) (hd : k ∣ w.length) : Lib.repeatL (w.take k) (w.length / k) = w ↔ ∀ i, k ≤ i → i < w.length → w.getD i 0 = w.getD (i - k) 0 := by
  have hl : (w.take k).length = k := by rw [List.length_take]; omega
  have hmul := Nat.div_mul_cancel hd
  have at' : ∀ i, i < w.length → (Lib.repeatL (w.take k) (w.length / k)).getD i 0 = w.getD (i % k) 0 := fun i hi => by
    rw [repeatL_at _ _ _ (by rw [hl, hmul]; exact hi), hl, take_getD (Nat.mod_lt _ (by omega))]
  constructor
  · intro he i hi hiw
    have e1 := at' i hiw
    have e2 := at' (i - k) (by omega)
    rw [he] at e1 e2
    rw [e1, e2, Nat.mod_eq_sub_mod hi]
  · intro h
    have key : ∀ n i, i ≤ n → i < w.length → w.getD i 0 = w.getD (i % k) 0 := by
      intro n
      induction n with
      | zero => intro i hi hiw; have : i = 0 := by omega
                subst this; rw [Nat.zero_mod]
      | succ n ih =>
        intro i hi hiw
        by_cases hik : i < k
        · rw [Nat.mod_eq_of_lt hik]
        · rw [h i (by omega) hiw, ih (i - k) (by omega) (by omega), ← Nat.mod_eq_sub_mod (by omega)]
    refine ext_getD (by rw [Lib.repeatL_length, hl, hmul]) fun i hi => ?_
    rw [Lib.repeatL_length, hl, hmul] at hi
    rw [at' i hi, ← key i i (Nat.le_refl _) hi]
/-- A word's shortest root. -/
theorem root_min {w : List UInt8} (h0 : 0 < w.length) (hl : w.length ≤ 100000) : ∃ n, 1 ≤ n ∧ n ≤ w.length ∧ n ∣ w.length ∧ Lib.repeatL (w.take n) (w.length / n) = w ∧ impl_root w = some (w.take n) ∧ ∀ j, 1 ≤ j → j < n → ¬ (j ∣ w.length ∧ Lib.repeatL (w.take j) (w.length / j) = w) := by
  have key : ∀ k n, w.length - n = k → 1 ≤ n → n ≤ w.length → ∃ m, n ≤ m ∧ m ≤ w.length ∧ m ∣ w.length ∧ Lib.repeatL (w.take m) (w.length / m) = w ∧ loop impl_root_l0 (w, (n : Int), ()) = some (w, (m : Int), ()) ∧ ∀ j, n ≤ j → j < m → ¬ (j ∣ w.length ∧ Lib.repeatL (w.take j) (w.length / j) = w) := by
    intro k
    induction k with
    | zero =>
      intro n hk h1 h2
      have hn : n = w.length := by omega
      subst hn
      refine ⟨w.length, by omega, by omega, Nat.dvd_refl _, by rw [Nat.div_self h0, Lib.repeatL_one]; simp, ?_, fun j j1 j2 => by omega⟩
      have hb : ((w.length : Int) == 0) = false := by simp only [beq_eq_false_iff_ne, ne_eq]; omega
      have hc : (((decide ((0 : Int) ≤ (0 : Int))) && (decide ((0 : Int) ≤ (w.length : Int)))) && (decide ((w.length : Int) ≤ ((w.length : Nat) : Int)))) = true := by simp
      have hr : strings_Repeat ((w.take w.length).drop 0) (w64 ((w.length : Int).tdiv (w.length : Int))) = some w := by
        rw [tdiv_nat, Nat.div_self h0]
        unfold strings_Repeat repeatOf
        have e1 : w64 ((1 : Nat) : Int) = 1 := rfl
        rw [e1]
        have e2 : (decide ((0 : Int) ≤ 1) && decide ((1 : Int) ≤ 9223372036854775807) && decide (((w.take w.length).drop 0).length * (1 : Int).toNat ≤ 140737488355328)) = true := by
          have t1 : (1 : Int).toNat = 1 := rfl
          have t2 : ((w.take w.length).drop 0).length = w.length := by simp
          rw [t1, t2]
          simp only [Bool.and_eq_true, decide_eq_true_eq]
          omega
        rw [e2, cond_true]
        have e3 : (1 : Int).toNat = 1 := rfl
        rw [e3, Lib.repeatL_one]; simp
      rw [loop_eq]
      simp only [impl_root_l0, hb, Bool.not_false, cond_true, tmod_nat, Nat.mod_self, hc, Int.toNat_natCast]
      have e0 : (((0 : Nat) : Int) != 0) = false := rfl
      simp only [e0, cond_false]
      have hr' : strings_Repeat ((w.take w.length).drop (0 : Int).toNat) (w64 ((w.length : Int).tdiv (w.length : Int))) = some w := hr
      rw [hr']
      simp
    | succ k ih =>
      intro n hk h1 h2
      have hb : ((n : Int) == 0) = false := by simp only [beq_eq_false_iff_ne, ne_eq]; omega
      have hw : w64 ((n : Int) + 1) = ((n + 1 : Nat) : Int) := w64_succ (by omega)
      obtain ⟨m, m1, m2, m3, m4, m5, m6⟩ := ih (n + 1) (by omega) (by omega) (by omega)
      by_cases hd : n ∣ w.length
      · have hm0 : w.length % n = 0 := Nat.mod_eq_zero_of_dvd hd
        have hc : (((decide ((0 : Int) ≤ (0 : Int))) && (decide ((0 : Int) ≤ (n : Int)))) && (decide ((n : Int) ≤ ((w.length : Nat) : Int)))) = true := by simp; omega
        have hln : ((w.take n).drop (0 : Int).toNat).length = n := by simp; omega
        have hr : strings_Repeat ((w.take n).drop (0 : Int).toNat) (w64 ((w.length : Int).tdiv (n : Int))) = some (Lib.repeatL (w.take n) (w.length / n)) := by
          have hdl : w.length / n ≤ w.length := Nat.div_le_self _ _
          have hmul := Nat.mul_div_cancel' hd
          rw [tdiv_nat]
          generalize w.length / n = q at *
          rw [w64_id (by omega) (by omega)]
          unfold strings_Repeat repeatOf
          have e2 : (decide ((0 : Int) ≤ (q : Int)) && decide ((q : Int) ≤ 9223372036854775807) && decide (((w.take n).drop (0 : Int).toNat).length * (q : Int).toNat ≤ 140737488355328)) = true := by
            rw [hln, Int.toNat_natCast, hmul]
            simp only [Bool.and_eq_true, decide_eq_true_eq]
            omega
          rw [e2, cond_true, Int.toNat_natCast]
          rfl
        have e0 : ((((w.length % n : Nat) : Int)) != 0) = false := by rw [hm0]; rfl
        by_cases he : Lib.repeatL (w.take n) (w.length / n) = w
        · refine ⟨n, by omega, h2, hd, he, ?_, fun j j1 j2 => by omega⟩
          rw [loop_eq]
          simp only [impl_root_l0, hb, Bool.not_false, cond_true, tmod_nat, hc, Int.toNat_natCast, e0, cond_false]
          rw [hr, he]
          simp
        · refine ⟨m, by omega, m2, m3, m4, ?_, fun j j1 j2 hj => by
            by_cases e : j = n
            · rw [e] at hj; exact he hj.2
            · exact m6 j (by omega) j2 hj⟩
          have hbe : (Lib.repeatL (w.take n) (w.length / n) == w) = false := by simpa using he
          rw [loop_eq]
          simp only [impl_root_l0, hb, Bool.not_false, cond_true, tmod_nat, hc, Int.toNat_natCast, e0, cond_false]
          rw [hr]
          simp only [Option.bind_some, hbe, Bool.not_false, cond_true, hw]
          exact m5
      · refine ⟨m, by omega, m2, m3, m4, ?_, fun j j1 j2 hj => by
          by_cases e : j = n
          · rw [e] at hj; exact hd hj.1
          · exact m6 j (by omega) j2 hj⟩
        have e0 : ((((w.length % n : Nat) : Int)) != 0) = true := by
          have : w.length % n ≠ 0 := fun e => hd (Nat.dvd_of_mod_eq_zero e)
          simp only [bne_iff_ne, ne_eq]; omega
        rw [loop_eq]
        simp only [impl_root_l0, hb, Bool.not_false, cond_true, tmod_nat, e0, hw]
        exact m5
  obtain ⟨m, m1, m2, m3, m4, m5, m6⟩ := key _ 1 rfl (by omega) (by omega)
  refine ⟨m, m1, m2, m3, m4, ?_, m6⟩
  unfold impl_root
  have m5' : loop impl_root_l0 (w, (1 : Int), ()) = _ := m5
  rw [m5']
  have hc : (((decide ((0 : Int) ≤ (0 : Int))) && (decide ((0 : Int) ≤ (m : Int)))) && (decide ((m : Int) ≤ ((w.length : Nat) : Int)))) = true := by simp; omega
  simp only [Option.bind_some, hc, cond_true, Int.toNat_natCast]
  rfl
theorem canon_in {pre per : List UInt8} {t : Sq} {k : Nat} (h1 : 1 ≤ k) (hk : k ≤ per.length) (l2 : per.length ≤ 100000) :
    loop spec_l01Canonical_l1 (pre, per, t, (per.length : Int), (k : Int), true, (k : Int), ()) = some (pre, per, t, (per.length : Int), (k : Int), decide (∀ i, k ≤ i → i < per.length → per.getD i 0 = per.getD (i - k) 0), ()) := by
  have := loop_count (step := spec_l01Canonical_l1) (fun j => (pre, per, t, (per.length : Int), (k : Int), decide (∀ i, k ≤ i → i < k + j → per.getD i 0 = per.getD (i - k) 0), ((k + j : Nat) : Int), ())) (per.length - k) (pre, per, t, (per.length : Int), (k : Int), decide (∀ i, k ≤ i → i < per.length → per.getD i 0 = per.getD (i - k) 0), ()) (fun j hj => by
    have hi : k + j < per.length := by omega
    have hw : w64 (((k + j : Nat) : Int) + 1) = ((k + (j + 1) : Nat) : Int) := w64_succ (by omega)
    have hw2 : w64 (((k + j : Nat) : Int) - (k : Int)) = ((j : Nat) : Int) := by rw [w64_id (by omega) (by omega)]; omega
    have hj2 : j < per.length := by omega
    have hc : ((((per.getD (k + j) 0).toNat : Nat) : Int) == (((per.getD j 0).toNat : Nat) : Int)) = decide (per.getD (k + j) 0 = per.getD j 0) := by
      by_cases e : per.getD (k + j) 0 = per.getD j 0
      · rw [e]; simp
      · rw [decide_eq_false e]
        simp only [beq_eq_false_iff_ne, ne_eq, Int.natCast_inj]
        exact fun h => e (UInt8.toNat_inj.1 h)
    by_cases hs : ∀ i, k ≤ i → i < k + j → per.getD i 0 = per.getD (i - k) 0
    · have e : decide (per.getD (k + j) 0 = per.getD j 0) = decide (∀ i, k ≤ i → i < k + (j + 1) → per.getD i 0 = per.getD (i - k) 0) := by
        refine decide_eq_decide.2 ⟨fun h i h1 h2 => ?_, fun h => ?_⟩
        · by_cases hi' : i = k + j
          · rw [hi', Nat.add_sub_cancel_left]; exact h
          · exact hs i h1 (by omega)
        · have := h (k + j) (by omega) (by omega)
          rw [Nat.add_sub_cancel_left] at this; exact this
      rw [decide_eq_true hs]
      simp only [spec_l01Canonical_l1, ltb hi, cond_true, nn0, Bool.and_self, hw2, ltb hj2, Int.toNat_natCast, hc, hw, e]
    · have e : decide (∀ i, k ≤ i → i < k + (j + 1) → per.getD i 0 = per.getD (i - k) 0) = false := decide_eq_false (fun h => hs (fun i h1 h2 => h i h1 (by omega)))
      rw [decide_eq_false hs]
      simp only [spec_l01Canonical_l1, ltb hi, cond_true, cond_false, hw, e]) (by
    have hn : k + (per.length - k) = per.length := by omega
    simp only [hn, spec_l01Canonical_l1, nltb (Nat.lt_irrefl _), cond_false]) 0 (by omega)
  have e : decide (∀ i, k ≤ i → i < k → per.getD i 0 = per.getD (i - k) 0) = true := decide_eq_true (fun i h1 h2 => by omega)
  simp only [Nat.add_zero] at this
  rw [e] at this
  exact this
theorem canon_l0 {pre per : List UInt8} {t : Sq} {n : Nat} (n1 : 1 ≤ n) (n2 : n ≤ per.length) (l2 : per.length ≤ 100000) (n3 : n ∣ per.length) (n4 : Lib.repeatL (per.take n) (per.length / n) = per) (n5 : ∀ j, 1 ≤ j → j < n → ¬ (j ∣ per.length ∧ Lib.repeatL (per.take j) (per.length / j) = per)) :
    loop spec_l01Canonical_l0 (pre, per, t, (per.length : Int), (1 : Int), ()) = some (pre, per.take n, t, ()) := by
  have key : ∀ f k, n - k = f → 1 ≤ k → k ≤ n → loop spec_l01Canonical_l0 (pre, per, t, (per.length : Int), (k : Int), ()) = some (pre, per.take n, t, ()) := by
    intro f
    induction f with
    | zero =>
      intro k hk k1 k2
      have : k = n := by omega
      subst this
      have hc : decide ((k : Int) ≤ (per.length : Int)) = true := decide_eq_true (by omega)
      have hb : ((k : Int) == 0) = false := by simp only [beq_eq_false_iff_ne, ne_eq]; omega
      have hm : ((((per.length % k : Nat) : Int)) != 0) = false := by rw [Nat.mod_eq_zero_of_dvd n3]; rfl
      have hi : (((decide ((0 : Int) ≤ (0 : Int))) && (decide ((0 : Int) ≤ (k : Int)))) && (decide ((k : Int) ≤ ((per.length : Nat) : Int)))) = true := by
        simp only [Bool.and_eq_true, decide_eq_true_eq]; omega
      have hd : decide (∀ i, k ≤ i → i < per.length → per.getD i 0 = per.getD (i - k) 0) = true := decide_eq_true ((rep_iff k1 n2 n3).1 n4)
      rw [loop_eq]
      simp only [spec_l01Canonical_l0, hc, cond_true, hb, Bool.not_false, tmod_nat, hm, cond_false, canon_in k1 n2 l2, Option.bind_some, hd, hi, Int.toNat_natCast]
      rfl
    | succ f ih =>
      intro k hk k1 k2
      have hc : decide ((k : Int) ≤ (per.length : Int)) = true := decide_eq_true (by omega)
      have hb : ((k : Int) == 0) = false := by simp only [beq_eq_false_iff_ne, ne_eq]; omega
      have hw : w64 ((k : Int) + 1) = ((k + 1 : Nat) : Int) := w64_succ (by omega)
      have hn := ih (k + 1) (by omega) (by omega) (by omega)
      by_cases hd : k ∣ per.length
      · have hm : ((((per.length % k : Nat) : Int)) != 0) = false := by rw [Nat.mod_eq_zero_of_dvd hd]; rfl
        have hf : decide (∀ i, k ≤ i → i < per.length → per.getD i 0 = per.getD (i - k) 0) = false := decide_eq_false (fun h => n5 k k1 (by omega) ⟨hd, (rep_iff k1 (by omega) hd).2 h⟩)
        rw [loop_eq]
        simp only [spec_l01Canonical_l0, hc, cond_true, hb, Bool.not_false, tmod_nat, hm, cond_false, canon_in k1 (by omega : k ≤ per.length) l2, Option.bind_some, hf, hw, hn]
      · have hm : ((((per.length % k : Nat) : Int)) != 0) = true := by
          have : per.length % k ≠ 0 := fun e => hd (Nat.dvd_of_mod_eq_zero e)
          simp only [bne_iff_ne, ne_eq]; omega
        rw [loop_eq]
        simp only [spec_l01Canonical_l0, hc, cond_true, hb, Bool.not_false, tmod_nat, hm, hw, hn]
  exact key _ 1 rfl (by omega) n1
theorem canon_step {pre per : List UInt8} {t : Sq} (hp : 0 < pre.length) (hq : 0 < per.length) (l1 : pre.length ≤ 100000) (l2 : per.length ≤ 100000) :
    spec_l01Canonical_l2 (pre, per, t, ()) = if (pre.getD (pre.length - 1) 0).toNat = (per.getD (per.length - 1) 0).toNat then some (.next (pre.take (pre.length - 1), per.drop (per.length - 1) ++ per.take (per.length - 1), t, ())) else some (.stop (pre, per, t, ())) := by
  have hne : decide (((pre.length : Nat) : Int) > (0 : Int)) = true := decide_eq_true (by omega)
  have w1 := w64_pred2 hp (by omega)
  have w2 := w64_pred2 hq (by omega)
  have i1 : ((decide ((0 : Int) ≤ ((pre.length - 1 : Nat) : Int))) && (decide (((pre.length - 1 : Nat) : Int) < ((pre.length : Nat) : Int)))) = true := inb (by omega)
  have i2 : ((decide ((0 : Int) ≤ ((per.length - 1 : Nat) : Int))) && (decide (((per.length - 1 : Nat) : Int) < ((per.length : Nat) : Int)))) = true := inb (by omega)
  have i3 : (((decide ((0 : Int) ≤ (0 : Int))) && (decide ((0 : Int) ≤ ((pre.length - 1 : Nat) : Int)))) && (decide (((pre.length - 1 : Nat) : Int) ≤ ((pre.length : Nat) : Int)))) = true := by
    simp only [Bool.and_eq_true, decide_eq_true_eq]; omega
  have i4 : (((decide ((0 : Int) ≤ ((per.length - 1 : Nat) : Int))) && (decide (((per.length - 1 : Nat) : Int) ≤ ((per.length : Nat) : Int)))) && (decide (((per.length : Nat) : Int) ≤ ((per.length : Nat) : Int)))) = true := by
    simp only [Bool.and_eq_true, decide_eq_true_eq]; omega
  have i5 : (((decide ((0 : Int) ≤ (0 : Int))) && (decide ((0 : Int) ≤ ((per.length - 1 : Nat) : Int)))) && (decide (((per.length - 1 : Nat) : Int) ≤ ((per.length : Nat) : Int)))) = true := by
    simp only [Bool.and_eq_true, decide_eq_true_eq]; omega
  have t1 : per.take per.length = per := List.take_of_length_le (Nat.le_refl _)
  have d0 : ∀ l : List UInt8, l.drop (0 : Int).toNat = l := fun l => rfl
  have i6 : decide ((per.drop (per.length - 1)).length + (per.take (per.length - 1)).length ≤ 1152921504606846976) = true := decide_eq_true (by simp; omega)
  simp only [spec_l01Canonical_l2, hne, Bool.not_false, cond_true, w1, w2, i1, i2, i3, i4, i5, Int.toNat_natCast, t1, d0, i6]
  by_cases h : (pre.getD (pre.length - 1) 0).toNat = (per.getD (per.length - 1) 0).toNat
  · rw [if_pos h, h]; simp
  · rw [if_neg h]
    have : (((((pre.getD (pre.length - 1) 0).toNat : Nat) : Int)) == (((per.getD (per.length - 1) 0).toNat : Nat) : Int)) = false := by
      simp only [beq_eq_false_iff_ne, ne_eq, Int.natCast_inj]; exact h
    rw [this]; rfl
theorem canon_nil {per : List UInt8} {t : Sq} : spec_l01Canonical_l2 ([], per, t, ()) = some (.stop ([], per, t, ())) := by
  simp [spec_l01Canonical_l2]
/-- The word with its last letter put first. -/
def rot (w : List UInt8) : List UInt8 := w.drop (w.length - 1) ++ w.take (w.length - 1)
theorem rot_len (w : List UInt8) : (rot w).length = w.length := by simp [rot]
theorem rot_at {w : List UInt8} (h : 0 < w.length) (i : Nat) (hi : i < w.length) : (rot w).getD i 0 = if i = 0 then w.getD (w.length - 1) 0 else w.getD (i - 1) 0 := by
  unfold rot
  by_cases h0 : i = 0
  · rw [if_pos h0, h0, List.getD_eq_getElem?_getD, List.getElem?_append_left (by simp; omega), List.getElem?_drop, List.getD_eq_getElem?_getD]; rfl
  · have hl : (w.drop (w.length - 1)).length = 1 := by simp; omega
    rw [if_neg h0, List.getD_eq_getElem?_getD, List.getElem?_append_right (by omega), hl, List.getElem?_take, if_pos (by omega), List.getD_eq_getElem?_getD]
def prim (w : List UInt8) : Prop := ∀ j, 1 ≤ j → j < w.length → ¬ (j ∣ w.length ∧ Lib.repeatL (w.take j) (w.length / j) = w)
theorem rot_prim {w : List UInt8} (h : 0 < w.length) (hp : prim w) : prim (rot w) := by
  intro j j1 j2 ⟨j3, j4⟩
  rw [rot_len] at j2 j3
  have hr := (rep_iff (w := rot w) j1 (by rw [rot_len]; omega) (by rw [rot_len]; exact j3)).1 j4
  rw [rot_len] at hr
  refine hp j j1 j2 ⟨j3, (rep_iff j1 (by omega) j3).2 ?_⟩
  have hs : ∀ m, j ≤ m → m < w.length - 1 → w.getD m 0 = w.getD (m - j) 0 := fun m m1 m2 => by
    have := hr (m + 1) (by omega) (by omega)
    rw [rot_at h _ (by omega), rot_at h _ (by omega), if_neg (by omega), if_neg (by omega)] at this
    rw [Nat.add_sub_cancel] at this
    rw [this]; congr 1; omega
  have hm : ∀ n m, m ≤ n → m < w.length - 1 → w.getD m 0 = w.getD (m % j) 0 := by
    intro n
    induction n with
    | zero => intro m m1 m2; have : m = 0 := by omega
              subst this; rw [Nat.zero_mod]
    | succ n ih =>
      intro m m1 m2
      by_cases hmj : m < j
      · rw [Nat.mod_eq_of_lt hmj]
      · rw [hs m (by omega) m2, ih (m - j) (by omega) (by omega), ← Nat.mod_eq_sub_mod (by omega)]
  intro m m1 m2
  by_cases hl : m < w.length - 1
  · exact hs m m1 hl
  · have e : m = w.length - 1 := by omega
    have h0 := hr j (Nat.le_refl _) j2
    rw [rot_at h _ j2, rot_at h _ (by omega), if_neg (by omega), if_pos (by omega)] at h0
    obtain ⟨q, hq⟩ := j3
    have hq2 : 2 ≤ q := by
      rcases Nat.lt_or_ge q 2 with h' | h'
      · have : q = 0 ∨ q = 1 := by omega
        rcases this with e | e <;> rw [e] at hq <;> omega
      · exact h'
    have hmod : (m - j) % j = j - 1 := by
      obtain ⟨r, rfl⟩ : ∃ r, q = r + 2 := ⟨q - 2, by omega⟩
      have : m - j = j - 1 + j * r := by rw [e, hq, Nat.mul_add]; omega
      rw [this, Nat.add_mul_mod_self_left, Nat.mod_eq_of_lt (by omega)]
    rw [hm _ (m - j) (Nat.le_refl _) (by omega), hmod, h0, e]
/-- A sequence told in the one way. -/
structure canon (s : Sq) : Prop where
  per : 0 < s.2.1.length
  prim : prim s.2.1
  last : 0 < s.1.length → s.1.getD (s.1.length - 1) 0 ≠ s.2.1.getD (s.2.1.length - 1) 0
theorem rot_mem {w : List UInt8} {c : UInt8} : c ∈ rot w ↔ c ∈ w := by
  unfold rot
  rw [List.mem_append, or_comm, ← List.mem_append, List.take_append_drop]
theorem seq_canon {t : Sq} : ∀ (k : Nat) (pre per : List UInt8), pre.length = k → 0 < per.length → prim per → pre.length ≤ 100000 → per.length ≤ 100000 → ∃ a b, loop impl_sequence_l0 (pre, per, t, ()) = some (a, b, t, ()) ∧ loop spec_l01Canonical_l2 (pre, per, t, ()) = some (a, b, t, ()) ∧ canon (a, b, ()) ∧ a.length ≤ pre.length ∧ b.length = per.length ∧ (∀ c ∈ a, c ∈ pre) ∧ ∀ c ∈ b, c ∈ per
  | 0, pre, per, hk, hq, hr, l1, l2 => by
    have : pre = [] := List.length_eq_zero_iff.1 hk
    subst this
    exact ⟨[], per, by rw [loop_eq, seq_nil], by rw [loop_eq, canon_nil], ⟨hq, hr, fun h => absurd h (by simp)⟩, Nat.le_refl _, rfl, fun c h => h, fun c h => h⟩
  | k + 1, pre, per, hk, hq, hr, l1, l2 => by
    rw [loop_eq, loop_eq, seq_step (by omega) hq l1 l2, canon_step (by omega) hq l1 l2]
    by_cases h : (pre.getD (pre.length - 1) 0).toNat = (per.getD (per.length - 1) 0).toNat
    · rw [if_pos h]
      obtain ⟨a, b, h1, h2, h3, h4, h5, h6, h7⟩ := seq_canon (t := t) k (pre.take (pre.length - 1)) (rot per) (by simp; omega) (by rw [rot_len]; omega) (rot_prim hq hr) (by simp; omega) (by rw [rot_len]; omega)
      exact ⟨a, b, h1, h2, h3, by simp at h4; omega, by rw [h5, rot_len], fun c hc => List.mem_of_mem_take (h6 c hc), fun c hc => rot_mem.1 (h7 c hc)⟩
    · rw [if_neg h]
      exact ⟨_, _, rfl, rfl, ⟨hq, hr, fun _ e => h (by rw [e])⟩, Nat.le_refl _, rfl, fun c h => h, fun c h => h⟩
theorem canon_ok {pre per : List UInt8} (hq : 0 < per.length) (l1 : pre.length ≤ 100000) (l2 : per.length ≤ 100000) : ∃ s : Sq, impl_sequence pre per = some s ∧ spec_l01Canonical pre per = some s ∧ canon s ∧ s.1.length ≤ pre.length ∧ s.2.1.length ≤ per.length ∧ (∀ c ∈ s.1, c ∈ pre) ∧ ∀ c ∈ s.2.1, c ∈ per := by
  obtain ⟨n, n1, n2, n3, n4, n5, n6⟩ := root_min hq l2
  have hl : (per.take n).length = n := by rw [List.length_take]; omega
  have hpr : prim (per.take n) := by
    intro j j1 j2 ⟨j3, j4⟩
    rw [hl] at j2 j3 j4
    refine n6 j j1 j2 ⟨Nat.dvd_trans j3 n3, (rep_iff j1 (by omega) (Nat.dvd_trans j3 n3)).2 ?_⟩
    have r1 := (rep_iff n1 n2 n3).1 n4
    have r2 := (rep_iff (w := per.take n) j1 (by omega) (by rw [hl]; exact j3)).1 (by rw [hl]; exact j4)
    rw [hl] at r2
    have key : ∀ m i, i ≤ m → j ≤ i → i < per.length → per.getD i 0 = per.getD (i - j) 0 := by
      intro m
      induction m with
      | zero => intro i i1 i2 i3; omega
      | succ m ih =>
        intro i i1 i2 i3
        by_cases hi : i < n
        · have := r2 i i2 hi
          rwa [take_getD hi, take_getD (by omega)] at this
        · rw [r1 i (by omega) i3]
          by_cases hij : j ≤ i - n
          · rw [ih (i - n) (by omega) hij (by omega), show i - n - j = i - j - n by omega]
            by_cases hn : n ≤ i - j
            · exact (r1 (i - j) hn (by omega)).symm
            · omega
          · have e1 : i - j < n := by omega
            obtain ⟨q, hq⟩ := j3
            have hmm : ∀ f x, x ≤ f → x < n → per.getD x 0 = per.getD (x % j) 0 := by
              intro f
              induction f with
              | zero => intro x x1 x2; have : x = 0 := by omega
                        subst this; rw [Nat.zero_mod]
              | succ f ih2 =>
                intro x x1 x2
                by_cases hxj : x < j
                · rw [Nat.mod_eq_of_lt hxj]
                · have := r2 x (by omega) x2
                  rw [take_getD x2, take_getD (by omega)] at this
                  rw [this, ih2 (x - j) (by omega) (by omega), ← Nat.mod_eq_sub_mod (by omega)]
            rw [hmm _ (i - j) (Nat.le_refl _) e1]
            have e2 : (i - j) % j = i - n := by
              obtain ⟨q', rfl⟩ : ∃ q', q = q' + 1 := ⟨q - 1, by
                rcases q with _ | q
                · omega
                · omega⟩
              have : i - j = (i - n) + j * q' := by rw [Nat.mul_succ] at hq; omega
              rw [this, Nat.add_mul_mod_self_left, Nat.mod_eq_of_lt (by omega)]
            rw [e2]
    exact fun i i1 i2 => key _ i (Nat.le_refl _) i1 i2
  obtain ⟨a, b, h1, h2, h3, h4, h5, h6, h7⟩ := seq_canon (t := (([] : List UInt8), ([] : List UInt8), ())) _ pre (per.take n) rfl (by omega) hpr l1 (by omega)
  refine ⟨(a, b, ()), ?_, ?_, h3, h4, by simp only [h5, hl]; exact n2, h6, fun c hc => List.mem_of_mem_take (h7 c hc)⟩
  · unfold impl_sequence
    rw [n5]; simp only [Option.bind_some]; rw [h1]; rfl
  · unfold spec_l01Canonical
    rw [canon_l0 n1 n2 l2 n3 n4 n6]; simp only [Option.bind_some]; rw [h2]; rfl
/-- A canonical sequence stays what it is. -/
theorem canon_self {s : Sq} (h : canon s) (l1 : s.1.length ≤ 100000) (l2 : s.2.1.length ≤ 100000) : impl_sequence s.1 s.2.1 = some s := by
  obtain ⟨n, n1, n2, n3, n4, n5, n6⟩ := root_min h.per l2
  have hn : n = s.2.1.length := by
    by_cases hlt : n < s.2.1.length
    · exact absurd ⟨n3, n4⟩ (h.prim n n1 hlt)
    · omega
  unfold impl_sequence
  rw [n5, List.take_of_length_le (by omega)]
  simp only [Option.bind_some]
  rw [loop_eq]
  by_cases hp : 0 < s.1.length
  · rw [seq_step hp h.per l1 l2, if_neg (fun e => h.last hp (UInt8.toNat_inj.1 e))]
    rfl
  · have : s.1 = [] := List.length_eq_zero_iff.1 (by omega)
    obtain ⟨a, b, u⟩ := s
    simp only at this
    subst this
    rw [seq_nil]; rfl
end Go.K.Pure

/- Plain laws of sequences, part 13: a sequence told in the one way is told by its letters. -/
set_option linter.all false
namespace Go.K.Pure
open Classical
theorem sAt_pre {s : Sq} {k : Nat} (hk : k < s.1.length) : sAt s k = s.1.getD k 0 := by unfold sAt; rw [if_pos hk]
theorem sAt_perL {s : Sq} {i : Nat} (hi : i < s.2.1.length) : sAt s (s.1.length + i) = s.2.1.getD i 0 := by
  unfold sAt
  rw [if_neg (by omega), Nat.add_sub_cancel_left, Nat.mod_eq_of_lt hi]
theorem sAt_back {s : Sq} {k : Nat} (hk : s.1.length ≤ k) : sAt s (k + s.2.1.length) = sAt s k := by
  unfold sAt
  rw [if_neg (by omega), if_neg (by omega), show k + s.2.1.length - s.1.length = (k - s.1.length) + s.2.1.length by omega, Nat.add_mod_right]
def perF' (f : Nat → UInt8) (m p : Nat) : Prop := ∀ k, m ≤ k → f (k + p) = f k
theorem per_mul {f : Nat → UInt8} {m p : Nat} (h : perF' f m p) : ∀ t k, m ≤ k → f (k + p * t) = f k
  | 0, k, _ => by simp
  | t + 1, k, hk => by rw [Nat.mul_succ, ← Nat.add_assoc, h _ (by omega), per_mul h t k hk]
theorem per_gcd {f : Nat → UInt8} {m : Nat} : ∀ n p q, p + q ≤ n → perF' f m p → perF' f m q → perF' f m (Nat.gcd p q)
  | 0, p, q, h, hp, hq => by
    have h1 : p = 0 := by omega
    have h2 : q = 0 := by omega
    subst h1; subst h2
    exact fun k _ => rfl
  | n + 1, p, q, h, hp, hq => by
    by_cases h1 : p = 0
    · subst h1; rw [Nat.gcd_zero_left]; exact hq
    · by_cases h2 : q = 0
      · subst h2; rw [Nat.gcd_zero_right]; exact hp
      · rcases Nat.lt_or_ge p q with hlt | hge
        · have hs : perF' f m (q - p) := fun k hk => by
            have := hp (k + (q - p)) (by omega)
            rw [show k + (q - p) + p = k + q by omega, hq k hk] at this
            exact this.symm
          have e : Nat.gcd p q = Nat.gcd p (q - p) := by
            have := Nat.gcd_sub_self_right (m := p) (n := q) (by omega)
            exact this.symm
          rw [e]
          exact per_gcd n p (q - p) (by omega) hp hs
        · have hs : perF' f m (p - q) := fun k hk => by
            have := hq (k + (p - q)) (by omega)
            rw [show k + (p - q) + q = k + p by omega, hp k hk] at this
            exact this.symm
          have e : Nat.gcd p q = Nat.gcd (p - q) q := by
            have := Nat.gcd_sub_self_left (m := q) (n := p) (by omega)
            exact this.symm
          rw [e]
          exact per_gcd n (p - q) q (by omega) hs hq
theorem canon_per {s : Sq} (h : canon s) {g m : Nat} (hg : g ∣ s.2.1.length) (hper : perF' (sAt s) m g) : g = s.2.1.length := by
  have h0 := h.per
  have hg1 : 1 ≤ g := Nat.pos_of_dvd_of_pos hg h0
  have hgl := Nat.le_of_dvd h0 hg
  refine Classical.byContradiction fun hne => h.prim g hg1 (by omega) ⟨hg, (rep_iff hg1 hgl hg).2 fun i i1 i2 => ?_⟩
  have hb : perF' (sAt s) s.1.length s.2.1.length := fun k hk => sAt_back hk
  rw [← sAt_perL i2, ← sAt_perL (show i - g < s.2.1.length by omega)]
  have e1 := per_mul hb m (s.1.length + i) (by omega)
  have e2 := per_mul hb m (s.1.length + (i - g)) (by omega)
  have hm : m ≤ s.2.1.length * m := Nat.le_mul_of_pos_left _ h0
  have e3 := hper (s.1.length + (i - g) + s.2.1.length * m) (by omega)
  rw [show s.1.length + (i - g) + s.2.1.length * m + g = s.1.length + i + s.2.1.length * m by omega, e1, e2] at e3
  exact e3
theorem canon_len {s s' : Sq} (h : canon s) (h' : canon s') (hs : ∀ k, sAt s k = sAt s' k) : s.2.1.length = s'.2.1.length := by
  have hf : sAt s = sAt s' := funext hs
  have p1 : perF' (sAt s) (max s.1.length s'.1.length) s.2.1.length := fun k hk => sAt_back (by omega)
  have p2 : perF' (sAt s) (max s.1.length s'.1.length) s'.2.1.length := fun k hk => by
    rw [hf]; exact sAt_back (by omega)
  have pg := per_gcd _ _ _ (Nat.le_refl _) p1 p2
  have a := canon_per h (Nat.gcd_dvd_left _ _) pg
  rw [hf] at pg
  have b := canon_per h' (Nat.gcd_dvd_right _ _) pg
  omega
theorem canon_pre_le {s s' : Sq} (h : canon s) (h' : canon s') (hs : ∀ k, sAt s k = sAt s' k) : s'.1.length ≤ s.1.length := by
  have hl := canon_len h h' hs
  have h0 := h'.per
  refine Classical.byContradiction fun hn => ?_
  have hlt : s.1.length < s'.1.length := by omega
  have e := h'.last (by omega)
  rw [← sAt_pre (show s'.1.length - 1 < s'.1.length by omega), ← sAt_perL (show s'.2.1.length - 1 < s'.2.1.length by omega), ← hs, ← hs] at e
  have := sAt_back (s := s) (k := s'.1.length - 1) (by omega)
  rw [hl, show s'.1.length - 1 + s'.2.1.length = s'.1.length + (s'.2.1.length - 1) by omega] at this
  exact e this.symm
theorem canon_uniq {s s' : Sq} (h : canon s) (h' : canon s') (hs : ∀ k, sAt s k = sAt s' k) : s = s' := by
  have hl := canon_len h h' hs
  have e1 := canon_pre_le h h' hs
  have e2 := canon_pre_le h' h (fun k => (hs k).symm)
  have e : s.1.length = s'.1.length := by omega
  have a : s.1 = s'.1 := ext_getD e fun i hi => by
    rw [← sAt_pre hi, hs, sAt_pre (by omega)]
  have b : s.2.1 = s'.2.1 := ext_getD hl fun i hi => by
    rw [← sAt_perL hi, hs, e, sAt_perL (by omega)]
  obtain ⟨x, y, ⟨⟩⟩ := s
  obtain ⟨x', y', ⟨⟩⟩ := s'
  simp only at a b
  rw [a, b]
/-- Shifted sequences. -/
def shf (s : Sq) : Sq := if s.1 ≠ [] then (s.1.drop 1, s.2.1, ()) else ([], s.2.1.drop 1 ++ s.2.1.take 1, ())
end Go.K.Pure

/- Plain laws of sequences, part 14: letters are kept by the one way of telling; shifted sequences; first differences. -/
set_option linter.all false
namespace Go.K.Pure
open Classical
theorem getD_drop {w : List UInt8} {k i : Nat} : (w.drop k).getD i 0 = w.getD (k + i) 0 := by
  rw [List.getD_eq_getElem?_getD, List.getElem?_drop, ← List.getD_eq_getElem?_getD]
/-- A repeated word has the letters of what is repeated. -/
theorem sAt_root {u w : List UInt8} {n : Nat} (n1 : 1 ≤ n) (n2 : n ≤ w.length) (n3 : n ∣ w.length) (n4 : Lib.repeatL (w.take n) (w.length / n) = w) (k : Nat) : sAt (u, w.take n, ()) k = sAt (u, w, ()) k := by
  have hl : (w.take n).length = n := by rw [List.length_take]; omega
  have hmul := Nat.div_mul_cancel n3
  have h0 : 0 < w.length := by omega
  unfold sAt
  by_cases hk : k < u.length
  · rw [if_pos hk, if_pos hk]
  · rw [if_neg hk, if_neg hk]
    simp only
    rw [hl, take_getD (Nat.mod_lt _ (by omega))]
    have hm : (k - u.length) % w.length < w.length := Nat.mod_lt _ h0
    have e := repeatL_at (w.take n) (w.length / n) ((k - u.length) % w.length) (by rw [hl, hmul]; exact hm)
    rw [n4, hl, take_getD (Nat.mod_lt _ (by omega)), Nat.mod_mod_of_dvd _ n3] at e
    exact e.symm
theorem sAt_pull {u v : List UInt8} (hp : 0 < u.length) (hq : 0 < v.length) (he : u.getD (u.length - 1) 0 = v.getD (v.length - 1) 0) (k : Nat) : sAt (u.take (u.length - 1), rot v, ()) k = sAt (u, v, ()) k := by
  have hl : (u.take (u.length - 1)).length = u.length - 1 := by rw [List.length_take]; omega
  unfold sAt
  simp only [hl, rot_len]
  by_cases hk : k < u.length - 1
  · rw [if_pos hk, if_pos (by omega), take_getD hk]
  · rw [if_neg hk]
    have hr := Nat.mod_lt (k - (u.length - 1)) hq
    rw [rot_at hq _ hr]
    by_cases hk2 : k < u.length
    · have : k = u.length - 1 := by omega
      subst this
      rw [Nat.sub_self, Nat.zero_mod, if_pos rfl, if_pos hk2, he]
    · rw [if_neg hk2]
      have e : k - (u.length - 1) = k - u.length + 1 := by omega
      rw [e] at hr ⊢
      have e2 : (k - u.length + 1) % v.length = ((k - u.length) % v.length + 1) % v.length := by rw [Nat.mod_add_mod]
      rw [e2]
      have hr2 := Nat.mod_lt (k - u.length) hq
      generalize (k - u.length) % v.length = r at *
      by_cases h1 : r + 1 = v.length
      · rw [h1, Nat.mod_self, if_pos rfl]; congr 1; omega
      · rw [Nat.mod_eq_of_lt (by omega), if_neg (by omega), Nat.add_sub_cancel]
theorem seq_at {t : Sq} : ∀ (k : Nat) (pre per : List UInt8), pre.length = k → 0 < per.length → pre.length ≤ 100000 → per.length ≤ 100000 → ∀ a b, loop impl_sequence_l0 (pre, per, t, ()) = some (a, b, t, ()) → ∀ i, sAt (a, b, ()) i = sAt (pre, per, ()) i
  | 0, pre, per, hk, hq, l1, l2, a, b, h, i => by
    have : pre = [] := List.length_eq_zero_iff.1 hk
    subst this
    rw [loop_eq, seq_nil] at h
    simp only [Option.some.injEq, Prod.mk.injEq] at h
    rw [h.1, h.2.1]
  | k + 1, pre, per, hk, hq, l1, l2, a, b, h, i => by
    rw [loop_eq, seq_step (by omega) hq l1 l2] at h
    by_cases hc : (pre.getD (pre.length - 1) 0).toNat = (per.getD (per.length - 1) 0).toNat
    · rw [if_pos hc] at h
      rw [seq_at k (pre.take (pre.length - 1)) (rot per) (by simp; omega) (by rw [rot_len]; omega) (by simp; omega) (by rw [rot_len]; omega) a b h i]
      exact sAt_pull (by omega) hq (UInt8.toNat_inj.1 hc) i
    · rw [if_neg hc] at h
      simp only [Option.some.injEq, Prod.mk.injEq] at h
      rw [h.1, h.2.1]
/-- The one way of telling keeps the letters. -/
theorem canon_at {pre per : List UInt8} (hq : 0 < per.length) (l1 : pre.length ≤ 100000) (l2 : per.length ≤ 100000) {s : Sq} (h : impl_sequence pre per = some s) (i : Nat) : sAt s i = sAt (pre, per, ()) i := by
  obtain ⟨n, n1, n2, n3, n4, n5, n6⟩ := root_min hq l2
  unfold impl_sequence at h
  rw [n5] at h
  simp only [Option.bind_some] at h
  obtain ⟨a, b, hs⟩ := seq_loop (t := (([] : List UInt8), ([] : List UInt8), ())) _ pre (per.take n) rfl (by simp; omega) l1 (by simp; omega)
  rw [hs] at h
  simp only [Option.bind_some, Option.some.injEq] at h
  subst h
  rw [seq_at _ pre (per.take n) rfl (by simp; omega) l1 (by simp; omega) a b hs i]
  exact sAt_root n1 n2 n3 n4 i
/-- A shifted sequence's letters. -/
theorem shf_at {s : Sq} (h0 : 0 < s.2.1.length) (k : Nat) : sAt (shf s) k = sAt s (k + 1) := by
  obtain ⟨u, v, ⟨⟩⟩ := s
  cases u with
  | cons c u =>
    show sAt (u, v, ()) k = sAt (c :: u, v, ()) (k + 1)
    unfold sAt
    simp only [List.length_cons, Nat.add_lt_add_iff_right, Nat.add_sub_add_right, List.getD_cons_succ]
  | nil =>
    cases v with
    | nil => simp at h0
    | cons c v =>
      show sAt ([], v ++ [c], ()) k = sAt ([], c :: v, ()) (k + 1)
      unfold sAt
      simp only [List.length_nil, Nat.not_lt_zero, if_false, Nat.sub_zero, List.length_cons, List.length_append, Nat.zero_add]
      have hr : k % (v.length + 1) < v.length + 1 := Nat.mod_lt _ (by omega)
      have hk : (k + 1) % (v.length + 1) = (k % (v.length + 1) + 1) % (v.length + 1) := by rw [Nat.mod_add_mod]
      rw [hk]
      generalize k % (v.length + 1) = r at *
      by_cases hv : r = v.length
      · rw [hv, Nat.mod_self, List.getD_eq_getElem?_getD, List.getD_eq_getElem?_getD]
        simp
      · rw [Nat.mod_eq_of_lt (by omega), List.getD_cons_succ, app_getD' (by omega)]
theorem shf_canon {s : Sq} (h : canon s) : canon (shf s) := by
  obtain ⟨u, v, ⟨⟩⟩ := s
  cases u with
  | cons c u =>
    show canon (u, v, ())
    refine ⟨h.per, h.prim, fun hp => ?_⟩
    have := h.last (by simp)
    simp only [List.length_cons, Nat.add_sub_cancel] at this hp
    obtain ⟨m, hm⟩ : ∃ m, u.length = m + 1 := ⟨u.length - 1, by omega⟩
    rw [hm, List.getD_cons_succ] at this
    simp only [hm, Nat.add_sub_cancel]
    exact this
  | nil =>
    have h0 := h.per
    cases v with
    | nil => simp at h0
    | cons c v =>
      show canon ([], v ++ [c], ())
      refine ⟨by simp, fun j j1 j2 ⟨j3, j4⟩ => ?_, fun hp => by simp at hp⟩
      have hl : (v ++ [c]).length = (c :: v).length := by simp
      have hr := (rep_iff (w := v ++ [c]) j1 (by simp only at j2; omega) j3).1 j4
      rw [hl] at j2 j3 hr
      have hrp : perF' (sAt ([], v ++ [c], ())) 0 j := fun k _ => by
        have hat : ∀ i, sAt ([], v ++ [c], ()) i = (v ++ [c]).getD (i % (c :: v).length) 0 := fun i => by unfold sAt; simp
        obtain ⟨q, hq⟩ := j3
        have hmj : ∀ n i, i ≤ n → i < (c :: v).length → (v ++ [c]).getD i 0 = (v ++ [c]).getD (i % j) 0 := by
          intro n
          induction n with
          | zero => intro i i1 i2; have : i = 0 := by omega
                    subst this; rw [Nat.zero_mod]
          | succ n ih =>
            intro i i1 i2
            by_cases hij : i < j
            · rw [Nat.mod_eq_of_lt hij]
            · rw [hr i (by omega) i2, ih (i - j) (by omega) (by omega), ← Nat.mod_eq_sub_mod (by omega)]
        have hL : 0 < (c :: v).length := by simp
        rw [hat, hat, hmj _ _ (Nat.le_refl _) (Nat.mod_lt _ hL), hmj _ (k % (c :: v).length) (Nat.le_refl _) (Nat.mod_lt _ hL)]
        have hd : j ∣ (c :: v).length := ⟨q, hq⟩
        rw [Nat.mod_mod_of_dvd _ hd, Nat.mod_mod_of_dvd _ hd, Nat.add_mod_right]
      have hsp : perF' (sAt ([], c :: v, ())) 1 j := fun k hk => by
        have := hrp (k - 1) (Nat.zero_le _)
        have e := fun i => shf_at (s := ([], c :: v, ())) h0 i
        have e' : ∀ i, sAt ([], v ++ [c], ()) i = sAt ([], c :: v, ()) (i + 1) := e
        rw [e', e', show k - 1 + j + 1 = k + j by omega, show k - 1 + 1 = k by omega] at this
        exact this
      have := canon_per h j3 hsp
      simp only at this
      omega
/-- Two sequences that agree for long agree for ever. -/
theorem agree {s t : Sq} (hs : 0 < s.2.1.length) (ht : 0 < t.2.1.length) {m : Nat} (h1 : s.1.length ≤ m) (h2 : t.1.length ≤ m) (h : ∀ k, k < m + s.2.1.length + t.2.1.length → sAt s k = sAt t k) (k : Nat) : sAt s k = sAt t k := by
  have hS : perF' (sAt s) m s.2.1.length := fun k hk => sAt_back (by omega)
  have hT : perF' (sAt t) m t.2.1.length := fun k hk => sAt_back (by omega)
  generalize s.2.1.length = p at *
  generalize t.2.1.length = q at *
  have hred : ∀ {f : Nat → UInt8} {p : Nat}, 0 < p → perF' f m p → ∀ k, m ≤ k → f k = f (m + (k - m) % p) := fun {f p} hp hf k hk => by
    have e : k = m + (k - m) % p + p * ((k - m) / p) := by have := Nat.mod_add_div (k - m) p; omega
    have := per_mul hf ((k - m) / p) (m + (k - m) % p) (by omega)
    rw [← e] at this; exact this
  have hSq : perF' (sAt s) m q := fun k hk => by
    rw [hred hs hS (k + q) (by omega), hred hs hS k hk]
    have hr := Nat.mod_lt (k - m) hs
    have e : (k + q - m) % p = ((k - m) % p + q) % p := by
      rw [show k + q - m = (k - m) + q by omega, Nat.mod_add_mod]
    rw [e]
    generalize (k - m) % p = r at *
    have a1 := h (m + r + q) (by omega)
    have a2 := hT (m + r) (by omega)
    have a3 := h (m + r) (by omega)
    have a4 := hred hs hS (m + r + q) (by omega)
    rw [show m + r + q - m = r + q by omega] at a4
    rw [← a4, a1, a2, ← a3]
  by_cases hk : k < m
  · exact h k (by omega)
  · rw [hred ht hSq k (by omega), hred ht hT k (by omega)]
    have hr := Nat.mod_lt (k - m) ht
    exact h _ (by omega)
end Go.K.Pure

/- Plain laws of sequences, part 20: what a sequence is, and what is star-periodic. -/
set_option linter.all false
namespace Go.K.Pure
open Classical
theorem u8_eq (c d : UInt8) : (((c.toNat : Nat) : Int) == ((d.toNat : Nat) : Int)) = decide (c = d) := by
  by_cases h : c = d
  · subst h; simp
  · rw [decide_eq_false h, beq_eq_false_iff_ne]
    intro h2
    exact h (UInt8.toNat_inj.1 (by omega))
theorem u8_48 (c : UInt8) : (((c.toNat : Nat) : Int) == (48 : Int)) = decide (c = 48) := u8_eq c 48
theorem u8_49 (c : UInt8) : (((c.toNat : Nat) : Int) == (49 : Int)) = decide (c = 49) := u8_eq c 49
theorem u8_42 (c : UInt8) : (((c.toNat : Nat) : Int) == (42 : Int)) = decide (c = 42) := u8_eq c 42
def isLt (c : UInt8) : Prop := c = 48 ∨ c = 49 ∨ c = 42
theorem spec_letters {t : List UInt8} (hl : t.length ≤ 1000000) : spec_l01Letters t = some (decide (∀ c ∈ t, isLt c)) := by
  unfold spec_l01Letters
  have hL := loop_any (step := spec_l01Letters_l0) (fun i => (t, (i : Int), ())) t.length (.inr ()) (.inl (false, ())) (fun i => ¬ isLt (t.getD i 0)) (by
    intro i hi _
    simp only [spec_l01Letters_l0, ltb hi, nn, Bool.and_self, cond_true, Int.toNat_natCast, bne, u8_48, u8_49, u8_42, w64_succ (show i < 4611686018427387904 by omega)]
    by_cases h1 : t.getD i 0 = 48
    · rw [decide_eq_true h1, sel_neg (fun h => h (.inl h1))]; rfl
    · rw [decide_eq_false h1]
      by_cases h2 : t.getD i 0 = 49
      · rw [decide_eq_true h2, sel_neg (fun h => h (.inr (.inl h2)))]; rfl
      · rw [decide_eq_false h2]
        by_cases h3 : t.getD i 0 = 42
        · rw [decide_eq_true h3, sel_neg (fun h => h (.inr (.inr h3)))]; rfl
        · rw [decide_eq_false h3, sel_pos (fun h => h.elim h1 (fun h => h.elim h2 h3))]; rfl) (by
    intro _
    simp only [spec_l01Letters_l0, nltb (Nat.lt_irrefl _), cond_false])
  have t' : loop spec_l01Letters_l0 (t, (0 : Int), ()) = _ := hL
  rw [t']
  by_cases h : ∃ i, i < t.length ∧ ¬ isLt (t.getD i 0)
  · rw [sel_pos h, decide_eq_false (fun hh => by
      obtain ⟨i, hi, hn⟩ := h
      exact hn (hh _ (by rw [getD_at hi]; exact List.getElem_mem hi)))]
    rfl
  · rw [sel_neg h, decide_eq_true (fun c hc => by
      obtain ⟨i, hi, rfl⟩ := List.getElem_of_mem hc
      refine Classical.byContradiction fun hn => h ⟨i, hi, by rw [getD_at hi]; exact hn⟩)]
    rfl
theorem impl_letters {t : List UInt8} (hl : t.length ≤ 1000000) : impl_areLetters t = some (decide (∀ c ∈ t, isLt c)) := by
  unfold impl_areLetters impl_areAll_byte slices_ContainsFunc__byte_byte slices_IndexFunc__byte_byte
  rw [decide_eq_true (show t.length ≤ 140737488355328 by omega), cond_true]
  have hm : (t.map (fun z2 => ((z2.toNat : Nat) : Int))).length = t.length := List.length_map _
  have hL := loop_first (step := slices_IndexFunc__byte_byte_l0) (fun i => (t.map (fun z2 => ((z2.toNat : Nat) : Int)), (), (((), ()), ()), ((t.length : Nat) : Int), (i : Int), ())) t.length (.inr ()) (fun i => .inl ((i : Int), ())) (fun i => ¬ isLt (t.getD i 0)) (by
    intro i hi _
    have e : (t.map (fun z2 => ((z2.toNat : Nat) : Int))).getD i 0 = (((t.getD i 0).toNat : Nat) : Int) := by
      rw [getD_at (by rw [hm]; exact hi), getD_at hi]; simp
    simp only [slices_IndexFunc__byte_byte_l0, impl_areAll_byte_f1, impl_areLetters_f1, hm, ltb hi, nn, Bool.and_self, cond_true, Int.toNat_natCast, e, u8_48, u8_49, u8_42, w64_succ (show i < 4611686018427387904 by omega)]
    by_cases h1 : t.getD i 0 = 48
    · rw [decide_eq_true h1, sel_neg (fun h => h (.inl h1))]; rfl
    · rw [decide_eq_false h1]
      by_cases h2 : t.getD i 0 = 49
      · rw [decide_eq_true h2, sel_neg (fun h => h (.inr (.inl h2)))]; rfl
      · rw [decide_eq_false h2]
        by_cases h3 : t.getD i 0 = 42
        · rw [decide_eq_true h3, sel_neg (fun h => h (.inr (.inr h3)))]; rfl
        · rw [decide_eq_false h3, sel_pos (fun h => h.elim h1 (fun h => h.elim h2 h3))]; rfl) (by
    intro _
    simp only [slices_IndexFunc__byte_byte_l0, nltb (Nat.lt_irrefl _), cond_false])
  rw [hm]
  rcases hL with ⟨i, hi, hp, hL⟩ | ⟨hp, hL⟩
  · have t' : loop slices_IndexFunc__byte_byte_l0 (t.map (fun z2 => ((z2.toNat : Nat) : Int)), (), (((), ()), ()), ((t.length : Nat) : Int), (0 : Int), ()) = _ := hL
    rw [t', decide_eq_false (fun hh => hp (hh _ (by rw [getD_at hi]; exact List.getElem_mem hi)))]
    simp only [Option.bind_some, alt]
    have : decide ((i : Int) ≥ 0) = true := decide_eq_true (by omega)
    rw [this]; rfl
  · have t' : loop slices_IndexFunc__byte_byte_l0 (t.map (fun z2 => ((z2.toNat : Nat) : Int)), (), (((), ()), ()), ((t.length : Nat) : Int), (0 : Int), ()) = _ := hL
    rw [t', decide_eq_true (fun c hc => by
      obtain ⟨i, hi, rfl⟩ := List.getElem_of_mem hc
      refine Classical.byContradiction fun hn => hp i hi (by rw [getD_at hi]; exact hn))]
    rfl
/-- A sequence of letters, drawn together. -/
structure isS (s : Sq) : Prop where
  l1 : ∀ c ∈ s.1, isLt c
  l2 : ∀ c ∈ s.2.1, isLt c
  ne : 0 < s.2.1.length
  le : s.1.length + s.2.1.length ≤ 64
  cn : canon s
theorem beqS (x y : Sq) : ((x.1 == y.1) && ((x.2.1 == y.2.1) && true)) = decide (x = y) := by
  obtain ⟨a, b, _⟩ := x
  obtain ⟨c, d, _⟩ := y
  by_cases h : a = c
  · by_cases h2 : b = d
    · subst h; subst h2; simp
    · simp [h, h2]
  · simp [h]
theorem beq_nil {l : List UInt8} : (l == (Array.toList (List.toArray ([] : List UInt8)))) = decide (¬ 0 < l.length) := by
  cases l <;> simp
theorem spec_isS {s : Sq} (h1 : s.1.length ≤ 100000) (h2 : s.2.1.length ≤ 100000) : spec_l01Seq s = some (decide (isS s)) := by
  unfold spec_l01Seq
  rw [spec_letters (by omega), spec_letters (by omega)]
  simp only [Option.bind_some]
  by_cases a1 : ∀ c ∈ s.1, isLt c
  rotate_left
  · rw [decide_eq_false a1, decide_eq_false (fun h : isS s => a1 h.l1)]; rfl
  rw [decide_eq_true a1]
  by_cases a2 : ∀ c ∈ s.2.1, isLt c
  rotate_left
  · rw [decide_eq_false a2, decide_eq_false (fun h : isS s => a2 h.l2)]; rfl
  rw [decide_eq_true a2, beq_nil]
  by_cases a3 : 0 < s.2.1.length
  rotate_left
  · rw [decide_eq_true a3, decide_eq_false (fun h : isS s => a3 h.ne)]; rfl
  rw [decide_eq_false (fun h => h a3), w64_id (by omega) (by omega)]
  by_cases a4 : s.1.length + s.2.1.length ≤ 64
  rotate_left
  · rw [decide_eq_true (show ((s.1.length : Nat) : Int) + ((s.2.1.length : Nat) : Int) > 64 by omega), decide_eq_false (fun h : isS s => a4 h.le)]; rfl
  rw [decide_eq_false (show ¬ ((s.1.length : Nat) : Int) + ((s.2.1.length : Nat) : Int) > 64 by omega)]
  obtain ⟨r, r1, r2, r3, _⟩ := canon_ok (pre := s.1) (per := s.2.1) a3 h1 h2
  simp only [Bool.not_true, cond_false, r2, Option.bind_some, beqS]
  congr 1
  have : r = s ↔ isS s := ⟨fun e => ⟨a1, a2, a3, a4, e ▸ r3⟩, fun h => by
    have := canon_self h.cn h1 h2
    rw [r1] at this
    exact Option.some.inj this⟩
  exact decide_eq_decide.2 this
theorem impl_isS {s : Sq} (h1 : s.1.length ≤ 100000) (h2 : s.2.1.length ≤ 100000) : impl_IsSequence s = some (decide (isS s)) := by
  unfold impl_IsSequence
  rw [decide_eq_true (show s.1.length + s.2.1.length ≤ 1152921504606846976 by omega), cond_true, impl_letters (by rw [List.length_append]; omega)]
  simp only [Option.bind_some]
  have hap : (∀ c ∈ s.1 ++ s.2.1, isLt c) ↔ (∀ c ∈ s.1, isLt c) ∧ ∀ c ∈ s.2.1, isLt c := by
    simp only [List.mem_append]
    exact ⟨fun h => ⟨fun c hc => h c (.inl hc), fun c hc => h c (.inr hc)⟩, fun h c hc => hc.elim (h.1 c) (h.2 c)⟩
  by_cases a1 : ∀ c ∈ s.1 ++ s.2.1, isLt c
  rotate_left
  · rw [decide_eq_false a1, decide_eq_false (fun h : isS s => a1 (hap.2 ⟨h.l1, h.l2⟩))]; rfl
  rw [decide_eq_true a1, cond_true]
  unfold impl_areGiven
  rw [beq_nil]
  by_cases a3 : 0 < s.2.1.length
  rotate_left
  · rw [decide_eq_true a3, decide_eq_false (fun h : isS s => a3 h.ne)]; rfl
  rw [decide_eq_false (fun h => h a3), w64_id (by omega) (by omega)]
  by_cases a4 : s.1.length + s.2.1.length ≤ 64
  rotate_left
  · simp only [Bool.not_false, cond_true, Option.bind_some]
    rw [decide_eq_false (show ¬ ((s.1.length : Nat) : Int) + ((s.2.1.length : Nat) : Int) ≤ 64 by omega), decide_eq_false (fun h : isS s => a4 h.le)]; rfl
  simp only [Bool.not_false, cond_true, Option.bind_some]
  rw [decide_eq_true (show ((s.1.length : Nat) : Int) + ((s.2.1.length : Nat) : Int) ≤ 64 by omega)]
  obtain ⟨r, r1, r2, r3, _⟩ := canon_ok (pre := s.1) (per := s.2.1) a3 h1 h2
  simp only [cond_true, r1, Option.bind_some, beqS]
  congr 1
  have : r = s ↔ isS s := ⟨fun e => ⟨(hap.1 a1).1, (hap.1 a1).2, a3, a4, e ▸ r3⟩, fun h => by
    have := canon_self h.cn h1 h2
    rw [r1] at this
    exact Option.some.inj this⟩
  exact decide_eq_decide.2 this
end Go.K.Pure

/- Plain laws of sequences, part 21: what is star-periodic. -/
set_option linter.all false
namespace Go.K.Pure
open Classical
theorem index_eq (c : UInt8) : ∀ (l : List UInt8) (k : Nat), k < l.length → (Lib.indexByte l c = (k : Int) ↔ l.getD k 0 = c ∧ ∀ i, i < k → l.getD i 0 ≠ c)
  | [], k, h => by simp at h
  | b :: l, 0, _ => by
    have hge := Lib.indexByte_ge l c
    simp only [Lib.indexByte]
    by_cases h : b = c
    · subst h; simp
    · have hb : (b == c) = false := by simpa using h
      rw [hb]
      simp only [Bool.false_eq_true, if_false, List.getD_cons_zero]
      constructor
      · intro e
        split at e
        · omega
        · rename_i h2
          have : Lib.indexByte l c ≠ -1 := by simpa using h2
          omega
      · rintro ⟨e, _⟩; exact absurd e h
  | b :: l, k + 1, hk => by
    have hge := Lib.indexByte_ge l c
    have ih := index_eq c l k (by simpa using hk)
    simp only [Lib.indexByte]
    by_cases h : b = c
    · subst h
      simp only [beq_self_eq_true, if_true]
      constructor
      · intro e; omega
      · rintro ⟨_, e⟩; exact absurd (by simp) (e 0 (by omega))
    · have hb : (b == c) = false := by simpa using h
      rw [hb]
      simp only [Bool.false_eq_true, if_false, List.getD_cons_succ]
      have h1 : ((if (Lib.indexByte l c == -1) = true then (-1 : Int) else Lib.indexByte l c + 1) = ((k + 1 : Nat) : Int)) ↔ Lib.indexByte l c = (k : Int) := by
        split
        · rename_i h2
          have : Lib.indexByte l c = -1 := by simpa using h2
          omega
        · omega
      rw [h1, ih]
      constructor
      · rintro ⟨e1, e2⟩
        refine ⟨e1, fun i hi => ?_⟩
        cases i with
        | zero => simpa using h
        | succ i => simpa using e2 i (by omega)
      · rintro ⟨e1, e2⟩
        exact ⟨e1, fun i hi => by simpa using e2 (i + 1) (by omega)⟩
/-- Star-periodic. -/
structure isT (s : Sq) : Prop where
  pre : s.1 = []
  ne : 0 < s.2.1.length
  last : s.2.1.getD (s.2.1.length - 1) 0 = 42
  no : ∀ i, i < s.2.1.length - 1 → s.2.1.getD i 0 ≠ 42
  one : 1 < s.2.1.length → s.2.1.getD 0 0 = 49
theorem beq_nil2 {l : List UInt8} : (l == (Array.toList (List.toArray ([] : List UInt8)))) = decide (l = []) := by
  cases l <;> simp
theorem impl_isT {s : Sq} (h0 : 0 < s.2.1.length) (h2 : s.2.1.length ≤ 100000) : impl_Sequence_isStar s = some (decide (isT s)) := by
  unfold impl_Sequence_isStar strings_IndexByte ixOf
  rw [beq_nil2]
  by_cases a1 : s.1 = []
  rotate_left
  · rw [decide_eq_false a1, decide_eq_false (fun h : isT s => a1 h.pre)]; rfl
  rw [decide_eq_true a1]
  have hw : w64 (((s.2.1.length : Nat) : Int) - (1 : Int)) = ((s.2.1.length - 1 : Nat) : Int) := by rw [w64_id (by omega) (by omega)]; omega
  have hx := index_eq 42 s.2.1 (s.2.1.length - 1) (by omega)
  simp only [cond_true, Option.bind_some, hw]
  have hc : ((42 : Int)).toNat.toUInt8 = (42 : UInt8) := rfl
  rw [hc]
  by_cases a2 : Lib.indexByte s.2.1 42 = ((s.2.1.length - 1 : Nat) : Int)
  rotate_left
  · rw [show (Lib.indexByte s.2.1 42 == ((s.2.1.length - 1 : Nat) : Int)) = false from beq_eq_false_iff_ne.2 a2, decide_eq_false (fun h : isT s => a2 (hx.2 ⟨h.last, h.no⟩))]; rfl
  rw [show (Lib.indexByte s.2.1 42 == ((s.2.1.length - 1 : Nat) : Int)) = true from beq_iff_eq.2 a2, cond_true]
  obtain ⟨b1, b2⟩ := hx.1 a2
  by_cases a3 : s.2.1.length = 1
  · rw [show ((((s.2.1.length : Nat) : Int)) == (1 : Int)) = true from beq_iff_eq.2 (by omega), decide_eq_true (show isT s from ⟨a1, h0, b1, b2, fun h => by omega⟩)]; rfl
  · rw [show ((((s.2.1.length : Nat) : Int)) == (1 : Int)) = false from beq_eq_false_iff_ne.2 (by omega), cond_false]
    have c : (decide ((0 : Int) ≤ 0) && decide ((0 : Int) < ((s.2.1.length : Nat) : Int))) = true := inb (n := 0) h0
    rw [c, cond_true, u8_49]
    congr 1
    exact decide_eq_decide.2 ⟨fun h => ⟨a1, h0, b1, b2, fun _ => h⟩, fun h => h.one (by omega)⟩
theorem spec_isT {s : Sq} (h0 : 0 < s.2.1.length) (h2 : s.2.1.length ≤ 100000) : spec_l02Star s = some (decide (isT s)) := by
  unfold spec_l02Star
  rw [beq_nil2]
  by_cases a1 : s.1 = []
  rotate_left
  · rw [decide_eq_false a1, decide_eq_false (fun h : isT s => a1 h.pre)]; rfl
  rw [decide_eq_true a1]
  have hw : w64 (((s.2.1.length : Nat) : Int) - (1 : Int)) = ((s.2.1.length - 1 : Nat) : Int) := by rw [w64_id (by omega) (by omega)]; omega
  simp only [Bool.not_true, cond_false, hw, nn, ltb (show s.2.1.length - 1 < s.2.1.length by omega), Bool.and_self, cond_true, Int.toNat_natCast, bne, u8_42, u8_49]
  by_cases a2 : s.2.1.getD (s.2.1.length - 1) 0 = 42
  rotate_left
  · rw [decide_eq_false a2, decide_eq_false (fun h : isT s => a2 h.last)]; rfl
  rw [decide_eq_true a2]
  have hL := loop_any (step := spec_l02Star_l0) (fun i => (s, ((s.2.1.length : Nat) : Int), (i : Int), ())) (s.2.1.length - 1) (.inr ()) (.inl (false, ())) (fun i => s.2.1.getD i 0 = 42) (by
    intro i hi _
    simp only [spec_l02Star_l0, hw, ltb hi, ltb (show i < s.2.1.length by omega), nn, Bool.and_self, cond_true, Int.toNat_natCast, u8_42, w64_succ (show i < 4611686018427387904 by omega)]
    by_cases h1 : s.2.1.getD i 0 = 42
    · rw [decide_eq_true h1, sel_pos h1]; rfl
    · rw [decide_eq_false h1, sel_neg h1]; rfl) (by
    intro _
    simp only [spec_l02Star_l0, hw, nltb (Nat.lt_irrefl _), cond_false])
  have t' : loop spec_l02Star_l0 (s, ((s.2.1.length : Nat) : Int), (0 : Int), ()) = _ := hL
  have hz : s.2.1.getD (0 : Int).toNat 0 = s.2.1.getD 0 0 := rfl
  have c : (decide ((0 : Int) ≤ 0) && decide ((0 : Int) < ((s.2.1.length : Nat) : Int))) = true := inb (n := 0) h0
  simp only [Bool.not_true, cond_false, c, cond_true, hz, t', Option.bind_some]
  by_cases b : ∃ i, i < s.2.1.length - 1 ∧ s.2.1.getD i 0 = 42
  · have hf : ¬ isT s := fun h => by obtain ⟨i, hi, e⟩ := b; exact h.no i hi e
    rw [sel_pos b, decide_eq_false hf]
    by_cases a3 : ((s.2.1.length : Nat) : Int) > 1
    · rw [decide_eq_true a3]
      cases decide (s.2.1.getD 0 0 = 49) <;> rfl
    · rw [decide_eq_false a3]; rfl
  · rw [sel_neg b]
    have hno : ∀ i, i < s.2.1.length - 1 → s.2.1.getD i 0 ≠ 42 := fun i hi e => b ⟨i, hi, e⟩
    by_cases a3 : ((s.2.1.length : Nat) : Int) > 1
    · rw [decide_eq_true a3]
      by_cases a4 : s.2.1.getD 0 0 = 49
      · rw [decide_eq_true a4, decide_eq_true (show isT s from ⟨a1, h0, a2, hno, fun _ => a4⟩)]; rfl
      · rw [decide_eq_false a4, decide_eq_false (fun h : isT s => a4 (h.one (by omega)))]; rfl
    · rw [decide_eq_false a3, decide_eq_true (show isT s from ⟨a1, h0, a2, hno, fun h => by omega⟩)]; rfl
/-- The code of one sequence. -/
theorem seqs_code {s : Sq} (h1 : s.1.length ≤ 100000) (h2 : s.2.1.length ≤ 100000) : impl_sequencesCode true [s] = some (if isS s then 0 else 1) := by
  unfold impl_sequencesCode impl_areAll_impl_Sequence slices_ContainsFunc__impl_Sequence_impl_Sequence slices_IndexFunc__impl_Sequence_impl_Sequence
  have e0 : slices_IndexFunc__impl_Sequence_impl_Sequence_l0 ([s], (), (((), ()), ()), ((([s] : List Sq).length : Nat) : Int), (0 : Int), ()) = if isS s then some (.next ([s], (), (((), ()), ()), 1, 1, ())) else some (.stop (.inl (0, ()))) := by
    have e : ([s] : List Sq).getD (0 : Int).toNat (([] : List UInt8), ([] : List UInt8), ()) = s := rfl
    have c1 : decide ((0 : Int) < ((([s] : List Sq).length : Nat) : Int)) = true := rfl
    have c2 : decide ((0 : Int) ≤ 0) = true := rfl
    simp only [slices_IndexFunc__impl_Sequence_impl_Sequence_l0, impl_areAll_impl_Sequence_f1, c1, c2, Bool.and_self, cond_true, e, impl_isS h1 h2, Option.bind_some]
    by_cases h : isS s
    · rw [decide_eq_true h, if_pos h]; rfl
    · rw [decide_eq_false h, if_neg h]; rfl
  rw [loop_eq, e0]
  by_cases h : isS s
  · rw [if_pos h, if_pos h]
    simp only
    rw [loop_eq]
    rfl
  · rw [if_neg h, if_neg h]
    rfl
theorem star_same {s : Sq} (h1 : s.1.length ≤ 100000) (h2 : s.2.1.length ≤ 100000) : ∃ r : Bool × Int, impl_IsStarPeriodic s = some r ∧ spec_IsStarPeriodic s = some r := by
  unfold impl_IsStarPeriodic spec_IsStarPeriodic
  rw [seqs_code h1 h2, spec_isS h1 h2]
  by_cases h : isS s
  · rw [if_pos h, decide_eq_true h]
    have e0 : ((0 : Int) != 0) = false := rfl
    simp only [Option.bind_some, e0, cond_false, Bool.not_true, impl_isT h.ne h2, spec_isT h.ne h2]
    exact ⟨_, rfl, rfl⟩
  · rw [if_neg h, decide_eq_false h]
    exact ⟨_, rfl, rfl⟩
end Go.K.Pure

/- Plain laws of sequences, part 22: rho, failing, admissible. -/
set_option linter.all false
namespace Go.K.Pure
open Classical
def nw (s : Sq) : List Nat := s.2.1.map UInt8.toNat
theorem nw_len {s : Sq} : (nw s).length = s.2.1.length := by simp [nw]
theorem nw_at {s : Sq} (h : s.1 = []) (h0 : 0 < s.2.1.length) (k : Nat) : (sAt s k).toNat = perN (nw s) k := by
  unfold sAt perN nw
  rw [h, List.length_map]
  have hm : k % s.2.1.length < s.2.1.length := Nat.mod_lt _ h0
  simp only [List.length_nil, Nat.not_lt_zero, if_false, Nat.sub_zero]
  rw [getD_at hm, getD_at (by simpa using hm)]
  simp
theorem nb_ne {x y : Nat} (h : x ≠ y) : Nat.beq x y = false := by
  cases hb : Nat.beq x y with
  | false => rfl
  | true => exact absurd (Nat.eq_of_beq_eq_true hb) h
theorem nb_eq {x y : Nat} (h : x = y) : Nat.beq x y = true := by subst h; exact Nat.beq_refl x
theorem rhoF_some {f : Nat → Nat} {len k i : Nat} (hi : i < len) (h1 : f i ≠ f (i + k)) (h2 : ∀ j, j < i → f j = f (j + k)) : rhoF f len k = i + k + 1 := by
  unfold rhoF
  have : (List.range len).find? (fun i => !Nat.beq (f i) (f (i + k))) = some i := List.find?_range_eq_some.2 ⟨by rw [nb_ne h1]; rfl, by simpa using hi, fun j hj => by rw [nb_eq (h2 j hj)]; rfl⟩
  rw [this]
theorem rhoF_none {f : Nat → Nat} {len k : Nat} (h2 : ∀ j, j < len → f j = f (j + k)) : rhoF f len k = 0 := by
  unfold rhoF
  have : (List.range len).find? (fun i => !Nat.beq (f i) (f (i + k))) = none := List.find?_range_eq_none.2 (fun j hj => by rw [nb_eq (h2 j hj)]; rfl)
  rw [this]
section
variable {s : Sq} (hp : s.1 = []) (h0 : 0 < s.2.1.length) (h2 : s.2.1.length ≤ 10000)
include hp h0 h2
theorem okS_T : okS s := ⟨h0, by rw [hp]; simp, h2⟩
theorem impl_rho {k : Nat} (hk : k ≤ 1000000) : impl_Sequence_rho s (k : Int) = some ((rhoW (nw s) k : Nat) : Int) := by
  have hO := okS_T hp h0 h2
  unfold impl_Sequence_rho
  have hn : w64 (((s.1.length : Nat) : Int) + ((s.2.1.length : Nat) : Int)) = ((s.2.1.length : Nat) : Int) := by
    have h00 : ((s.1.length : Nat) : Int) = 0 := by rw [hp]; rfl
    rw [h00, Int.zero_add, w64_id (by omega) (by omega)]
  rw [hn]
  have hL := loop_find (step := impl_Sequence_rho_l0) (fun i => ((k : Int), s, ((s.2.1.length : Nat) : Int), (i : Int), ())) s.2.1.length (.inr ()) (fun i => if perN (nw s) i ≠ perN (nw s) (i + k) then some (.inl (((i + k + 1 : Nat) : Int), ())) else none) (by
    intro i hi
    have w1 : w64 ((i : Int) + (k : Int)) = ((i + k : Nat) : Int) := by rw [w64_id (by omega) (by omega)]; omega
    have w2 : w64 (((i + k : Nat) : Int) + 1) = ((i + k + 1 : Nat) : Int) := w64_succ (by omega)
    simp only [impl_Sequence_rho_l0, ltb hi, cond_true, w1, impl_at hO (show i ≤ 1000000000 by omega), impl_at hO (show i + k ≤ 1000000000 by omega), Option.bind_some, nw_at hp h0, w2, w64_succ (show i < 4611686018427387904 by omega)]
    by_cases c : perN (nw s) i = perN (nw s) (i + k)
    · rw [if_neg (fun h => h c), show ((((perN (nw s) i : Nat) : Int)) != ((perN (nw s) (i + k) : Nat) : Int)) = false by rw [c]; simp]
      rfl
    · rw [if_pos c, show ((((perN (nw s) i : Nat) : Int)) != ((perN (nw s) (i + k) : Nat) : Int)) = true by simp only [bne_iff_ne, ne_eq]; omega]
      rfl) (by simp only [impl_Sequence_rho_l0, nltb (Nat.lt_irrefl _), cond_false]) 0 (Nat.zero_le _)
  rcases hL with ⟨hL, hn⟩ | ⟨j, c, _, hj, hs, hL, hn⟩
  · have t' : loop impl_Sequence_rho_l0 ((k : Int), s, ((s.2.1.length : Nat) : Int), (0 : Int), ()) = _ := hL
    rw [t']
    have : rhoW (nw s) k = 0 := rhoF_none (fun j hj => by
      have := hn j (Nat.zero_le _) (by rw [nw_len] at hj; exact hj)
      refine Classical.byContradiction fun hne => ?_
      rw [if_pos hne] at this; cases this)
    rw [this]; rfl
  · have t' : loop impl_Sequence_rho_l0 ((k : Int), s, ((s.2.1.length : Nat) : Int), (0 : Int), ()) = _ := hL
    rw [t']
    have hne : perN (nw s) j ≠ perN (nw s) (j + k) := by
      intro e
      rw [if_neg (fun h => h e)] at hs; cases hs
    rw [if_pos hne] at hs
    have hc := Option.some.inj hs
    subst hc
    have : rhoW (nw s) k = j + k + 1 := rhoF_some (by rw [nw_len]; exact hj) hne (fun i hi => by
      have := hn i (Nat.zero_le _) hi
      refine Classical.byContradiction fun hne => ?_
      rw [if_pos hne] at this; cases this)
    rw [this]; rfl
theorem spec_rho {k : Nat} (hk : k ≤ 1000000) : spec_l02Rho s (k : Int) = some ((rhoW (nw s) k : Nat) : Int) := by
  have hO := okS_T hp h0 h2
  unfold spec_l02Rho
  have hn : w64 (((s.1.length : Nat) : Int) + ((s.2.1.length : Nat) : Int)) = ((s.2.1.length : Nat) : Int) := by
    have h00 : ((s.1.length : Nat) : Int) = 0 := by rw [hp]; rfl
    rw [h00, Int.zero_add, w64_id (by omega) (by omega)]
  have hw : w64 ((k : Int) + ((s.2.1.length : Nat) : Int)) = ((k + s.2.1.length : Nat) : Int) := by rw [w64_id (by omega) (by omega)]; omega
  have hL := loop_find (step := spec_l02Rho_l0) (fun i => ((k : Int), s, ((i + k + 1 : Nat) : Int), ())) s.2.1.length (.inr ()) (fun i => if perN (nw s) i ≠ perN (nw s) (i + k) then some (.inl (((i + k + 1 : Nat) : Int), ())) else none) (by
    intro i hi
    have w1 : w64 (((i + k + 1 : Nat) : Int) - 1) = ((i + k : Nat) : Int) := by rw [w64_id (by omega) (by omega)]; omega
    have w2 : w64 (((i + k + 1 : Nat) : Int) - (k : Int)) = ((i + 1 : Nat) : Int) := by rw [w64_id (by omega) (by omega)]; omega
    have w3 : w64 (((i + 1 : Nat) : Int) - 1) = ((i : Nat) : Int) := by rw [w64_id (by omega) (by omega)]; omega
    have w4 : w64 (((i + k + 1 : Nat) : Int) + 1) = ((i + 1 + k + 1 : Nat) : Int) := by rw [w64_id (by omega) (by omega)]; omega
    have c1 : decide (((i + k + 1 : Nat) : Int) ≤ ((k + s.2.1.length : Nat) : Int)) = true := decide_eq_true (by omega)
    simp only [spec_l02Rho_l0, hn, hw, c1, cond_true, w1, w2, w3, spec_at hO (show i ≤ 1000000000 by omega), spec_at hO (show i + k ≤ 1000000000 by omega), Option.bind_some, nw_at hp h0, w4]
    by_cases c : perN (nw s) i = perN (nw s) (i + k)
    · rw [if_neg (fun h => h c), show ((((perN (nw s) (i + k) : Nat) : Int)) != ((perN (nw s) i : Nat) : Int)) = false by rw [c]; simp]
      rfl
    · rw [if_pos c, show ((((perN (nw s) (i + k) : Nat) : Int)) != ((perN (nw s) i : Nat) : Int)) = true by simp only [bne_iff_ne, ne_eq]; omega]
      rfl) (by
    have c1 : decide (((s.2.1.length + k + 1 : Nat) : Int) ≤ ((k + s.2.1.length : Nat) : Int)) = false := decide_eq_false (by omega)
    simp only [spec_l02Rho_l0, hn, hw, c1, cond_false]) 0 (Nat.zero_le _)
  have hs0 : w64 ((k : Int) + 1) = ((0 + k + 1 : Nat) : Int) := by rw [w64_id (by omega) (by omega)]; omega
  rw [hs0]
  rcases hL with ⟨hL, hn⟩ | ⟨j, c, _, hj, hs, hL, hn⟩
  · rw [hL]
    have : rhoW (nw s) k = 0 := rhoF_none (fun j hj => by
      have := hn j (Nat.zero_le _) (by rw [nw_len] at hj; exact hj)
      refine Classical.byContradiction fun hne => ?_
      rw [if_pos hne] at this; cases this)
    rw [this]; rfl
  · rw [hL]
    have hne : perN (nw s) j ≠ perN (nw s) (j + k) := by
      intro e
      rw [if_neg (fun h => h e)] at hs; cases hs
    rw [if_pos hne] at hs
    have hc := Option.some.inj hs
    subst hc
    have : rhoW (nw s) k = j + k + 1 := rhoF_some (by rw [nw_len]; exact hj) hne (fun i hi => by
      have := hn i (Nat.zero_le _) hi
      refine Classical.byContradiction fun hne => ?_
      rw [if_pos hne] at this; cases this)
    rw [this]; rfl
/-- rho again and again. -/
theorem impl_reach {b : Nat} (hb : b ≤ 1000000) : ∀ f a, a ≤ 1000000 → b - a ≤ f → ∃ c : Nat, loop impl_Sequence_reaches_l0 ((a : Int), (b : Int), s, ()) = some ((c : Int), (b : Int), ()) ∧ Nat.beq c b = rch (rhoW (nw s)) f a b := by
  have hr := rhoF_gt (perN (nw s)) (nw s).length
  have stop : ∀ a : Nat, ¬ (0 < a ∧ a < b) → loop impl_Sequence_reaches_l0 ((a : Int), (b : Int), s, ()) = some ((a : Int), (b : Int), ()) := fun a h => by
    rw [loop_eq]
    by_cases c : a = 0
    · subst c; rfl
    · have c1 : ((a : Int) != 0) = true := by simp only [bne_iff_ne, ne_eq]; omega
      have c2 : decide ((a : Int) < (b : Int)) = false := decide_eq_false (by omega)
      simp only [impl_Sequence_reaches_l0, c1, c2, cond_true, cond_false]
  intro f
  induction f with
  | zero => intro a ha h; exact ⟨a, stop a (by omega), rfl⟩
  | succ f ih =>
    intro a ha h
    by_cases c : 0 < a ∧ a < b
    · have c1 : ((a : Int) != 0) = true := by simp only [bne_iff_ne, ne_eq]; omega
      have c2 : decide ((a : Int) < (b : Int)) = true := decide_eq_true (by omega)
      have hrr : rhoW (nw s) a = 0 ∨ a < rhoW (nw s) a := hr a
      have hle : rhoW (nw s) a ≤ a + (nw s).length := by
        unfold rhoW rhoF
        split
        · rename_i i hi
          have := (List.find?_range_eq_some.1 hi).2.1
          have := List.mem_range.1 this
          omega
        · omega
      rw [nw_len] at hle
      have e1 : rch (rhoW (nw s)) (f + 1) a b = rch (rhoW (nw s)) f (rhoW (nw s) a) b := by
        have : (Nat.blt 0 a && Nat.blt a b) = true := by rw [Bool.and_eq_true, Nat.blt_eq, Nat.blt_eq]; exact c
        rw [show rch (rhoW (nw s)) (f + 1) a b = (match Nat.blt 0 a && Nat.blt a b with | true => rch (rhoW (nw s)) f (rhoW (nw s) a) b | false => Nat.beq a b) from rfl, this]
      have e2 : loop impl_Sequence_reaches_l0 ((a : Int), (b : Int), s, ()) = loop impl_Sequence_reaches_l0 (((rhoW (nw s) a : Nat) : Int), (b : Int), s, ()) := by
        rw [loop_eq]
        simp only [impl_Sequence_reaches_l0, c1, c2, cond_true, impl_rho hp h0 h2 (k := a) ha, Option.bind_some]
      rw [e1, e2]
      rcases hrr with h3 | h3
      · rw [h3]
        refine ⟨0, stop 0 (by omega), ?_⟩
        cases f <;> rfl
      · by_cases h4 : rhoW (nw s) a ≤ 1000000
        · exact ih _ h4 (by omega)
        · refine ⟨rhoW (nw s) a, stop _ (by omega), ?_⟩
          cases f with
          | zero => rfl
          | succ f =>
            have : (Nat.blt 0 (rhoW (nw s) a) && Nat.blt (rhoW (nw s) a) b) = false := by
              rw [← Bool.not_eq_true, Bool.and_eq_true, Nat.blt_eq, Nat.blt_eq]; omega
            rw [show rch (rhoW (nw s)) (f + 1) (rhoW (nw s) a) b = (match Nat.blt 0 (rhoW (nw s) a) && Nat.blt (rhoW (nw s) a) b with | true => rch (rhoW (nw s)) f (rhoW (nw s) (rhoW (nw s) a)) b | false => Nat.beq (rhoW (nw s) a) b) from rfl, this]
    · refine ⟨a, stop a c, ?_⟩
      have : (Nat.blt 0 a && Nat.blt a b) = false := by
        rw [← Bool.not_eq_true, Bool.and_eq_true, Nat.blt_eq, Nat.blt_eq]; exact c
      rw [show rch (rhoW (nw s)) (f + 1) a b = (match Nat.blt 0 a && Nat.blt a b with | true => rch (rhoW (nw s)) f (rhoW (nw s) a) b | false => Nat.beq a b) from rfl, this]
end
end Go.K.Pure

/- Plain laws of sequences, part 23: what fails is the same. -/
set_option linter.all false
namespace Go.K.Pure
open Classical
def alL (r : Nat → Nat) : Nat → Nat → List Nat
  | 0, _ => []
  | F + 1, a => if a = 0 then [] else a :: alL r F (r a)
theorem alL_zero {r : Nat → Nat} {F : Nat} : alL r F 0 = [] := by cases F <;> simp [alL]
theorem alL_len {r : Nat → Nat} : ∀ F a, (alL r F a).length ≤ F
  | 0, a => by simp [alL]
  | F + 1, a => by
    unfold alL
    split
    · simp
    · have := alL_len (r := r) F (r a)
      simp only [List.length_cons]; omega
theorem alL_ge {r : Nat → Nat} (hr : ∀ k, r k = 0 ∨ k < r k) : ∀ F a x, x ∈ alL r F a → a ≤ x
  | 0, a, x, h => by simp [alL] at h
  | F + 1, a, x, h => by
    unfold alL at h
    split at h
    · cases h
    · rcases List.mem_cons.1 h with h | h
      · omega
      · rcases hr a with e | e
        · rw [e, alL_zero] at h; cases h
        · have := alL_ge hr F (r a) x h; omega
theorem rch_zero {r : Nat → Nat} {F b : Nat} : rch r F 0 b = Nat.beq 0 b := by cases F <;> rfl
theorem alL_rch {r : Nat → Nat} (hr : ∀ k, r k = 0 ∨ k < r k) {b : Nat} (hb : 0 < b) : ∀ F a, b - a < F → (b ∈ alL r F a ↔ rch r F a b = true)
  | 0, a, h => by omega
  | F + 1, a, h => by
    by_cases c : 0 < a ∧ a < b
    · have e1 : rch r (F + 1) a b = rch r F (r a) b := by
        have : (Nat.blt 0 a && Nat.blt a b) = true := by rw [Bool.and_eq_true, Nat.blt_eq, Nat.blt_eq]; exact c
        rw [show rch r (F + 1) a b = (match Nat.blt 0 a && Nat.blt a b with | true => rch r F (r a) b | false => Nat.beq a b) from rfl, this]
      rw [e1]
      unfold alL
      rw [if_neg (by omega), List.mem_cons]
      rcases hr a with e | e
      · rw [e, alL_zero, rch_zero]
        constructor
        · rintro (h | h)
          · omega
          · cases h
        · intro h
          have := Nat.eq_of_beq_eq_true h
          omega
      · rw [← alL_rch hr hb F (r a) (by omega)]
        constructor
        · rintro (h | h)
          · omega
          · exact h
        · intro h; exact .inr h
    · have e1 : rch r (F + 1) a b = Nat.beq a b := by
        have : (Nat.blt 0 a && Nat.blt a b) = false := by
          rw [← Bool.not_eq_true, Bool.and_eq_true, Nat.blt_eq, Nat.blt_eq]; exact c
        rw [show rch r (F + 1) a b = (match Nat.blt 0 a && Nat.blt a b with | true => rch r F (r a) b | false => Nat.beq a b) from rfl, this]
      rw [e1]
      unfold alL
      by_cases ha : a = 0
      · rw [if_pos ha, nb_ne (by omega)]; simp
      · rw [if_neg ha, List.mem_cons]
        by_cases hab : a = b
        · rw [nb_eq hab]; simp [hab]
        · rw [nb_ne hab]
          simp only [Bool.false_eq_true, iff_false, not_or]
          refine ⟨fun h => hab h.symm, fun h => ?_⟩
          rcases hr a with e | e
          · rw [e, alL_zero] at h; cases h
          · have := alL_ge hr F (r a) b h; omega
theorem rch_same {r : Nat → Nat} (hr : ∀ k, r k = 0 ∨ k < r k) {a b f : Nat} (h : b - a ≤ f) : ∀ d, rch r (f + d) a b = rch r f a b
  | 0 => rfl
  | d + 1 => by rw [← Nat.add_assoc, ← rch_more hr (f + d) a b (by omega)]; exact rch_same hr h d
section
variable {s : Sq} (hp : s.1 = []) (h0 : 0 < s.2.1.length) (h2 : s.2.1.length ≤ 64)
include hp h0 h2
theorem rho_le (k : Nat) : rhoW (nw s) k ≤ k + 64 := by
  unfold rhoW rhoF
  split
  · rename_i i hi
    have := (List.find?_range_eq_some.1 hi).2.1
    have := List.mem_range.1 this
    rw [nw_len] at this
    omega
  · omega
theorem along_loop {most : Nat} (hm : most ≤ 1000) : ∀ F out a, out.length + F = most → a ≤ 64 * (1000 - F) → loop spec_l02Along_l0 ((most : Int), s, out, (a : Int), ()) = some (out ++ (alL (rhoW (nw s)) F a).map (fun n : Nat => (n : Int)), ()) := by
  intro F
  induction F with
  | zero =>
    intro out a h ha
    rw [loop_eq]
    by_cases c : a = 0
    · subst c
      simp [spec_l02Along_l0, alL]
    · have c1 : decide ((a : Int) > 0) = true := decide_eq_true (by omega)
      have c2 : decide (((out.length : Nat) : Int) < (most : Int)) = false := decide_eq_false (by omega)
      simp only [spec_l02Along_l0, c1, c2, cond_true, cond_false, alL, List.map_nil, List.append_nil]
  | succ F ih =>
    intro out a h ha
    rw [loop_eq]
    unfold alL
    by_cases c : a = 0
    · subst c
      simp [spec_l02Along_l0]
    · have c1 : decide ((a : Int) > 0) = true := decide_eq_true (by omega)
      have c2 : decide (((out.length : Nat) : Int) < (most : Int)) = true := decide_eq_true (by omega)
      have c3 : decide ((out.length + [(a : Int)].length) * 8 ≤ 140737488355328) = true := decide_eq_true (by simp only [List.length_cons, List.length_nil]; omega)
      simp only [spec_l02Along_l0, c1, c2, c3, cond_true, spec_rho hp h0 (show s.2.1.length ≤ 10000 by omega) (k := a) (by omega), Option.bind_some]
      have hl := rho_le hp h0 h2 a
      rw [ih (out ++ [(a : Int)]) _ (by simp; omega) (by omega), if_neg c]
      simp
theorem spec_along {most a : Nat} (hm : most ≤ 100) (ha : a ≤ 64) : spec_l02Along s (a : Int) (most : Int) = some ((alL (rhoW (nw s)) most a).map (fun n : Nat => (n : Int))) := by
  unfold spec_l02Along
  rw [along_loop hp h0 h2 (by omega) most [] a (by simp) (by omega)]
  rfl
omit hp h0 h2 in
theorem spec_has {l : List Nat} {m : Nat} (hl : l.length ≤ 1000) : spec_l02Has (l.map (fun n : Nat => (n : Int))) (m : Int) = some (decide (m ∈ l)) := by
  unfold spec_l02Has
  have hm : (l.map (fun n : Nat => (n : Int))).length = l.length := List.length_map _
  have hL := loop_any (step := spec_l02Has_l0) (fun i => (l.map (fun n : Nat => (n : Int)), (m : Int), (i : Int), ())) l.length (.inr ()) (.inl (true, ())) (fun i => l.getD i 0 = m) (by
    intro i hi _
    have e : (l.map (fun n : Nat => (n : Int))).getD i 0 = ((l.getD i 0 : Nat) : Int) := by
      rw [getD_at (by rw [hm]; exact hi), getD_at hi]; simp
    simp only [spec_l02Has_l0, hm, ltb hi, nn, Bool.and_self, cond_true, Int.toNat_natCast, e, w64_succ (show i < 4611686018427387904 by omega)]
    by_cases c : l.getD i 0 = m
    · rw [sel_pos c, show ((((l.getD i 0 : Nat) : Int)) == (m : Int)) = true from beq_iff_eq.2 (by omega)]; rfl
    · rw [sel_neg c, show ((((l.getD i 0 : Nat) : Int)) == (m : Int)) = false from beq_eq_false_iff_ne.2 (by omega)]; rfl) (by
    intro _
    simp only [spec_l02Has_l0, hm, nltb (Nat.lt_irrefl _), cond_false])
  have t' : loop spec_l02Has_l0 (l.map (fun n : Nat => (n : Int)), (m : Int), (0 : Int), ()) = _ := hL
  rw [t']
  by_cases c : m ∈ l
  · obtain ⟨i, hi, e⟩ := List.getElem_of_mem c
    rw [sel_pos ⟨i, hi, by rw [getD_at hi]; exact e⟩, decide_eq_true c]; rfl
  · rw [sel_neg (fun ⟨i, hi, e⟩ => c (by rw [← e, getD_at hi]; exact List.getElem_mem hi)), decide_eq_false c]; rfl
/-- Along and has: rho leads there. -/
theorem spec_leads {a m : Nat} (ha : a ≤ 64) (hm0 : 0 < m) (hm : m ≤ s.2.1.length) : ∃ l, spec_l02Along s (a : Int) (w64 (((s.2.1.length : Nat) : Int) + 1)) = some l ∧ spec_l02Has l (m : Int) = some (rch (rhoW (nw s)) m a m) := by
  have hr := rhoF_gt (perN (nw s)) (nw s).length
  have hw : w64 (((s.2.1.length : Nat) : Int) + 1) = ((s.2.1.length + 1 : Nat) : Int) := w64_succ (by omega)
  rw [hw, spec_along hp h0 h2 (by omega) ha]
  refine ⟨_, rfl, ?_⟩
  rw [spec_has (Nat.le_trans (alL_len _ _) (by omega))]
  congr 1
  have h1 := alL_rch (r := rhoW (nw s)) hr hm0 (s.2.1.length + 1) a (by omega)
  have h3 := rch_same (r := rhoW (nw s)) hr (a := a) (b := m) (f := m) (by omega) (s.2.1.length + 1 - m)
  rw [show m + (s.2.1.length + 1 - m) = s.2.1.length + 1 by omega] at h3
  rw [h3] at h1
  cases hb : rch (rhoW (nw s)) m a m with
  | true => rw [decide_eq_true (h1.2 hb)]
  | false => rw [decide_eq_false (fun h => by rw [h1.1 h] at hb; cases hb)]
theorem impl_leads {a m : Nat} (ha : a ≤ 1000) (hm : m ≤ 1000) : impl_Sequence_reaches s (a : Int) (m : Int) = some (rch (rhoW (nw s)) m a m) := by
  unfold impl_Sequence_reaches
  obtain ⟨c, e1, e2⟩ := impl_reach hp h0 (show s.2.1.length ≤ 10000 by omega) (b := m) (by omega) m a (by omega) (by omega)
  rw [e1]
  simp only [Option.bind_some]
  congr 1
  rw [← e2]
  by_cases h : c = m
  · rw [nb_eq h]; exact beq_iff_eq.2 (by omega)
  · rw [nb_ne h]; exact beq_eq_false_iff_ne.2 (by omega)
end
end Go.K.Pure

/- Plain laws of sequences, part 24: what fails, what is admissible: the same. -/
set_option linter.all false
namespace Go.K.Pure
open Classical
theorem divs_iff {w : List Nat} {m : Nat} : divsW w m = true ↔ ¬ ∃ i, i < m - 1 ∧ m % (i + 1) = 0 ∧ m < rhoW w (i + 1) := by
  unfold divsW
  rw [List.all_eq_true]
  constructor
  · rintro h ⟨i, hi, h1, h2⟩
    have := h (i + 1) (List.mem_range.2 (by omega))
    rw [nb_ne (show i + 1 ≠ 0 by omega), nb_eq h1, show Nat.blt m (rhoW w (i + 1)) = true from by rw [Nat.blt_eq]; exact h2] at this
    cases this
  · intro h k hk
    have hk' := List.mem_range.1 hk
    by_cases c : k = 0
    · rw [nb_eq c]; rfl
    · rw [nb_ne c]
      by_cases d : m % k = 0
      · rw [nb_eq d]
        have : ¬ m < rhoW w k := fun hlt => h ⟨k - 1, by omega, by rw [show k - 1 + 1 = k by omega]; exact d, by rw [show k - 1 + 1 = k by omega]; exact hlt⟩
        rw [show Nat.blt m (rhoW w k) = false from by rw [← Bool.not_eq_true, Nat.blt_eq]; exact this]; rfl
      · rw [nb_ne d]; rfl
section
variable {s : Sq} (hT : isT s) (h2 : s.2.1.length ≤ 64)
include hT h2
theorem rho_pos {k : Nat} (h1 : 1 ≤ k) (hk : k < s.2.1.length) : 0 < rhoW (nw s) k := by
  have hne := hT.ne
  rcases rhoF_gt (perN (nw s)) (nw s).length k with h | h
  · exfalso
    have hno : ∀ j, j < (nw s).length → perN (nw s) j = perN (nw s) (j + k) := by
      intro j hj
      refine Classical.byContradiction fun hne' => ?_
      have h3 : ∃ i, i < (nw s).length ∧ perN (nw s) i ≠ perN (nw s) (i + k) := ⟨j, hj, hne'⟩
      unfold rhoF at h
      split at h
      · omega
      · rename_i hf
        have := List.find?_range_eq_none.1 hf j hj
        rw [nb_ne hne'] at this
        simp at this
    have h3 := hno (s.2.1.length - 1) (by rw [nw_len]; omega)
    rw [← nw_at hT.pre hne, ← nw_at hT.pre hne] at h3
    have h4 : sAt s (s.2.1.length - 1) = 42 := by
      unfold sAt
      rw [hT.pre]
      simp only [List.length_nil, Nat.not_lt_zero, if_false, Nat.sub_zero]
      rw [Nat.mod_eq_of_lt (by omega)]
      exact hT.last
    have h5 : sAt s (s.2.1.length - 1 + k) ≠ 42 := by
      unfold sAt
      rw [hT.pre]
      simp only [List.length_nil, Nat.not_lt_zero, if_false, Nat.sub_zero]
      rw [show s.2.1.length - 1 + k = (k - 1) + s.2.1.length by omega, Nat.add_mod_right, Nat.mod_eq_of_lt (by omega)]
      exact hT.no _ (by omega)
    exact h5 (UInt8.toNat_inj.1 (by rw [← h3, h4]))
  · exact Nat.lt_of_le_of_lt (Nat.zero_le _) h
theorem impl_fails' {m : Nat} (h1 : 1 ≤ m) (hm : m < s.2.1.length) : impl_Sequence_fails s (m : Int) = some (failW (nw s) m) := by
  have hp := hT.pre
  have h0 := hT.ne
  unfold impl_Sequence_fails failW
  have hl1 := impl_leads hp h0 h2 (a := 1) (m := m) (by omega) (by omega)
  rw [show ((1 : Nat) : Int) = (1 : Int) from rfl] at hl1
  rw [hl1]
  simp only [Option.bind_some]
  cases hA : rch (rhoW (nw s)) m 1 m with
  | true => rfl
  | false =>
  simp only [cond_false, Bool.not_false, Bool.true_and]
  have hL := loop_any (step := impl_Sequence_fails_l0) (fun i => ((m : Int), s, ((i + 1 : Nat) : Int), ())) (m - 1) (.inr ((m : Int), s, ())) (.inl (false, ())) (fun i => m % (i + 1) = 0 ∧ m < rhoW (nw s) (i + 1)) (by
    intro i hi _
    have c1 : decide (((i + 1 : Nat) : Int) < (m : Int)) = true := decide_eq_true (by omega)
    have c2 : (((i + 1 : Nat) : Int) == (0 : Int)) = false := beq_eq_false_iff_ne.2 (by omega)
    simp only [impl_Sequence_fails_l0, c1, c2, Bool.not_false, cond_true, tmod_nat, w64_succ (show i + 1 < 4611686018427387904 by omega)]
    by_cases d : m % (i + 1) = 0
    · rw [show ((((m % (i + 1) : Nat) : Int)) == (0 : Int)) = true from beq_iff_eq.2 (by omega)]
      simp only [cond_true, impl_rho hp h0 (show s.2.1.length ≤ 10000 by omega) (k := i + 1) (by omega), Option.bind_some]
      by_cases e : m < rhoW (nw s) (i + 1)
      · rw [decide_eq_true (show ((rhoW (nw s) (i + 1) : Nat) : Int) > (m : Int) by omega), sel_pos ⟨d, e⟩]; rfl
      · rw [decide_eq_false (show ¬ ((rhoW (nw s) (i + 1) : Nat) : Int) > (m : Int) by omega), sel_neg (fun h => e h.2)]; rfl
    · rw [show ((((m % (i + 1) : Nat) : Int)) == (0 : Int)) = false from beq_eq_false_iff_ne.2 (by omega), sel_neg (fun h => d h.1)]; rfl) (by
    intro _
    have c1 : decide (((m - 1 + 1 : Nat) : Int) < (m : Int)) = false := decide_eq_false (by omega)
    simp only [impl_Sequence_fails_l0, c1, cond_false])
  have t' : loop impl_Sequence_fails_l0 ((m : Int), s, (1 : Int), ()) = _ := hL
  rw [t']
  by_cases hd : ∃ i, i < m - 1 ∧ m % (i + 1) = 0 ∧ m < rhoW (nw s) (i + 1)
  · rw [sel_pos hd, show divsW (nw s) m = false from by rw [← Bool.not_eq_true, divs_iff]; exact fun h => h hd]; rfl
  · rw [sel_neg hd, show divsW (nw s) m = true from divs_iff.2 hd]
    have hr := rho_pos hT h2 h1 hm
    have hle := rho_le hp h0 h2 m
    have c2 : ((m : Int) == (0 : Int)) = false := beq_eq_false_iff_ne.2 (by omega)
    have w1 : w64 (((rhoW (nw s) m : Nat) : Int) - 1) = ((rhoW (nw s) m - 1 : Nat) : Int) := w64_pred (by omega) hr
    have hmod : (rhoW (nw s) m - 1) % m < m := Nat.mod_lt _ (by omega)
    simp only [Option.bind_some, alt, impl_rho hp h0 (show s.2.1.length ≤ 10000 by omega) (k := m) (by omega), c2, Bool.not_false, cond_true, w1, tmod_nat, w64_succ (show (rhoW (nw s) m - 1) % m < 4611686018427387904 by omega)]
    rw [impl_leads hp h0 h2 (by omega) (by omega)]
    rfl
theorem spec_fails' {m : Nat} (h1 : 1 ≤ m) (hm : m < s.2.1.length) : spec_l02Fails s (m : Int) = some (failW (nw s) m) := by
  have hp := hT.pre
  have h0 := hT.ne
  unfold spec_l02Fails failW
  obtain ⟨l, l1, l2⟩ := spec_leads hp h0 h2 (a := 1) (m := m) (by omega) h1 (by omega)
  rw [show ((1 : Nat) : Int) = (1 : Int) from rfl] at l1
  rw [l1]
  simp only [Option.bind_some, l2]
  cases hA : rch (rhoW (nw s)) m 1 m with
  | true => rfl
  | false =>
  simp only [cond_false, Bool.not_false, Bool.true_and]
  have hL := loop_any (step := spec_l02Fails_l0) (fun i => ((m : Int), s, ((s.2.1.length : Nat) : Int), ((i + 1 : Nat) : Int), ())) (m - 1) (.inr ((m : Int), s, ((s.2.1.length : Nat) : Int), ())) (.inl (false, ())) (fun i => m % (i + 1) = 0 ∧ m < rhoW (nw s) (i + 1)) (by
    intro i hi _
    have c1 : decide (((i + 1 : Nat) : Int) < (m : Int)) = true := decide_eq_true (by omega)
    have c2 : (((i + 1 : Nat) : Int) == (0 : Int)) = false := beq_eq_false_iff_ne.2 (by omega)
    have hr := rho_pos hT h2 (k := i + 1) (by omega) (by omega)
    have c3 : ((((rhoW (nw s) (i + 1) : Nat) : Int)) == (0 : Int)) = false := beq_eq_false_iff_ne.2 (by omega)
    simp only [spec_l02Fails_l0, c1, spec_rho hp h0 (show s.2.1.length ≤ 10000 by omega) (k := i + 1) (by omega), Option.bind_some, c2, c3, Bool.not_false, cond_true, cond_false, tmod_nat, w64_succ (show i + 1 < 4611686018427387904 by omega)]
    by_cases d : m % (i + 1) = 0
    · rw [show ((((m % (i + 1) : Nat) : Int)) == (0 : Int)) = true from beq_iff_eq.2 (by omega), cond_true]
      by_cases e : m < rhoW (nw s) (i + 1)
      · rw [decide_eq_true (show ((rhoW (nw s) (i + 1) : Nat) : Int) > (m : Int) by omega), sel_pos ⟨d, e⟩]; rfl
      · rw [decide_eq_false (show ¬ ((rhoW (nw s) (i + 1) : Nat) : Int) > (m : Int) by omega), sel_neg (fun h => e h.2)]; rfl
    · rw [show ((((m % (i + 1) : Nat) : Int)) == (0 : Int)) = false from beq_eq_false_iff_ne.2 (by omega), sel_neg (fun h => d h.1)]; rfl) (by
    intro _
    have c1 : decide (((m - 1 + 1 : Nat) : Int) < (m : Int)) = false := decide_eq_false (by omega)
    simp only [spec_l02Fails_l0, c1, cond_false])
  have t' : loop spec_l02Fails_l0 ((m : Int), s, ((s.2.1.length : Nat) : Int), (1 : Int), ()) = _ := hL
  rw [t']
  by_cases hd : ∃ i, i < m - 1 ∧ m % (i + 1) = 0 ∧ m < rhoW (nw s) (i + 1)
  · rw [sel_pos hd, show divsW (nw s) m = false from by rw [← Bool.not_eq_true, divs_iff]; exact fun h => h hd]; rfl
  · rw [sel_neg hd, show divsW (nw s) m = true from divs_iff.2 hd]
    have hr := rho_pos hT h2 h1 hm
    have hle := rho_le hp h0 h2 m
    have c2 : ((m : Int) == (0 : Int)) = false := beq_eq_false_iff_ne.2 (by omega)
    have w1 : w64 (((rhoW (nw s) m : Nat) : Int) - 1) = ((rhoW (nw s) m - 1 : Nat) : Int) := w64_pred (by omega) hr
    have hmod : (rhoW (nw s) m - 1) % m < m := Nat.mod_lt _ (by omega)
    obtain ⟨l', l3, l4⟩ := spec_leads hp h0 h2 (a := (rhoW (nw s) m - 1) % m + 1) (m := m) (by omega) h1 (by omega)
    simp only [Option.bind_some, alt, spec_rho hp h0 (show s.2.1.length ≤ 10000 by omega) (k := m) (by omega), c2, Bool.not_false, cond_true, w1, tmod_nat, w64_succ (show (rhoW (nw s) m - 1) % m < 4611686018427387904 by omega), l3, l4]
    rfl
theorem good_iff : goodW (nw s) = true ↔ ¬ ∃ i, i < s.2.1.length - 1 ∧ failW (nw s) (i + 1) = true := by
  unfold goodW
  rw [List.all_eq_true, nw_len]
  constructor
  · rintro h ⟨i, hi, h1⟩
    have := h (i + 1) (List.mem_range.2 (by omega))
    rw [nb_ne (show i + 1 ≠ 0 by omega), h1] at this
    cases this
  · intro h k hk
    have hk' := List.mem_range.1 hk
    by_cases c : k = 0
    · rw [nb_eq c]; rfl
    · rw [nb_ne c]
      have : ¬ failW (nw s) k = true := fun hf => h ⟨k - 1, by omega, by rw [show k - 1 + 1 = k by omega]; exact hf⟩
      rw [show failW (nw s) k = false from by rw [← Bool.not_eq_true]; exact this]; rfl
theorem spec_good : spec_l02Good s = some (goodW (nw s)) := by
  have h0 := hT.ne
  unfold spec_l02Good
  have hL := loop_any (step := spec_l02Good_l0) (fun i => (s, ((i + 1 : Nat) : Int), ())) (s.2.1.length - 1) (.inr ()) (.inl (false, ())) (fun i => failW (nw s) (i + 1) = true) (by
    intro i hi _
    have c1 : decide (((i + 1 : Nat) : Int) < ((s.2.1.length : Nat) : Int)) = true := decide_eq_true (by omega)
    simp only [spec_l02Good_l0, c1, cond_true, spec_fails' hT h2 (m := i + 1) (by omega) (by omega), Option.bind_some, w64_succ (show i + 1 < 4611686018427387904 by omega)]
    cases hf : failW (nw s) (i + 1) with
    | true => rw [sel_pos rfl]; rfl
    | false => rw [sel_neg (by simp)]; rfl) (by
    intro _
    have c1 : decide (((s.2.1.length - 1 + 1 : Nat) : Int) < ((s.2.1.length : Nat) : Int)) = false := decide_eq_false (by omega)
    simp only [spec_l02Good_l0, c1, cond_false])
  have t' : loop spec_l02Good_l0 (s, (1 : Int), ()) = _ := hL
  rw [t']
  by_cases hd : ∃ i, i < s.2.1.length - 1 ∧ failW (nw s) (i + 1) = true
  · rw [sel_pos hd, show goodW (nw s) = false from by rw [← Bool.not_eq_true, good_iff hT h2]; exact fun h => h hd]; rfl
  · rw [sel_neg hd, show goodW (nw s) = true from (good_iff hT h2).2 hd]; rfl
theorem impl_good : impl_Sequence_isAdmissible s = some (goodW (nw s)) := by
  have h0 := hT.ne
  unfold impl_Sequence_isAdmissible
  have hL := loop_any (step := impl_Sequence_isAdmissible_l0) (fun i => (s, ((s.2.1.length : Nat) : Int), (i : Int), ())) s.2.1.length (.inr ()) (.inl (false, ())) (fun i => 0 < i ∧ failW (nw s) i = true) (by
    intro i hi _
    simp only [impl_Sequence_isAdmissible_l0, ltb hi, cond_true, w64_succ (show i < 4611686018427387904 by omega)]
    by_cases c : 0 < i
    · rw [decide_eq_true (show ((i : Nat) : Int) > 0 by omega)]
      simp only [cond_true, impl_fails' hT h2 (m := i) c hi, Option.bind_some]
      cases hf : failW (nw s) i with
      | true => rw [sel_pos ⟨c, rfl⟩]; rfl
      | false => rw [sel_neg (by simp)]; rfl
    · rw [decide_eq_false (show ¬ ((i : Nat) : Int) > 0 by omega), sel_neg (fun h => c h.1)]; rfl) (by
    intro _
    simp only [impl_Sequence_isAdmissible_l0, nltb (Nat.lt_irrefl _), cond_false])
  have t' : loop impl_Sequence_isAdmissible_l0 (s, ((s.2.1.length : Nat) : Int), (0 : Int), ()) = _ := hL
  rw [t']
  by_cases hd : ∃ i, i < s.2.1.length ∧ 0 < i ∧ failW (nw s) i = true
  · rw [sel_pos hd, show goodW (nw s) = false from by
      rw [← Bool.not_eq_true, good_iff hT h2]
      obtain ⟨i, hi, c, hf⟩ := hd
      exact fun h => h ⟨i - 1, by omega, by rw [show i - 1 + 1 = i by omega]; exact hf⟩]; rfl
  · rw [sel_neg hd, show goodW (nw s) = true from (good_iff hT h2).2 (fun ⟨i, hi, hf⟩ => hd ⟨i + 1, by omega, by omega, hf⟩)]; rfl
end
/-- The two that are asked. -/
theorem fails_same' {s : Sq} {m : Int} (h1 : s.1.length ≤ 100000) (h2 : s.2.1.length ≤ 100000) : ∃ r : Bool × Int, impl_FailsFor s m = some r ∧ spec_FailsFor s m = some r ∧ (isS s → isT s → 1 ≤ m → m < s.2.1.length → r = (failW (nw s) m.toNat, 0)) := by
  unfold impl_FailsFor spec_FailsFor
  rw [impl_isS h1 h2, spec_isS h1 h2]
  by_cases a1 : isS s
  rotate_left
  · rw [decide_eq_false a1]; exact ⟨_, rfl, rfl, fun h => absurd h a1⟩
  have hle := a1.le
  rw [decide_eq_true a1]
  simp only [Option.bind_some, Bool.not_true, cond_false, impl_isT a1.ne h2, spec_isT a1.ne h2]
  by_cases a2 : isT s
  rotate_left
  · rw [decide_eq_false a2]; exact ⟨_, rfl, rfl, fun _ h => absurd h a2⟩
  rw [decide_eq_true a2]
  have hw : w64 (((s.2.1.length : Nat) : Int) - (1 : Int)) = ((s.2.1.length - 1 : Nat) : Int) := w64_pred (by omega) a1.ne
  simp only [Bool.not_true, cond_false, hw, impl_in, spec_in, Option.bind_some]
  by_cases a3 : 1 ≤ m ∧ m ≤ ((s.2.1.length - 1 : Nat) : Int)
  · rw [decide_eq_true a3]
    obtain ⟨k, rfl⟩ : ∃ k : Nat, m = (k : Int) := ⟨m.toNat, by omega⟩
    simp only [Bool.not_true, cond_false, impl_fails' a2 (by omega) (m := k) (by omega) (by omega), spec_fails' a2 (by omega) (m := k) (by omega) (by omega), Option.bind_some]
    exact ⟨_, rfl, rfl, fun _ _ _ _ => rfl⟩
  · rw [decide_eq_false a3]
    exact ⟨_, rfl, rfl, fun _ _ h3 h4 => absurd ⟨h3, by omega⟩ a3⟩
theorem adm_same {s : Sq} (h1 : s.1.length ≤ 100000) (h2 : s.2.1.length ≤ 100000) : ∃ r : Bool × Int, impl_IsAdmissible s = some r ∧ spec_IsAdmissible s = some r ∧ (r.2 = 0 → isS s ∧ isT s ∧ r.1 = goodW (nw s)) := by
  unfold impl_IsAdmissible spec_IsAdmissible
  rw [impl_isS h1 h2, spec_isS h1 h2]
  by_cases a1 : isS s
  rotate_left
  · rw [decide_eq_false a1]; exact ⟨_, rfl, rfl, fun h => by cases h⟩
  have hle := a1.le
  rw [decide_eq_true a1]
  simp only [Option.bind_some, Bool.not_true, cond_false, impl_isT a1.ne h2, spec_isT a1.ne h2]
  by_cases a2 : isT s
  rotate_left
  · rw [decide_eq_false a2]; exact ⟨_, rfl, rfl, fun h => by cases h⟩
  rw [decide_eq_true a2]
  simp only [Bool.not_true, cond_false, impl_good a2 (by omega), spec_good a2 (by omega), Option.bind_some]
  exact ⟨_, rfl, rfl, fun _ => ⟨a1, a2, rfl⟩⟩
end Go.K.Pure

/- Plain laws of sequences, part 25: the admissible words of a length. -/
set_option linter.all false
namespace Go.K.Pure
open Classical
def wdsI : Nat → List (List UInt8)
  | 0 => [[49]]
  | t + 1 => (wdsI t).flatMap fun w => [w ++ [48], w ++ [49]]
def bwI (t k : Nat) : List Int := (49 : Int) :: (List.range t).map fun j => ((48 + (k / 2 ^ (t - 1 - j)) % 2 : Nat) : Int)
def bw (t k : Nat) : List UInt8 := (bwI t k).map fun z => UInt8.ofNat z.toNat
theorem bw_all : ∀ t, t < 9 → (List.range (2 ^ t)).map (bw t) = wdsI t := by decide +kernel
theorem bit_ok : ∀ k : Nat, k < 256 → ∀ i : Nat, i < 8 → wu8 (w64 ((48 : Int) + (w64 (((BitVec.toNat (HAnd.hAnd (BitVec.ofInt 64 ((k : Int).fdiv ((2 : Int) ^ (min (wu64 (i : Int)).toNat 64)))) (BitVec.ofInt 64 (1 : Int)))) : Nat) : Int)))) = ((48 + (k / 2 ^ i) % 2 : Nat) : Int) := by decide +kernel
structure Wd (t : Nat) (w : List UInt8) : Prop where
  len : w.length = t + 1
  one : w.getD 0 0 = 49
  bit : ∀ c ∈ w, c = 48 ∨ c = 49
theorem wds_ok : ∀ t, ∀ w ∈ wdsI t, Wd t w
  | 0, w, h => by
    rw [List.mem_singleton.1 h]
    exact ⟨rfl, rfl, fun c hc => .inr (List.mem_singleton.1 hc)⟩
  | t + 1, w, h => by
    obtain ⟨v, hv, hw⟩ := List.mem_flatMap.1 h
    obtain ⟨a, b, c⟩ := wds_ok t v hv
    have key : ∀ x : UInt8, (x = 48 ∨ x = 49) → Wd (t + 1) (v ++ [x]) := fun x hx =>
      ⟨by rw [List.length_append, a]; rfl, by rw [getD_at (by rw [List.length_append]; simp), List.getElem_append_left (by omega), ← getD_at (d := 0) (by omega)]; exact b, fun d hd => by
        rcases List.mem_append.1 hd with h | h
        · exact c d h
        · rw [List.mem_singleton.1 h]; exact hx⟩
    rcases List.mem_cons.1 hw with h | h
    · rw [h]; exact key 48 (.inl rfl)
    · rw [List.mem_singleton.1 h]; exact key 49 (.inr rfl)
theorem Wd.star {t : Nat} {w : List UInt8} (h : Wd t w) : isT (([] : List UInt8), w ++ [42], ()) := by
  have hl : (w ++ [(42 : UInt8)]).length = t + 2 := by rw [List.length_append, h.len]; rfl
  refine ⟨rfl, by show 0 < (w ++ [(42 : UInt8)]).length; omega, ?_, fun i hi => ?_, fun _ => ?_⟩
  · show (w ++ [(42 : UInt8)]).getD ((w ++ [(42 : UInt8)]).length - 1) 0 = 42
    rw [hl, getD_at (by omega), List.getElem_append_right (by rw [h.len]; omega)]
    simp [h.len]
  · have hi2 : i < t + 1 := by
      have h3 : i < (w ++ [(42 : UInt8)]).length - 1 := hi
      rw [hl] at h3
      omega
    have hi' : i < w.length := by rw [h.len]; exact hi2
    show (w ++ [(42 : UInt8)]).getD i 0 ≠ 42
    rw [getD_at (by rw [hl]; omega), List.getElem_append_left hi']
    intro e
    rcases h.bit _ (List.getElem_mem hi') with e2 | e2 <;> rw [e2] at e <;> exact absurd e (by decide)
  · show (w ++ [(42 : UInt8)]).getD 0 0 = 49
    rw [getD_at (by omega), List.getElem_append_left (by rw [h.len]; omega), ← getD_at (d := 0) (by rw [h.len]; omega)]
    exact h.one
/-- Whether the word is admissible. -/
def gdW (w : List UInt8) : Bool := goodW ((w ++ [42]).map UInt8.toNat)
theorem impl_gd {t : Nat} (ht : t ≤ 8) {w : List UInt8} (h : Wd t w) : impl_Sequence_isAdmissible (([] : List UInt8), w ++ [42], ()) = some (gdW w) :=
  impl_good h.star (by show (w ++ [(42 : UInt8)]).length ≤ 64; rw [List.length_append, h.len]; simp; omega)
theorem spec_gd {t : Nat} (ht : t ≤ 8) {w : List UInt8} (h : Wd t w) : spec_l02Good (([] : List UInt8), w ++ [42], ()) = some (gdW w) :=
  spec_good h.star (by show (w ++ [(42 : UInt8)]).length ≤ 64; rw [List.length_append, h.len]; simp; omega)
/-- The words that are kept. -/
def kpW (l : List (List UInt8)) : List (List UInt8) := (l.filter gdW).map fun w => w ++ [42]
theorem kpW_snoc {l : List (List UInt8)} {w : List UInt8} : kpW (l ++ [w]) = if gdW w = true then kpW l ++ [w ++ [42]] else kpW l := by
  unfold kpW
  rw [List.filter_append, List.map_append]
  by_cases c : gdW w = true
  · rw [if_pos c, List.filter_cons_of_pos c]; rfl
  · rw [if_neg c, List.filter_cons_of_neg c]; simp
theorem kpW_len {l : List (List UInt8)} : (kpW l).length ≤ l.length := by
  unfold kpW
  rw [List.length_map]
  exact List.length_filter_le _ _
theorem take_snocW {l : List (List UInt8)} {k : Nat} (h : k < l.length) : l.take (k + 1) = l.take k ++ [l.getD k []] := by
  rw [List.take_succ_eq_append_getElem h, getD_at h]
theorem impl_l2 {t : Nat} (ht : t ≤ 8) {l : List (List UInt8)} (hl : l.length ≤ 1000) (hw : ∀ w ∈ l, Wd t w) : loop impl_AdmissibleWords_l2 (l, ([] : List (List UInt8)), ((l.length : Nat) : Int), (0 : Int), ()) = some (kpW l, ()) := by
  have := loop_count (step := impl_AdmissibleWords_l2) (fun i => (l, kpW (l.take i), ((l.length : Nat) : Int), (i : Int), ())) l.length (kpW l, ()) (by
    intro i hi
    have hm : l.getD i [] ∈ l := by rw [getD_at hi]; exact List.getElem_mem hi
    have hW := hw _ hm
    have c1 : decide ((l.getD i []).length + (Array.toList (List.toArray [(42 : UInt8)])).length ≤ 1152921504606846976) = true := decide_eq_true (by rw [hW.len]; show t + 1 + 1 ≤ _; omega)
    have c2 : decide (((kpW (l.take i)).length + [(l.getD i []) ++ (Array.toList (List.toArray [(42 : UInt8)]))].length) * 16 ≤ 140737488355328) = true := decide_eq_true (by
      have := kpW_len (l := l.take i)
      rw [List.length_take] at this
      simp only [List.length_cons, List.length_nil]; omega)
    have c3 : impl_Sequence_isAdmissible ((Array.toList (List.toArray ([] : List UInt8))), (l.getD i []) ++ (Array.toList (List.toArray [(42 : UInt8)])), ()) = some (gdW (l.getD i [])) := impl_gd ht hW
    simp only [impl_AdmissibleWords_l2, ltb hi, nn, Bool.and_self, cond_true, Int.toNat_natCast, c1, c2, c3, Option.bind_some, w64_succ (show i < 4611686018427387904 by omega), take_snocW hi, kpW_snoc]
    cases hg : gdW (l.getD i []) with
    | true => rw [if_pos rfl]; rfl
    | false => rw [if_neg (by simp)]; rfl) (by simp only [impl_AdmissibleWords_l2, nltb (Nat.lt_irrefl _), cond_false, List.take_length]) 0 (Nat.zero_le _)
  exact this
theorem impl_l1 {n c16 c17 : Int} {l : List (List UInt8)} {t : Nat} (ht : t ≤ 8) (hl : l.length ≤ 1000) (hw : ∀ w ∈ l, Wd t w) : loop impl_AdmissibleWords_l1 (n, l, ([] : List (List UInt8)), c16, c17, ((l.length : Nat) : Int), (0 : Int), ()) = some (n, l.flatMap (fun w => [w ++ [48], w ++ [49]]), c16, c17, ()) := by
  have hfl : ∀ l : List (List UInt8), (l.flatMap (fun w => [w ++ [(48 : UInt8)], w ++ [49]])).length = 2 * l.length := fun l => by
    induction l with
    | nil => rfl
    | cons a l ih => rw [List.flatMap_cons, List.length_append, ih, List.length_cons]; simp; omega
  have := loop_count (step := impl_AdmissibleWords_l1) (fun i => (n, l, (l.take i).flatMap (fun w => [w ++ [(48 : UInt8)], w ++ [49]]), c16, c17, ((l.length : Nat) : Int), (i : Int), ())) l.length (n, l.flatMap (fun w => [w ++ [48], w ++ [49]]), c16, c17, ()) (by
    intro i hi
    have hm : l.getD i [] ∈ l := by rw [getD_at hi]; exact List.getElem_mem hi
    have hW := hw _ hm
    have c1 : ∀ x : UInt8, decide ((l.getD i []).length + (Array.toList (List.toArray [x])).length ≤ 1152921504606846976) = true := fun x => decide_eq_true (by rw [hW.len]; show t + 1 + 1 ≤ _; omega)
    have hfi := hfl (l.take i)
    rw [List.length_take] at hfi
    have c2 : decide ((((l.take i).flatMap (fun w => [w ++ [(48 : UInt8)], w ++ [49]])).length + [(l.getD i []) ++ (Array.toList (List.toArray [(48 : UInt8)])), (l.getD i []) ++ (Array.toList (List.toArray [(49 : UInt8)]))].length) * 16 ≤ 140737488355328) = true := decide_eq_true (by
      rw [hfi]; simp only [List.length_cons, List.length_nil]; omega)
    simp only [impl_AdmissibleWords_l1, ltb hi, nn, Bool.and_self, cond_true, Int.toNat_natCast, c1, c2, w64_succ (show i < 4611686018427387904 by omega), take_snocW hi, List.flatMap_append]
    rfl) (by simp only [impl_AdmissibleWords_l1, nltb (Nat.lt_irrefl _), cond_false, List.take_length]) 0 (Nat.zero_le _)
  exact this
theorem wds_len : ∀ t, (wdsI t).length = 2 ^ t
  | 0 => rfl
  | t + 1 => by
    have hfl : ∀ l : List (List UInt8), (l.flatMap (fun w => [w ++ [(48 : UInt8)], w ++ [49]])).length = 2 * l.length := fun l => by
      induction l with
      | nil => rfl
      | cons a l ih => rw [List.flatMap_cons, List.length_append, ih, List.length_cons]; simp; omega
    rw [wdsI, hfl, wds_len t, Nat.pow_succ]; omega
theorem pow_le8 {t : Nat} (h : t ≤ 8) : 2 ^ t ≤ 256 := Nat.pow_le_pow_right (by omega) (n := 2) h
theorem impl_l0 {t : Nat} (ht : t ≤ 8) : loop impl_AdmissibleWords_l0 (((t + 2 : Nat) : Int), [(Array.toList (List.toArray [(49 : UInt8)]))], (t : Int), (0 : Int), ()) = some (((t + 2 : Nat) : Int), wdsI t, ()) := by
  have := loop_count (step := impl_AdmissibleWords_l0) (fun i => (((t + 2 : Nat) : Int), wdsI i, (t : Int), (i : Int), ())) t (((t + 2 : Nat) : Int), wdsI t, ()) (by
    intro i hi
    have hp := pow_le8 (t := i) (by omega)
    simp only [impl_AdmissibleWords_l0, ltb hi, cond_true, impl_l1 (t := i) (by omega) (by rw [wds_len]; omega) (wds_ok i), Option.bind_some, w64_succ (show i < 4611686018427387904 by omega)]
    rfl) (by simp only [impl_AdmissibleWords_l0, nltb (Nat.lt_irrefl _), cond_false]) 0 (Nat.zero_le _)
  exact this
theorem spec_l1' {n : Int} {out : List (List UInt8)} {t k : Nat} (ht : t ≤ 8) (hk : k < 2 ^ t) : loop spec_AdmissibleWords_l1 (n, out, (k : Int), [(49 : Int)], (t : Int) - 1, ()) = some (n, out, (k : Int), bwI t k, ()) := by
  have hk2 : k < 256 := Nat.lt_of_lt_of_le hk (pow_le8 ht)
  have := loop_count (step := spec_AdmissibleWords_l1) (fun j => (n, out, (k : Int), (49 : Int) :: (List.range j).map (fun j => ((48 + (k / 2 ^ (t - 1 - j)) % 2 : Nat) : Int)), (t : Int) - 1 - (j : Int), ())) t (n, out, (k : Int), bwI t k, ()) (by
    intro j hj
    have e : (t : Int) - 1 - (j : Int) = ((t - 1 - j : Nat) : Int) := by omega
    have c1 : decide (((t - 1 - j : Nat) : Int) ≥ (0 : Int)) = true := decide_eq_true (by omega)
    have c2 : wu64 ((t - 1 - j : Nat) : Int) = ((t - 1 - j : Nat) : Int) := by unfold wu64; simp [IntKind.wrap, IntKind.bits, IntKind.signed]; omega
    have c3 : decide ((0 : Int) ≤ ((t - 1 - j : Nat) : Int)) = true := decide_eq_true (by omega)
    have hb := bit_ok k hk2 (t - 1 - j) (by omega)
    rw [c2] at hb
    have c4 : decide ((((49 : Int) :: (List.range j).map (fun j => ((48 + (k / 2 ^ (t - 1 - j)) % 2 : Nat) : Int))).length + [((48 + (k / 2 ^ (t - 1 - j)) % 2 : Nat) : Int)].length) * 1 ≤ 140737488355328) = true := decide_eq_true (by simp only [List.length_cons, List.length_map, List.length_range, List.length_nil]; omega)
    have c5 : w64 (((t - 1 - j : Nat) : Int) - 1) = (t : Int) - 1 - ((j + 1 : Nat) : Int) := by rw [w64_id (by omega) (by omega)]; omega
    simp only [e, spec_AdmissibleWords_l1, c1, c2, c3, cond_true, hb, c4, c5]
    rw [List.range_succ, List.map_append]
    rfl) (by
    have e : (t : Int) - 1 - (t : Int) = -1 := by omega
    simp only [e, spec_AdmissibleWords_l1, show decide ((-1 : Int) ≥ 0) = false from rfl, cond_false]
    rfl) 0 (Nat.zero_le _)
  simpa using this
theorem spec_l0' {t : Nat} (ht : t ≤ 8) : loop spec_AdmissibleWords_l0 (((t + 2 : Nat) : Int), ([] : List (List UInt8)), (0 : Int), ()) = some (kpW (wdsI t), ()) := by
  have hp := pow_le8 ht
  have hall := bw_all t (by omega)
  have e1 : w64 (((t + 2 : Nat) : Int) - 2) = (t : Int) := by rw [w64_id (by omega) (by omega)]; omega
  have e2 : wu64 (t : Int) = (t : Int) := by unfold wu64; simp [IntKind.wrap, IntKind.bits, IntKind.signed]; omega
  have e3 : w64 ((1 : Int) * ((2 : Int) ^ (min (t : Int).toNat 64))) = ((2 ^ t : Nat) : Int) := by
    rw [Int.toNat_natCast, Nat.min_eq_left (by omega), Int.one_mul, show ((2 : Int) ^ t) = ((2 ^ t : Nat) : Int) from (Int.natCast_pow 2 t).symm, w64_nat (by omega)]
  have e4 : w64 (((t + 2 : Nat) : Int) - 3) = (t : Int) - 1 := by rw [w64_id (by omega) (by omega)]; omega
  have e5 : decide ((0 : Int) ≤ (t : Int)) = true := decide_eq_true (by omega)
  have hbw : ∀ k, k < 2 ^ t → bw t k = (wdsI t).getD k [] := fun k hk => by
    rw [← hall, getD_at (by simpa using hk)]; simp
  have := loop_count (step := spec_AdmissibleWords_l0) (fun k => (((t + 2 : Nat) : Int), kpW ((wdsI t).take k), (k : Int), ())) (2 ^ t) (kpW (wdsI t), ()) (by
    intro k hk
    have hkl : k < (wdsI t).length := by rw [wds_len]; exact hk
    have hm : (wdsI t).getD k [] ∈ wdsI t := by rw [getD_at hkl]; exact List.getElem_mem hkl
    have hW := wds_ok t _ hm
    have c0 : decide ((k : Int) < ((2 ^ t : Nat) : Int)) = true := decide_eq_true (by omega)
    have hmap : (bwI t k).map (fun z => UInt8.ofNat z.toNat) = (wdsI t).getD k [] := hbw k hk
    have c1 : decide (((wdsI t).getD k []).length + (Array.toList (List.toArray [(42 : UInt8)])).length ≤ 1152921504606846976) = true := decide_eq_true (by rw [hW.len]; show t + 1 + 1 ≤ _; omega)
    have c2 : decide (((kpW ((wdsI t).take k)).length + [((wdsI t).getD k []) ++ (Array.toList (List.toArray [(42 : UInt8)]))].length) * 16 ≤ 140737488355328) = true := decide_eq_true (by
      have := kpW_len (l := (wdsI t).take k)
      rw [List.length_take] at this
      simp only [List.length_cons, List.length_nil]; omega)
    have c3 : spec_l02Good (([] : List UInt8), ((wdsI t).getD k []) ++ (Array.toList (List.toArray [(42 : UInt8)])), ()) = some (gdW ((wdsI t).getD k [])) := spec_gd ht hW
    simp only [spec_AdmissibleWords_l0, e1, e2, e3, e4, e5, c0, cond_true, spec_l1' ht hk, Option.bind_some, hmap, c1, c2, c3, w64_succ (show k < 4611686018427387904 by omega), take_snocW hkl, kpW_snoc]
    cases hg : gdW ((wdsI t).getD k []) with
    | true => rw [if_pos rfl]; rfl
    | false => rw [if_neg (by simp)]; rfl) (by
    have c0 : decide (((2 ^ t : Nat) : Int) < ((2 ^ t : Nat) : Int)) = false := decide_eq_false (by omega)
    have : (wdsI t).take (2 ^ t) = wdsI t := by rw [← wds_len t, List.take_length]
    simp only [spec_AdmissibleWords_l0, e1, e2, e3, e5, c0, cond_true, cond_false, this]) 0 (Nat.zero_le _)
  exact this
end Go.K.Pure

/- Plain laws of sequences, part 26: sequences that are drawn. -/
set_option linter.all false
namespace Go.K.Pure
open Classical
def shW (w : Sq) (n : Nat) : Prop := w.1.length ≤ n ∧ w.2.1.length ≤ n
theorem star1_ok {s : Src} (hs : okR s) : ∃ w s', spec_l02Star1 s = some (w, s') ∧ okR s' ∧ shW w 64 := by
  unfold spec_l02Star1
  obtain ⟨n, s1, e1, o1, hn⟩ := pick_ok hs (xs := [(1 : Int), (2 : Int), (3 : Int), (4 : Int), (5 : Int), (6 : Int), (7 : Int), (9 : Int)]) (by simp) (by simp)
  rw [e1]
  simp only [Option.bind_some]
  have hn2 : 1 ≤ n ∧ n ≤ 9 := by
    simp only [List.mem_cons, List.not_mem_nil, or_false] at hn
    omega
  have hw : w64 (n - 1) = n - 1 := w64_id (by omega) (by omega)
  obtain ⟨r, l1, s2, word, rfl, o2, hl⟩ := loop_inv (step := spec_l02Star1_l0) (fun st => ∃ (s2 : Src) (word : List Int) (i : Nat), (i : Int) ≤ n - 1 ∧ st = (s2, (([] : List UInt8), ([] : List UInt8), ()), n, word, (i : Int), ()) ∧ okR s2 ∧ word.length = i)
    (fun st => (n - 1).toNat - st.2.2.2.2.1.toNat) (fun b => ∃ (s2 : Src) (word : List Int), b = (s2, (([] : List UInt8), ([] : List UInt8), ()), n, word, ()) ∧ okR s2 ∧ (word.length : Int) = n - 1) (by
    rintro _ ⟨s2, word, i, hi, rfl, o2, hl⟩
    by_cases c : (i : Int) < n - 1
    · right
      obtain ⟨r, s3, e2, o3, _⟩ := next_ok o2 2
      have c1 : decide ((word.length + [(wu8 (w64 ((48 : Int) + r)))].length) * 1 ≤ 140737488355328) = true := decide_eq_true (by simp only [List.length_cons, List.length_nil]; omega)
      exact ⟨(s3, (([] : List UInt8), ([] : List UInt8), ()), n, word ++ [(wu8 (w64 ((48 : Int) + r)))], ((i + 1 : Nat) : Int), ()), by simp only [spec_l02Star1_l0, hw, decide_eq_true c, cond_true, e2, Option.bind_some, c1, w64_succ (show i < 4611686018427387904 by omega)], ⟨s3, _, i + 1, by omega, rfl, o3, by simp [hl]⟩, by simp only [Int.toNat_natCast]; omega⟩
    · left
      exact ⟨_, by simp only [spec_l02Star1_l0, hw, decide_eq_false c, cond_false], s2, word, rfl, o2, by omega⟩) (s1, (([] : List UInt8), ([] : List UInt8), ()), n, [], (0 : Int), ()) ⟨s1, [], 0, by omega, rfl, o1, rfl⟩
  rw [l1]
  simp only [Option.bind_some]
  by_cases c : n > 1
  · rw [decide_eq_true c, cond_true]
    have hpos : 0 < word.length := by omega
    have c1 : (decide ((0 : Int) ≤ 0) && decide ((0 : Int) < ((word.length : Nat) : Int))) = true := inb (n := 0) hpos
    have c2 : decide (((word.set (0 : Int).toNat (49 : Int)).length + [(42 : Int)].length) * 1 ≤ 140737488355328) = true := decide_eq_true (by simp only [List.length_set, List.length_cons, List.length_nil]; omega)
    rw [c1, cond_true, c2, cond_true]
    exact ⟨_, _, rfl, o2, by simp [shW], by simp only [List.length_map, List.length_append, List.length_set, List.length_cons, List.length_nil]; omega⟩
  · rw [decide_eq_false c, cond_false]
    have c2 : decide ((word.length + [(42 : Int)].length) * 1 ≤ 140737488355328) = true := decide_eq_true (by simp only [List.length_cons, List.length_nil]; omega)
    rw [c2, cond_true]
    exact ⟨_, _, rfl, o2, by simp [shW], by simp only [List.length_map, List.length_append, List.length_cons, List.length_nil]; omega⟩
theorem letter_some {x : Ang} (h : isA x) (t : Ang) : ∃ c, spec_l02Letter x t = some c := by
  unfold spec_l02Letter
  rw [spec_dbl h]
  simp only [Option.bind_some]
  cases ((dbl x).1 == t.1) && (((dbl x).2.1 == t.2.1) && true) with
  | true => exact ⟨_, rfl⟩
  | false =>
    cases decide ((w64 ((w64 ((2 : Int) * t.2.1)) * x.1)) > (w64 (t.1 * x.2.1))) with
    | false => exact ⟨_, rfl⟩
    | true => cases decide ((w64 ((w64 ((2 : Int) * t.2.1)) * x.1)) < (w64 ((w64 (t.1 + t.2.1)) * x.2.1))) <;> exact ⟨_, rfl⟩
theorem itin_ok {x : Ang} (hx : isA x) (t : Ang) : ∃ w b, spec_l02Itinerary x t = some (w, b) ∧ shW w 64 := by
  unfold spec_l02Itinerary
  rw [ob_spec hx]
  simp only [Option.bind_some]
  cases hk : (ob x).2.2 with
  | false => exact ⟨_, _, rfl, by simp [shW]⟩
  | true =>
    obtain ⟨m, m1, m2, m3, m4, m5⟩ := ob_ok2 hx hk
    rw [m5]
    simp only [Bool.not_true, cond_false]
    have hlen : (orbL x m).length = m := orbL_len
    obtain ⟨r, l1, word, rfl, hl⟩ := loop_inv (step := spec_l02Itinerary_l0) (fun st => ∃ (word : List Int) (i : Nat), i ≤ m ∧ st = (t, (([] : List UInt8), ([] : List UInt8), ()), orbL x m, ((pre x : Nat) : Int), word, (i : Int), ()) ∧ word.length = i)
      (fun st => m - st.2.2.2.2.2.1.toNat) (fun b => ∃ word : List Int, b = ((([] : List UInt8), ([] : List UInt8), ()), ((pre x : Nat) : Int), word, ()) ∧ word.length = m) (by
      rintro _ ⟨word, i, hi, rfl, hl⟩
      by_cases c : i < m
      · right
        have c0 : i < (orbL x m).length := by rw [hlen]; exact c
        have e : (orbL x m).getD ((i : Int)).toNat (0, 0, ()) = dblN x i := orbL_at c
        obtain ⟨d, hd⟩ := letter_some (dblN_isA hx i) t
        have c1 : decide ((word.length + [d].length) * 1 ≤ 140737488355328) = true := decide_eq_true (by simp only [List.length_cons, List.length_nil]; omega)
        exact ⟨(t, (([] : List UInt8), ([] : List UInt8), ()), orbL x m, ((pre x : Nat) : Int), word ++ [d], ((i + 1 : Nat) : Int), ()), by simp only [spec_l02Itinerary_l0, ltb c0, nn, Bool.and_self, cond_true, e, hd, Option.bind_some, c1, w64_succ (show i < 4611686018427387904 by omega)], ⟨_, i + 1, by omega, rfl, by simp [hl]⟩, by simp only [Int.toNat_natCast]; omega⟩
      · left
        have : i = m := by omega
        subst this
        exact ⟨_, by simp only [spec_l02Itinerary_l0, hlen, nltb (Nat.lt_irrefl _), cond_false], word, rfl, hl⟩) (t, (([] : List UInt8), ([] : List UInt8), ()), orbL x m, ((pre x : Nat) : Int), [], (0 : Int), ()) ⟨[], 0, Nat.zero_le _, rfl, rfl⟩
    rw [l1]
    simp only [Option.bind_some]
    have q1 : ((pre x : Nat) : Int) ≤ ((word.length : Nat) : Int) := by rw [hl]; omega
    have q2 : (0 : Int) ≤ ((pre x : Nat) : Int) := Int.natCast_nonneg _
    have d1 : (((decide ((0 : Int) ≤ 0)) && (decide ((0 : Int) ≤ ((pre x : Nat) : Int)))) && (decide (((pre x : Nat) : Int) ≤ ((word.length : Nat) : Int)))) = true := by
      rw [decide_eq_true q1, decide_eq_true q2]; rfl
    have d2 : (((decide ((0 : Int) ≤ ((pre x : Nat) : Int))) && (decide (((pre x : Nat) : Int) ≤ ((word.length : Nat) : Int)))) && (decide (((word.length : Nat) : Int) ≤ ((word.length : Nat) : Int)))) = true := by
      rw [decide_eq_true q1, decide_eq_true q2, decide_eq_true (Int.le_refl _)]; rfl
    rw [d1, cond_true, d2, cond_true]
    obtain ⟨s, _, s2, _, s4, s5, _⟩ := canon_ok (pre := ((word.take ((pre x : Nat) : Int).toNat).drop (0 : Int).toNat).map (fun z5 => (UInt8.ofNat z5.toNat))) (per := ((word.take ((word.length : Nat) : Int).toNat).drop ((pre x : Nat) : Int).toNat).map (fun z6 => (UInt8.ofNat z6.toNat)))
      (by simp only [List.length_map, List.length_drop, List.length_take, Int.toNat_natCast]; omega) (by simp only [List.length_map, List.length_drop, List.length_take, Int.toNat_natCast]; omega) (by simp only [List.length_map, List.length_drop, List.length_take, Int.toNat_natCast]; omega)
    rw [s2]
    simp only [List.length_map, List.length_drop, List.length_take, Int.toNat_natCast] at s4 s5
    exact ⟨_, _, rfl, by omega, by omega⟩
/-- What comes behind a drawn sequence. -/
theorem tail_ok {w : Sq} {s : Src} (hs : okR s) (hw : shW w 64) : ∃ w' s', ((spec_l01Next s (40 : Int)).bind fun r2 =>
   bif (r2.1 == (0 : Int)) then
    some ((w.1, (Array.toList (List.toArray ([] : List UInt8))), w.2.2), r2.2)
   else bif (r2.1 == (1 : Int)) then
     bif (decide ((w.1.length + w.2.1.length) ≤ 1152921504606846976)) then
      some (((w.1 ++ w.2.1), w.2), r2.2)
     else none
    else bif (r2.1 == (2 : Int)) then
      bif (decide ((w.2.1.length + w.2.1.length) ≤ 1152921504606846976)) then
       some ((w.1, (w.2.1 ++ w.2.1), w.2.2), r2.2)
      else none
     else bif (r2.1 == (3 : Int)) then
       bif (decide (((Array.toList (List.toArray [(50 : UInt8)])).length + w.2.1.length) ≤ 1152921504606846976)) then
        some ((w.1, ((Array.toList (List.toArray [(50 : UInt8)])) ++ w.2.1), w.2.2), r2.2)
       else none
      else some (w, r2.2)) = some (w', s') ∧ okR s' ∧ shW w' 200 := by
  obtain ⟨r, s1, e1, o1, _⟩ := next_ok hs 40
  obtain ⟨h1, h2⟩ := hw
  rw [e1]
  simp only [Option.bind_some]
  have d1 : decide ((w.1.length + w.2.1.length) ≤ 1152921504606846976) = true := decide_eq_true (by omega)
  have d2 : decide ((w.2.1.length + w.2.1.length) ≤ 1152921504606846976) = true := decide_eq_true (by omega)
  have d3 : decide (((Array.toList (List.toArray [(50 : UInt8)])).length + w.2.1.length) ≤ 1152921504606846976) = true := decide_eq_true (by show 1 + w.2.1.length ≤ _; omega)
  rw [d1, d2, d3]
  simp only [cond_true]
  cases r == 0 with
  | true => exact ⟨_, _, rfl, o1, (show w.1.length ≤ 200 by omega), Nat.zero_le _⟩
  | false =>
  cases r == 1 with
  | true => exact ⟨_, _, rfl, o1, (show (w.1 ++ w.2.1).length ≤ 200 by rw [List.length_append]; omega), (show w.2.1.length ≤ 200 by omega)⟩
  | false =>
  cases r == 2 with
  | true => exact ⟨_, _, rfl, o1, (show w.1.length ≤ 200 by omega), by show (w.2.1 ++ w.2.1).length ≤ 200; rw [List.length_append]; omega⟩
  | false =>
  cases r == 3 with
  | true => exact ⟨_, _, rfl, o1, (show w.1.length ≤ 200 by omega), by show ([(50 : UInt8)] ++ w.2.1).length ≤ 200; rw [List.length_append]; simp; omega⟩
  | false => exact ⟨_, _, rfl, o1, by omega, by omega⟩
end Go.K.Pure

/- Plain laws of sequences, part 27: what the laws draw. -/
set_option linter.all false
namespace Go.K.Pure
open Classical
abbrev fv : List (List UInt8) := [(Array.toList (List.toArray [(48 : UInt8)])), (Array.toList (List.toArray [(49 : UInt8)])), (Array.toList (List.toArray [(48 : UInt8)])), (Array.toList (List.toArray [(49 : UInt8)])), (Array.toList (List.toArray [(42 : UInt8)]))]
theorem fv_len (j : Nat) : (fv.getD j []).length ≤ 1 := by
  rcases j with _ | _ | _ | _ | _ | j <;> simp [fv]
theorem draw_l0 {s : Src} (hs : okR s) {t2 out : Sq} {per : List UInt8} {k : Nat} (hk : k ≤ 10) : ∃ s' pre, loop spec_l02Draw_l0 (s, t2, out, (Array.toList (List.toArray ([] : List UInt8))), per, (k : Int), ()) = some (s', t2, out, pre, per, ()) ∧ okR s' ∧ pre.length ≤ 10 := by
  obtain ⟨r, l1, s', pre, rfl, o2, hl⟩ := loop_inv (step := spec_l02Draw_l0) (fun st => ∃ (s2 : Src) (pre : List UInt8) (i : Nat), st = (s2, t2, out, pre, per, (i : Int), ()) ∧ okR s2 ∧ pre.length + i ≤ k)
    (fun st => st.2.2.2.2.2.1.toNat) (fun b => ∃ (s2 : Src) (pre : List UInt8), b = (s2, t2, out, pre, per, ()) ∧ okR s2 ∧ pre.length ≤ 10) (by
    rintro _ ⟨s2, pre, i, rfl, o2, hl⟩
    by_cases c : 0 < i
    · right
      obtain ⟨r, s3, e2, o3, _, hr⟩ := next_ok o2 5
      obtain ⟨h5, h6⟩ := hr (by omega)
      have c0 : decide ((i : Int) > 0) = true := decide_eq_true (by omega)
      have c1 : (decide ((0 : Int) ≤ r) && decide (r < ((fv.length : Nat) : Int))) = true := by
        rw [decide_eq_true h5, decide_eq_true (show r < ((fv.length : Nat) : Int) from h6)]; rfl
      have hf := fv_len r.toNat
      have c2 : decide (pre.length + (fv.getD r.toNat ([] : List UInt8)).length ≤ 1152921504606846976) = true := decide_eq_true (by omega)
      exact ⟨(s3, t2, out, pre ++ fv.getD r.toNat [], per, ((i - 1 : Nat) : Int), ()), by simp only [spec_l02Draw_l0, c0, cond_true, e2, Option.bind_some, c1, c2, w64_pred (show i < 4611686018427387904 by omega) c], ⟨s3, _, i - 1, rfl, o3, by rw [List.length_append]; omega⟩, by simp only [Int.toNat_natCast]; omega⟩
    · left
      have : i = 0 := by omega
      subst this
      exact ⟨_, rfl, s2, pre, rfl, o2, by omega⟩) (s, t2, out, (Array.toList (List.toArray ([] : List UInt8))), per, (k : Int), ()) ⟨s, [], k, rfl, hs, by simp⟩
  exact ⟨s', pre, l1, o2, hl⟩
theorem draw_l1 {s : Src} (hs : okR s) {t2 out : Sq} {pre per0 : List UInt8} {k : Nat} (hk : k ≤ 10) (h0 : per0.length = 1) : ∃ s' per, loop spec_l02Draw_l1 (s, t2, out, pre, per0, (k : Int), ()) = some (s', t2, out, pre, per, ()) ∧ okR s' ∧ 0 < per.length ∧ per.length ≤ 11 := by
  obtain ⟨r, l1, s', per, rfl, o2, hl⟩ := loop_inv (step := spec_l02Draw_l1) (fun st => ∃ (s2 : Src) (per : List UInt8) (i : Nat), st = (s2, t2, out, pre, per, (i : Int), ()) ∧ okR s2 ∧ 0 < per.length ∧ per.length + i ≤ k + 1)
    (fun st => st.2.2.2.2.2.1.toNat) (fun b => ∃ (s2 : Src) (per : List UInt8), b = (s2, t2, out, pre, per, ()) ∧ okR s2 ∧ 0 < per.length ∧ per.length ≤ 11) (by
    rintro _ ⟨s2, per, i, rfl, o2, hl0, hl⟩
    by_cases c : 0 < i
    · right
      obtain ⟨r, s3, e2, o3, _, hr⟩ := next_ok o2 5
      obtain ⟨h5, h6⟩ := hr (by omega)
      have c0 : decide ((i : Int) > 0) = true := decide_eq_true (by omega)
      have c1 : (decide ((0 : Int) ≤ r) && decide (r < ((fv.length : Nat) : Int))) = true := by
        rw [decide_eq_true h5, decide_eq_true (show r < ((fv.length : Nat) : Int) from h6)]; rfl
      have hf := fv_len r.toNat
      have c2 : decide (per.length + (fv.getD r.toNat ([] : List UInt8)).length ≤ 1152921504606846976) = true := decide_eq_true (by omega)
      exact ⟨(s3, t2, out, pre, per ++ fv.getD r.toNat [], ((i - 1 : Nat) : Int), ()), by simp only [spec_l02Draw_l1, c0, cond_true, e2, Option.bind_some, c1, c2, w64_pred (show i < 4611686018427387904 by omega) c], ⟨s3, _, i - 1, rfl, o3, by rw [List.length_append]; omega, by rw [List.length_append]; omega⟩, by simp only [Int.toNat_natCast]; omega⟩
    · left
      have : i = 0 := by omega
      subst this
      exact ⟨_, rfl, s2, per, rfl, o2, hl0, by omega⟩) (s, t2, out, pre, per0, (k : Int), ()) ⟨s, per0, k, rfl, hs, by omega, by omega⟩
  exact ⟨s', per, l1, o2, hl⟩
theorem draw2_ok {s : Src} (hs : okR s) : ∃ w s', spec_l02Draw s = some (w, s') ∧ okR s' ∧ shW w 200 := by
  unfold spec_l02Draw
  obtain ⟨r, s1, e1, o1, _⟩ := next_ok hs 4
  rw [e1]
  simp only [Option.bind_some]
  cases r == 0 with
  | true =>
    obtain ⟨w, s2, e2, o2, h2⟩ := star1_ok o1
    simp only [cond_true, e2, Option.bind_some]
    exact tail_ok o2 h2
  | false =>
  simp only [cond_false]
  cases r == 1 with
  | true =>
    obtain ⟨t, s2, e2, a2, o2⟩ := draw_ok o1
    obtain ⟨x, s3, e3, a3, o3⟩ := draw_ok o2
    obtain ⟨w, b, e4, h4⟩ := itin_ok a3 t
    simp only [cond_true, e2, e3, e4, Option.bind_some]
    cases b with
    | true => exact tail_ok o3 h4
    | false =>
      obtain ⟨w, s4, e5, o5, h5⟩ := star1_ok o3
      simp only [cond_false, e5, Option.bind_some]
      exact tail_ok o5 h5
  | false =>
  simp only [cond_false]
  cases r == 2 with
  | true =>
    obtain ⟨t, s2, e2, a2, o2⟩ := draw_ok o1
    obtain ⟨w, b, e4, h4⟩ := itin_ok a2 t
    simp only [cond_true, e2, e4, Option.bind_some]
    cases b with
    | true => exact tail_ok o2 h4
    | false =>
      obtain ⟨w, s4, e5, o5, h5⟩ := star1_ok o2
      simp only [cond_false, e5, Option.bind_some]
      exact tail_ok o5 h5
  | false =>
  simp only [cond_false]
  obtain ⟨r2, s2, e2, o2, _, hr2⟩ := next_ok o1 3
  obtain ⟨g1, g2⟩ := hr2 (by omega)
  have hr : r2 = 0 ∨ r2 = 1 ∨ r2 = 2 := by omega
  have c1 : (decide ((0 : Int) ≤ r2) && decide (r2 < ((([(Array.toList (List.toArray [(48 : UInt8)])), (Array.toList (List.toArray [(49 : UInt8)])), (Array.toList (List.toArray [(42 : UInt8)]))] : List (List UInt8)).length : Nat) : Int))) = true := by
    rcases hr with rfl | rfl | rfl <;> rfl
  have hl : (([(Array.toList (List.toArray [(48 : UInt8)])), (Array.toList (List.toArray [(49 : UInt8)])), (Array.toList (List.toArray [(42 : UInt8)]))] : List (List UInt8)).getD r2.toNat []).length = 1 := by
    rcases hr with rfl | rfl | rfl <;> rfl
  obtain ⟨r3, s3, e3, o3, _, hr3⟩ := next_ok o2 4
  obtain ⟨g3, g4⟩ := hr3 (by omega)
  obtain ⟨k3, rfl⟩ := Int.eq_ofNat_of_zero_le g3
  obtain ⟨s4, pre, l4, o4, h4⟩ := draw_l0 o3 (t2 := (([] : List UInt8), ([] : List UInt8), ())) (out := (([] : List UInt8), ([] : List UInt8), ())) (per := ([(Array.toList (List.toArray [(48 : UInt8)])), (Array.toList (List.toArray [(49 : UInt8)])), (Array.toList (List.toArray [(42 : UInt8)]))] : List (List UInt8)).getD r2.toNat []) (k := k3) (by omega)
  obtain ⟨r5, s5, e5, o5, _, hr5⟩ := next_ok o4 6
  obtain ⟨g5, g6⟩ := hr5 (by omega)
  obtain ⟨k5, rfl⟩ := Int.eq_ofNat_of_zero_le g5
  obtain ⟨s6, per, l6, o6, h6, h7⟩ := draw_l1 o5 (t2 := (([] : List UInt8), ([] : List UInt8), ())) (out := (([] : List UInt8), ([] : List UInt8), ())) (pre := pre) (k := k5) (by omega) hl
  obtain ⟨w, _, e7, _, h8, h9, _⟩ := canon_ok (pre := pre) (per := per) h6 (by omega) (by omega)
  simp only [e2, Option.bind_some, c1, cond_true, e3, l4, e5, l6, e7]
  exact tail_ok o6 ⟨by omega, by omega⟩
theorem drawStar_ok {code : List Int} (hl : code.length ≤ 4096) (hc : ∀ c ∈ code, 0 ≤ c ∧ c < 256) : ∃ w, spec_DrawIsStarPeriodic code = some w ∧ shW w 200 := by
  unfold spec_DrawIsStarPeriodic
  obtain ⟨s, e1, o1⟩ := from_ok hl hc
  obtain ⟨w, s2, e2, _, h2⟩ := draw2_ok o1
  simp only [e1, e2, Option.bind_some]
  exact ⟨w, rfl, h2⟩
theorem drawFails_ok {code : List Int} (hl : code.length ≤ 4096) (hc : ∀ c ∈ code, 0 ≤ c ∧ c < 256) : ∃ w m, spec_DrawFailsFor code = some (w, m) ∧ shW w 200 := by
  unfold spec_DrawFailsFor
  obtain ⟨s, e1, o1⟩ := from_ok hl hc
  obtain ⟨w, s2, e2, o2, h2⟩ := star1_ok o1
  obtain ⟨r, s3, e3, o3, _⟩ := next_ok o2 8
  have z : (!((11 : Int) == (0 : Int))) = true := rfl
  simp only [e1, e2, e3, Option.bind_some, z, cond_true]
  cases r == 0 with
  | true =>
    obtain ⟨w', s4, e4, o4, h4⟩ := draw2_ok o3
    obtain ⟨r5, s5, e5, o5, _⟩ := next_ok o4 ((w'.2.1.length : Nat) : Int)
    obtain ⟨r6, s6, e6, o6, _⟩ := next_ok o5 12
    simp only [cond_true, e4, e5, e6, Option.bind_some]
    exact ⟨_, _, rfl, h4⟩
  | false =>
    obtain ⟨r5, s5, e5, o5, _⟩ := next_ok o3 ((w.2.1.length : Nat) : Int)
    obtain ⟨r6, s6, e6, o6, _⟩ := next_ok o5 12
    simp only [cond_false, e5, e6, Option.bind_some]
    exact ⟨_, _, rfl, (show w.1.length ≤ 200 from Nat.le_trans h2.1 (by omega)), (show w.2.1.length ≤ 200 from Nat.le_trans h2.2 (by omega))⟩
theorem drawAdm_ok {code : List Int} (hl : code.length ≤ 4096) (hc : ∀ c ∈ code, 0 ≤ c ∧ c < 256) : ∃ w, spec_DrawIsAdmissible code = some w ∧ shW w 200 := by
  unfold spec_DrawIsAdmissible
  obtain ⟨s, e1, o1⟩ := from_ok hl hc
  obtain ⟨r, s2, e2, o2, _⟩ := next_ok o1 6
  simp only [e1, e2, Option.bind_some]
  cases r == 0 with
  | true =>
    obtain ⟨r3, s3, e3, o3, _, h3⟩ := next_ok o2 5
    obtain ⟨g1, g2⟩ := h3 (by omega)
    simp only [cond_true, e3, Option.bind_some]
    have hr : r3 = 0 ∨ r3 = 1 ∨ r3 = 2 ∨ r3 = 3 ∨ r3 = 4 := by omega
    rcases hr with rfl | rfl | rfl | rfl | rfl <;> exact ⟨_, rfl, by simp [shW]⟩
  | false =>
    obtain ⟨w, m, e3, h3⟩ := drawFails_ok hl hc
    simp only [cond_false, e3, Option.bind_some]
    exact ⟨w, rfl, h3⟩
theorem drawWords_ok {code : List Int} (hl : code.length ≤ 4096) (hc : ∀ c ∈ code, 0 ≤ c ∧ c < 256) : ∃ n : Int, spec_DrawAdmissibleWords code = some n := by
  unfold spec_DrawAdmissibleWords
  obtain ⟨s, e1, o1⟩ := from_ok hl hc
  obtain ⟨r, s2, e2, o2, _⟩ := next_ok o1 9
  obtain ⟨r3, s3, e3, o3, _⟩ := next_ok o1 40
  have z : (!((39 : Int) == (0 : Int))) = true := rfl
  simp only [e1, e2, e3, Option.bind_some, z, cond_true]
  exact ⟨_, rfl⟩
end Go.K.Pure

/- Plain laws of sequences, part 28: the lists of admissible words are the same. -/
set_option linter.all false
namespace Go.K.Pure
open Classical
theorem words_same (n : Int) : ∃ r : List (List UInt8) × Int, impl_AdmissibleWords n = some r ∧ spec_AdmissibleWords n = some r ∧ r.1.length ≤ 256 ∧ (r.2 = 0 → 1 ≤ n ∧ n ≤ 10) ∧ ∀ t : Nat, t ≤ 8 → n = ((t + 2 : Nat) : Int) → r = (kpW (wdsI t), 0) := by
  unfold impl_AdmissibleWords spec_AdmissibleWords
  rw [impl_in, spec_in]
  by_cases h : 1 ≤ n ∧ n ≤ 10
  rotate_left
  · rw [decide_eq_false h]
    exact ⟨_, rfl, rfl, by simp, fun h2 => absurd h2 (by decide), fun t ht e => absurd ⟨by omega, by omega⟩ h⟩
  rw [decide_eq_true h]
  simp only [Option.bind_some, Bool.not_true, cond_false]
  by_cases h1 : n = 1
  · subst h1
    have e1 : w64 ((1 : Int) - 2) = -1 := w64_id (by omega) (by omega)
    have l0 : loop impl_AdmissibleWords_l0 ((1 : Int), [(Array.toList (List.toArray [(49 : UInt8)]))], w64 ((1 : Int) - 2), (0 : Int), ()) = some ((1 : Int), [(Array.toList (List.toArray [(49 : UInt8)]))], ()) := by
      rw [e1, loop_eq]; rfl
    have hT : isT (([] : List UInt8), [42], ()) := ⟨rfl, by decide, rfl, fun i hi => by simp at hi, fun h => by simp at h⟩
    have hg := impl_good hT (by decide)
    have hg2 : goodW (nw (([] : List UInt8), [42], ())) = true := rfl
    rw [hg2] at hg
    have l2 : loop impl_AdmissibleWords_l2 ([(Array.toList (List.toArray ([] : List UInt8)))], ([] : List (List UInt8)), (([(Array.toList (List.toArray ([] : List UInt8)))].length : Nat) : Int), (0 : Int), ()) = some ([[42]], ()) := by
      have s1 : impl_AdmissibleWords_l2 ([(Array.toList (List.toArray ([] : List UInt8)))], ([] : List (List UInt8)), (([(Array.toList (List.toArray ([] : List UInt8)))].length : Nat) : Int), (0 : Int), ()) = some (.next ([([] : List UInt8)], [[42]], 1, 1, ())) := by
        have hg' : impl_Sequence_isAdmissible ((Array.toList (List.toArray ([] : List UInt8))), ([(Array.toList (List.toArray ([] : List UInt8)))].getD (0 : Int).toNat ([] : List UInt8)) ++ (Array.toList (List.toArray [(42 : UInt8)])), ()) = some true := hg
        simp only [impl_AdmissibleWords_l2, hg', Option.bind_some]
        rfl
      rw [loop_eq, s1]
      simp only
      rw [loop_eq]
      rfl
    rw [l0]
    simp only [Option.bind_some, l2]
    exact ⟨_, rfl, rfl, by simp, (fun _ => by omega), (fun t ht e => by omega)⟩
  · obtain ⟨t, ht, rfl⟩ : ∃ t : Nat, t ≤ 8 ∧ n = ((t + 2 : Nat) : Int) := ⟨(n - 2).toNat, by omega, by omega⟩
    have e1 : w64 (((t + 2 : Nat) : Int) - 2) = (t : Int) := by rw [w64_id (by omega) (by omega)]; omega
    have c1 : (((t + 2 : Nat) : Int) == (1 : Int)) = false := beq_eq_false_iff_ne.2 h1
    have hlen := wds_len t
    have hp := pow_le8 ht
    rw [e1, impl_l0 ht]
    simp only [Option.bind_some, c1, cond_false, impl_l2 ht (show (wdsI t).length ≤ 1000 by omega) (wds_ok t), spec_l0' ht]
    refine ⟨_, rfl, rfl, Nat.le_trans kpW_len (by omega), fun _ => h, fun t' ht' e => ?_⟩
    have : t' = t := by omega
    subst this
    rfl
theorem texts_same {T : List (List UInt8)} (h : T.length ≤ 1000000) : laws_texts9 T T = some true := by
  unfold laws_texts9
  simp only [bne_self_eq_false, cond_false]
  have := loop_count (step := laws_texts9_l0) (fun n => (T, T, (n : Int), ())) T.length (.inr ()) (by
    intro n hn
    simp only [laws_texts9_l0, ltb hn, nn, Bool.and_self, cond_true, Int.toNat_natCast, beq_self_eq_true, Bool.not_true, bne_self_eq_false, cond_false]
    rw [w64_succ (by omega)]) (by simp only [laws_texts9_l0, nltb (Nat.lt_irrefl T.length), cond_false]) 0 (Nat.zero_le _)
  have t2 : loop laws_texts9_l0 (T, T, (0 : Int), ()) = some (.inr ()) := this
  rw [t2]
  rfl
end Go.K.Pure

/- Plain laws of sequences, part 29: kneading sequences of pairs and admissible words. -/
set_option linter.all false
namespace Go.K.Pure
open Classical
theorem bits_eq : ∀ t, bitsW t = (wdsI t).map (List.map UInt8.toNat)
  | 0 => rfl
  | t + 1 => by
    rw [bitsW, wdsI, bits_eq t, List.flatMap_map, List.map_flatMap]
    congr 1
    funext w
    simp
theorem adm_eq (n : Nat) : admW n = (kpW (wdsI (n - 2))).map (List.map UInt8.toNat) := by
  unfold admW kpW
  rw [bits_eq, List.map_map, List.filter_map, List.map_map]
  have e : (goodW ∘ ((fun w : List Nat => w ++ [42]) ∘ List.map UInt8.toNat)) = gdW := by
    funext w
    show goodW (w.map UInt8.toNat ++ [42]) = goodW ((w ++ [42]).map UInt8.toNat)
    rw [List.map_append]; rfl
  have e2 : ((fun w : List Nat => w ++ [42]) ∘ List.map UInt8.toNat) = (List.map UInt8.toNat ∘ fun w : List UInt8 => w ++ [42]) := by
    funext w
    show w.map UInt8.toNat ++ [42] = (w ++ [42]).map UInt8.toNat
    rw [List.map_append]; rfl
  rw [e, e2]
theorem pairsN_eq {n : Nat} (h2 : 2 ≤ n) (h8 : n ≤ 8) : pairsN n = NP n := by
  unfold pairsN NP
  rw [UP_eq h8, UP_eq (by omega)]
theorem toNat_inj {u v : List UInt8} (h : u.map UInt8.toNat = v.map UInt8.toNat) : u = v := by
  have := congrArg (List.map UInt8.ofNat) h
  simpa [List.map_map, Function.comp_def] using this
theorem kn_word {n : Nat} (h2 : 2 ≤ n) (h8 : n ≤ 8) {p : Nat × Nat} (hp : p ∈ NP n) : (knW (aP p).1 n).map UInt8.toNat = knN p.1 n p.1 := by
  have hU : p ∈ UP n := (UP_mem h8 p).2 ⟨n, h2, by omega, hp⟩
  obtain ⟨⟨a1, a2, a3⟩, _, _⟩ := (UP_ok h8).1 p hU
  have ha : isN (aP p).1 p.1 := ⟨a2, a1, a3⟩
  rw [knN_eq]
  unfold knW tab
  rw [List.map_map]
  refine List.map_congr_left fun k hk => ?_
  show (UInt8.ofNat (ltV (dblN (aP p).1 k) (aP p).1).toNat).toNat = ltN (itN k p.1) p.1
  rw [ltV_eq (ha.dblN k) ha, Int.toNat_natCast]
  unfold ltN
  split
  · rfl
  · split <;> rfl
theorem has_mem {l : List (List Nat)} {w : List Nat} (h : hasW l w = true) : w ∈ l := by
  unfold hasW at h
  obtain ⟨v, hv, e⟩ := List.any_eq_true.1 h
  rw [← samN_eq e]; exact hv
theorem chk_at {n : Nat} (h2 : 2 ≤ n) (h6 : n ≤ 6) : chkW n = true := by
  have h := chk_all
  simp only [Bool.and_eq_true] at h
  obtain ⟨a, b, c, d, e⟩ := h
  have : n = 2 ∨ n = 3 ∨ n = 4 ∨ n = 5 ∨ n = 6 := by omega
  rcases this with rfl | rfl | rfl | rfl | rfl <;> assumption
/-- The words of pairs are admissible, and for small periods all admissible words are words of pairs. -/
theorem words_pairs {n : Nat} (h2 : 2 ≤ n) (h6 : n ≤ 6) : (∀ p ∈ NP n, knW (aP p).1 n ∈ kpW (wdsI (n - 2))) ∧ (n < 6 → ∀ w ∈ kpW (wdsI (n - 2)), ∃ p ∈ NP n, knW (aP p).1 n = w) := by
  have h := chk_at h2 h6
  unfold chkW at h
  rw [Bool.and_eq_true, pairsN_eq h2 (by omega), adm_eq] at h
  obtain ⟨a, b⟩ := h
  constructor
  · intro p hp
    have := has_mem (List.all_eq_true.1 a p hp)
    rw [← kn_word h2 (by omega) hp] at this
    obtain ⟨w, hw, e⟩ := List.mem_map.1 this
    rw [← toNat_inj e]; exact hw
  · intro hn w hw
    rw [nb_ne (by omega), Bool.false_or] at b
    have := List.all_eq_true.1 b _ (List.mem_map.2 ⟨w, hw, rfl⟩)
    obtain ⟨p, hp, e⟩ := List.any_eq_true.1 this
    have e2 := samN_eq e
    rw [← kn_word h2 (by omega) hp] at e2
    exact ⟨p, hp, toNat_inj e2⟩
/-- What is star-periodic is drawn together. -/
theorem isT_canon {s : Sq} (h : isT s) : canon s := by
  have hne := h.ne
  refine ⟨hne, fun j h1 hj hd => ?_, fun h0 => by rw [h.pre] at h0; simp at h0⟩
  obtain ⟨d1, d2⟩ := hd
  have hr := (rep_iff h1 (by omega) d1).1 d2 (s.2.1.length - 1) (by
    obtain ⟨c, hc⟩ := d1
    have : 2 ≤ c := by
      rcases Nat.lt_or_ge c 2 with h3 | h3
      · have : c = 0 ∨ c = 1 := by omega
        rcases this with rfl | rfl
        · rw [Nat.mul_zero] at hc; omega
        · rw [Nat.mul_one] at hc; omega
      · exact h3
    have : j * 2 ≤ j * c := Nat.mul_le_mul_left j this
    omega) (by omega)
  rw [h.last] at hr
  exact h.no (s.2.1.length - 1 - j) (by omega) hr.symm
theorem knead_word {n : Nat} (h2 : 2 ≤ n) (h6 : n ≤ 6) {p : Nat × Nat} (hp : p ∈ NP n) : impl_KneadingOf (aP p).1 = some ((([] : List UInt8), knW (aP p).1 n, ()), 0) := by
  obtain ⟨g1, g2⟩ := NP_PP h2 (by omega) (List.mem_map.2 ⟨p, hp, rfl⟩)
  have hw := (words_pairs h2 h6).1 p hp
  obtain ⟨v, hv, e⟩ := List.mem_map.1 hw
  have hW := wds_ok (n - 2) v (List.mem_filter.1 hv).1
  have hT := hW.star
  rw [e] at hT
  have hl : (knW (aP p).1 n).length = n := tab_len
  have hc := canon_self (isT_canon hT) (by simp) (by show (knW (aP p).1 n).length ≤ 100000; omega)
  obtain ⟨s, s1, s2⟩ := knead_some g1.a
  have s3 : impl_sequence [] (knW (aP p).1 n) = some (([] : List UInt8), knW (aP p).1 n, ()) := hc
  rw [s2] at s3
  rw [s1, Option.some.inj s3]
end Go.K.Pure

/- Plain laws of sequences, part 30: the law of admissible sequences. -/
set_option linter.all false
namespace Go.K.Pure
open Classical
theorem pairs_np {n : Nat} (h2 : 2 ≤ n) (h8 : n ≤ 8) : impl_PairsOfPeriod (n : Int) = some ((NP n).map aP, 0) := by
  unfold impl_PairsOfPeriod impl_isPeriod
  rw [impl_in]
  obtain ⟨y1, y2, y3⟩ := YS_ok h2 h8
  rw [decide_eq_true (show (2 : Int) ≤ (n : Int) ∧ (n : Int) ≤ 8 by omega)]
  simp only [Option.bind_some, Bool.not_true, cond_false, y1]
  rw [YS_eq h2 h8]
theorem fails_at {s : Sq} (h1 : isS s) (h2 : isT s) {k : Nat} (hk : 1 ≤ k) (hk2 : k < s.2.1.length) : impl_FailsFor s (k : Int) = some (failW (nw s) k, 0) := by
  have hle := h1.le
  obtain ⟨r, e1, _, e3⟩ := fails_same' (s := s) (m := (k : Int)) (by omega) (by omega)
  rw [e1, e3 h1 h2 (by omega) (by omega), Int.toNat_natCast]
def acc (s : Sq) (i : Nat) : Bool := (List.range i).all fun j => !failW (nw s) (j + 1)
theorem acc_succ {s : Sq} {i : Nat} : acc s (i + 1) = (acc s i && !failW (nw s) (i + 1)) := by
  unfold acc
  rw [List.range_succ, List.all_append]
  simp
theorem acc_good {s : Sq} (hT : isT s) (h2 : s.2.1.length ≤ 64) : acc s (s.2.1.length - 1) = goodW (nw s) := by
  have h := good_iff hT h2
  cases hg : goodW (nw s) with
  | true =>
    unfold acc
    rw [List.all_eq_true]
    intro j hj
    have hj' := List.mem_range.1 hj
    cases hf : failW (nw s) (j + 1) with
    | false => rfl
    | true => exact absurd ⟨j, hj', hf⟩ (h.1 hg)
  | false =>
    rw [← Bool.not_eq_true] at hg ⊢
    intro ha
    refine hg (h.2 fun ⟨j, hj, hf⟩ => ?_)
    unfold acc at ha
    rw [List.all_eq_true] at ha
    have := ha j (List.mem_range.2 hj)
    rw [hf] at this; cases this
theorem all_l0 {s : Sq} (h1 : isS s) (h2 : isT s) {good : Bool} {n four : Int} {W : List (List UInt8)} : loop laws_FnAdmissible_l0 (s, good, n, W, four, true, (1 : Int), ()) = some (.inr (good, n, W, four, goodW (nw s), ())) := by
  have hle := h1.le
  have hne := h1.ne
  have := loop_count (step := laws_FnAdmissible_l0) (fun i => (s, good, n, W, four, acc s i, ((i + 1 : Nat) : Int), ())) (s.2.1.length - 1) (.inr (good, n, W, four, goodW (nw s), ())) (by
    intro i hi
    have c1 : decide (((i + 1 : Nat) : Int) < ((s.2.1.length : Nat) : Int)) = true := decide_eq_true (by omega)
    have e0 : ((0 : Int) != 0) = false := rfl
    simp only [laws_FnAdmissible_l0, c1, cond_true, fails_at h1 h2 (k := i + 1) (by omega) (by omega), Option.bind_some, e0, cond_false, w64_succ (show i + 1 < 4611686018427387904 by omega), acc_succ]
    cases acc s i <;> rfl) (by
    have c1 : decide (((s.2.1.length - 1 + 1 : Nat) : Int) < ((s.2.1.length : Nat) : Int)) = false := decide_eq_false (by omega)
    simp only [laws_FnAdmissible_l0, c1, cond_false, acc_good h2 (show s.2.1.length ≤ 64 by omega)]) 0 (Nat.zero_le _)
  exact this
section
variable {W : List (List UInt8)} {L : List Pr} {wd : Nat → List UInt8} {n : Int} (hW : W.length ≤ 1000) (hL : L.length ≤ 10000)
include hW hL
def metP (W : List (List UInt8)) (wd : Nat → List UInt8) (i q : Nat) : Prop := ∃ j, j < i ∧ wd j = W.getD q []
def fdP (W : List (List UInt8)) (x : List UInt8) (k : Nat) : Prop := ∃ q, q < k ∧ x = W.getD q []
noncomputable def metT (W : List (List UInt8)) (wd : Nat → List UInt8) (i : Nat) : List Bool := tab (fun q => decide (metP W wd i q)) W.length
theorem met_succ {i q : Nat} : metP W wd (i + 1) q ↔ metP W wd i q ∨ wd i = W.getD q [] := by
  constructor
  · rintro ⟨j, hj, e⟩
    rcases Nat.lt_or_ge j i with c | c
    · exact .inl ⟨j, c, e⟩
    · have : j = i := by omega
      subst this; exact .inr e
  · rintro (⟨j, hj, e⟩ | e)
    · exact ⟨j, by omega, e⟩
    · exact ⟨i, by omega, e⟩
theorem met_l2 {i : Nat} : loop laws_FnAdmissible_l2 (n, W, L, metT W wd i, (i : Int), (([] : List UInt8), wd i, ()), (0 : Int), false, (0 : Int), ()) = some (n, W, L, metT W wd (i + 1), (i : Int), (0 : Int), decide (wd i ∈ W), ()) := by
  have hmem : fdP W (wd i) W.length ↔ wd i ∈ W := by
    constructor
    · rintro ⟨q, hq, e⟩; rw [e, getD_at hq]; exact List.getElem_mem hq
    · intro h
      obtain ⟨q, hq, e⟩ := List.getElem_of_mem h
      exact ⟨q, hq, by rw [getD_at hq]; exact e.symm⟩
  have := loop_count (step := laws_FnAdmissible_l2) (fun k => (n, W, L, tab (fun q => if q < k then decide (metP W wd (i + 1) q) else decide (metP W wd i q)) W.length, (i : Int), (([] : List UInt8), wd i, ()), (0 : Int), decide (fdP W (wd i) k), (k : Int), ())) W.length (n, W, L, metT W wd (i + 1), (i : Int), (0 : Int), decide (wd i ∈ W), ()) (by
    intro k hk
    have e0 : ((([] : List UInt8), wd i, ()) : Sq).1 = [] := rfl
    have z : (([] : List UInt8) == (Array.toList (List.toArray ([] : List UInt8)))) = true := rfl
    simp only [laws_FnAdmissible_l2, ltb hk, tab_len, nn, Bool.and_self, cond_true, z, Int.toNat_natCast, w64_succ (show k < 4611686018427387904 by omega)]
    by_cases c : wd i = W.getD k []
    · rw [show (wd i == W.getD k []) = true from beq_iff_eq.2 c, cond_true, tab_set hk]
      have d : decide (fdP W (wd i) (k + 1)) = true := decide_eq_true ⟨k, by omega, c⟩
      have ht : tab (fun q => if q = k then true else if q < k then decide (metP W wd (i + 1) q) else decide (metP W wd i q)) W.length = tab (fun q => if q < k + 1 then decide (metP W wd (i + 1) q) else decide (metP W wd i q)) W.length := by
        refine tab_ext fun q hq => ?_
        by_cases e : q = k
        · subst e
          rw [if_pos rfl, if_pos (by omega), decide_eq_true ((met_succ hW hL).2 (.inr c))]
        · rw [if_neg e]
          by_cases e2 : q < k
          · rw [if_pos e2, if_pos (by omega)]
          · rw [if_neg e2, if_neg (by omega)]
      rw [d, ht]
    · rw [show (wd i == W.getD k []) = false from beq_eq_false_iff_ne.2 c, cond_false]
      have d : fdP W (wd i) (k + 1) ↔ fdP W (wd i) k := by
        constructor
        · rintro ⟨q, hq, e⟩
          rcases Nat.lt_or_ge q k with h | h
          · exact ⟨q, h, e⟩
          · have : q = k := by omega
            subst this; exact absurd e c
        · rintro ⟨q, hq, e⟩; exact ⟨q, by omega, e⟩
      have ht : tab (fun q => if q < k + 1 then decide (metP W wd (i + 1) q) else decide (metP W wd i q)) W.length = tab (fun q => if q < k then decide (metP W wd (i + 1) q) else decide (metP W wd i q)) W.length := by
        refine tab_ext fun q hq => ?_
        by_cases e : q = k
        · subst e
          rw [if_pos (by omega), if_neg (by omega)]
          exact decide_eq_decide.2 ((met_succ hW hL).trans ⟨fun h => h.resolve_right c, .inl⟩)
        · by_cases e2 : q < k
          · rw [if_pos e2, if_pos (by omega)]
          · rw [if_neg e2, if_neg (by omega)]
      rw [ht, decide_eq_decide.2 d]) (by
    have ht : tab (fun q => if q < W.length then decide (metP W wd (i + 1) q) else decide (metP W wd i q)) W.length = metT W wd (i + 1) := tab_ext fun q hq => if_pos hq
    simp only [laws_FnAdmissible_l2, nltb (Nat.lt_irrefl _), cond_false, ht, decide_eq_decide.2 hmem]) 0 (Nat.zero_le _)
  have h0 : tab (fun q => if q < 0 then decide (metP W wd (i + 1) q) else decide (metP W wd i q)) W.length = metT W wd i := tab_ext fun q hq => if_neg (Nat.not_lt_zero q)
  have h1 : decide (fdP W (wd i) 0) = false := decide_eq_false (fun ⟨q, hq, _⟩ => Nat.not_lt_zero q hq)
  rw [h0, h1] at this
  exact this
theorem met_l1 (hk : ∀ i, i < L.length → impl_KneadingOf (L.getD i (((0 : Int), (0 : Int), ()), ((0 : Int), (0 : Int), ()), ())).1 = some ((([] : List UInt8), wd i, ()), 0)) (hw : ∀ i, i < L.length → wd i ∈ W) :
    loop laws_FnAdmissible_l1 (n, W, L, List.replicate W.length false, (0 : Int), ()) = some (.inr (n, metT W wd L.length, ())) := by
  have := loop_count (step := laws_FnAdmissible_l1) (fun i => (n, W, L, metT W wd i, (i : Int), ())) L.length (.inr (n, metT W wd L.length, ())) (by
    intro i hi
    have e0 : ((0 : Int) != 0) = false := rfl
    simp only [laws_FnAdmissible_l1, ltb hi, nn, Bool.and_self, cond_true, Int.toNat_natCast, hk i hi, Option.bind_some, met_l2 hW hL, e0, cond_false, decide_eq_true (hw i hi), Bool.not_true, w64_succ (show i < 4611686018427387904 by omega)]) (by simp only [laws_FnAdmissible_l1, nltb (Nat.lt_irrefl _), cond_false]) 0 (Nat.zero_le _)
  have h0 : metT W wd 0 = List.replicate W.length false := by
    rw [tab_rep]
    exact tab_ext fun q hq => decide_eq_false (fun ⟨j, hj, _⟩ => Nat.not_lt_zero j hj)
  rw [h0] at this
  exact this
theorem met_l3 {i : Nat} (h : n < 6 → ∀ q, q < W.length → metP W wd i q) : loop laws_FnAdmissible_l3 (n, metT W wd i, (0 : Int), ()) = some (.inr ()) := by
  have hl : (metT W wd i).length = W.length := tab_len
  have := loop_count (step := laws_FnAdmissible_l3) (fun k => (n, metT W wd i, (k : Int), ())) W.length (.inr ()) (by
    intro k hk
    have e : (metT W wd i).getD k false = decide (metP W wd i k) := tab_at hk
    simp only [laws_FnAdmissible_l3, hl, ltb hk, nn, Bool.and_self, cond_true, Int.toNat_natCast, e, w64_succ (show k < 4611686018427387904 by omega)]
    by_cases c : metP W wd i k
    · rw [decide_eq_true c]; rfl
    · rw [decide_eq_false c, decide_eq_false (fun hn : n < 6 => c (h hn k hk))]; rfl) (by simp only [laws_FnAdmissible_l3, hl, nltb (Nat.lt_irrefl _), cond_false]) 0 (Nat.zero_le _)
  exact this
end
/-- What comes last. -/
theorem rest_ok {n : Int} {W : List (List UInt8)} {c : Int} (hl : W.length ≤ 256) (hw : ∀ t : Nat, t ≤ 8 → n = ((t + 2 : Nat) : Int) → W = kpW (wdsI t)) :
    (bif (c != (0 : Int)) then
             some (true)
            else bif (decide (n < (2 : Int))) then
              some (true)
             else bif (decide (n > (6 : Int))) then
               some (true)
              else (impl_PairsOfPeriod n).bind fun r24 =>
               bif (r24.2 != (0 : Int)) then
                some (false)
               else bif (((decide ((0 : Int) ≤ ((W.length : Nat) : Int))) && (decide (((W.length : Nat) : Int) ≤ ((W.length : Nat) : Int)))) && (decide ((((W.length : Nat) : Int) * ((1 : Nat) : Int)) ≤ (140737488355328 : Int)))) then
                 (loop laws_FnAdmissible_l1 (n, W, r24.1, (List.replicate ((W.length : Nat) : Int).toNat false), (0 : Int), ())).bind fun r25 =>
                 alt r25 (fun r26 =>
                  some (r26.1))
                  (fun r27 =>
                  (loop laws_FnAdmissible_l3 (r27.1, r27.2.1, (0 : Int), ())).bind fun r28 =>
                  alt r28 (fun r29 =>
                   some (r29.1))
                   (fun r30 =>
                   some (true)))
                else none) = some true := by
  cases hc : c != 0 with
  | true => rfl
  | false =>
  simp only [cond_false]
  by_cases h2 : n < 2
  · rw [decide_eq_true h2]; rfl
  rw [decide_eq_false h2]
  by_cases h6 : n > 6
  · rw [decide_eq_true h6]; rfl
  rw [decide_eq_false h6]
  obtain ⟨m, rfl⟩ : ∃ m : Nat, n = (m : Int) := ⟨n.toNat, by omega⟩
  have m2 : 2 ≤ m := by omega
  have m6 : m ≤ 6 := by omega
  have hWe := hw (m - 2) (by omega) (by omega)
  obtain ⟨p1, p2⟩ := words_pairs m2 m6
  rw [← hWe] at p1 p2
  have hq : (((decide ((0 : Int) ≤ ((W.length : Nat) : Int))) && (decide (((W.length : Nat) : Int) ≤ ((W.length : Nat) : Int)))) && (decide ((((W.length : Nat) : Int) * ((1 : Nat) : Int)) ≤ (140737488355328 : Int)))) = true := by
    rw [decide_eq_true (show (0 : Int) ≤ ((W.length : Nat) : Int) by omega), decide_eq_true (Int.le_refl _), decide_eq_true (show ((W.length : Nat) : Int) * ((1 : Nat) : Int) ≤ 140737488355328 by omega)]; rfl
  have e0 : ((0 : Int) != 0) = false := rfl
  have hNl : ((NP m).map aP).length ≤ 10000 := by
    have := YS_len m2 (show m ≤ 8 by omega)
    rw [YS_eq m2 (by omega)] at this
    omega
  have hat : ∀ i, i < ((NP m).map aP).length → ((NP m).map aP).getD i (((0 : Int), (0 : Int), ()), ((0 : Int), (0 : Int), ()), ()) = aP ((NP m).getD i (0, 0)) ∧ (NP m).getD i (0, 0) ∈ NP m := fun i hi => by
    have hi' : i < (NP m).length := by simpa using hi
    rw [getD_at hi, getD_at hi']
    exact ⟨by simp, List.getElem_mem hi'⟩
  have hk := met_l1 (W := W) (L := (NP m).map aP) (wd := fun i => knW (aP ((NP m).getD i (0, 0))).1 m) (n := (m : Int)) (by omega) hNl (fun i hi => by
    rw [(hat i hi).1]
    exact knead_word m2 m6 (hat i hi).2) (fun i hi => p1 _ (hat i hi).2)
  have h3 := met_l3 (W := W) (L := (NP m).map aP) (wd := fun i => knW (aP ((NP m).getD i (0, 0))).1 m) (n := (m : Int)) (by omega) hNl (i := ((NP m).map aP).length) (fun hn q hq => by
    obtain ⟨p, hp, e⟩ := p2 (by omega) (W.getD q []) (by rw [getD_at hq]; exact List.getElem_mem hq)
    obtain ⟨i, hi, e2⟩ := List.getElem_of_mem hp
    exact ⟨i, by simpa using hi, by show knW (aP ((NP m).getD i (0, 0))).1 m = _; rw [getD_at hi, e2]; exact e⟩)
  simp only [cond_false, pairs_np m2 (show m ≤ 8 by omega), Option.bind_some, e0, hq, cond_true, Int.toNat_natCast, hk, alt, h3]
theorem law_Admissible {code : List Int} (hc : ∀ c ∈ code, 0 ≤ c ∧ c < 256) : laws_FnAdmissible code = some true := by
  unfold laws_FnAdmissible
  have hb : laws_big code = some (decide (code.length > 4096)) := by
    unfold laws_big
    first
      | (congr 1; exact decide_eq_decide.2 (by omega))
      | rfl
  rw [hb]
  simp only [Option.bind_some]
  by_cases hl : code.length > 4096
  · rw [decide_eq_true hl]; rfl
  rw [decide_eq_false hl]
  have hl' : code.length ≤ 4096 := by omega
  obtain ⟨w1, d1, a1, b1⟩ := drawStar_ok hl' hc
  obtain ⟨r1, s1, t1⟩ := star_same (s := w1) (by omega) (by omega)
  obtain ⟨w2, m2, d2, a2, b2⟩ := drawFails_ok hl' hc
  obtain ⟨r2, s2, t2, _⟩ := fails_same' (s := w2) (m := m2) (by omega) (by omega)
  obtain ⟨w3, d3, a3, b3⟩ := drawAdm_ok hl' hc
  obtain ⟨r3, s3, t3, u3⟩ := adm_same (s := w3) (by omega) (by omega)
  obtain ⟨n, d4⟩ := drawWords_ok hl' hc
  obtain ⟨r4, s4, t4, u4, _, v4⟩ := words_same n
  simp only [cond_false, d1, s1, t1, d2, s2, t2, d3, s3, t3, d4, s4, t4, Option.bind_some, bne_self_eq_false, beq_self_eq_true, Bool.not_true, texts_same (T := r4.1) (by omega)]
  have hrest := rest_ok (n := n) (W := r4.1) (c := r4.2) u4 (fun t ht e => by rw [v4 t ht e])
  by_cases h0 : r3.2 = 0
  · rw [show (r3.2 == (0 : Int)) = true from beq_iff_eq.2 h0]
    obtain ⟨g1, g2, g3⟩ := u3 h0
    simp only [cond_true, all_l0 g1 g2, Option.bind_some, alt, g3, beq_self_eq_true, Bool.not_true, cond_false]
    exact hrest
  · rw [show (r3.2 == (0 : Int)) = false from beq_eq_false_iff_ne.2 h0]
    exact hrest
end Go.K.Pure

