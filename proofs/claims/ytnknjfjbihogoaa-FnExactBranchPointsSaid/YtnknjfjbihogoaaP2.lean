/- Part 2 of the plain law: the functions of the program as plain functions on lists and numbers, and what is shown of them; no condition. -/
import Derived.Test.YtnknjfjbihogoaaP1
set_option linter.all false
/- Plain laws of trees, part 46: orbits; loops that collect. -/
set_option linter.all false
namespace Go.K.Pure
open Classical
def shN : Nat → Sq → Sq
  | 0, s => s
  | n + 1, s => shf (shN n s)
theorem shN_P {v s : Sq} (h : isP v s) : ∀ n, isP v (shN n s)
  | 0 => h
  | n + 1 => (shN_P h n).shf
/-- The orbit points. -/
def orb (v : Sq) : List Sq := (List.range v.2.1.length).map fun i => shN i v
theorem orb_len (v : Sq) : (orb v).length = v.2.1.length := by simp [orb]
theorem orb_at {v : Sq} {i : Nat} (h : i < v.2.1.length) : (orb v).getD i zS = shN i v := by
  rw [getD_at (by rw [orb_len]; exact h)]; simp [orb]
theorem orb_P {v : Sq} (h : isP v v) {i : Nat} (hi : i < v.2.1.length) : isP v ((orb v).getD i zS) := by rw [orb_at hi]; exact shN_P h i
theorem range_app (v : Sq) (i : Nat) : (List.range i).map (fun j => shN j v) ++ [shN i v] = (List.range (i + 1)).map fun j => shN j v := by rw [List.range_succ, List.map_append]; rfl
theorem impl_orb {v : Sq} (h : isP v v) : impl_Sequence_orbitPoints v = some (orb v) := by
  have hl := h.l2
  have := loop_count (step := impl_Sequence_orbitPoints_l0) (fun i => (v, (List.range i).map (fun j => shN j v), shN i v, ())) v.2.1.length (orb v, ()) (fun i hi => by
      have c1 : decide (((((List.range i).map (fun j => shN j v)).length : Nat) : Int) < ((v.2.1.length : Nat) : Int)) = true := by simp only [decide_eq_true_eq, List.length_map, List.length_range]; omega
      have c2 : decide ((((List.range i).map (fun j => shN j v)).length + [shN i v].length) * 32 ≤ 140737488355328) = true := by simp only [decide_eq_true_eq, List.length_map, List.length_range, List.length_singleton]; omega
      unfold impl_Sequence_orbitPoints_l0
      simp only [c1, c2, cond_true, impl_shf (shN_P h i).ok, Option.bind_some, range_app]
      rfl) (by
      have c1 : decide (((((List.range v.2.1.length).map (fun j => shN j v)).length : Nat) : Int) < ((v.2.1.length : Nat) : Int)) = false := by simp
      unfold impl_Sequence_orbitPoints_l0
      simp only [c1, cond_false]
      rfl) 0 (Nat.zero_le _)
  unfold impl_Sequence_orbitPoints
  erw [this]
  rfl
theorem spec_orb {v : Sq} (h : isP v v) : spec_l06Orbit v = some (orb v) := by
  have hl := h.l2
  have := loop_count (step := spec_l06Orbit_l0) (fun i => (v, (List.range i).map (fun j => shN j v), shN i v, (i : Int), ())) v.2.1.length (orb v, ()) (fun i hi => by
      have c2 : decide ((((List.range i).map (fun j => shN j v)).length + [shN i v].length) * 32 ≤ 140737488355328) = true := by simp only [decide_eq_true_eq, List.length_map, List.length_range, List.length_singleton]; omega
      have e3 : w64 ((i : Int) + 1) = ((i + 1 : Nat) : Int) := w64_succ (by omega)
      unfold spec_l06Orbit_l0
      simp only [ltb hi, c2, cond_true, spec_shf (shN_P h i).ok, Option.bind_some, range_app, e3]
      rfl) (by
      unfold spec_l06Orbit_l0
      simp only [nltb (Nat.lt_irrefl _), cond_false]
      rfl) 0 (Nat.zero_le _)
  unfold spec_l06Orbit
  erw [this]
  rfl
/-- The middle of three points, if it is within the limits. -/
noncomputable def RR (v a b c : Sq) : Option Sq := match impl_Sequence_middle v [a, b, c] with
  | some (s, k) => if k = 0 then some s else none
  | none => none
theorem RR_ok {v a b c : Sq} (hv : isP v v) (ha : isP v a) (hb : isP v b) (hc : isP v c) : Mid v [] [] a b c (RR v a b c) ∧ impl_Sequence_middle v [a, b, c] = some (outI (RR v a b c)) ∧ impl_Sequence_middle v [c, b, a] = some (outI (RR v a b c)) ∧
    (∃ s, spec_l06Middle v [a, b, c] = some (s, (RR v a b c).isSome) ∧ ∀ s', RR v a b c = some s' → s' = s) ∧ (∃ s, spec_l06Middle v [c, b, a] = some (s, (RR v a b c).isSome) ∧ ∀ s', RR v a b c = some s' → s' = s) := by
  obtain ⟨r, h1, h2, h3, h4, h5⟩ := middle_same hv ha hb hc
  have : RR v a b c = r := by
    unfold RR
    rw [h2]
    cases r with
    | none => rfl
    | some s => rfl
  rw [this]
  exact ⟨h1, h2, h3, h4, h5⟩
theorem isP.no40 {v s : Sq} (h : isP v s) : (40 : UInt8) ∉ s.1 := by
  intro hm
  obtain ⟨i, hi, e⟩ := List.getElem_of_mem hm
  have := h.lt i
  rw [sAt_pre hi, getD_at hi, e] at this
  rcases this with h | h | h <;> cases h
theorem told_B {pre per : List UInt8} {m : Sq} (hq : 0 < per.length) (l1 : pre.length ≤ 100000) (l2 : per.length ≤ 100000) (h40 : (40 : UInt8) ∉ pre) (h : told (canS pre per) = some m) : okB m := by
  obtain ⟨_, _, _, _, _, h6, _, _⟩ := canS_ok hq l1 l2
  unfold told at h
  split at h
  · simp only [Option.some.injEq] at h
    subst h
    exact ⟨by omega, by omega, fun hm => h40 (h6 _ hm)⟩
  · cases h
theorem Mid.okB {v : Sq} (hv : isP v v) {word : List UInt8} {seen : List (List Sq)} {a b c : Sq} {r : Option Sq} (h : Mid v word seen a b c r) : seen.length = word.length → word.length ≤ 600 → (40 : UInt8) ∉ word → isP v a → isP v b → isP v c → ∀ m, r = some m → okB m := by
  have app : ∀ {w : List UInt8} {s : Sq}, (40 : UInt8) ∉ w → isP v s → (40 : UInt8) ∉ w ++ s.1 := fun h1 h2 h => (List.mem_append.1 h).elim h1 h2.no40
  induction h with
  | @same word seen a b c s hs =>
    intro _ hw h40 ha hb hc m hm
    have hp : isP v s := by
      unfold sameC at hs
      split at hs
      · cases hs; exact ha
      · split at hs
        · cases hs; exact hb
        · cases hs
    exact told_B hp.cn.per (by have := hp.l1; simp; omega) (by have := hp.l2; omega) (app h40 hp) hm
  | @star word seen a b c i hs hV =>
    intro _ hw h40 ha hb hc m hm
    have hi : i < 3 := by cases hV; assumption
    have hp : isP v ([a, b, c].getD i zS) := by rcases (by omega : i = 0 ∨ i = 1 ∨ i = 2) with rfl | rfl | rfl <;> assumption
    generalize [a, b, c].getD i zS = s at hp hm
    exact told_B hp.cn.per (by have := hp.l1; simp; omega) (by have := hp.l2; omega) (app h40 hp) hm
  | @seen word seen a b c l k j hs hV h1 h2 h3 =>
    intro hl hw h40 ha hb hc m hm
    exact told_B (by simp; omega) (by simp; omega) (by simp; omega) (fun h => h40 (List.mem_of_mem_take h)) hm
  | lim => intro _ _ _ _ _ _ m hm; cases hm
  | @next word seen a b c l k r hs hV hm hw' _ ih =>
    intro hl hw h40 ha hb hc m hm
    refine ih (by simp [hl]) (by simp; omega) (fun h => ?_) (hv.mv ha l) (hv.mv hb l) (hv.mv hc l) m hm
    rcases List.mem_append.1 h with h | h
    · exact h40 h
    · simp only [List.mem_singleton] at h
      have hll : l = 48 ∨ l = 49 := by cases hV; assumption
      rcases hll with rfl | rfl <;> cases h
theorem RR_B {v a b c m : Sq} (hv : isP v v) (ha : isP v a) (hb : isP v b) (hc : isP v c) (h : RR v a b c = some m) : okB m := (RR_ok hv ha hb hc).1.okB hv rfl (by simp) (by simp) ha hb hc m h

/-- A loop that collects, and may fail. -/
theorem loop_fold {α β : Type} {step : α → Option (Ctl α β)} (n B d : Nat) (s : Nat → List Sq → α) (fail fin : List Sq → β) (Lim : Nat → Prop) (T : Nat → Sq → Prop) (I : List Sq → Prop)
    (h1 : ∀ i, i < n → ∀ out, I out → out.length ≤ B → ((∃ o, step (s i out) = some (.stop (fail o))) ∧ Lim i) ∨ (∃ out', step (s i out) = some (.next (s (i + 1) out')) ∧ ¬ Lim i ∧ out'.length ≤ out.length + d ∧ I out' ∧ ∀ m, m ∈ out' ↔ m ∈ out ∨ T i m))
    (h2 : ∀ out, step (s n out) = some (.stop (fin out))) :
    ∀ k i, n - i = k → i ≤ n → ∀ out, I out → out.length + d * (n - i) ≤ B → ((∃ o, loop step (s i out) = some (fail o)) ∧ ∃ j, i ≤ j ∧ j < n ∧ Lim j) ∨
      (∃ out', loop step (s i out) = some (fin out') ∧ (∀ j, i ≤ j → j < n → ¬ Lim j) ∧ out'.length ≤ out.length + d * (n - i) ∧ I out' ∧ ∀ m, m ∈ out' ↔ m ∈ out ∨ ∃ j, i ≤ j ∧ j < n ∧ T j m) := by
  intro k
  induction k with
  | zero =>
    intro i hk hi out hI hB
    have : i = n := by omega
    subst this
    exact .inr ⟨out, by rw [loop_eq, h2], fun j h3 h4 => by omega, by simp, hI, fun m => ⟨.inl, fun h => h.elim id fun ⟨j, h3, h4, _⟩ => by omega⟩⟩
  | succ k ih =>
    intro i hk hi out hI hB
    have hd : d * (n - i) = d * (n - (i + 1)) + d := by
      rw [show n - i = (n - (i + 1)) + 1 by omega, Nat.mul_succ]
    rcases h1 i (by omega) out hI (by omega) with ⟨⟨o, e⟩, hL⟩ | ⟨out', e, hL, hlen, hI', hm⟩
    · exact .inl ⟨⟨o, by rw [loop_eq, e]⟩, i, Nat.le_refl _, by omega, hL⟩
    · rcases ih (i + 1) (by omega) (by omega) out' hI' (by omega) with ⟨⟨o, e'⟩, j, j1, j2, j3⟩ | ⟨out2, e', h4, h5, h6, h7⟩
      · exact .inl ⟨⟨o, by rw [loop_eq, e]; exact e'⟩, j, by omega, j2, j3⟩
      · refine .inr ⟨out2, by rw [loop_eq, e]; exact e', fun j j1 j2 => ?_, by omega, h6, fun m => ?_⟩
        · by_cases hj : j = i
          · rw [hj]; exact hL
          · exact h4 j (by omega) j2
        · rw [h7, hm]
          constructor
          · rintro ((h | h) | ⟨j, j1, j2, h⟩)
            · exact .inl h
            · exact .inr ⟨i, Nat.le_refl _, by omega, h⟩
            · exact .inr ⟨j, by omega, j2, h⟩
          · rintro (h | ⟨j, j1, j2, h⟩)
            · exact .inl (.inl h)
            · by_cases hj : j = i
              · exact .inl (.inr (hj ▸ h))
              · exact .inr ⟨j, by omega, j2, h⟩
/-- What three points give for a branch point. -/
def TT (v : Sq) (i j k : Nat) (m : Sq) : Prop := RR v ((orb v).getD i zS) ((orb v).getD j zS) ((orb v).getD k zS) = some m ∧ m ≠ (orb v).getD i zS ∧ m ≠ (orb v).getD j zS ∧ m ≠ (orb v).getD k zS
def LL (v : Sq) (i j k : Nat) : Prop := RR v ((orb v).getD i zS) ((orb v).getD j zS) ((orb v).getD k zS) = none
theorem beqS2 (x y : Sq) : (!((x.1 == y.1) && ((x.2.1 == y.2.1) && true))) = !decide (x = y) := by rw [beqS]
theorem bl2 {v : Sq} (hv : isP v v) {i k : Nat} (hk : k < i) (hi : i < v.2.1.length) (t17 t18 t26 t27 : Int) (x y : Nat) (out : List Sq) (hb : out.length ≤ 800000) (hI : ∀ m ∈ out, okB m) :
    (loop impl_Sequence_branchPoints_l2 (v, orb v, out, (orb v).getD i zS, (orb v).getD k zS, t17, t18, x, y, t26, t27, 0, k, (k : Int), (0 : Int), ()) = some (.inl ([], 3, ())) ∧ ∃ u, 0 ≤ u ∧ u < k ∧ LL v u k i) ∨
    (∃ out', loop impl_Sequence_branchPoints_l2 (v, orb v, out, (orb v).getD i zS, (orb v).getD k zS, t17, t18, x, y, t26, t27, 0, k, (k : Int), (0 : Int), ()) = some (.inr (v, orb v, out', (orb v).getD i zS, t17, t18, x, y, t26, t27, ())) ∧
      (∀ u, 0 ≤ u → u < k → ¬ LL v u k i) ∧ out'.length ≤ out.length + 1 * (k - 0) ∧ (∀ m ∈ out', okB m) ∧ ∀ m, m ∈ out' ↔ m ∈ out ∨ ∃ u, 0 ≤ u ∧ u < k ∧ TT v u k i m) := by
  have hl := hv.l2
  have H := loop_fold (step := impl_Sequence_branchPoints_l2) k 900000 1 (fun u out => (v, orb v, out, (orb v).getD i zS, (orb v).getD k zS, t17, t18, x, y, t26, t27, 0, k, (k : Int), (u : Int), ()))
    (fun _ => .inl ([], 3, ())) (fun out => .inr (v, orb v, out, (orb v).getD i zS, t17, t18, x, y, t26, t27, ())) (fun u => LL v u k i) (fun u m => TT v u k i m) (fun out => ∀ m ∈ out, okB m) (by
    intro u hu out hI hB
    have hu' : u < v.2.1.length := by omega
    have hk' : k < v.2.1.length := by omega
    obtain ⟨_, _, e1, _⟩ := RR_ok hv (orb_P hv hu') (orb_P hv hk') (orb_P hv hi)
    have hlen : (((orb v).take k).drop 0).length = k := by simp [orb_len]; omega
    have e3 : w64 ((u : Int) + 1) = ((u + 1 : Nat) : Int) := w64_succ (by omega)
    cases hR : RR v ((orb v).getD u zS) ((orb v).getD k zS) ((orb v).getD i zS) with
    | none =>
      rw [hR] at e1
      left
      refine ⟨⟨[], ?_⟩, hR⟩
      unfold impl_Sequence_branchPoints_l2
      simp only [ltb hu, hlen, nn0 u, Bool.and_self, cond_true, Int.toNat_natCast, Nat.zero_add, e1, Option.bind_some]
      rfl
    | some m =>
      rw [hR] at e1
      right
      have hbg : decide ((out.length + [m].length) * 32 ≤ 140737488355328) = true := by simp only [decide_eq_true_eq, List.length_singleton]; omega
      have h0 : ((outI (some m)).2 != 0) = false := rfl
      have h1 : (outI (some m)).1 = m := rfl
      by_cases m1 : m = (orb v).getD i zS
      · refine ⟨out, ?_, (fun h : LL v u k i => by rw [LL, hR] at h; cases h), by omega, hI, fun b => ⟨.inl, fun h => h.elim id fun h => ?_⟩⟩
        · unfold impl_Sequence_branchPoints_l2
          simp only [ltb hu, hlen, nn0 u, Bool.and_self, cond_true, Int.toNat_natCast, Nat.zero_add, e1, Option.bind_some, h0, cond_false, h1, beqS2, decide_eq_true m1, Bool.not_true, e3]
        · unfold TT at h; rw [hR] at h; cases h.1; exact absurd m1 h.2.2.2
      by_cases m2 : m = (orb v).getD k zS
      · refine ⟨out, ?_, (fun h : LL v u k i => by rw [LL, hR] at h; cases h), by omega, hI, fun b => ⟨.inl, fun h => h.elim id fun h => ?_⟩⟩
        · unfold impl_Sequence_branchPoints_l2
          simp only [ltb hu, hlen, nn0 u, Bool.and_self, cond_true, Int.toNat_natCast, Nat.zero_add, e1, Option.bind_some, h0, cond_false, h1, beqS2, decide_eq_false m1, Bool.not_false, decide_eq_true m2, Bool.not_true, e3]
        · unfold TT at h; rw [hR] at h; cases h.1; exact absurd m2 h.2.2.1
      by_cases m3 : m = (orb v).getD u zS
      · refine ⟨out, ?_, (fun h : LL v u k i => by rw [LL, hR] at h; cases h), by omega, hI, fun b => ⟨.inl, fun h => h.elim id fun h => ?_⟩⟩
        · unfold impl_Sequence_branchPoints_l2
          simp only [ltb hu, hlen, nn0 u, Bool.and_self, cond_true, Int.toNat_natCast, Nat.zero_add, e1, Option.bind_some, h0, cond_false, h1, beqS2, decide_eq_false m1, decide_eq_false m2, Bool.not_false, decide_eq_true m3, Bool.not_true, e3]
        · unfold TT at h; rw [hR] at h; cases h.1; exact absurd m3 h.2.1
      · refine ⟨out ++ [m], ?_, (fun h : LL v u k i => by rw [LL, hR] at h; cases h), (by simp), fun b hb => ?_, fun b => ?_⟩
        · unfold impl_Sequence_branchPoints_l2
          simp only [ltb hu, hlen, nn0 u, Bool.and_self, cond_true, Int.toNat_natCast, Nat.zero_add, e1, Option.bind_some, h0, cond_false, h1, beqS2, decide_eq_false m1, decide_eq_false m2, decide_eq_false m3, Bool.not_false, hbg, e3]
        · rcases List.mem_append.1 hb with hb | hb
          · exact hI b hb
          · simp only [List.mem_singleton] at hb
            rw [hb]; exact RR_B hv (orb_P hv hu') (orb_P hv hk') (orb_P hv hi) hR
        · rw [List.mem_append, List.mem_singleton]
          constructor
          · rintro (h | rfl)
            · exact .inl h
            · exact .inr ⟨hR, m3, m2, m1⟩
          · rintro (h | h)
            · exact .inl h
            · unfold TT at h; rw [hR] at h; cases h.1; exact .inr rfl)
    (by
      intro out
      unfold impl_Sequence_branchPoints_l2
      simp only [nltb (Nat.lt_irrefl _), cond_false])
    (k - 0) 0 rfl (Nat.zero_le _) out hI (by omega)
  rcases H with ⟨⟨o, e⟩, h⟩ | h
  · exact .inl ⟨e, h⟩
  · exact .inr h
end Go.K.Pure

/- Plain laws of trees, part 47: branch points. -/
set_option linter.all false
namespace Go.K.Pure
open Classical
theorem bl1 {v : Sq} (hv : isP v v) {i : Nat} (hi : i < v.2.1.length) (t17 t18 : Int) (out : List Sq) (hb : out.length ≤ 700000) (hI : ∀ m ∈ out, okB m) :
    (loop impl_Sequence_branchPoints_l1 (v, orb v, out, (orb v).getD i zS, t17, t18, 0, i, (i : Int), (0 : Int), ()) = some (.inl ([], 3, ())) ∧ ∃ k, 0 ≤ k ∧ k < i ∧ ∃ u, 0 ≤ u ∧ u < k ∧ LL v u k i) ∨
    (∃ out', loop impl_Sequence_branchPoints_l1 (v, orb v, out, (orb v).getD i zS, t17, t18, 0, i, (i : Int), (0 : Int), ()) = some (.inr (v, orb v, out', t17, t18, ())) ∧
      (∀ k, 0 ≤ k → k < i → ¬ ∃ u, 0 ≤ u ∧ u < k ∧ LL v u k i) ∧ out'.length ≤ out.length + 64 * (i - 0) ∧ (∀ m ∈ out', okB m) ∧ ∀ m, m ∈ out' ↔ m ∈ out ∨ ∃ k, 0 ≤ k ∧ k < i ∧ ∃ u, 0 ≤ u ∧ u < k ∧ TT v u k i m) := by
  have hl := hv.l2
  have H := loop_fold (step := impl_Sequence_branchPoints_l1) i 800000 64 (fun k out => (v, orb v, out, (orb v).getD i zS, t17, t18, 0, i, (i : Int), (k : Int), ()))
    (fun _ => .inl ([], 3, ())) (fun out => .inr (v, orb v, out, t17, t18, ())) (fun k => ∃ u, 0 ≤ u ∧ u < k ∧ LL v u k i) (fun k m => ∃ u, 0 ≤ u ∧ u < k ∧ TT v u k i m) (fun out => ∀ m ∈ out, okB m) (by
    intro k hk out hI hB
    have hlen : (((orb v).take i).drop 0).length = i := by simp [orb_len]; omega
    have hlen2 : (((orb v).take k).drop (0 : Int).toNat).length = k := by simp [orb_len]; omega
    have e3 : w64 ((k : Int) + 1) = ((k + 1 : Nat) : Int) := w64_succ (by omega)
    have e00 : decide ((0 : Int) ≤ 0) = true := by decide
    have e4 : decide ((k : Int) ≤ (((orb v).length : Nat) : Int)) = true := by rw [orb_len]; simp only [decide_eq_true_eq]; omega
    rcases bl2 hv hk hi t17 t18 (i : Int) (k : Int) 0 i out hB hI with ⟨e, h⟩ | ⟨out', e, h1, h2, h3, h4⟩
    · refine .inl ⟨⟨[], ?_⟩, h⟩
      unfold impl_Sequence_branchPoints_l1
      simp only [ltb hk, hlen, nn0 k, Bool.and_self, cond_true, e00, e4, hlen2, Int.toNat_natCast, Nat.zero_add]
      erw [e]
      rfl
    · refine .inr ⟨out', ?_, fun ⟨u, u1, u2, u3⟩ => h1 u u1 u2 u3, by omega, h3, h4⟩
      unfold impl_Sequence_branchPoints_l1
      simp only [ltb hk, hlen, nn0 k, Bool.and_self, cond_true, e00, e4, hlen2, Int.toNat_natCast, Nat.zero_add]
      erw [e]
      simp only [Option.bind_some, alt, e3])
    (by
      intro out
      unfold impl_Sequence_branchPoints_l1
      simp only [nltb (Nat.lt_irrefl _), cond_false])
    (i - 0) 0 rfl (Nat.zero_le _) out hI (by omega)
  rcases H with ⟨⟨o, e⟩, h⟩ | h
  · exact .inl ⟨e, h⟩
  · exact .inr h
/-- Some three points' middle is beyond the limits. -/
def Lim3 (v : Sq) : Prop := ∃ i j k, i < j ∧ j < k ∧ k < v.2.1.length ∧ LL v i j k
def Br3 (v m : Sq) : Prop := ∃ i j k, i < j ∧ j < k ∧ k < v.2.1.length ∧ TT v i j k m
theorem impl_branches {v : Sq} (hv : isP v v) : (impl_Sequence_branchPoints v = some ([], 3) ∧ Lim3 v) ∨
    (∃ L, impl_Sequence_branchPoints v = some (L, 0) ∧ ¬ Lim3 v ∧ L.Pairwise lts ∧ (∀ m ∈ L, okB m) ∧ L.length ≤ 300000 ∧ ∀ m, m ∈ L ↔ Br3 v m) := by
  have hl := hv.l2
  have H := loop_fold (step := impl_Sequence_branchPoints_l0) v.2.1.length 600000 4096 (fun i out => (v, orb v, out, (((orb v).length : Nat) : Int), (i : Int), ()))
    (fun _ => .inl ([], 3, ())) (fun out => .inr (out, ())) (fun i => ∃ k, 0 ≤ k ∧ k < i ∧ ∃ u, 0 ≤ u ∧ u < k ∧ LL v u k i) (fun i m => ∃ k, 0 ≤ k ∧ k < i ∧ ∃ u, 0 ≤ u ∧ u < k ∧ TT v u k i m) (fun out => ∀ m ∈ out, okB m) (by
    intro i hi out hI hB
    have hlen2 : (((orb v).take i).drop (0 : Int).toNat).length = i := by simp [orb_len]; omega
    have hi' : i < (orb v).length := by rw [orb_len]; exact hi
    have e3 : w64 ((i : Int) + 1) = ((i + 1 : Nat) : Int) := w64_succ (by omega)
    have e00 : decide ((0 : Int) ≤ 0) = true := by decide
    have e4 : decide ((i : Int) ≤ (((orb v).length : Nat) : Int)) = true := by simp only [decide_eq_true_eq]; omega
    rcases bl1 hv hi (((orb v).length : Nat) : Int) (i : Int) out (by omega) hI with ⟨e, h⟩ | ⟨out', e, h1, h2, h3, h4⟩
    · refine .inl ⟨⟨[], ?_⟩, h⟩
      unfold impl_Sequence_branchPoints_l0
      simp only [ltb hi', nn0 i, Bool.and_self, cond_true, e00, e4, hlen2, Int.toNat_natCast]
      erw [e]
      rfl
    · refine .inr ⟨out', ?_, fun ⟨u, u1, u2, u3⟩ => h1 u u1 u2 u3, by omega, h3, h4⟩
      unfold impl_Sequence_branchPoints_l0
      simp only [ltb hi', nn0 i, Bool.and_self, cond_true, e00, e4, hlen2, Int.toNat_natCast]
      erw [e]
      simp only [Option.bind_some, alt, e3])
    (by
      intro out
      unfold impl_Sequence_branchPoints_l0
      have : decide ((((v.2.1.length : Nat) : Int)) < (((orb v).length : Nat) : Int)) = false := by rw [orb_len]; simp
      simp only [this, cond_false])
    (v.2.1.length - 0) 0 rfl (Nat.zero_le _) [] (by simp) (by simp; omega)
  unfold impl_Sequence_branchPoints
  rw [impl_orb hv]
  simp only [Option.bind_some]
  rcases H with ⟨⟨o, e⟩, i, _, hi, k, _, hk, u, _, hu, h⟩ | ⟨out, e, h1, h2, h3, h4⟩
  · left
    erw [e]
    exact ⟨rfl, u, k, i, hu, hk, hi, h⟩
  · right
    erw [e]
    have hlen : out.length ≤ 300000 := by simp at h2; omega
    obtain ⟨ys, zs, s1, s2, s3, s4, s5⟩ := sort_compact h3 (by omega)
    refine ⟨zs, ?_, ?_, s3, fun m hm => h3 m ((s4 m).1 hm), by omega, fun m => ?_⟩
    · simp only [Option.bind_some, alt, s1, s2]
    · rintro ⟨u, k, i, hu, hk, hi, h⟩
      exact h1 i (Nat.zero_le _) hi ⟨k, Nat.zero_le _, hk, u, Nat.zero_le _, hu, h⟩
    · rw [s4, h4]
      constructor
      · rintro (h | ⟨i, _, hi, k, _, hk, u, _, hu, h⟩)
        · cases h
        · exact ⟨u, k, i, hu, hk, hi, h⟩
      · rintro ⟨u, k, i, hu, hk, hi, h⟩
        exact .inr ⟨i, Nat.zero_le _, hi, k, Nat.zero_le _, hk, u, Nat.zero_le _, hu, h⟩

/-! The reference. -/
theorem bytesLt_cb : ∀ a b : List UInt8, Go.K.bytesLt a b = decide (Lib.compareBytes a b < 0)
  | [], [] => rfl
  | [], _ :: _ => rfl
  | _ :: _, [] => rfl
  | x :: a, y :: b => by
    unfold Go.K.bytesLt Lib.compareBytes
    rw [bytesLt_cb a b]
    by_cases h1 : x < y
    · simp [h1]
    · by_cases h2 : y < x
      · have : ¬ x = y := fun e => UInt8.lt_irrefl y (e ▸ h2)
        simp [h1, h2, this]
      · have : x = y := UInt8.le_antisymm (UInt8.not_lt.1 h2) (UInt8.not_lt.1 h1)
        subst this
        simp [UInt8.lt_irrefl]
theorem pos_some (own : Sq) : ∀ out : List Sq, ∃ p, p ≤ out.length ∧ (∀ q, q < p → lts (ea out q) own) ∧ (p < out.length → ¬ lts (ea out p) own)
  | [] => ⟨0, by simp, fun q h => by omega, fun h => by simp at h⟩
  | x :: out => by
    by_cases h : lts x own
    · obtain ⟨p, h1, h2, h3⟩ := pos_some own out
      refine ⟨p + 1, by simp; omega, fun q hq => ?_, fun hp => ?_⟩
      · cases q with
        | zero => exact h
        | succ q => exact h2 q (by omega)
      · exact h3 (by simpa using hp)
    · exact ⟨0, by simp, fun q h => by omega, fun _ => h⟩
theorem bs3 {v own : Sq} {orbit out : List Sq} {i j k : Int} {p : Nat} (hB : ∀ m ∈ out, okB m) (ho : okB own) (hl : out.length ≤ 1000000) (h1 : p ≤ out.length) (h2 : ∀ q, q < p → lts (ea out q) own) (h3 : p < out.length → ¬ lts (ea out p) own) :
    loop spec_l06Branches_l3 (v, orbit, out, i, j, k, own, (0 : Int), ()) = some (v, orbit, out, i, j, k, own, (p : Int), ()) := by
  have st : ∀ q, q < out.length → spec_l06Branches_l3 (v, orbit, out, i, j, k, own, (q : Int), ()) = bif decide (Lib.compareBytes (keyS (ea out q)) (keyS own) < 0) then some (.next (v, orbit, out, i, j, k, own, ((q + 1 : Nat) : Int), ())) else some (.stop (v, orbit, out, i, j, k, own, (q : Int), ())) := by
    intro q hq
    have e3 : w64 ((q : Int) + 1) = ((q + 1 : Nat) : Int) := w64_succ (by omega)
    unfold spec_l06Branches_l3
    simp only [ltb hq, nn0 q, Bool.and_self, cond_true, Int.toNat_natCast, spec_text (hB _ (ea_mem hq)), spec_text ho, Option.bind_some, bytesLt_cb, e3]
  refine loop_count (step := spec_l06Branches_l3) (fun q => (v, orbit, out, i, j, k, own, (q : Int), ())) p _ (fun q hq => ?_) ?_ 0 (Nat.zero_le _)
  · rw [st q (by omega), decide_eq_true (show Lib.compareBytes (keyS (ea out q)) (keyS own) < 0 from h2 q hq)]; rfl
  · by_cases hp : p < out.length
    · rw [st p hp, decide_eq_false (show ¬ Lib.compareBytes (keyS (ea out p)) (keyS own) < 0 from h3 hp)]; rfl
    · unfold spec_l06Branches_l3
      simp only [nltb hp, cond_false]
/-- A sequence is put into its place. -/
theorem ins_ok {own : Sq} {out : List Sq} {p : Nat} (hs : out.Pairwise lts) (h1 : p ≤ out.length) (h2 : ∀ q, q < p → lts (ea out q) own) (h3 : p < out.length → ¬ lts (ea out p) own) (hne : ∀ q, q < out.length → keyS (ea out q) = keyS own → ea out q = own) (hp : p < out.length → ea out p ≠ own) :
    (out.take p ++ own :: out.drop p).Pairwise lts ∧ ∀ m, m ∈ out.take p ++ own :: out.drop p ↔ m ∈ out ∨ m = own := by
  have hmem : ∀ m, m ∈ out.take p ++ own :: out.drop p ↔ m ∈ out ∨ m = own := by
    intro m
    rw [List.mem_append, List.mem_cons]
    conv => rhs; rw [← List.take_append_drop p out, List.mem_append]
    constructor
    · rintro (h | h | h)
      · exact .inl (.inl h)
      · exact .inr h
      · exact .inl (.inr h)
    · rintro ((h | h) | h)
      · exact .inl h
      · exact .inr (.inr h)
      · exact .inr (.inl h)
  refine ⟨?_, hmem⟩
  have htk : ∀ x ∈ out.take p, lts x own := by
    intro x hx
    obtain ⟨q, hq, rfl⟩ := List.getElem_of_mem hx
    simp only [List.length_take] at hq
    rw [List.getElem_take]
    have := h2 q (by omega)
    rwa [ea, getD_at (show q < out.length by omega)] at this
  have hdr : ∀ x ∈ out.drop p, lts own x := by
    intro x hx
    have hpl : p < out.length := by
      rcases Nat.lt_or_ge p out.length with h | h
      · exact h
      · rw [List.drop_eq_nil_of_le h] at hx; cases hx
    have hlp : lts own (ea out p) := by
      have a1 := h3 hpl
      have a2 : ¬ Lib.compareBytes (keyS (ea out p)) (keyS own) = 0 := fun e => hp hpl (hne p hpl (cb_eq e))
      have a3 := cb_neg (keyS own) (keyS (ea out p))
      unfold lts at a1 ⊢
      omega
    obtain ⟨q, hq, rfl⟩ := List.getElem_of_mem hx
    simp only [List.length_drop] at hq
    rw [List.getElem_drop]
    cases q with
    | zero =>
      rw [ea, getD_at hpl] at hlp
      exact hlp
    | succ q =>
      have := List.pairwise_iff_getElem.1 hs p (p + (q + 1)) hpl (by omega) (by omega)
      rw [ea, getD_at hpl] at hlp
      exact cb_trans hlp this
  rw [List.pairwise_append]
  refine ⟨hs.sublist (List.take_sublist _ _), List.pairwise_cons.2 ⟨hdr, hs.sublist (List.drop_sublist _ _)⟩, fun x hx y hy => ?_⟩
  rcases List.mem_cons.1 hy with rfl | hy
  · exact htk x hx
  · exact cb_trans (htk x hx) (hdr y hy)

theorem bs2 {v : Sq} (hv : isP v v) {i j : Nat} (hi : i < v.2.1.length) (hj : j < v.2.1.length) (out : List Sq) (hb : out.length ≤ 800000) (hI : out.Pairwise lts ∧ ∀ m ∈ out, okB m) :
    ((∃ o, loop spec_l06Branches_l2 (v, orb v, out, (i : Int), (j : Int), ((j + 1 : Nat) : Int), ()) = some (.inl ([], false, o, ()))) ∧ ∃ k, j + 1 ≤ k ∧ k < v.2.1.length ∧ LL v i j k) ∨
    (∃ out', loop spec_l06Branches_l2 (v, orb v, out, (i : Int), (j : Int), ((j + 1 : Nat) : Int), ()) = some (.inr (v, orb v, out', (i : Int), (j : Int), ())) ∧
      (∀ k, j + 1 ≤ k → k < v.2.1.length → ¬ LL v i j k) ∧ out'.length ≤ out.length + 1 * (v.2.1.length - (j + 1)) ∧ (out'.Pairwise lts ∧ ∀ m ∈ out', okB m) ∧ ∀ m, m ∈ out' ↔ m ∈ out ∨ ∃ k, j + 1 ≤ k ∧ k < v.2.1.length ∧ TT v i j k m) := by
  have hl := hv.l2
  refine loop_fold (step := spec_l06Branches_l2) v.2.1.length 900000 1 (fun k out => (v, orb v, out, (i : Int), (j : Int), (k : Int), ()))
    (fun out => .inl ([], false, out, ())) (fun out => .inr (v, orb v, out, (i : Int), (j : Int), ())) (fun k => LL v i j k) (fun k m => TT v i j k m) (fun out => out.Pairwise lts ∧ ∀ m ∈ out, okB m) (by
    intro k hk out hI hB
    obtain ⟨_, _, _, ⟨s, e1, e2⟩, _⟩ := RR_ok hv (orb_P hv hi) (orb_P hv hj) (orb_P hv hk)
    have hi' : i < (orb v).length := by rw [orb_len]; exact hi
    have hj' : j < (orb v).length := by rw [orb_len]; exact hj
    have hk' : k < (orb v).length := by rw [orb_len]; exact hk
    have e3 : w64 ((k : Int) + 1) = ((k + 1 : Nat) : Int) := w64_succ (by omega)
    have e00 : decide ((0 : Int) ≤ 0) = true := by decide
    cases hR : RR v ((orb v).getD i zS) ((orb v).getD j zS) ((orb v).getD k zS) with
    | none =>
      rw [hR] at e1
      left
      refine ⟨⟨out, ?_⟩, hR⟩
      unfold spec_l06Branches_l2
      simp only [ltb hi', ltb hj', ltb hk', nn0 i, nn0 j, nn0 k, Bool.and_self, cond_true, Int.toNat_natCast, e1, Option.bind_some]
      rfl
    | some m =>
      rw [hR] at e1
      obtain rfl := e2 m hR
      right
      have hm := RR_B hv (orb_P hv hi) (orb_P hv hj) (orb_P hv hk) hR
      have nl : ¬ LL v i j k := fun h => by rw [LL, hR] at h; cases h
      have hsm : (!(some m).isSome) = false := rfl
      by_cases m1 : m = (orb v).getD i zS
      · refine ⟨out, ?_, nl, by omega, hI, fun b => ⟨.inl, fun h => h.elim id fun h => ?_⟩⟩
        · unfold spec_l06Branches_l2
          simp only [ltb hi', ltb hj', ltb hk', nn0 i, nn0 j, nn0 k, Bool.and_self, cond_true, Int.toNat_natCast, e1, Option.bind_some, hsm, cond_false, beqS, decide_eq_true m1, e3]
        · rw [TT, hR] at h; cases h.1; exact absurd m1 h.2.1
      by_cases m2 : m = (orb v).getD j zS
      · refine ⟨out, ?_, nl, by omega, hI, fun b => ⟨.inl, fun h => h.elim id fun h => ?_⟩⟩
        · unfold spec_l06Branches_l2
          simp only [ltb hi', ltb hj', ltb hk', nn0 i, nn0 j, nn0 k, Bool.and_self, cond_true, Int.toNat_natCast, e1, Option.bind_some, hsm, cond_false, beqS, decide_eq_false m1, decide_eq_true m2, e3]
        · rw [TT, hR] at h; cases h.1; exact absurd m2 h.2.2.1
      by_cases m3 : m = (orb v).getD k zS
      · refine ⟨out, ?_, nl, by omega, hI, fun b => ⟨.inl, fun h => h.elim id fun h => ?_⟩⟩
        · unfold spec_l06Branches_l2
          simp only [ltb hi', ltb hj', ltb hk', nn0 i, nn0 j, nn0 k, Bool.and_self, cond_true, Int.toNat_natCast, e1, Option.bind_some, hsm, cond_false, beqS, decide_eq_false m1, decide_eq_false m2, decide_eq_true m3, e3]
        · rw [TT, hR] at h; cases h.1; exact absurd m3 h.2.2.2
      obtain ⟨p, p1, p2, p3⟩ := pos_some m out
      have hT : TT v i j k m := ⟨hR, m1, m2, m3⟩
      have hT' : ∀ b, TT v i j k b → b = m := fun b h => by rw [TT, hR] at h; cases h.1; rfl
      have e5 := bs3 (v := v) (orbit := orb v) (i := (i : Int)) (j := (j : Int)) (k := (k : Int)) hI.2 hm (by omega) p1 p2 p3
      by_cases hpe : p < out.length ∧ ea out p = m
      · refine ⟨out, ?_, nl, by omega, hI, fun b => ⟨.inl, fun h => h.elim id fun h => ?_⟩⟩
        · have h7 : decide (out.getD p zS = m) = true := decide_eq_true hpe.2
          unfold spec_l06Branches_l2
          simp only [ltb hi', ltb hj', ltb hk', nn0 i, nn0 j, nn0 k, Bool.and_self, cond_true, Int.toNat_natCast, e1, Option.bind_some, hsm, cond_false, beqS, decide_eq_false m1, decide_eq_false m2, decide_eq_false m3, e5, ltb hpe.1, nn0 p, h7, e3]
        · rw [hT' b h, ← hpe.2]; exact ea_mem hpe.1
      · obtain ⟨n1, n2⟩ := ins_ok hI.1 p1 p2 p3 (fun q hq h => keyS_inj (hI.2 _ (ea_mem hq)) hm h) (fun h e => hpe ⟨h, e⟩)
        have c1 : decide ((p : Int) ≤ ((out.length : Nat) : Int)) = true := by simp only [decide_eq_true_eq]; omega
        have c2 : decide (((out.length : Nat) : Int) ≤ ((out.length : Nat) : Int)) = true := by simp
        have q1 : (out.take out.length).drop p = out.drop p := by rw [List.take_length]
        have q2 : (out.take p).drop (0 : Int).toNat = out.take p := rfl
        have q3 : ([] : List Sq) ++ out.take p = out.take p := rfl
        have q4 : out.take p ++ ([m] ++ out.drop p) = out.take p ++ m :: out.drop p := rfl
        have c3 : decide (([m].length + (out.drop p).length) * 32 ≤ 140737488355328) = true := by simp only [decide_eq_true_eq, List.length_singleton, List.length_drop]; omega
        have c4 : decide ((([] : List Sq).length + (out.take p).length) * 32 ≤ 140737488355328) = true := by simp only [decide_eq_true_eq, List.length_nil, List.length_take]; omega
        have c5 : decide (((out.take p).length + ([m] ++ out.drop p).length) * 32 ≤ 140737488355328) = true := by simp only [decide_eq_true_eq, List.length_append, List.length_singleton, List.length_drop, List.length_take]; omega
        refine ⟨out.take p ++ m :: out.drop p, ?_, nl, by simp; omega, ⟨n1, fun b hb => ((n2 b).1 hb).elim (hI.2 b) fun e => by rw [e]; exact hm⟩, fun b => (n2 b).trans ⟨fun h => h.elim .inl fun e => .inr (by rw [e]; exact hT), fun h => h.elim .inl fun e => .inr (hT' b e)⟩⟩
        by_cases hp : p < out.length
        · have h7 : decide (out.getD p zS = m) = false := decide_eq_false fun e => hpe ⟨hp, e⟩
          unfold spec_l06Branches_l2
          simp only [ltb hi', ltb hj', ltb hk', nn0 i, nn0 j, nn0 k, Bool.and_self, cond_true, Int.toNat_natCast, e1, Option.bind_some, hsm, cond_false, beqS, decide_eq_false m1, decide_eq_false m2, decide_eq_false m3, e5, ltb hp, nn0 p, h7, e3, e00, c1, c2, c3, c4, c5, q1, q2, q3, q4]
        · unfold spec_l06Branches_l2
          simp only [ltb hi', ltb hj', ltb hk', nn0 i, nn0 j, nn0 k, Bool.and_self, cond_true, Int.toNat_natCast, e1, Option.bind_some, hsm, cond_false, beqS, decide_eq_false m1, decide_eq_false m2, decide_eq_false m3, e5, nltb hp, nn0 p, e3, e00, c1, c2, c3, c4, c5, q1, q2, q3, q4])
    (by
      intro out
      unfold spec_l06Branches_l2
      have : ¬ v.2.1.length < (orb v).length := by rw [orb_len]; omega
      simp only [nltb this, cond_false])
    (v.2.1.length - (j + 1)) (j + 1) rfl (by omega) out hI (by omega)
theorem bs1 {v : Sq} (hv : isP v v) {i : Nat} (hi : i < v.2.1.length) (out : List Sq) (hb : out.length ≤ 700000) (hI : out.Pairwise lts ∧ ∀ m ∈ out, okB m) :
    ((∃ o, loop spec_l06Branches_l1 (v, orb v, out, (i : Int), ((i + 1 : Nat) : Int), ()) = some (.inl ([], false, o, ()))) ∧ ∃ j, i + 1 ≤ j ∧ j < v.2.1.length ∧ ∃ k, j + 1 ≤ k ∧ k < v.2.1.length ∧ LL v i j k) ∨
    (∃ out', loop spec_l06Branches_l1 (v, orb v, out, (i : Int), ((i + 1 : Nat) : Int), ()) = some (.inr (v, orb v, out', (i : Int), ())) ∧
      (∀ j, i + 1 ≤ j → j < v.2.1.length → ¬ ∃ k, j + 1 ≤ k ∧ k < v.2.1.length ∧ LL v i j k) ∧ out'.length ≤ out.length + 64 * (v.2.1.length - (i + 1)) ∧ (out'.Pairwise lts ∧ ∀ m ∈ out', okB m) ∧ ∀ m, m ∈ out' ↔ m ∈ out ∨ ∃ j, i + 1 ≤ j ∧ j < v.2.1.length ∧ ∃ k, j + 1 ≤ k ∧ k < v.2.1.length ∧ TT v i j k m) := by
  have hl := hv.l2
  refine loop_fold (step := spec_l06Branches_l1) v.2.1.length 800000 64 (fun j out => (v, orb v, out, (i : Int), (j : Int), ()))
    (fun out => .inl ([], false, out, ())) (fun out => .inr (v, orb v, out, (i : Int), ())) (fun j => ∃ k, j + 1 ≤ k ∧ k < v.2.1.length ∧ LL v i j k) (fun j m => ∃ k, j + 1 ≤ k ∧ k < v.2.1.length ∧ TT v i j k m) (fun out => out.Pairwise lts ∧ ∀ m ∈ out, okB m) (by
    intro j hj out hI hB
    have hj' : j < (orb v).length := by rw [orb_len]; exact hj
    have e3 : w64 ((j : Int) + 1) = ((j + 1 : Nat) : Int) := w64_succ (by omega)
    rcases bs2 hv hi hj out hB hI with ⟨⟨o, e⟩, h⟩ | ⟨out', e, h1, h2, h3, h4⟩
    · refine .inl ⟨⟨o, ?_⟩, h⟩
      unfold spec_l06Branches_l1
      simp only [ltb hj', cond_true, e3, e, Option.bind_some, alt]
    · refine .inr ⟨out', ?_, fun ⟨k, k1, k2, k3⟩ => h1 k k1 k2 k3, by omega, h3, h4⟩
      unfold spec_l06Branches_l1
      simp only [ltb hj', cond_true, e3, e, Option.bind_some, alt])
    (by
      intro out
      unfold spec_l06Branches_l1
      have : ¬ v.2.1.length < (orb v).length := by rw [orb_len]; omega
      simp only [nltb this, cond_false])
    (v.2.1.length - (i + 1)) (i + 1) rfl (by omega) out hI (by omega)
theorem spec_branches {v : Sq} (hv : isP v v) : ((∃ o, spec_l06Branches v = some (o, false)) ∧ Lim3 v) ∨
    (∃ L, spec_l06Branches v = some (L, true) ∧ ¬ Lim3 v ∧ L.Pairwise lts ∧ (∀ m ∈ L, okB m) ∧ ∀ m, m ∈ L ↔ Br3 v m) := by
  have hl := hv.l2
  have H := loop_fold (step := spec_l06Branches_l0) v.2.1.length 600000 4096 (fun i out => (v, orb v, out, (i : Int), ()))
    (fun out => .inl ([], false, out, ())) (fun out => .inr (out, ())) (fun i => ∃ j, i + 1 ≤ j ∧ j < v.2.1.length ∧ ∃ k, j + 1 ≤ k ∧ k < v.2.1.length ∧ LL v i j k) (fun i m => ∃ j, i + 1 ≤ j ∧ j < v.2.1.length ∧ ∃ k, j + 1 ≤ k ∧ k < v.2.1.length ∧ TT v i j k m) (fun out => out.Pairwise lts ∧ ∀ m ∈ out, okB m) (by
    intro i hi out hI hB
    have hi' : i < (orb v).length := by rw [orb_len]; exact hi
    have e3 : w64 ((i : Int) + 1) = ((i + 1 : Nat) : Int) := w64_succ (by omega)
    rcases bs1 hv hi out (by omega) hI with ⟨⟨o, e⟩, h⟩ | ⟨out', e, h1, h2, h3, h4⟩
    · refine .inl ⟨⟨o, ?_⟩, h⟩
      unfold spec_l06Branches_l0
      simp only [ltb hi', cond_true, e3, e, Option.bind_some, alt]
    · refine .inr ⟨out', ?_, fun ⟨k, k1, k2, k3⟩ => h1 k k1 k2 k3, by omega, h3, h4⟩
      unfold spec_l06Branches_l0
      simp only [ltb hi', cond_true, e3, e, Option.bind_some, alt])
    (by
      intro out
      unfold spec_l06Branches_l0
      have : ¬ v.2.1.length < (orb v).length := by rw [orb_len]; omega
      simp only [nltb this, cond_false])
    (v.2.1.length - 0) 0 rfl (Nat.zero_le _) [] ⟨List.Pairwise.nil, by simp⟩ (by simp; omega)
  unfold spec_l06Branches
  rw [spec_orb hv]
  simp only [Option.bind_some]
  rcases H with ⟨⟨o, e⟩, i, _, hi, j, hij, hj, k, hjk, hk, h⟩ | ⟨out, e, h1, h2, ⟨h3, h3'⟩, h4⟩
  · left
    erw [e]
    exact ⟨⟨[], rfl⟩, i, j, k, hij, hjk, hk, h⟩
  · right
    erw [e]
    refine ⟨out, rfl, ?_, h3, h3', fun m => ?_⟩
    · rintro ⟨i, j, k, hij, hjk, hk, h⟩
      exact h1 i (Nat.zero_le _) (by omega) ⟨j, hij, by omega, k, hjk, hk, h⟩
    · rw [h4]
      constructor
      · rintro (h | ⟨i, _, hi, j, hij, hj, k, hjk, hk, h⟩)
        · cases h
        · exact ⟨i, j, k, hij, hjk, hk, h⟩
      · rintro ⟨i, j, k, hij, hjk, hk, h⟩
        exact .inr ⟨i, Nat.zero_le _, by omega, j, hij, by omega, k, hjk, hk, h⟩
/-- Both have the same branch points. -/
theorem branches_same {v : Sq} (hv : isP v v) : (impl_Sequence_branchPoints v = some ([], 3) ∧ ∃ o, spec_l06Branches v = some (o, false)) ∨
    (∃ L, impl_Sequence_branchPoints v = some (L, 0) ∧ spec_l06Branches v = some (L, true) ∧ (∀ m ∈ L, okB m) ∧ L.length ≤ 300000 ∧ ∀ m, m ∈ L ↔ Br3 v m) := by
  rcases impl_branches hv with ⟨h1, h2⟩ | ⟨L, h1, h2, h3, h4, h5, h6⟩
  · rcases spec_branches hv with ⟨h3, _⟩ | ⟨_, _, h4, _⟩
    · exact .inl ⟨h1, h3⟩
    · exact absurd h2 h4
  · rcases spec_branches hv with ⟨_, h7⟩ | ⟨L', g1, _, g3, g4, g5⟩
    · exact absurd h7 h2
    · have : L' = L := lts_ext g3 h3 fun b => (g5 b).trans (h6 b).symm
      subst this
      exact .inr ⟨L', h1, g1, h4, h5, h6⟩
end Go.K.Pure

/- Plain laws of trees, part 48: the codes. -/
set_option linter.all false
namespace Go.K.Pure
open Classical
/-- The code of a sequence whose tree is asked. -/
noncomputable def treeC (v : Sq) : Int := if isS v then (if isT v then (if v.2.1.length > 8 then 2 else 0) else 5) else 1
theorem impl_all0 : impl_areAll_impl_Sequence [] = some true := by
  have : loop slices_IndexFunc__impl_Sequence_impl_Sequence_l0 (([] : List Sq), (), (((), ()), ()), (((([] : List Sq).length : Nat) : Int)), (0 : Int), ()) = some (.inr ()) := by
    rw [loop_eq]; rfl
  unfold impl_areAll_impl_Sequence slices_ContainsFunc__impl_Sequence_impl_Sequence slices_IndexFunc__impl_Sequence_impl_Sequence
  rw [this]; rfl
theorem impl_all0' (v : Sq) : impl_areAll_impl_Sequence_v2 [] v = some true := by
  have : loop slices_IndexFunc__impl_Sequence_impl_Sequence_v2_l0 (([] : List Sq), (), (((v, ()), ()), ()), (((([] : List Sq).length : Nat) : Int)), (0 : Int), ()) = some (.inr ()) := by
    rw [loop_eq]; rfl
  unfold impl_areAll_impl_Sequence_v2 slices_ContainsFunc__impl_Sequence_impl_Sequence_v2 slices_IndexFunc__impl_Sequence_impl_Sequence_v2
  rw [this]; rfl
theorem impl_code {v : Sq} (h1 : v.1.length ≤ 10000000) (h2 : v.2.1.length ≤ 10000000) : impl_treeCode v = some (treeC v) := by
  unfold impl_treeCode impl_starCode treeC
  rw [impl_isS' h1 h2]
  simp only [Option.bind_some]
  by_cases a1 : isS v
  · rw [if_pos a1, decide_eq_true a1, impl_all0]
    simp only [Bool.not_true, cond_false, Option.bind_some]
    rw [impl_isT a1.ne (by have := a1.le; omega)]
    simp only [Option.bind_some]
    by_cases a2 : isT v
    · rw [if_pos a2, decide_eq_true a2, impl_all0']
      simp only [Bool.not_true, cond_false, Option.bind_some]
      by_cases a3 : v.2.1.length > 8
      · have : decide (((v.2.1.length : Nat) : Int) > 8) = true := by simp only [decide_eq_true_eq]; omega
        rw [if_pos a3, this]; rfl
      · have : decide (((v.2.1.length : Nat) : Int) > 8) = false := by simp only [decide_eq_false_iff_not]; omega
        rw [if_neg a3, this]; rfl
    · rw [if_neg a2, decide_eq_false a2]; rfl
  · rw [if_neg a1, decide_eq_false a1]; rfl
theorem spec_code {v : Sq} (h1 : v.1.length ≤ 10000000) (h2 : v.2.1.length ≤ 10000000) : spec_l06Tree v = some (treeC v) := by
  have l0 : loop spec_l06Code_l0 (([] : List Sq), v, (0 : Int), ()) = some (.inr ([], v, ())) := by rw [loop_eq]; rfl
  have l1 : loop spec_l06Code_l1 (([] : List Sq), v, (0 : Int), ()) = some (.inr ()) := by rw [loop_eq]; rfl
  unfold spec_l06Tree spec_l06Code treeC
  rw [spec_isS' h1 h2]
  simp only [Option.bind_some]
  by_cases a1 : isS v
  · rw [if_pos a1, decide_eq_true a1, l0]
    simp only [Bool.not_true, cond_false, Option.bind_some, alt]
    rw [spec_isT a1.ne (by have := a1.le; omega)]
    simp only [Option.bind_some]
    by_cases a2 : isT v
    · rw [if_pos a2, decide_eq_true a2, l1]
      simp only [Bool.not_true, cond_false, Option.bind_some, alt]
      by_cases a3 : v.2.1.length > 8
      · have : decide (((v.2.1.length : Nat) : Int) > 8) = true := by simp only [decide_eq_true_eq]; omega
        rw [if_pos a3, this]; rfl
      · have : decide (((v.2.1.length : Nat) : Int) > 8) = false := by simp only [decide_eq_false_iff_not]; omega
        rw [if_neg a3, this]; rfl
    · rw [if_neg a2, decide_eq_false a2]; rfl
  · rw [if_neg a1, decide_eq_false a1]; rfl
theorem treeC_ok {v : Sq} (h : treeC v = 0) : isS v ∧ isT v ∧ v.2.1.length ≤ 8 := by
  unfold treeC at h
  split at h
  · split at h
    · split at h
      · cases h
      · exact ⟨by assumption, by assumption, by omega⟩
    · cases h
  · cases h
theorem star_P {v : Sq} (hs : isS v) (ht : isT v) : isP v v := by
  have hn := ht.ne
  have at_ : ∀ k, sAt v k = v.2.1.getD (k % v.2.1.length) 0 := fun k => by
    unfold sAt
    rw [ht.pre]
    simp
  refine ⟨hs.cn, by rw [ht.pre]; simp, by have := hs.le; omega, fun k => ?_, fun k hk i => ?_⟩
  · rw [at_, getD_at (Nat.mod_lt _ hn)]
    exact hs.l2 _ (List.getElem_mem _)
  · have hm : k % v.2.1.length = v.2.1.length - 1 := by
      have h1 := Nat.mod_lt k hn
      refine Classical.byContradiction fun hne => ?_
      rw [at_] at hk
      exact ht.no _ (by omega) hk
    rw [at_, at_]
    congr 1
    have e : k + 1 + i = i + v.2.1.length * (k / v.2.1.length + 1) := by
      have := Nat.div_add_mod k v.2.1.length
      rw [Nat.mul_succ]
      omega
    rw [e, Nat.add_mul_mod_self_left]
end Go.K.Pure

/- Plain laws of trees, part 49: the laws' own loops over lists of sequences. -/
set_option linter.all false
namespace Go.K.Pure
open Classical
theorem markText_some {k : Nat} (h0 : 0 < k) (h : k ≤ 10000000) : ∃ t, laws_markText (k : Int) = some t := by
  obtain ⟨r, e, _⟩ := loop_inv (step := laws_markText_l0) (fun s => ∃ (m : Nat) (out : List UInt8), s = ((m : Int), out, ()) ∧ m + out.length ≤ 20000000) (fun s => s.1.toNat) (fun r => r.1.length ≤ 20000000) (by
    rintro _ ⟨m, out, rfl, hm⟩
    by_cases hz : 0 < m
    · right
      have c1 : decide ((m : Int) > 0) = true := by simp only [decide_eq_true_eq]; omega
      have c2 : (!((10 : Int) == 0)) = true := by decide
      have c3 : ∀ u : Int, decide (([u].map (fun z3 => (UInt8.ofNat z3.toNat))).length + out.length ≤ 1152921504606846976) = true := fun u => by simp only [decide_eq_true_eq, List.length_map, List.length_singleton]; omega
      have c4 : w64 ((m : Int).tdiv 10) = ((m / 10 : Nat) : Int) := by
        rw [show (10 : Int) = ((10 : Nat) : Int) from rfl, tdiv_nat, w64_id (by omega) (by omega)]
      refine ⟨((m / 10 : Nat), ([(wu8 (w64 ((48 : Int) + ((m : Int).tmod (10 : Int)))))].map (fun z2 => (UInt8.ofNat z2.toNat))) ++ out, ()), ?_, ⟨m / 10, _, rfl, by simp; omega⟩, by simp; omega⟩
      unfold laws_markText_l0
      simp only [c1, c2, c3, c4, cond_true]
    · left
      have c1 : decide ((m : Int) > 0) = false := by simp only [decide_eq_false_iff_not]; omega
      refine ⟨(out, ()), ?_, by simp only; omega⟩
      unfold laws_markText_l0
      simp only [c1, cond_false]) ((k : Int), [], ()) ⟨k, [], rfl, by simp; omega⟩
  rename_i hr
  unfold laws_markText
  have c1 : decide ((k : Int) ≤ 0) = false := by simp only [decide_eq_false_iff_not]; omega
  rw [c1]
  simp only [cond_false]
  have e' : loop laws_markText_l0 ((k : Int), (Array.toList (List.toArray ([] : List UInt8))), ()) = some r := e
  rw [e']
  simp only [Option.bind_some]
  have c2 : decide ((Array.toList (List.toArray [(109 : UInt8)])).length + r.1.length ≤ 1152921504606846976) = true := by
    simp only [decide_eq_true_eq]
    show 1 + r.1.length ≤ _
    omega
  rw [c2]
  exact ⟨_, rfl⟩
/-- The mark of a number. -/
noncomputable def MT (k : Nat) : List UInt8 := (laws_markText (k : Int)).getD []
theorem MT_ok {k : Nat} (h0 : 0 < k) (h : k ≤ 10000000) : laws_markText (k : Int) = some (MT k) := by
  obtain ⟨t, e⟩ := markText_some h0 h
  unfold MT
  rw [e]; rfl
theorem eqS_ok (x : Sq) : laws_eqSequence x x = some true := by
  unfold laws_eqSequence
  simp
theorem eqSS_ok {L : List Sq} (hl : L.length ≤ 1000000) : laws_eqSequenceS L L = some true := by
  have := loop_count (step := laws_eqSequenceS_l0) (fun i => (L, L, (i : Int), ())) L.length (.inr ()) (fun i hi => by
    have e3 : w64 ((i : Int) + 1) = ((i + 1 : Nat) : Int) := w64_succ (by omega)
    unfold laws_eqSequenceS_l0
    simp only [ltb hi, nn0 i, Bool.and_self, cond_true, Int.toNat_natCast, eqS_ok, Option.bind_some, Bool.not_true, cond_false, e3]) (by
    unfold laws_eqSequenceS_l0
    simp only [nltb (Nat.lt_irrefl _), cond_false]) 0 (Nat.zero_le _)
  have h0 : (((L.length : Nat) : Int) != ((L.length : Nat) : Int)) = false := by simp
  unfold laws_eqSequenceS
  rw [h0]
  simp only [cond_false]
  erw [this]
  rfl
theorem mark_ok {L : List Sq} (hl : L.length ≤ 1000000) : ∃ M : List Sq, laws_markSequenceS L 1 = some (((2 * L.length + 1 : Nat) : Int), M) ∧ M.length = L.length ∧ ∀ j, j < L.length → M.getD j zS = (MT (2 * j + 1), MT (2 * j + 2), ()) := by
  obtain ⟨r, e, M, h1, h2, h3⟩ := loop_inv (step := laws_markSequenceS_l0) (fun s => ∃ (i : Nat) (M : List Sq), s = (M, ((2 * i + 1 : Nat) : Int), (i : Int), ()) ∧ i ≤ L.length ∧ M.length = L.length ∧ ∀ j, j < i → M.getD j zS = (MT (2 * j + 1), MT (2 * j + 2), ()))
    (fun s => L.length - s.2.2.1.toNat) (fun r => ∃ M : List Sq, r = (M, ((2 * L.length + 1 : Nat) : Int), ()) ∧ M.length = L.length ∧ ∀ j, j < L.length → M.getD j zS = (MT (2 * j + 1), MT (2 * j + 2), ())) (by
    rintro _ ⟨i, M, rfl, hi, hM, hj⟩
    by_cases h : i < L.length
    · right
      have e3 : w64 ((i : Int) + 1) = ((i + 1 : Nat) : Int) := w64_succ (by omega)
      have e4 : w64 (((2 * i + 1 : Nat) : Int) + 1) = ((2 * i + 2 : Nat) : Int) := w64_succ (by omega)
      have e5 : w64 (((2 * i + 2 : Nat) : Int) + 1) = ((2 * (i + 1) + 1 : Nat) : Int) := w64_succ (by omega)
      have hi' : i < M.length := by omega
      have q1 : ∀ x : Sq, (M.set i x).length = M.length := fun x => by simp
      have q2 : ∀ x : Sq, (M.set i x).getD i zS = x := fun x => by rw [getD_at (by simpa using hi')]; simp
      refine ⟨(((M.set i (MT (2 * i + 1), (M.getD i zS).2)).set i (MT (2 * i + 1), MT (2 * i + 2), ())), ((2 * (i + 1) + 1 : Nat) : Int), ((i + 1 : Nat) : Int), ()), ?_, ⟨i + 1, _, rfl, by omega, by simp [hM], fun j hj' => ?_⟩, by simp; omega⟩
      · unfold laws_markSequenceS_l0
        simp only [ltb hi', nn0 i, Bool.and_self, cond_true, Int.toNat_natCast, MT_ok (show 0 < 2 * i + 1 by omega) (by omega), Option.bind_some, e4, MT_ok (show 0 < 2 * i + 2 by omega) (by omega), q1, q2, e5, e3]
      · by_cases hji : j = i
        · subst hji
          rw [getD_at (by simpa using hi')]; simp
        · have := hj j (by omega)
          rw [List.getD_eq_getElem?_getD, List.getElem?_set_ne (fun e => hji e.symm), List.getElem?_set_ne (fun e => hji e.symm), ← List.getD_eq_getElem?_getD]
          exact this
    · left
      have : i = L.length := by omega
      subst this
      refine ⟨_, ?_, M, rfl, hM, hj⟩
      unfold laws_markSequenceS_l0
      simp only [nltb (show ¬ L.length < M.length by omega), cond_false]) (L, (1 : Int), (0 : Int), ()) ⟨0, L, rfl, Nat.zero_le _, rfl, fun j h => by omega⟩
  subst h1
  refine ⟨M, ?_, h2, h3⟩
  unfold laws_markSequenceS
  rw [e]; rfl
theorem held_ok {M : List Sq} {n : Nat} (hn : M.length = n) (hl : n ≤ 1000000) (h : ∀ j, j < n → M.getD j zS = (MT (2 * j + 1), MT (2 * j + 2), ())) : laws_heldSequenceS M 1 = some ((2 * n + 1 : Nat) : Int) := by
  have := loop_count (step := laws_heldSequenceS_l0) (fun i => (M, ((2 * i + 1 : Nat) : Int), (i : Int), ())) n (.inr (((2 * n + 1 : Nat) : Int), ())) (fun i hi => by
    have hi' : i < M.length := by omega
    have e3 : w64 ((i : Int) + 1) = ((i + 1 : Nat) : Int) := w64_succ (by omega)
    have e4 : w64 (((2 * i + 1 : Nat) : Int) + 1) = ((2 * i + 2 : Nat) : Int) := w64_succ (by omega)
    have e5 : w64 (((2 * i + 2 : Nat) : Int) + 1) = ((2 * (i + 1) + 1 : Nat) : Int) := w64_succ (by omega)
    have b1 : ((MT (2 * i + 1)) == MT (2 * i + 1)) = true := by simp
    have b2 : ((MT (2 * i + 2)) == MT (2 * i + 2)) = true := by simp
    unfold laws_heldSequenceS_l0
    simp only [ltb hi', nn0 i, Bool.and_self, cond_true, Int.toNat_natCast, MT_ok (show 0 < 2 * i + 1 by omega) (by omega), Option.bind_some, h i hi, b1, Bool.not_true, cond_false, e4, MT_ok (show 0 < 2 * i + 2 by omega) (by omega), b2, e5, e3]) (by
    unfold laws_heldSequenceS_l0
    simp only [nltb (show ¬ n < M.length by omega), cond_false]) 0 (Nat.zero_le _)
  unfold laws_heldSequenceS
  erw [this]
  rfl
end Go.K.Pure

/- Plain laws of trees, part 50: BranchPoints. -/
set_option linter.all false
namespace Go.K.Pure
open Classical
theorem sz_ok (v : Sq) (h1 : v.1.length ≤ 9223372036854775807) (h2 : v.2.1.length ≤ 9223372036854775807) : ∃ r, laws_szSequence v 1048576 = some r ∧ (r < 0 ∨ v.1.length + v.2.1.length ≤ 1048576 ∧ 0 ≤ r) := by
  unfold laws_szSequence
  rw [w64_id (n := 1048576 - ((v.1.length : Nat) : Int)) (by omega) (by omega)]
  by_cases a : (1048576 : Int) - ((v.1.length : Nat) : Int) < 0
  · rw [decide_eq_true a]
    exact ⟨-1, rfl, .inl (by omega)⟩
  · rw [decide_eq_false a, w64_id (by omega) (by omega)]
    by_cases b : (1048576 : Int) - ((v.1.length : Nat) : Int) - ((v.2.1.length : Nat) : Int) < 0
    · rw [decide_eq_true b]
      exact ⟨-1, rfl, .inl (by omega)⟩
    · rw [decide_eq_false b]
      exact ⟨_, rfl, .inr ⟨by omega, by omega⟩⟩
theorem to_ok (v : Sq) : laws_toSequence v = some v := by
  obtain ⟨a, b, ⟨⟩⟩ := v
  rfl
theorem bp_same {v : Sq} (h1 : v.1.length ≤ 10000000) (h2 : v.2.1.length ≤ 10000000) : ∃ L c, spec_BranchPoints v = some (L, c) ∧ impl_BranchPoints v = some (L, c) ∧ L.length ≤ 300000 := by
  unfold spec_BranchPoints impl_BranchPoints
  rw [spec_code h1 h2, impl_code h1 h2]
  simp only [Option.bind_some]
  by_cases hc : treeC v = 0
  · have hb : (treeC v != 0) = false := by rw [hc]; rfl
    rw [hb]
    simp only [cond_false]
    obtain ⟨a1, a2, a3⟩ := treeC_ok hc
    rcases branches_same (star_P a1 a2) with ⟨e1, o, e2⟩ | ⟨L, e1, e2, _, e4, _⟩
    · exact ⟨[], 3, by rw [e2]; rfl, by rw [e1]; rfl, by simp⟩
    · exact ⟨L, 0, by rw [e2]; rfl, by rw [e1]; rfl, e4⟩
  · have hb : (treeC v != 0) = true := by simpa using hc
    rw [hb]
    exact ⟨[], treeC v, rfl, rfl, by simp⟩
theorem law_BranchPoints (v : Sq) (h1 : v.1.length ≤ 9223372036854775807) (h2 : v.2.1.length ≤ 9223372036854775807) : laws_FnExactBranchPoints v = some true := by
  obtain ⟨r, e1, h⟩ := sz_ok v h1 h2
  unfold laws_FnExactBranchPoints
  rw [e1]
  simp only [Option.bind_some]
  rcases h with h | ⟨h, h'⟩
  · rw [decide_eq_true h]; rfl
  · rw [decide_eq_false (by omega)]
    obtain ⟨L, c, e2, e3, e4⟩ := bp_same (v := v) (by omega) (by omega)
    obtain ⟨M, e5, e6, e7⟩ := mark_ok (L := L) (by omega)
    have e8 := held_ok e6 (by omega) e7
    have c1 : (c != c) = false := by simp
    have c2 : decide (((2 * L.length + 1 : Nat) : Int) < 0) = false := by simp only [decide_eq_false_iff_not]; omega
    have c3 : (((2 * L.length + 1 : Nat) : Int) != ((2 * L.length + 1 : Nat) : Int)) = false := by simp
    simp only [cond_false, to_ok, Option.bind_some, e2, e3, eqSS_ok (show L.length ≤ 1000000 by omega), Bool.not_true, c1, e5, e8, c2, c3]
end Go.K.Pure

