/- Part 2 of the plain law: the functions of the program as plain functions on lists and numbers, and what is shown of them; no condition. -/
import Derived.Test.YtnknjfjbihogoaaGreatP1
set_option linter.all false
/- Plain laws of trees, part 45: sequences in the order of their texts. -/
set_option linter.all false
namespace Go.K.Pure
/-! Texts in order. -/
theorem cb_self : ∀ a : List UInt8, Lib.compareBytes a a = 0
  | [] => rfl
  | a :: u => by
    unfold Lib.compareBytes
    rw [if_neg (UInt8.lt_irrefl a), if_neg (UInt8.lt_irrefl a), cb_self u]
theorem cb_eq : ∀ {a b : List UInt8}, Lib.compareBytes a b = 0 → a = b
  | [], [], _ => rfl
  | [], _ :: _, h => by simp [Lib.compareBytes] at h
  | _ :: _, [], h => by simp [Lib.compareBytes] at h
  | a :: u, b :: v, h => by
    unfold Lib.compareBytes at h
    split at h
    · cases h
    · split at h
      · cases h
      · rename_i h1 h2
        have : a = b := by
          have h3 := UInt8.not_lt.1 h1
          have h4 := UInt8.not_lt.1 h2
          exact UInt8.le_antisymm h4 h3
        rw [this, cb_eq h]
theorem cb_neg : ∀ (a b : List UInt8), Lib.compareBytes b a = - Lib.compareBytes a b
  | [], [] => rfl
  | [], _ :: _ => rfl
  | _ :: _, [] => rfl
  | a :: u, b :: v => by
    unfold Lib.compareBytes
    by_cases h1 : a < b
    · have h2 : ¬ b < a := fun h => UInt8.lt_irrefl a (UInt8.lt_trans h1 h)
      rw [if_pos h1, if_neg h2, if_pos h1]; rfl
    · by_cases h2 : b < a
      · rw [if_pos h2, if_neg h1, if_pos h2]
      · rw [if_neg h1, if_neg h2, if_neg h2, if_neg h1, cb_neg u v]
theorem cb_trans : ∀ {a b c : List UInt8}, Lib.compareBytes a b < 0 → Lib.compareBytes b c < 0 → Lib.compareBytes a c < 0
  | [], [], c, h, _ => by simp [Lib.compareBytes] at h
  | [], _ :: _, [], _, h => by simp [Lib.compareBytes] at h
  | [], _ :: _, _ :: _, _, _ => by simp [Lib.compareBytes]
  | _ :: _, [], c, h, _ => by simp [Lib.compareBytes] at h
  | _ :: _, _ :: _, [], _, h => by simp [Lib.compareBytes] at h
  | a :: u, b :: v, c :: t, h1, h2 => by
    unfold Lib.compareBytes at h1 h2 ⊢
    by_cases ab : a < b
    · by_cases bc : b < c
      · rw [if_pos (UInt8.lt_trans ab bc)]; decide
      · by_cases cb : c < b
        · rw [if_neg bc, if_pos cb] at h2; cases h2
        · have : b = c := UInt8.le_antisymm (UInt8.not_lt.1 cb) (UInt8.not_lt.1 bc)
          rw [← this, if_pos ab]; decide
    · by_cases ba : b < a
      · rw [if_neg ab, if_pos ba] at h1; cases h1
      · have e1 : a = b := UInt8.le_antisymm (UInt8.not_lt.1 ba) (UInt8.not_lt.1 ab)
        rw [if_neg ab, if_neg ba] at h1
        subst e1
        by_cases bc : a < c
        · rw [if_pos bc]; decide
        · by_cases cb : c < a
          · rw [if_neg bc, if_pos cb] at h2; cases h2
          · rw [if_neg bc, if_neg cb] at h2 ⊢
            exact cb_trans h1 h2
theorem cb_ntrans {a b c : List UInt8} (h1 : ¬ Lib.compareBytes a b < 0) (h2 : ¬ Lib.compareBytes b c < 0) : ¬ Lib.compareBytes a c < 0 := by
  intro h
  rcases Int.lt_trichotomy (Lib.compareBytes a b) 0 with h3 | h3 | h3
  · exact h1 h3
  · rw [cb_eq h3] at h; exact h2 h
  · have h4 : Lib.compareBytes b a < 0 := by rw [cb_neg a b]; omega
    exact h2 (cb_trans h4 h)
/-- Sorted by texts. -/
def insK {α : Type} (key : α → List UInt8) (x : α) : List α → List α
  | [] => [x]
  | y :: l => bif decide (Lib.compareBytes (key x) (key y) < 0) then x :: y :: l else y :: insK key x l
def sortK {α : Type} (key : α → List UInt8) : List α → List α
  | [] => []
  | x :: l => insK key x (sortK key l)
theorem insK_perm {α : Type} (key : α → List UInt8) (x : α) : ∀ l, (insK key x l).Perm (x :: l)
  | [] => List.Perm.refl _
  | y :: l => by
    unfold insK
    cases decide (Lib.compareBytes (key x) (key y) < 0)
    · exact ((insK_perm key x l).cons y).trans (List.Perm.swap x y l)
    · exact List.Perm.refl _
theorem sortK_perm {α : Type} (key : α → List UInt8) : ∀ l, (sortK key l).Perm l
  | [] => List.Perm.refl _
  | x :: l => (insK_perm key x _).trans ((sortK_perm key l).cons x)
theorem insK_sorted {α : Type} (key : α → List UInt8) (x : α) : ∀ l, l.Pairwise (fun a b => ¬ Lib.compareBytes (key b) (key a) < 0) → (insK key x l).Pairwise (fun a b => ¬ Lib.compareBytes (key b) (key a) < 0)
  | [], _ => by simp [insK]
  | y :: l, h => by
    obtain ⟨h1, h2⟩ := List.pairwise_cons.1 h
    unfold insK
    cases hd : decide (Lib.compareBytes (key x) (key y) < 0) with
    | false =>
      simp only [decide_eq_false_iff_not] at hd
      refine List.pairwise_cons.2 ⟨fun z hz => ?_, insK_sorted key x l h2⟩
      rcases List.mem_cons.1 ((insK_perm key x l).mem_iff.1 hz) with rfl | hz
      · exact hd
      · exact h1 z hz
    | true =>
      simp only [decide_eq_true_eq] at hd
      refine List.pairwise_cons.2 ⟨fun z hz => ?_, h⟩
      have hn : ¬ Lib.compareBytes (key y) (key x) < 0 := by rw [cb_neg (key x) (key y)]; omega
      rcases List.mem_cons.1 hz with rfl | hz
      · exact hn
      · exact cb_ntrans (h1 z hz) hn
theorem sortK_sorted {α : Type} (key : α → List UInt8) : ∀ l, (sortK key l).Pairwise (fun a b => ¬ Lib.compareBytes (key b) (key a) < 0)
  | [] => List.Pairwise.nil
  | x :: l => insK_sorted key x _ (sortK_sorted key l)
open Classical
theorem sortOf_key {α : Type} {cf : α → α → Option Int} {key : α → List UInt8} {xs : List α} (hcf : ∀ x ∈ xs, ∀ y ∈ xs, cf x y = some (Lib.compareBytes (key x) (key y))) (hi : ∀ x ∈ xs, ∀ y ∈ xs, key x = key y → x = y) (hl : xs.length < 1000000) :
    sortOf cf xs = some (sortK key xs) := by
  have hlt : ∀ x ∈ xs, ∀ y ∈ xs, ltO cf x y = decide (Lib.compareBytes (key x) (key y) < 0) := fun x hx y hy => by unfold ltO; rw [hcf x hx y hy]
  have ho : Ordered cf xs := by
    refine ⟨by omega, fun x hx y hy => ⟨_, hcf x hx y hy⟩, fun x hx => ?_, fun x hx y hy z hz => ?_, fun x hx y hy z hz => ?_⟩
    · rw [hlt x hx x hx, cb_self]; rfl
    · rw [hlt x hx y hy, hlt y hy z hz, hlt x hx z hz]
      simp only [decide_eq_true_eq]
      exact cb_trans
    · rw [hlt x hx y hy, hlt y hy z hz, hlt x hx z hz]
      simp only [decide_eq_false_iff_not]
      exact cb_ntrans
  obtain ⟨ys, e1, e2, e3⟩ := sortOf_ok ho
  rw [e1]
  congr 1
  refine List.Perm.eq_of_pairwise (le := fun a b => ¬ Lib.compareBytes (key b) (key a) < 0) (fun a b ha hb h2 h3 => ?_) ?_ (sortK_sorted key xs) (e2.trans (sortK_perm key xs).symm)
  · have ha' := e2.mem_iff.1 ha
    have hb' := (sortK_perm key xs).mem_iff.1 hb
    refine hi a ha' b hb' (cb_eq ?_)
    have := cb_neg (key a) (key b)
    omega
  · refine List.Pairwise.imp_of_mem ?_ e3
    intro a b ha hb h
    rw [hlt b (e2.mem_iff.1 hb) a (e2.mem_iff.1 ha)] at h
    simpa using h
def keyS (s : Sq) : List UInt8 := s.1 ++ 40 :: (s.2.1 ++ [41])
/-- A sequence whose text tells it. -/
structure okB (s : Sq) : Prop where
  l1 : s.1.length ≤ 1000
  l2 : s.2.1.length ≤ 1000
  no : (40 : UInt8) ∉ s.1
theorem split40 : ∀ {l m r t : List UInt8}, (40 : UInt8) ∉ l → (40 : UInt8) ∉ m → l ++ 40 :: r = m ++ 40 :: t → l = m ∧ r = t
  | [], [], r, t, _, _, h => by simpa using h
  | [], c :: m, r, t, _, h2, h => by
    simp only [List.nil_append, List.cons_append, List.cons.injEq] at h
    exact absurd (by rw [← h.1]; exact List.mem_cons_self) h2
  | c :: l, [], r, t, h1, _, h => by
    simp only [List.nil_append, List.cons_append, List.cons.injEq] at h
    exact absurd (by rw [h.1]; exact List.mem_cons_self) h1
  | c :: l, d :: m, r, t, h1, h2, h => by
    simp only [List.cons_append, List.cons.injEq] at h
    obtain ⟨e1, e2⟩ := split40 (fun h => h1 (List.mem_cons_of_mem _ h)) (fun h => h2 (List.mem_cons_of_mem _ h)) h.2
    exact ⟨by rw [h.1, e1], e2⟩
theorem keyS_inj {x y : Sq} (hx : okB x) (hy : okB y) (h : keyS x = keyS y) : x = y := by
  obtain ⟨e1, e2⟩ := split40 hx.no hy.no h
  obtain ⟨x1, x2, ⟨⟩⟩ := x
  obtain ⟨y1, y2, ⟨⟩⟩ := y
  simp only [List.append_cancel_right_eq] at e1 e2
  rw [e1, e2]
theorem impl_text {s : Sq} (h : okB s) : impl_Sequence_text s = some (keyS s) := by
  obtain ⟨h1, h2, _⟩ := h
  have a1 : (Array.toList (List.toArray [(40 : UInt8)])) = [40] := rfl
  have a2 : (Array.toList (List.toArray [(41 : UInt8)])) = [41] := rfl
  unfold impl_Sequence_text
  rw [a1, a2]
  have c1 : decide (s.1.length + [(40 : UInt8)].length ≤ 1152921504606846976) = true := by simp only [decide_eq_true_eq, List.length_singleton]; omega
  have c2 : decide ((s.1 ++ [(40 : UInt8)]).length + s.2.1.length ≤ 1152921504606846976) = true := by simp only [decide_eq_true_eq, List.length_append, List.length_singleton]; omega
  have c3 : decide ((s.1 ++ [(40 : UInt8)] ++ s.2.1).length + [(41 : UInt8)].length ≤ 1152921504606846976) = true := by simp only [decide_eq_true_eq, List.length_append, List.length_singleton]; omega
  rw [c1, c2, c3]
  simp only [cond_true, keyS, Option.some.injEq]
  simp
theorem spec_text {s : Sq} (h : okB s) : spec_l06Text s = some (keyS s) := impl_text h
theorem cmp_text {x y : Sq} (hx : okB x) (hy : okB y) : impl_Sequence_branchPoints_f1 x y = some (Lib.compareBytes (keyS x) (keyS y)) := by
  unfold impl_Sequence_branchPoints_f1 strings_Compare Go.K.cmpOf
  rw [impl_text hx, impl_text hy]; rfl
/-- By their texts. -/
def lts (x y : Sq) : Prop := Lib.compareBytes (keyS x) (keyS y) < 0
noncomputable def valS (xs : List Sq) (x : Sq) : Int := ((xs.countP fun y => decide (lts y x) : Nat) : Int)
theorem countP_lt {α : Type} {p q : α → Bool} : ∀ {l : List α}, (∀ x ∈ l, p x = true → q x = true) → (∃ x ∈ l, q x = true ∧ p x = false) → l.countP p < l.countP q
  | [], _, h => by obtain ⟨x, hx, _⟩ := h; cases hx
  | y :: l, h, ⟨x, hx, h1, h2⟩ => by
    have hle : l.countP p ≤ l.countP q := List.countP_mono_left (fun x hx => h x (List.mem_cons_of_mem _ hx))
    rw [List.countP_cons, List.countP_cons]
    rcases List.mem_cons.1 hx with rfl | hx
    · simp only [h1, h2, if_true, Bool.false_eq_true, if_false]; omega
    · have ih := countP_lt (l := l) (fun x hx => h x (List.mem_cons_of_mem _ hx)) ⟨x, hx, h1, h2⟩
      cases hp : p y with
      | true =>
        have := h y List.mem_cons_self hp
        simp only [this, if_true]; omega
      | false => cases q y <;> simp <;> omega
theorem valS_lt {xs : List Sq} {x y : Sq} (hx : x ∈ xs) (h : lts x y) : valS xs x < valS xs y := by
  unfold valS
  have := countP_lt (l := xs) (p := fun z => decide (lts z x)) (q := fun z => decide (lts z y)) (fun z _ hz => by
    simp only [decide_eq_true_eq] at hz ⊢
    exact cb_trans hz h) ⟨x, hx, by simpa using h, by simp [lts, cb_self]⟩
  omega
theorem valS_le {xs : List Sq} {x y : Sq} (h : ¬ lts y x) : valS xs x ≤ valS xs y := by
  unfold valS
  have := List.countP_mono_left (l := xs) (p := fun z => decide (lts z x)) (q := fun z => decide (lts z y)) (fun z _ hz => by
    simp only [decide_eq_true_eq] at hz ⊢
    exact Classical.byContradiction fun hn => cb_ntrans hn h hz)
  omega
theorem sort_compact {xs : List Sq} (h : ∀ x ∈ xs, okB x) (hl : xs.length ≤ 900000) : ∃ ys zs, slices_SortFunc__impl_Sequence_impl_Sequence xs = some ys ∧ slices_Compact__impl_Sequence_impl_Sequence ys = some zs ∧ zs.Pairwise lts ∧ (∀ b, b ∈ zs ↔ b ∈ xs) ∧ zs.length ≤ xs.length := by
  have hp := sortK_perm keyS xs
  have hs := sortK_sorted keyS xs
  refine ⟨sortK keyS xs, ?_⟩
  have hmem : ∀ x, x ∈ sortK keyS xs ↔ x ∈ xs := fun x => hp.mem_iff
  have e1 : slices_SortFunc__impl_Sequence_impl_Sequence xs = some (sortK keyS xs) :=
    sortOf_key (fun x hx y hy => cmp_text (h x hx) (h y hy)) (fun x hx y hy => keyS_inj (h x hx) (h y hy)) (by omega)
  have hup : Up (valS xs) (sortK keyS xs) := by
    refine ⟨fun x hx y hy he => ?_, fun i j hij hj => ?_⟩
    · have hx' := (hmem x).1 hx
      have hy' := (hmem y).1 hy
      refine keyS_inj (h x hx') (h y hy') (cb_eq ?_)
      have h1 : ¬ lts x y := fun hh => by have := valS_lt hx' hh; omega
      have h2 : ¬ lts y x := fun hh => by have := valS_lt hy' hh; omega
      unfold lts at h1 h2
      have := cb_neg (keyS x) (keyS y)
      omega
    · refine valS_le ?_
      rw [ea, ea, getD_at hj, getD_at (show i < (sortK keyS xs).length by omega)]
      exact List.pairwise_iff_getElem.1 hs i j (by omega) hj hij
  obtain ⟨zs, z1, z2, z3, z4⟩ := compact_up hup (by rw [hp.length_eq]; omega)
  refine ⟨zs, e1, z1, ?_, fun b => (z3 b).trans (hmem b), by rw [hp.length_eq] at z4; exact z4⟩
  refine List.Pairwise.imp_of_mem ?_ z2
  intro a b ha hb hv
  exact Classical.byContradiction fun hn => by
    have := valS_le (xs := xs) hn
    omega
/-- Strictly ascending lists of the same sequences are the same. -/
theorem lts_ext {xs ys : List Sq} (hx : xs.Pairwise lts) (hy : ys.Pairwise lts) (h : ∀ b, b ∈ xs ↔ b ∈ ys) : xs = ys := by
  have irr : ∀ a, ¬ lts a a := fun a h => by unfold lts at h; rw [cb_self] at h; omega
  have n1 : xs.Nodup := hx.imp fun h e => by rw [e] at h; exact irr _ h
  have n2 : ys.Nodup := hy.imp fun h e => by rw [e] at h; exact irr _ h
  have hp : xs.Perm ys := (List.perm_ext_iff_of_nodup n1 n2).2 h
  refine List.Perm.eq_of_pairwise (le := lts) (fun a b _ _ h1 h2 => ?_) hx hy hp
  have := cb_neg (keyS a) (keyS b)
  unfold lts at h1 h2
  omega
end Go.K.Pure

/- Plain laws of trees, part 46: orbits; loops that collect. -/
set_option linter.all false
namespace Go.K.Pure
open Classical
def shN : Nat → Sq → Sq
  | 0, s => s
  | n + 1, s => shf (shN n s)
theorem shN_P {v s : Sq} (h : isP v s) : ∀ n, isP v (shN n s)
  | 0 => h
  | n + 1 => (shN_P h n).shf
/-- The orbit points. -/
def orb (v : Sq) : List Sq := (List.range v.2.1.length).map fun i => shN i v
theorem orb_len (v : Sq) : (orb v).length = v.2.1.length := by simp [orb]
theorem orb_at {v : Sq} {i : Nat} (h : i < v.2.1.length) : (orb v).getD i zS = shN i v := by
  rw [getD_at (by rw [orb_len]; exact h)]; simp [orb]
theorem orb_P {v : Sq} (h : isP v v) {i : Nat} (hi : i < v.2.1.length) : isP v ((orb v).getD i zS) := by rw [orb_at hi]; exact shN_P h i
theorem range_app (v : Sq) (i : Nat) : (List.range i).map (fun j => shN j v) ++ [shN i v] = (List.range (i + 1)).map fun j => shN j v := by rw [List.range_succ, List.map_append]; rfl
theorem impl_orb {v : Sq} (h : isP v v) : impl_Sequence_orbitPoints v = some (orb v) := by
  have hl := h.l2
  have := loop_count (step := impl_Sequence_orbitPoints_l0) (fun i => (v, (List.range i).map (fun j => shN j v), shN i v, ())) v.2.1.length (orb v, ()) (fun i hi => by
      have c1 : decide (((((List.range i).map (fun j => shN j v)).length : Nat) : Int) < ((v.2.1.length : Nat) : Int)) = true := by simp only [decide_eq_true_eq, List.length_map, List.length_range]; omega
      have c2 : decide ((((List.range i).map (fun j => shN j v)).length + [shN i v].length) * 32 ≤ 140737488355328) = true := by simp only [decide_eq_true_eq, List.length_map, List.length_range, List.length_singleton]; omega
      unfold impl_Sequence_orbitPoints_l0
      simp only [c1, c2, cond_true, impl_shf (shN_P h i).ok, Option.bind_some, range_app]
      rfl) (by
      have c1 : decide (((((List.range v.2.1.length).map (fun j => shN j v)).length : Nat) : Int) < ((v.2.1.length : Nat) : Int)) = false := by simp
      unfold impl_Sequence_orbitPoints_l0
      simp only [c1, cond_false]
      rfl) 0 (Nat.zero_le _)
  unfold impl_Sequence_orbitPoints
  erw [this]
  rfl
theorem spec_orb {v : Sq} (h : isP v v) : spec_l06Orbit v = some (orb v) := by
  have hl := h.l2
  have := loop_count (step := spec_l06Orbit_l0) (fun i => (v, (List.range i).map (fun j => shN j v), shN i v, (i : Int), ())) v.2.1.length (orb v, ()) (fun i hi => by
      have c2 : decide ((((List.range i).map (fun j => shN j v)).length + [shN i v].length) * 32 ≤ 140737488355328) = true := by simp only [decide_eq_true_eq, List.length_map, List.length_range, List.length_singleton]; omega
      have e3 : w64 ((i : Int) + 1) = ((i + 1 : Nat) : Int) := w64_succ (by omega)
      unfold spec_l06Orbit_l0
      simp only [ltb hi, c2, cond_true, spec_shf (shN_P h i).ok, Option.bind_some, range_app, e3]
      rfl) (by
      unfold spec_l06Orbit_l0
      simp only [nltb (Nat.lt_irrefl _), cond_false]
      rfl) 0 (Nat.zero_le _)
  unfold spec_l06Orbit
  erw [this]
  rfl
/-- The middle of three points, if it is within the limits. -/
noncomputable def RR (v a b c : Sq) : Option Sq := match impl_Sequence_middle v [a, b, c] with
  | some (s, k) => if k = 0 then some s else none
  | none => none
theorem RR_ok {v a b c : Sq} (hv : isP v v) (ha : isP v a) (hb : isP v b) (hc : isP v c) : Mid v [] [] a b c (RR v a b c) ∧ impl_Sequence_middle v [a, b, c] = some (outI (RR v a b c)) ∧ impl_Sequence_middle v [c, b, a] = some (outI (RR v a b c)) ∧
    (∃ s, spec_l06Middle v [a, b, c] = some (s, (RR v a b c).isSome) ∧ ∀ s', RR v a b c = some s' → s' = s) ∧ (∃ s, spec_l06Middle v [c, b, a] = some (s, (RR v a b c).isSome) ∧ ∀ s', RR v a b c = some s' → s' = s) := by
  obtain ⟨r, h1, h2, h3, h4, h5⟩ := middle_same hv ha hb hc
  have : RR v a b c = r := by
    unfold RR
    rw [h2]
    cases r with
    | none => rfl
    | some s => rfl
  rw [this]
  exact ⟨h1, h2, h3, h4, h5⟩
theorem isP.no40 {v s : Sq} (h : isP v s) : (40 : UInt8) ∉ s.1 := by
  intro hm
  obtain ⟨i, hi, e⟩ := List.getElem_of_mem hm
  have := h.lt i
  rw [sAt_pre hi, getD_at hi, e] at this
  rcases this with h | h | h <;> cases h
theorem told_B {pre per : List UInt8} {m : Sq} (hq : 0 < per.length) (l1 : pre.length ≤ 100000) (l2 : per.length ≤ 100000) (h40 : (40 : UInt8) ∉ pre) (h : told (canS pre per) = some m) : okB m := by
  obtain ⟨_, _, _, _, _, h6, _, _⟩ := canS_ok hq l1 l2
  unfold told at h
  split at h
  · simp only [Option.some.injEq] at h
    subst h
    exact ⟨by omega, by omega, fun hm => h40 (h6 _ hm)⟩
  · cases h
theorem Mid.okB {v : Sq} (hv : isP v v) {word : List UInt8} {seen : List (List Sq)} {a b c : Sq} {r : Option Sq} (h : Mid v word seen a b c r) : seen.length = word.length → word.length ≤ 600 → (40 : UInt8) ∉ word → isP v a → isP v b → isP v c → ∀ m, r = some m → okB m := by
  have app : ∀ {w : List UInt8} {s : Sq}, (40 : UInt8) ∉ w → isP v s → (40 : UInt8) ∉ w ++ s.1 := fun h1 h2 h => (List.mem_append.1 h).elim h1 h2.no40
  induction h with
  | @same word seen a b c s hs =>
    intro _ hw h40 ha hb hc m hm
    have hp : isP v s := by
      unfold sameC at hs
      split at hs
      · cases hs; exact ha
      · split at hs
        · cases hs; exact hb
        · cases hs
    exact told_B hp.cn.per (by have := hp.l1; simp; omega) (by have := hp.l2; omega) (app h40 hp) hm
  | @star word seen a b c i hs hV =>
    intro _ hw h40 ha hb hc m hm
    have hi : i < 3 := by cases hV; assumption
    have hp : isP v ([a, b, c].getD i zS) := by rcases (by omega : i = 0 ∨ i = 1 ∨ i = 2) with rfl | rfl | rfl <;> assumption
    generalize [a, b, c].getD i zS = s at hp hm
    exact told_B hp.cn.per (by have := hp.l1; simp; omega) (by have := hp.l2; omega) (app h40 hp) hm
  | @seen word seen a b c l k j hs hV h1 h2 h3 =>
    intro hl hw h40 ha hb hc m hm
    exact told_B (by simp; omega) (by simp; omega) (by simp; omega) (fun h => h40 (List.mem_of_mem_take h)) hm
  | lim => intro _ _ _ _ _ _ m hm; cases hm
  | @next word seen a b c l k r hs hV hm hw' _ ih =>
    intro hl hw h40 ha hb hc m hm
    refine ih (by simp [hl]) (by simp; omega) (fun h => ?_) (hv.mv ha l) (hv.mv hb l) (hv.mv hc l) m hm
    rcases List.mem_append.1 h with h | h
    · exact h40 h
    · simp only [List.mem_singleton] at h
      have hll : l = 48 ∨ l = 49 := by cases hV; assumption
      rcases hll with rfl | rfl <;> cases h
theorem RR_B {v a b c m : Sq} (hv : isP v v) (ha : isP v a) (hb : isP v b) (hc : isP v c) (h : RR v a b c = some m) : okB m := (RR_ok hv ha hb hc).1.okB hv rfl (by simp) (by simp) ha hb hc m h

/-- A loop that collects, and may fail. -/
theorem loop_fold {α β : Type} {step : α → Option (Ctl α β)} (n B d : Nat) (s : Nat → List Sq → α) (fail fin : List Sq → β) (Lim : Nat → Prop) (T : Nat → Sq → Prop) (I : List Sq → Prop)
    (h1 : ∀ i, i < n → ∀ out, I out → out.length ≤ B → ((∃ o, step (s i out) = some (.stop (fail o))) ∧ Lim i) ∨ (∃ out', step (s i out) = some (.next (s (i + 1) out')) ∧ ¬ Lim i ∧ out'.length ≤ out.length + d ∧ I out' ∧ ∀ m, m ∈ out' ↔ m ∈ out ∨ T i m))
    (h2 : ∀ out, step (s n out) = some (.stop (fin out))) :
    ∀ k i, n - i = k → i ≤ n → ∀ out, I out → out.length + d * (n - i) ≤ B → ((∃ o, loop step (s i out) = some (fail o)) ∧ ∃ j, i ≤ j ∧ j < n ∧ Lim j) ∨
      (∃ out', loop step (s i out) = some (fin out') ∧ (∀ j, i ≤ j → j < n → ¬ Lim j) ∧ out'.length ≤ out.length + d * (n - i) ∧ I out' ∧ ∀ m, m ∈ out' ↔ m ∈ out ∨ ∃ j, i ≤ j ∧ j < n ∧ T j m) := by
  intro k
  induction k with
  | zero =>
    intro i hk hi out hI hB
    have : i = n := by omega
    subst this
    exact .inr ⟨out, by rw [loop_eq, h2], fun j h3 h4 => by omega, by simp, hI, fun m => ⟨.inl, fun h => h.elim id fun ⟨j, h3, h4, _⟩ => by omega⟩⟩
  | succ k ih =>
    intro i hk hi out hI hB
    have hd : d * (n - i) = d * (n - (i + 1)) + d := by
      rw [show n - i = (n - (i + 1)) + 1 by omega, Nat.mul_succ]
    rcases h1 i (by omega) out hI (by omega) with ⟨⟨o, e⟩, hL⟩ | ⟨out', e, hL, hlen, hI', hm⟩
    · exact .inl ⟨⟨o, by rw [loop_eq, e]⟩, i, Nat.le_refl _, by omega, hL⟩
    · rcases ih (i + 1) (by omega) (by omega) out' hI' (by omega) with ⟨⟨o, e'⟩, j, j1, j2, j3⟩ | ⟨out2, e', h4, h5, h6, h7⟩
      · exact .inl ⟨⟨o, by rw [loop_eq, e]; exact e'⟩, j, by omega, j2, j3⟩
      · refine .inr ⟨out2, by rw [loop_eq, e]; exact e', fun j j1 j2 => ?_, by omega, h6, fun m => ?_⟩
        · by_cases hj : j = i
          · rw [hj]; exact hL
          · exact h4 j (by omega) j2
        · rw [h7, hm]
          constructor
          · rintro ((h | h) | ⟨j, j1, j2, h⟩)
            · exact .inl h
            · exact .inr ⟨i, Nat.le_refl _, by omega, h⟩
            · exact .inr ⟨j, by omega, j2, h⟩
          · rintro (h | ⟨j, j1, j2, h⟩)
            · exact .inl (.inl h)
            · by_cases hj : j = i
              · exact .inl (.inr (hj ▸ h))
              · exact .inr ⟨j, by omega, j2, h⟩
/-- What three points give for a branch point. -/
def TT (v : Sq) (i j k : Nat) (m : Sq) : Prop := RR v ((orb v).getD i zS) ((orb v).getD j zS) ((orb v).getD k zS) = some m ∧ m ≠ (orb v).getD i zS ∧ m ≠ (orb v).getD j zS ∧ m ≠ (orb v).getD k zS
def LL (v : Sq) (i j k : Nat) : Prop := RR v ((orb v).getD i zS) ((orb v).getD j zS) ((orb v).getD k zS) = none
theorem beqS2 (x y : Sq) : (!((x.1 == y.1) && ((x.2.1 == y.2.1) && true))) = !decide (x = y) := by rw [beqS]
theorem bl2 {v : Sq} (hv : isP v v) {i k : Nat} (hk : k < i) (hi : i < v.2.1.length) (t17 t18 t26 t27 : Int) (x y : Nat) (out : List Sq) (hb : out.length ≤ 800000) (hI : ∀ m ∈ out, okB m) :
    (loop impl_Sequence_branchPoints_l2 (v, orb v, out, (orb v).getD i zS, (orb v).getD k zS, t17, t18, x, y, t26, t27, 0, k, (k : Int), (0 : Int), ()) = some (.inl ([], 3, ())) ∧ ∃ u, 0 ≤ u ∧ u < k ∧ LL v u k i) ∨
    (∃ out', loop impl_Sequence_branchPoints_l2 (v, orb v, out, (orb v).getD i zS, (orb v).getD k zS, t17, t18, x, y, t26, t27, 0, k, (k : Int), (0 : Int), ()) = some (.inr (v, orb v, out', (orb v).getD i zS, t17, t18, x, y, t26, t27, ())) ∧
      (∀ u, 0 ≤ u → u < k → ¬ LL v u k i) ∧ out'.length ≤ out.length + 1 * (k - 0) ∧ (∀ m ∈ out', okB m) ∧ ∀ m, m ∈ out' ↔ m ∈ out ∨ ∃ u, 0 ≤ u ∧ u < k ∧ TT v u k i m) := by
  have hl := hv.l2
  have H := loop_fold (step := impl_Sequence_branchPoints_l2) k 900000 1 (fun u out => (v, orb v, out, (orb v).getD i zS, (orb v).getD k zS, t17, t18, x, y, t26, t27, 0, k, (k : Int), (u : Int), ()))
    (fun _ => .inl ([], 3, ())) (fun out => .inr (v, orb v, out, (orb v).getD i zS, t17, t18, x, y, t26, t27, ())) (fun u => LL v u k i) (fun u m => TT v u k i m) (fun out => ∀ m ∈ out, okB m) (by
    intro u hu out hI hB
    have hu' : u < v.2.1.length := by omega
    have hk' : k < v.2.1.length := by omega
    obtain ⟨_, _, e1, _⟩ := RR_ok hv (orb_P hv hu') (orb_P hv hk') (orb_P hv hi)
    have hlen : (((orb v).take k).drop 0).length = k := by simp [orb_len]; omega
    have e3 : w64 ((u : Int) + 1) = ((u + 1 : Nat) : Int) := w64_succ (by omega)
    cases hR : RR v ((orb v).getD u zS) ((orb v).getD k zS) ((orb v).getD i zS) with
    | none =>
      rw [hR] at e1
      left
      refine ⟨⟨[], ?_⟩, hR⟩
      unfold impl_Sequence_branchPoints_l2
      simp only [ltb hu, hlen, nn0 u, Bool.and_self, cond_true, Int.toNat_natCast, Nat.zero_add, e1, Option.bind_some]
      rfl
    | some m =>
      rw [hR] at e1
      right
      have hbg : decide ((out.length + [m].length) * 32 ≤ 140737488355328) = true := by simp only [decide_eq_true_eq, List.length_singleton]; omega
      have h0 : ((outI (some m)).2 != 0) = false := rfl
      have h1 : (outI (some m)).1 = m := rfl
      by_cases m1 : m = (orb v).getD i zS
      · refine ⟨out, ?_, (fun h : LL v u k i => by rw [LL, hR] at h; cases h), by omega, hI, fun b => ⟨.inl, fun h => h.elim id fun h => ?_⟩⟩
        · unfold impl_Sequence_branchPoints_l2
          simp only [ltb hu, hlen, nn0 u, Bool.and_self, cond_true, Int.toNat_natCast, Nat.zero_add, e1, Option.bind_some, h0, cond_false, h1, beqS2, decide_eq_true m1, Bool.not_true, e3]
        · unfold TT at h; rw [hR] at h; cases h.1; exact absurd m1 h.2.2.2
      by_cases m2 : m = (orb v).getD k zS
      · refine ⟨out, ?_, (fun h : LL v u k i => by rw [LL, hR] at h; cases h), by omega, hI, fun b => ⟨.inl, fun h => h.elim id fun h => ?_⟩⟩
        · unfold impl_Sequence_branchPoints_l2
          simp only [ltb hu, hlen, nn0 u, Bool.and_self, cond_true, Int.toNat_natCast, Nat.zero_add, e1, Option.bind_some, h0, cond_false, h1, beqS2, decide_eq_false m1, Bool.not_false, decide_eq_true m2, Bool.not_true, e3]
        · unfold TT at h; rw [hR] at h; cases h.1; exact absurd m2 h.2.2.1
      by_cases m3 : m = (orb v).getD u zS
      · refine ⟨out, ?_, (fun h : LL v u k i => by rw [LL, hR] at h; cases h), by omega, hI, fun b => ⟨.inl, fun h => h.elim id fun h => ?_⟩⟩
        · unfold impl_Sequence_branchPoints_l2
          simp only [ltb hu, hlen, nn0 u, Bool.and_self, cond_true, Int.toNat_natCast, Nat.zero_add, e1, Option.bind_some, h0, cond_false, h1, beqS2, decide_eq_false m1, decide_eq_false m2, Bool.not_false, decide_eq_true m3, Bool.not_true, e3]
        · unfold TT at h; rw [hR] at h; cases h.1; exact absurd m3 h.2.1
      · refine ⟨out ++ [m], ?_, (fun h : LL v u k i => by rw [LL, hR] at h; cases h), (by simp), fun b hb => ?_, fun b => ?_⟩
        · unfold impl_Sequence_branchPoints_l2
          simp only [ltb hu, hlen, nn0 u, Bool.and_self, cond_true, Int.toNat_natCast, Nat.zero_add, e1, Option.bind_some, h0, cond_false, h1, beqS2, decide_eq_false m1, decide_eq_false m2, decide_eq_false m3, Bool.not_false, hbg, e3]
        · rcases List.mem_append.1 hb with hb | hb
          · exact hI b hb
          · simp only [List.mem_singleton] at hb
            rw [hb]; exact RR_B hv (orb_P hv hu') (orb_P hv hk') (orb_P hv hi) hR
        · rw [List.mem_append, List.mem_singleton]
          constructor
          · rintro (h | rfl)
            · exact .inl h
            · exact .inr ⟨hR, m3, m2, m1⟩
          · rintro (h | h)
            · exact .inl h
            · unfold TT at h; rw [hR] at h; cases h.1; exact .inr rfl)
    (by
      intro out
      unfold impl_Sequence_branchPoints_l2
      simp only [nltb (Nat.lt_irrefl _), cond_false])
    (k - 0) 0 rfl (Nat.zero_le _) out hI (by omega)
  rcases H with ⟨⟨o, e⟩, h⟩ | h
  · exact .inl ⟨e, h⟩
  · exact .inr h
end Go.K.Pure

/- Plain laws of trees, part 47: branch points. -/
set_option linter.all false
namespace Go.K.Pure
open Classical
theorem bl1 {v : Sq} (hv : isP v v) {i : Nat} (hi : i < v.2.1.length) (t17 t18 : Int) (out : List Sq) (hb : out.length ≤ 700000) (hI : ∀ m ∈ out, okB m) :
    (loop impl_Sequence_branchPoints_l1 (v, orb v, out, (orb v).getD i zS, t17, t18, 0, i, (i : Int), (0 : Int), ()) = some (.inl ([], 3, ())) ∧ ∃ k, 0 ≤ k ∧ k < i ∧ ∃ u, 0 ≤ u ∧ u < k ∧ LL v u k i) ∨
    (∃ out', loop impl_Sequence_branchPoints_l1 (v, orb v, out, (orb v).getD i zS, t17, t18, 0, i, (i : Int), (0 : Int), ()) = some (.inr (v, orb v, out', t17, t18, ())) ∧
      (∀ k, 0 ≤ k → k < i → ¬ ∃ u, 0 ≤ u ∧ u < k ∧ LL v u k i) ∧ out'.length ≤ out.length + 64 * (i - 0) ∧ (∀ m ∈ out', okB m) ∧ ∀ m, m ∈ out' ↔ m ∈ out ∨ ∃ k, 0 ≤ k ∧ k < i ∧ ∃ u, 0 ≤ u ∧ u < k ∧ TT v u k i m) := by
  have hl := hv.l2
  have H := loop_fold (step := impl_Sequence_branchPoints_l1) i 800000 64 (fun k out => (v, orb v, out, (orb v).getD i zS, t17, t18, 0, i, (i : Int), (k : Int), ()))
    (fun _ => .inl ([], 3, ())) (fun out => .inr (v, orb v, out, t17, t18, ())) (fun k => ∃ u, 0 ≤ u ∧ u < k ∧ LL v u k i) (fun k m => ∃ u, 0 ≤ u ∧ u < k ∧ TT v u k i m) (fun out => ∀ m ∈ out, okB m) (by
    intro k hk out hI hB
    have hlen : (((orb v).take i).drop 0).length = i := by simp [orb_len]; omega
    have hlen2 : (((orb v).take k).drop (0 : Int).toNat).length = k := by simp [orb_len]; omega
    have e3 : w64 ((k : Int) + 1) = ((k + 1 : Nat) : Int) := w64_succ (by omega)
    have e00 : decide ((0 : Int) ≤ 0) = true := by decide
    have e4 : decide ((k : Int) ≤ (((orb v).length : Nat) : Int)) = true := by rw [orb_len]; simp only [decide_eq_true_eq]; omega
    rcases bl2 hv hk hi t17 t18 (i : Int) (k : Int) 0 i out hB hI with ⟨e, h⟩ | ⟨out', e, h1, h2, h3, h4⟩
    · refine .inl ⟨⟨[], ?_⟩, h⟩
      unfold impl_Sequence_branchPoints_l1
      simp only [ltb hk, hlen, nn0 k, Bool.and_self, cond_true, e00, e4, hlen2, Int.toNat_natCast, Nat.zero_add]
      erw [e]
      rfl
    · refine .inr ⟨out', ?_, fun ⟨u, u1, u2, u3⟩ => h1 u u1 u2 u3, by omega, h3, h4⟩
      unfold impl_Sequence_branchPoints_l1
      simp only [ltb hk, hlen, nn0 k, Bool.and_self, cond_true, e00, e4, hlen2, Int.toNat_natCast, Nat.zero_add]
      erw [e]
      simp only [Option.bind_some, alt, e3])
    (by
      intro out
      unfold impl_Sequence_branchPoints_l1
      simp only [nltb (Nat.lt_irrefl _), cond_false])
    (i - 0) 0 rfl (Nat.zero_le _) out hI (by omega)
  rcases H with ⟨⟨o, e⟩, h⟩ | h
  · exact .inl ⟨e, h⟩
  · exact .inr h
/-- Some three points' middle is beyond the limits. -/
def Lim3 (v : Sq) : Prop := ∃ i j k, i < j ∧ j < k ∧ k < v.2.1.length ∧ LL v i j k
def Br3 (v m : Sq) : Prop := ∃ i j k, i < j ∧ j < k ∧ k < v.2.1.length ∧ TT v i j k m
theorem impl_branches {v : Sq} (hv : isP v v) : (impl_Sequence_branchPoints v = some ([], 3) ∧ Lim3 v) ∨
    (∃ L, impl_Sequence_branchPoints v = some (L, 0) ∧ ¬ Lim3 v ∧ L.Pairwise lts ∧ (∀ m ∈ L, okB m) ∧ L.length ≤ 300000 ∧ ∀ m, m ∈ L ↔ Br3 v m) := by
  have hl := hv.l2
  have H := loop_fold (step := impl_Sequence_branchPoints_l0) v.2.1.length 600000 4096 (fun i out => (v, orb v, out, (((orb v).length : Nat) : Int), (i : Int), ()))
    (fun _ => .inl ([], 3, ())) (fun out => .inr (out, ())) (fun i => ∃ k, 0 ≤ k ∧ k < i ∧ ∃ u, 0 ≤ u ∧ u < k ∧ LL v u k i) (fun i m => ∃ k, 0 ≤ k ∧ k < i ∧ ∃ u, 0 ≤ u ∧ u < k ∧ TT v u k i m) (fun out => ∀ m ∈ out, okB m) (by
    intro i hi out hI hB
    have hlen2 : (((orb v).take i).drop (0 : Int).toNat).length = i := by simp [orb_len]; omega
    have hi' : i < (orb v).length := by rw [orb_len]; exact hi
    have e3 : w64 ((i : Int) + 1) = ((i + 1 : Nat) : Int) := w64_succ (by omega)
    have e00 : decide ((0 : Int) ≤ 0) = true := by decide
    have e4 : decide ((i : Int) ≤ (((orb v).length : Nat) : Int)) = true := by simp only [decide_eq_true_eq]; omega
    rcases bl1 hv hi (((orb v).length : Nat) : Int) (i : Int) out (by omega) hI with ⟨e, h⟩ | ⟨out', e, h1, h2, h3, h4⟩
    · refine .inl ⟨⟨[], ?_⟩, h⟩
      unfold impl_Sequence_branchPoints_l0
      simp only [ltb hi', nn0 i, Bool.and_self, cond_true, e00, e4, hlen2, Int.toNat_natCast]
      erw [e]
      rfl
    · refine .inr ⟨out', ?_, fun ⟨u, u1, u2, u3⟩ => h1 u u1 u2 u3, by omega, h3, h4⟩
      unfold impl_Sequence_branchPoints_l0
      simp only [ltb hi', nn0 i, Bool.and_self, cond_true, e00, e4, hlen2, Int.toNat_natCast]
      erw [e]
      simp only [Option.bind_some, alt, e3])
    (by
      intro out
      unfold impl_Sequence_branchPoints_l0
      have : decide ((((v.2.1.length : Nat) : Int)) < (((orb v).length : Nat) : Int)) = false := by rw [orb_len]; simp
      simp only [this, cond_false])
    (v.2.1.length - 0) 0 rfl (Nat.zero_le _) [] (by simp) (by simp; omega)
  unfold impl_Sequence_branchPoints
  rw [impl_orb hv]
  simp only [Option.bind_some]
  rcases H with ⟨⟨o, e⟩, i, _, hi, k, _, hk, u, _, hu, h⟩ | ⟨out, e, h1, h2, h3, h4⟩
  · left
    erw [e]
    exact ⟨rfl, u, k, i, hu, hk, hi, h⟩
  · right
    erw [e]
    have hlen : out.length ≤ 300000 := by simp at h2; omega
    obtain ⟨ys, zs, s1, s2, s3, s4, s5⟩ := sort_compact h3 (by omega)
    refine ⟨zs, ?_, ?_, s3, fun m hm => h3 m ((s4 m).1 hm), by omega, fun m => ?_⟩
    · simp only [Option.bind_some, alt, s1, s2]
    · rintro ⟨u, k, i, hu, hk, hi, h⟩
      exact h1 i (Nat.zero_le _) hi ⟨k, Nat.zero_le _, hk, u, Nat.zero_le _, hu, h⟩
    · rw [s4, h4]
      constructor
      · rintro (h | ⟨i, _, hi, k, _, hk, u, _, hu, h⟩)
        · cases h
        · exact ⟨u, k, i, hu, hk, hi, h⟩
      · rintro ⟨u, k, i, hu, hk, hi, h⟩
        exact .inr ⟨i, Nat.zero_le _, hi, k, Nat.zero_le _, hk, u, Nat.zero_le _, hu, h⟩

/-! The reference. -/
theorem bytesLt_cb : ∀ a b : List UInt8, Go.K.bytesLt a b = decide (Lib.compareBytes a b < 0)
  | [], [] => rfl
  | [], _ :: _ => rfl
  | _ :: _, [] => rfl
  | x :: a, y :: b => by
    unfold Go.K.bytesLt Lib.compareBytes
    rw [bytesLt_cb a b]
    by_cases h1 : x < y
    · simp [h1]
    · by_cases h2 : y < x
      · have : ¬ x = y := fun e => UInt8.lt_irrefl y (e ▸ h2)
        simp [h1, h2, this]
      · have : x = y := UInt8.le_antisymm (UInt8.not_lt.1 h2) (UInt8.not_lt.1 h1)
        subst this
        simp [UInt8.lt_irrefl]
theorem pos_some (own : Sq) : ∀ out : List Sq, ∃ p, p ≤ out.length ∧ (∀ q, q < p → lts (ea out q) own) ∧ (p < out.length → ¬ lts (ea out p) own)
  | [] => ⟨0, by simp, fun q h => by omega, fun h => by simp at h⟩
  | x :: out => by
    by_cases h : lts x own
    · obtain ⟨p, h1, h2, h3⟩ := pos_some own out
      refine ⟨p + 1, by simp; omega, fun q hq => ?_, fun hp => ?_⟩
      · cases q with
        | zero => exact h
        | succ q => exact h2 q (by omega)
      · exact h3 (by simpa using hp)
    · exact ⟨0, by simp, fun q h => by omega, fun _ => h⟩
theorem bs3 {v own : Sq} {orbit out : List Sq} {i j k : Int} {p : Nat} (hB : ∀ m ∈ out, okB m) (ho : okB own) (hl : out.length ≤ 1000000) (h1 : p ≤ out.length) (h2 : ∀ q, q < p → lts (ea out q) own) (h3 : p < out.length → ¬ lts (ea out p) own) :
    loop spec_l06Branches_l3 (v, orbit, out, i, j, k, own, (0 : Int), ()) = some (v, orbit, out, i, j, k, own, (p : Int), ()) := by
  have st : ∀ q, q < out.length → spec_l06Branches_l3 (v, orbit, out, i, j, k, own, (q : Int), ()) = bif decide (Lib.compareBytes (keyS (ea out q)) (keyS own) < 0) then some (.next (v, orbit, out, i, j, k, own, ((q + 1 : Nat) : Int), ())) else some (.stop (v, orbit, out, i, j, k, own, (q : Int), ())) := by
    intro q hq
    have e3 : w64 ((q : Int) + 1) = ((q + 1 : Nat) : Int) := w64_succ (by omega)
    unfold spec_l06Branches_l3
    simp only [ltb hq, nn0 q, Bool.and_self, cond_true, Int.toNat_natCast, spec_text (hB _ (ea_mem hq)), spec_text ho, Option.bind_some, bytesLt_cb, e3]
  refine loop_count (step := spec_l06Branches_l3) (fun q => (v, orbit, out, i, j, k, own, (q : Int), ())) p _ (fun q hq => ?_) ?_ 0 (Nat.zero_le _)
  · rw [st q (by omega), decide_eq_true (show Lib.compareBytes (keyS (ea out q)) (keyS own) < 0 from h2 q hq)]; rfl
  · by_cases hp : p < out.length
    · rw [st p hp, decide_eq_false (show ¬ Lib.compareBytes (keyS (ea out p)) (keyS own) < 0 from h3 hp)]; rfl
    · unfold spec_l06Branches_l3
      simp only [nltb hp, cond_false]
/-- A sequence is put into its place. -/
theorem ins_ok {own : Sq} {out : List Sq} {p : Nat} (hs : out.Pairwise lts) (h1 : p ≤ out.length) (h2 : ∀ q, q < p → lts (ea out q) own) (h3 : p < out.length → ¬ lts (ea out p) own) (hne : ∀ q, q < out.length → keyS (ea out q) = keyS own → ea out q = own) (hp : p < out.length → ea out p ≠ own) :
    (out.take p ++ own :: out.drop p).Pairwise lts ∧ ∀ m, m ∈ out.take p ++ own :: out.drop p ↔ m ∈ out ∨ m = own := by
  have hmem : ∀ m, m ∈ out.take p ++ own :: out.drop p ↔ m ∈ out ∨ m = own := by
    intro m
    rw [List.mem_append, List.mem_cons]
    conv => rhs; rw [← List.take_append_drop p out, List.mem_append]
    constructor
    · rintro (h | h | h)
      · exact .inl (.inl h)
      · exact .inr h
      · exact .inl (.inr h)
    · rintro ((h | h) | h)
      · exact .inl h
      · exact .inr (.inr h)
      · exact .inr (.inl h)
  refine ⟨?_, hmem⟩
  have htk : ∀ x ∈ out.take p, lts x own := by
    intro x hx
    obtain ⟨q, hq, rfl⟩ := List.getElem_of_mem hx
    simp only [List.length_take] at hq
    rw [List.getElem_take]
    have := h2 q (by omega)
    rwa [ea, getD_at (show q < out.length by omega)] at this
  have hdr : ∀ x ∈ out.drop p, lts own x := by
    intro x hx
    have hpl : p < out.length := by
      rcases Nat.lt_or_ge p out.length with h | h
      · exact h
      · rw [List.drop_eq_nil_of_le h] at hx; cases hx
    have hlp : lts own (ea out p) := by
      have a1 := h3 hpl
      have a2 : ¬ Lib.compareBytes (keyS (ea out p)) (keyS own) = 0 := fun e => hp hpl (hne p hpl (cb_eq e))
      have a3 := cb_neg (keyS own) (keyS (ea out p))
      unfold lts at a1 ⊢
      omega
    obtain ⟨q, hq, rfl⟩ := List.getElem_of_mem hx
    simp only [List.length_drop] at hq
    rw [List.getElem_drop]
    cases q with
    | zero =>
      rw [ea, getD_at hpl] at hlp
      exact hlp
    | succ q =>
      have := List.pairwise_iff_getElem.1 hs p (p + (q + 1)) hpl (by omega) (by omega)
      rw [ea, getD_at hpl] at hlp
      exact cb_trans hlp this
  rw [List.pairwise_append]
  refine ⟨hs.sublist (List.take_sublist _ _), List.pairwise_cons.2 ⟨hdr, hs.sublist (List.drop_sublist _ _)⟩, fun x hx y hy => ?_⟩
  rcases List.mem_cons.1 hy with rfl | hy
  · exact htk x hx
  · exact cb_trans (htk x hx) (hdr y hy)

theorem bs2 {v : Sq} (hv : isP v v) {i j : Nat} (hi : i < v.2.1.length) (hj : j < v.2.1.length) (out : List Sq) (hb : out.length ≤ 800000) (hI : out.Pairwise lts ∧ ∀ m ∈ out, okB m) :
    ((∃ o, loop spec_l06Branches_l2 (v, orb v, out, (i : Int), (j : Int), ((j + 1 : Nat) : Int), ()) = some (.inl ([], false, o, ()))) ∧ ∃ k, j + 1 ≤ k ∧ k < v.2.1.length ∧ LL v i j k) ∨
    (∃ out', loop spec_l06Branches_l2 (v, orb v, out, (i : Int), (j : Int), ((j + 1 : Nat) : Int), ()) = some (.inr (v, orb v, out', (i : Int), (j : Int), ())) ∧
      (∀ k, j + 1 ≤ k → k < v.2.1.length → ¬ LL v i j k) ∧ out'.length ≤ out.length + 1 * (v.2.1.length - (j + 1)) ∧ (out'.Pairwise lts ∧ ∀ m ∈ out', okB m) ∧ ∀ m, m ∈ out' ↔ m ∈ out ∨ ∃ k, j + 1 ≤ k ∧ k < v.2.1.length ∧ TT v i j k m) := by
  have hl := hv.l2
  refine loop_fold (step := spec_l06Branches_l2) v.2.1.length 900000 1 (fun k out => (v, orb v, out, (i : Int), (j : Int), (k : Int), ()))
    (fun out => .inl ([], false, out, ())) (fun out => .inr (v, orb v, out, (i : Int), (j : Int), ())) (fun k => LL v i j k) (fun k m => TT v i j k m) (fun out => out.Pairwise lts ∧ ∀ m ∈ out, okB m) (by
    intro k hk out hI hB
    obtain ⟨_, _, _, ⟨s, e1, e2⟩, _⟩ := RR_ok hv (orb_P hv hi) (orb_P hv hj) (orb_P hv hk)
    have hi' : i < (orb v).length := by rw [orb_len]; exact hi
    have hj' : j < (orb v).length := by rw [orb_len]; exact hj
    have hk' : k < (orb v).length := by rw [orb_len]; exact hk
    have e3 : w64 ((k : Int) + 1) = ((k + 1 : Nat) : Int) := w64_succ (by omega)
    have e00 : decide ((0 : Int) ≤ 0) = true := by decide
    cases hR : RR v ((orb v).getD i zS) ((orb v).getD j zS) ((orb v).getD k zS) with
    | none =>
      rw [hR] at e1
      left
      refine ⟨⟨out, ?_⟩, hR⟩
      unfold spec_l06Branches_l2
      simp only [ltb hi', ltb hj', ltb hk', nn0 i, nn0 j, nn0 k, Bool.and_self, cond_true, Int.toNat_natCast, e1, Option.bind_some]
      rfl
    | some m =>
      rw [hR] at e1
      obtain rfl := e2 m hR
      right
      have hm := RR_B hv (orb_P hv hi) (orb_P hv hj) (orb_P hv hk) hR
      have nl : ¬ LL v i j k := fun h => by rw [LL, hR] at h; cases h
      have hsm : (!(some m).isSome) = false := rfl
      by_cases m1 : m = (orb v).getD i zS
      · refine ⟨out, ?_, nl, by omega, hI, fun b => ⟨.inl, fun h => h.elim id fun h => ?_⟩⟩
        · unfold spec_l06Branches_l2
          simp only [ltb hi', ltb hj', ltb hk', nn0 i, nn0 j, nn0 k, Bool.and_self, cond_true, Int.toNat_natCast, e1, Option.bind_some, hsm, cond_false, beqS, decide_eq_true m1, e3]
        · rw [TT, hR] at h; cases h.1; exact absurd m1 h.2.1
      by_cases m2 : m = (orb v).getD j zS
      · refine ⟨out, ?_, nl, by omega, hI, fun b => ⟨.inl, fun h => h.elim id fun h => ?_⟩⟩
        · unfold spec_l06Branches_l2
          simp only [ltb hi', ltb hj', ltb hk', nn0 i, nn0 j, nn0 k, Bool.and_self, cond_true, Int.toNat_natCast, e1, Option.bind_some, hsm, cond_false, beqS, decide_eq_false m1, decide_eq_true m2, e3]
        · rw [TT, hR] at h; cases h.1; exact absurd m2 h.2.2.1
      by_cases m3 : m = (orb v).getD k zS
      · refine ⟨out, ?_, nl, by omega, hI, fun b => ⟨.inl, fun h => h.elim id fun h => ?_⟩⟩
        · unfold spec_l06Branches_l2
          simp only [ltb hi', ltb hj', ltb hk', nn0 i, nn0 j, nn0 k, Bool.and_self, cond_true, Int.toNat_natCast, e1, Option.bind_some, hsm, cond_false, beqS, decide_eq_false m1, decide_eq_false m2, decide_eq_true m3, e3]
        · rw [TT, hR] at h; cases h.1; exact absurd m3 h.2.2.2
      obtain ⟨p, p1, p2, p3⟩ := pos_some m out
      have hT : TT v i j k m := ⟨hR, m1, m2, m3⟩
      have hT' : ∀ b, TT v i j k b → b = m := fun b h => by rw [TT, hR] at h; cases h.1; rfl
      have e5 := bs3 (v := v) (orbit := orb v) (i := (i : Int)) (j := (j : Int)) (k := (k : Int)) hI.2 hm (by omega) p1 p2 p3
      by_cases hpe : p < out.length ∧ ea out p = m
      · refine ⟨out, ?_, nl, by omega, hI, fun b => ⟨.inl, fun h => h.elim id fun h => ?_⟩⟩
        · have h7 : decide (out.getD p zS = m) = true := decide_eq_true hpe.2
          unfold spec_l06Branches_l2
          simp only [ltb hi', ltb hj', ltb hk', nn0 i, nn0 j, nn0 k, Bool.and_self, cond_true, Int.toNat_natCast, e1, Option.bind_some, hsm, cond_false, beqS, decide_eq_false m1, decide_eq_false m2, decide_eq_false m3, e5, ltb hpe.1, nn0 p, h7, e3]
        · rw [hT' b h, ← hpe.2]; exact ea_mem hpe.1
      · obtain ⟨n1, n2⟩ := ins_ok hI.1 p1 p2 p3 (fun q hq h => keyS_inj (hI.2 _ (ea_mem hq)) hm h) (fun h e => hpe ⟨h, e⟩)
        have c1 : decide ((p : Int) ≤ ((out.length : Nat) : Int)) = true := by simp only [decide_eq_true_eq]; omega
        have c2 : decide (((out.length : Nat) : Int) ≤ ((out.length : Nat) : Int)) = true := by simp
        have q1 : (out.take out.length).drop p = out.drop p := by rw [List.take_length]
        have q2 : (out.take p).drop (0 : Int).toNat = out.take p := rfl
        have q3 : ([] : List Sq) ++ out.take p = out.take p := rfl
        have q4 : out.take p ++ ([m] ++ out.drop p) = out.take p ++ m :: out.drop p := rfl
        have c3 : decide (([m].length + (out.drop p).length) * 32 ≤ 140737488355328) = true := by simp only [decide_eq_true_eq, List.length_singleton, List.length_drop]; omega
        have c4 : decide ((([] : List Sq).length + (out.take p).length) * 32 ≤ 140737488355328) = true := by simp only [decide_eq_true_eq, List.length_nil, List.length_take]; omega
        have c5 : decide (((out.take p).length + ([m] ++ out.drop p).length) * 32 ≤ 140737488355328) = true := by simp only [decide_eq_true_eq, List.length_append, List.length_singleton, List.length_drop, List.length_take]; omega
        refine ⟨out.take p ++ m :: out.drop p, ?_, nl, by simp; omega, ⟨n1, fun b hb => ((n2 b).1 hb).elim (hI.2 b) fun e => by rw [e]; exact hm⟩, fun b => (n2 b).trans ⟨fun h => h.elim .inl fun e => .inr (by rw [e]; exact hT), fun h => h.elim .inl fun e => .inr (hT' b e)⟩⟩
        by_cases hp : p < out.length
        · have h7 : decide (out.getD p zS = m) = false := decide_eq_false fun e => hpe ⟨hp, e⟩
          unfold spec_l06Branches_l2
          simp only [ltb hi', ltb hj', ltb hk', nn0 i, nn0 j, nn0 k, Bool.and_self, cond_true, Int.toNat_natCast, e1, Option.bind_some, hsm, cond_false, beqS, decide_eq_false m1, decide_eq_false m2, decide_eq_false m3, e5, ltb hp, nn0 p, h7, e3, e00, c1, c2, c3, c4, c5, q1, q2, q3, q4]
        · unfold spec_l06Branches_l2
          simp only [ltb hi', ltb hj', ltb hk', nn0 i, nn0 j, nn0 k, Bool.and_self, cond_true, Int.toNat_natCast, e1, Option.bind_some, hsm, cond_false, beqS, decide_eq_false m1, decide_eq_false m2, decide_eq_false m3, e5, nltb hp, nn0 p, e3, e00, c1, c2, c3, c4, c5, q1, q2, q3, q4])
    (by
      intro out
      unfold spec_l06Branches_l2
      have : ¬ v.2.1.length < (orb v).length := by rw [orb_len]; omega
      simp only [nltb this, cond_false])
    (v.2.1.length - (j + 1)) (j + 1) rfl (by omega) out hI (by omega)
theorem bs1 {v : Sq} (hv : isP v v) {i : Nat} (hi : i < v.2.1.length) (out : List Sq) (hb : out.length ≤ 700000) (hI : out.Pairwise lts ∧ ∀ m ∈ out, okB m) :
    ((∃ o, loop spec_l06Branches_l1 (v, orb v, out, (i : Int), ((i + 1 : Nat) : Int), ()) = some (.inl ([], false, o, ()))) ∧ ∃ j, i + 1 ≤ j ∧ j < v.2.1.length ∧ ∃ k, j + 1 ≤ k ∧ k < v.2.1.length ∧ LL v i j k) ∨
    (∃ out', loop spec_l06Branches_l1 (v, orb v, out, (i : Int), ((i + 1 : Nat) : Int), ()) = some (.inr (v, orb v, out', (i : Int), ())) ∧
      (∀ j, i + 1 ≤ j → j < v.2.1.length → ¬ ∃ k, j + 1 ≤ k ∧ k < v.2.1.length ∧ LL v i j k) ∧ out'.length ≤ out.length + 64 * (v.2.1.length - (i + 1)) ∧ (out'.Pairwise lts ∧ ∀ m ∈ out', okB m) ∧ ∀ m, m ∈ out' ↔ m ∈ out ∨ ∃ j, i + 1 ≤ j ∧ j < v.2.1.length ∧ ∃ k, j + 1 ≤ k ∧ k < v.2.1.length ∧ TT v i j k m) := by
  have hl := hv.l2
  refine loop_fold (step := spec_l06Branches_l1) v.2.1.length 800000 64 (fun j out => (v, orb v, out, (i : Int), (j : Int), ()))
    (fun out => .inl ([], false, out, ())) (fun out => .inr (v, orb v, out, (i : Int), ())) (fun j => ∃ k, j + 1 ≤ k ∧ k < v.2.1.length ∧ LL v i j k) (fun j m => ∃ k, j + 1 ≤ k ∧ k < v.2.1.length ∧ TT v i j k m) (fun out => out.Pairwise lts ∧ ∀ m ∈ out, okB m) (by
    intro j hj out hI hB
    have hj' : j < (orb v).length := by rw [orb_len]; exact hj
    have e3 : w64 ((j : Int) + 1) = ((j + 1 : Nat) : Int) := w64_succ (by omega)
    rcases bs2 hv hi hj out hB hI with ⟨⟨o, e⟩, h⟩ | ⟨out', e, h1, h2, h3, h4⟩
    · refine .inl ⟨⟨o, ?_⟩, h⟩
      unfold spec_l06Branches_l1
      simp only [ltb hj', cond_true, e3, e, Option.bind_some, alt]
    · refine .inr ⟨out', ?_, fun ⟨k, k1, k2, k3⟩ => h1 k k1 k2 k3, by omega, h3, h4⟩
      unfold spec_l06Branches_l1
      simp only [ltb hj', cond_true, e3, e, Option.bind_some, alt])
    (by
      intro out
      unfold spec_l06Branches_l1
      have : ¬ v.2.1.length < (orb v).length := by rw [orb_len]; omega
      simp only [nltb this, cond_false])
    (v.2.1.length - (i + 1)) (i + 1) rfl (by omega) out hI (by omega)
theorem spec_branches {v : Sq} (hv : isP v v) : ((∃ o, spec_l06Branches v = some (o, false)) ∧ Lim3 v) ∨
    (∃ L, spec_l06Branches v = some (L, true) ∧ ¬ Lim3 v ∧ L.Pairwise lts ∧ (∀ m ∈ L, okB m) ∧ ∀ m, m ∈ L ↔ Br3 v m) := by
  have hl := hv.l2
  have H := loop_fold (step := spec_l06Branches_l0) v.2.1.length 600000 4096 (fun i out => (v, orb v, out, (i : Int), ()))
    (fun out => .inl ([], false, out, ())) (fun out => .inr (out, ())) (fun i => ∃ j, i + 1 ≤ j ∧ j < v.2.1.length ∧ ∃ k, j + 1 ≤ k ∧ k < v.2.1.length ∧ LL v i j k) (fun i m => ∃ j, i + 1 ≤ j ∧ j < v.2.1.length ∧ ∃ k, j + 1 ≤ k ∧ k < v.2.1.length ∧ TT v i j k m) (fun out => out.Pairwise lts ∧ ∀ m ∈ out, okB m) (by
    intro i hi out hI hB
    have hi' : i < (orb v).length := by rw [orb_len]; exact hi
    have e3 : w64 ((i : Int) + 1) = ((i + 1 : Nat) : Int) := w64_succ (by omega)
    rcases bs1 hv hi out (by omega) hI with ⟨⟨o, e⟩, h⟩ | ⟨out', e, h1, h2, h3, h4⟩
    · refine .inl ⟨⟨o, ?_⟩, h⟩
      unfold spec_l06Branches_l0
      simp only [ltb hi', cond_true, e3, e, Option.bind_some, alt]
    · refine .inr ⟨out', ?_, fun ⟨k, k1, k2, k3⟩ => h1 k k1 k2 k3, by omega, h3, h4⟩
      unfold spec_l06Branches_l0
      simp only [ltb hi', cond_true, e3, e, Option.bind_some, alt])
    (by
      intro out
      unfold spec_l06Branches_l0
      have : ¬ v.2.1.length < (orb v).length := by rw [orb_len]; omega
      simp only [nltb this, cond_false])
    (v.2.1.length - 0) 0 rfl (Nat.zero_le _) [] ⟨List.Pairwise.nil, by simp⟩ (by simp; omega)
  unfold spec_l06Branches
  rw [spec_orb hv]
  simp only [Option.bind_some]
  rcases H with ⟨⟨o, e⟩, i, _, hi, j, hij, hj, k, hjk, hk, h⟩ | ⟨out, e, h1, h2, ⟨h3, h3'⟩, h4⟩
  · left
    erw [e]
    exact ⟨⟨[], rfl⟩, i, j, k, hij, hjk, hk, h⟩
  · right
    erw [e]
    refine ⟨out, rfl, ?_, h3, h3', fun m => ?_⟩
    · rintro ⟨i, j, k, hij, hjk, hk, h⟩
      exact h1 i (Nat.zero_le _) (by omega) ⟨j, hij, by omega, k, hjk, hk, h⟩
    · rw [h4]
      constructor
      · rintro (h | ⟨i, _, hi, j, hij, hj, k, hjk, hk, h⟩)
        · cases h
        · exact ⟨i, j, k, hij, hjk, hk, h⟩
      · rintro ⟨i, j, k, hij, hjk, hk, h⟩
        exact .inr ⟨i, Nat.zero_le _, by omega, j, hij, by omega, k, hjk, hk, h⟩
/-- Both have the same branch points. -/
theorem branches_same {v : Sq} (hv : isP v v) : (impl_Sequence_branchPoints v = some ([], 3) ∧ ∃ o, spec_l06Branches v = some (o, false)) ∨
    (∃ L, impl_Sequence_branchPoints v = some (L, 0) ∧ spec_l06Branches v = some (L, true) ∧ (∀ m ∈ L, okB m) ∧ L.length ≤ 300000 ∧ ∀ m, m ∈ L ↔ Br3 v m) := by
  rcases impl_branches hv with ⟨h1, h2⟩ | ⟨L, h1, h2, h3, h4, h5, h6⟩
  · rcases spec_branches hv with ⟨h3, _⟩ | ⟨_, _, h4, _⟩
    · exact .inl ⟨h1, h3⟩
    · exact absurd h2 h4
  · rcases spec_branches hv with ⟨_, h7⟩ | ⟨L', g1, _, g3, g4, g5⟩
    · exact absurd h7 h2
    · have : L' = L := lts_ext g3 h3 fun b => (g5 b).trans (h6 b).symm
      subst this
      exact .inr ⟨L', h1, g1, h4, h5, h6⟩
end Go.K.Pure

/- Plain laws of trees, part 48: the codes. -/
set_option linter.all false
namespace Go.K.Pure
open Classical
/-- The code of a sequence whose tree is asked. -/
noncomputable def treeC (v : Sq) : Int := if isS v then (if isT v then (if v.2.1.length > 8 then 2 else 0) else 5) else 1
theorem impl_all0 : impl_areAll_impl_Sequence [] = some true := by
  have : loop slices_IndexFunc__impl_Sequence_impl_Sequence_l0 (([] : List Sq), (), (((), ()), ()), (((([] : List Sq).length : Nat) : Int)), (0 : Int), ()) = some (.inr ()) := by
    rw [loop_eq]; rfl
  unfold impl_areAll_impl_Sequence slices_ContainsFunc__impl_Sequence_impl_Sequence slices_IndexFunc__impl_Sequence_impl_Sequence
  rw [this]; rfl
theorem impl_all0' (v : Sq) : impl_areAll_impl_Sequence_v2 [] v = some true := by
  have : loop slices_IndexFunc__impl_Sequence_impl_Sequence_v2_l0 (([] : List Sq), (), (((v, ()), ()), ()), (((([] : List Sq).length : Nat) : Int)), (0 : Int), ()) = some (.inr ()) := by
    rw [loop_eq]; rfl
  unfold impl_areAll_impl_Sequence_v2 slices_ContainsFunc__impl_Sequence_impl_Sequence_v2 slices_IndexFunc__impl_Sequence_impl_Sequence_v2
  rw [this]; rfl
theorem impl_code {v : Sq} (h1 : v.1.length ≤ 10000000) (h2 : v.2.1.length ≤ 10000000) : impl_treeCode v = some (treeC v) := by
  unfold impl_treeCode impl_starCode treeC
  rw [impl_isS' h1 h2]
  simp only [Option.bind_some]
  by_cases a1 : isS v
  · rw [if_pos a1, decide_eq_true a1, impl_all0]
    simp only [Bool.not_true, cond_false, Option.bind_some]
    rw [impl_isT a1.ne (by have := a1.le; omega)]
    simp only [Option.bind_some]
    by_cases a2 : isT v
    · rw [if_pos a2, decide_eq_true a2, impl_all0']
      simp only [Bool.not_true, cond_false, Option.bind_some]
      by_cases a3 : v.2.1.length > 8
      · have : decide (((v.2.1.length : Nat) : Int) > 8) = true := by simp only [decide_eq_true_eq]; omega
        rw [if_pos a3, this]; rfl
      · have : decide (((v.2.1.length : Nat) : Int) > 8) = false := by simp only [decide_eq_false_iff_not]; omega
        rw [if_neg a3, this]; rfl
    · rw [if_neg a2, decide_eq_false a2]; rfl
  · rw [if_neg a1, decide_eq_false a1]; rfl
theorem spec_code {v : Sq} (h1 : v.1.length ≤ 10000000) (h2 : v.2.1.length ≤ 10000000) : spec_l06Tree v = some (treeC v) := by
  have l0 : loop spec_l06Code_l0 (([] : List Sq), v, (0 : Int), ()) = some (.inr ([], v, ())) := by rw [loop_eq]; rfl
  have l1 : loop spec_l06Code_l1 (([] : List Sq), v, (0 : Int), ()) = some (.inr ()) := by rw [loop_eq]; rfl
  unfold spec_l06Tree spec_l06Code treeC
  rw [spec_isS' h1 h2]
  simp only [Option.bind_some]
  by_cases a1 : isS v
  · rw [if_pos a1, decide_eq_true a1, l0]
    simp only [Bool.not_true, cond_false, Option.bind_some, alt]
    rw [spec_isT a1.ne (by have := a1.le; omega)]
    simp only [Option.bind_some]
    by_cases a2 : isT v
    · rw [if_pos a2, decide_eq_true a2, l1]
      simp only [Bool.not_true, cond_false, Option.bind_some, alt]
      by_cases a3 : v.2.1.length > 8
      · have : decide (((v.2.1.length : Nat) : Int) > 8) = true := by simp only [decide_eq_true_eq]; omega
        rw [if_pos a3, this]; rfl
      · have : decide (((v.2.1.length : Nat) : Int) > 8) = false := by simp only [decide_eq_false_iff_not]; omega
        rw [if_neg a3, this]; rfl
    · rw [if_neg a2, decide_eq_false a2]; rfl
  · rw [if_neg a1, decide_eq_false a1]; rfl
theorem treeC_ok {v : Sq} (h : treeC v = 0) : isS v ∧ isT v ∧ v.2.1.length ≤ 8 := by
  unfold treeC at h
  split at h
  · split at h
    · split at h
      · cases h
      · exact ⟨by assumption, by assumption, by omega⟩
    · cases h
  · cases h
theorem star_P {v : Sq} (hs : isS v) (ht : isT v) : isP v v := by
  have hn := ht.ne
  have at_ : ∀ k, sAt v k = v.2.1.getD (k % v.2.1.length) 0 := fun k => by
    unfold sAt
    rw [ht.pre]
    simp
  refine ⟨hs.cn, by rw [ht.pre]; simp, by have := hs.le; omega, fun k => ?_, fun k hk i => ?_⟩
  · rw [at_, getD_at (Nat.mod_lt _ hn)]
    exact hs.l2 _ (List.getElem_mem _)
  · have hm : k % v.2.1.length = v.2.1.length - 1 := by
      have h1 := Nat.mod_lt k hn
      refine Classical.byContradiction fun hne => ?_
      rw [at_] at hk
      exact ht.no _ (by omega) hk
    rw [at_, at_]
    congr 1
    have e : k + 1 + i = i + v.2.1.length * (k / v.2.1.length + 1) := by
      have := Nat.div_add_mod k v.2.1.length
      rw [Nat.mul_succ]
      omega
    rw [e, Nat.add_mul_mod_self_left]
end Go.K.Pure

/- Plain laws of trees, part 49: the laws' own loops over lists of sequences. -/
set_option linter.all false
namespace Go.K.Pure
open Classical
theorem markText_some {k : Nat} (h0 : 0 < k) (h : k ≤ 10000000) : ∃ t, laws_markText (k : Int) = some t := by
  obtain ⟨r, e, _⟩ := loop_inv (step := laws_markText_l0) (fun s => ∃ (m : Nat) (out : List UInt8), s = ((m : Int), out, ()) ∧ m + out.length ≤ 20000000) (fun s => s.1.toNat) (fun r => r.1.length ≤ 20000000) (by
    rintro _ ⟨m, out, rfl, hm⟩
    by_cases hz : 0 < m
    · right
      have c1 : decide ((m : Int) > 0) = true := by simp only [decide_eq_true_eq]; omega
      have c2 : (!((10 : Int) == 0)) = true := by decide
      have c3 : ∀ u : Int, decide (([u].map (fun z3 => (UInt8.ofNat z3.toNat))).length + out.length ≤ 1152921504606846976) = true := fun u => by simp only [decide_eq_true_eq, List.length_map, List.length_singleton]; omega
      have c4 : w64 ((m : Int).tdiv 10) = ((m / 10 : Nat) : Int) := by
        rw [show (10 : Int) = ((10 : Nat) : Int) from rfl, tdiv_nat, w64_id (by omega) (by omega)]
      refine ⟨((m / 10 : Nat), ([(wu8 (w64 ((48 : Int) + ((m : Int).tmod (10 : Int)))))].map (fun z2 => (UInt8.ofNat z2.toNat))) ++ out, ()), ?_, ⟨m / 10, _, rfl, by simp; omega⟩, by simp; omega⟩
      unfold laws_markText_l0
      simp only [c1, c2, c3, c4, cond_true]
    · left
      have c1 : decide ((m : Int) > 0) = false := by simp only [decide_eq_false_iff_not]; omega
      refine ⟨(out, ()), ?_, by simp only; omega⟩
      unfold laws_markText_l0
      simp only [c1, cond_false]) ((k : Int), [], ()) ⟨k, [], rfl, by simp; omega⟩
  rename_i hr
  unfold laws_markText
  have c1 : decide ((k : Int) ≤ 0) = false := by simp only [decide_eq_false_iff_not]; omega
  rw [c1]
  simp only [cond_false]
  have e' : loop laws_markText_l0 ((k : Int), (Array.toList (List.toArray ([] : List UInt8))), ()) = some r := e
  rw [e']
  simp only [Option.bind_some]
  have c2 : decide ((Array.toList (List.toArray [(109 : UInt8)])).length + r.1.length ≤ 1152921504606846976) = true := by
    simp only [decide_eq_true_eq]
    show 1 + r.1.length ≤ _
    omega
  rw [c2]
  exact ⟨_, rfl⟩
/-- The mark of a number. -/
noncomputable def MT (k : Nat) : List UInt8 := (laws_markText (k : Int)).getD []
theorem MT_ok {k : Nat} (h0 : 0 < k) (h : k ≤ 10000000) : laws_markText (k : Int) = some (MT k) := by
  obtain ⟨t, e⟩ := markText_some h0 h
  unfold MT
  rw [e]; rfl
theorem eqS_ok (x : Sq) : laws_eqSequence x x = some true := by
  unfold laws_eqSequence
  simp
theorem eqSS_ok {L : List Sq} (hl : L.length ≤ 1000000) : laws_eqSequenceS L L = some true := by
  have := loop_count (step := laws_eqSequenceS_l0) (fun i => (L, L, (i : Int), ())) L.length (.inr ()) (fun i hi => by
    have e3 : w64 ((i : Int) + 1) = ((i + 1 : Nat) : Int) := w64_succ (by omega)
    unfold laws_eqSequenceS_l0
    simp only [ltb hi, nn0 i, Bool.and_self, cond_true, Int.toNat_natCast, eqS_ok, Option.bind_some, Bool.not_true, cond_false, e3]) (by
    unfold laws_eqSequenceS_l0
    simp only [nltb (Nat.lt_irrefl _), cond_false]) 0 (Nat.zero_le _)
  have h0 : (((L.length : Nat) : Int) != ((L.length : Nat) : Int)) = false := by simp
  unfold laws_eqSequenceS
  rw [h0]
  simp only [cond_false]
  erw [this]
  rfl
theorem mark_ok {L : List Sq} (hl : L.length ≤ 1000000) : ∃ M : List Sq, laws_markSequenceS L 1 = some (((2 * L.length + 1 : Nat) : Int), M) ∧ M.length = L.length ∧ ∀ j, j < L.length → M.getD j zS = (MT (2 * j + 1), MT (2 * j + 2), ()) := by
  obtain ⟨r, e, M, h1, h2, h3⟩ := loop_inv (step := laws_markSequenceS_l0) (fun s => ∃ (i : Nat) (M : List Sq), s = (M, ((2 * i + 1 : Nat) : Int), (i : Int), ()) ∧ i ≤ L.length ∧ M.length = L.length ∧ ∀ j, j < i → M.getD j zS = (MT (2 * j + 1), MT (2 * j + 2), ()))
    (fun s => L.length - s.2.2.1.toNat) (fun r => ∃ M : List Sq, r = (M, ((2 * L.length + 1 : Nat) : Int), ()) ∧ M.length = L.length ∧ ∀ j, j < L.length → M.getD j zS = (MT (2 * j + 1), MT (2 * j + 2), ())) (by
    rintro _ ⟨i, M, rfl, hi, hM, hj⟩
    by_cases h : i < L.length
    · right
      have e3 : w64 ((i : Int) + 1) = ((i + 1 : Nat) : Int) := w64_succ (by omega)
      have e4 : w64 (((2 * i + 1 : Nat) : Int) + 1) = ((2 * i + 2 : Nat) : Int) := w64_succ (by omega)
      have e5 : w64 (((2 * i + 2 : Nat) : Int) + 1) = ((2 * (i + 1) + 1 : Nat) : Int) := w64_succ (by omega)
      have hi' : i < M.length := by omega
      have q1 : ∀ x : Sq, (M.set i x).length = M.length := fun x => by simp
      have q2 : ∀ x : Sq, (M.set i x).getD i zS = x := fun x => by rw [getD_at (by simpa using hi')]; simp
      refine ⟨(((M.set i (MT (2 * i + 1), (M.getD i zS).2)).set i (MT (2 * i + 1), MT (2 * i + 2), ())), ((2 * (i + 1) + 1 : Nat) : Int), ((i + 1 : Nat) : Int), ()), ?_, ⟨i + 1, _, rfl, by omega, by simp [hM], fun j hj' => ?_⟩, by simp; omega⟩
      · unfold laws_markSequenceS_l0
        simp only [ltb hi', nn0 i, Bool.and_self, cond_true, Int.toNat_natCast, MT_ok (show 0 < 2 * i + 1 by omega) (by omega), Option.bind_some, e4, MT_ok (show 0 < 2 * i + 2 by omega) (by omega), q1, q2, e5, e3]
      · by_cases hji : j = i
        · subst hji
          rw [getD_at (by simpa using hi')]; simp
        · have := hj j (by omega)
          rw [List.getD_eq_getElem?_getD, List.getElem?_set_ne (fun e => hji e.symm), List.getElem?_set_ne (fun e => hji e.symm), ← List.getD_eq_getElem?_getD]
          exact this
    · left
      have : i = L.length := by omega
      subst this
      refine ⟨_, ?_, M, rfl, hM, hj⟩
      unfold laws_markSequenceS_l0
      simp only [nltb (show ¬ L.length < M.length by omega), cond_false]) (L, (1 : Int), (0 : Int), ()) ⟨0, L, rfl, Nat.zero_le _, rfl, fun j h => by omega⟩
  subst h1
  refine ⟨M, ?_, h2, h3⟩
  unfold laws_markSequenceS
  rw [e]; rfl
theorem held_ok {M : List Sq} {n : Nat} (hn : M.length = n) (hl : n ≤ 1000000) (h : ∀ j, j < n → M.getD j zS = (MT (2 * j + 1), MT (2 * j + 2), ())) : laws_heldSequenceS M 1 = some ((2 * n + 1 : Nat) : Int) := by
  have := loop_count (step := laws_heldSequenceS_l0) (fun i => (M, ((2 * i + 1 : Nat) : Int), (i : Int), ())) n (.inr (((2 * n + 1 : Nat) : Int), ())) (fun i hi => by
    have hi' : i < M.length := by omega
    have e3 : w64 ((i : Int) + 1) = ((i + 1 : Nat) : Int) := w64_succ (by omega)
    have e4 : w64 (((2 * i + 1 : Nat) : Int) + 1) = ((2 * i + 2 : Nat) : Int) := w64_succ (by omega)
    have e5 : w64 (((2 * i + 2 : Nat) : Int) + 1) = ((2 * (i + 1) + 1 : Nat) : Int) := w64_succ (by omega)
    have b1 : ((MT (2 * i + 1)) == MT (2 * i + 1)) = true := by simp
    have b2 : ((MT (2 * i + 2)) == MT (2 * i + 2)) = true := by simp
    unfold laws_heldSequenceS_l0
    simp only [ltb hi', nn0 i, Bool.and_self, cond_true, Int.toNat_natCast, MT_ok (show 0 < 2 * i + 1 by omega) (by omega), Option.bind_some, h i hi, b1, Bool.not_true, cond_false, e4, MT_ok (show 0 < 2 * i + 2 by omega) (by omega), b2, e5, e3]) (by
    unfold laws_heldSequenceS_l0
    simp only [nltb (show ¬ n < M.length by omega), cond_false]) 0 (Nat.zero_le _)
  unfold laws_heldSequenceS
  erw [this]
  rfl
end Go.K.Pure

/- Plain laws of trees, part 50a: the arguments. -/
set_option linter.all false
namespace Go.K.Pure
open Classical
theorem sz_ok (v : Sq) (h1 : v.1.length ≤ 9223372036854775807) (h2 : v.2.1.length ≤ 9223372036854775807) : ∃ r, laws_szSequence v 1048576 = some r ∧ (r < 0 ∨ v.1.length + v.2.1.length ≤ 1048576 ∧ 0 ≤ r) := by
  unfold laws_szSequence
  rw [w64_id (n := 1048576 - ((v.1.length : Nat) : Int)) (by omega) (by omega)]
  by_cases a : (1048576 : Int) - ((v.1.length : Nat) : Int) < 0
  · rw [decide_eq_true a]
    exact ⟨-1, rfl, .inl (by omega)⟩
  · rw [decide_eq_false a, w64_id (by omega) (by omega)]
    by_cases b : (1048576 : Int) - ((v.1.length : Nat) : Int) - ((v.2.1.length : Nat) : Int) < 0
    · rw [decide_eq_true b]
      exact ⟨-1, rfl, .inl (by omega)⟩
    · rw [decide_eq_false b]
      exact ⟨_, rfl, .inr ⟨by omega, by omega⟩⟩
theorem to_ok (v : Sq) : laws_toSequence v = some v := by
  obtain ⟨a, b, ⟨⟩⟩ := v
  rfl
end Go.K.Pure

/- Plain laws of trees, part 51: the points of a star-periodic sequence by their numbers. -/
set_option linter.all false
namespace Go.K.Pure
open Classical
/-- A star-periodic sequence of n letters. -/
structure Star (v : Sq) (n : Nat) : Prop where
  s : isS v
  t : isT v
  n : v.2.1.length = n
theorem Star.P {v : Sq} {n : Nat} (h : Star v n) : isP v v := star_P h.s h.t
theorem Star.pos {v : Sq} {n : Nat} (h : Star v n) : 0 < n := h.n ▸ h.t.ne
theorem Star.at {v : Sq} {n : Nat} (h : Star v n) (k : Nat) : sAt v k = v.2.1.getD (k % n) 0 := by
  unfold sAt
  rw [h.t.pre, h.n]
  simp
theorem shN_at {v : Sq} (h : isP v v) : ∀ i k, sAt (shN i v) k = sAt v (i + k)
  | 0, k => by rw [Nat.zero_add]; rfl
  | i + 1, k => by
    show sAt (shf (shN i v)) k = _
    rw [shf_at (shN_P h i).cn.per, shN_at h i]
    congr 1; omega
theorem Star.shAt {v : Sq} {n : Nat} (h : Star v n) (i k : Nat) : sAt (shN i v) k = v.2.1.getD ((i + k) % n) 0 := by rw [shN_at h.P, h.at]
/-- The star stands at one place. -/
theorem Star.star {v : Sq} {n : Nat} (h : Star v n) {k : Nat} (hk : k < n) : v.2.1.getD k 0 = 42 ↔ k = n - 1 := by
  have hl := h.t.last
  have hn := h.t.no
  rw [h.n] at hl hn
  constructor
  · intro e
    exact Classical.byContradiction fun hne => hn k (by omega) e
  · rintro rfl; exact hl
theorem Star.shn {v : Sq} {n : Nat} (h : Star v n) : shN n v = v := by
  refine canon_uniq (shN_P h.P n).cn h.s.cn fun k => ?_
  rw [h.shAt, h.at, Nat.add_mod_left]
theorem mod_star {n a e : Nat} (he : e < n) (h : (a + (n - 1 - e)) % n = n - 1) : a % n = e := by
  have hn : 0 < n := by omega
  have h1 := Nat.mod_lt a hn
  have h2 : (a + (n - 1 - e)) % n = (a % n + (n - 1 - e)) % n := by rw [Nat.mod_add_mod]
  rw [h2] at h
  rcases Nat.lt_or_ge (a % n + (n - 1 - e)) n with h3 | h3
  · rw [Nat.mod_eq_of_lt h3] at h; omega
  · rw [Nat.mod_eq_sub_mod h3, Nat.mod_eq_of_lt (by omega)] at h; omega
theorem Star.inj {v : Sq} {n : Nat} (h : Star v n) {i j : Nat} (hi : i < n) (hj : j < n) : shN i v = shN j v ↔ i = j := by
  constructor
  · intro e
    have h1 := h.shAt i (n - 1 - i)
    have h2 := h.shAt j (n - 1 - i)
    rw [← e] at h2
    rw [h2] at h1
    have h3 : (i + (n - 1 - i)) % n = n - 1 := by rw [show i + (n - 1 - i) = n - 1 by omega, Nat.mod_eq_of_lt (by omega)]
    rw [h3] at h1
    have h4 := (h.star (k := n - 1) (by omega)).2 rfl
    rw [h4] at h1
    have h5 := (h.star (Nat.mod_lt _ (by omega))).1 h1
    have := mod_star hi h5
    rw [Nat.mod_eq_of_lt hj] at this
    exact this.symm
  · rintro rfl; rfl
/-- The number behind a step. -/
def nx (w : List UInt8) (n : Nat) (l : UInt8) (i : Nat) : Nat := bif (w.getD i 0 == l || w.getD i 0 == 42) then (bif Nat.beq (i + 1) n then 0 else i + 1) else 0
theorem nx_lt {w : List UInt8} {n : Nat} {l : UInt8} {i : Nat} (h0 : 0 < n) (hi : i < n) : nx w n l i < n := by
  unfold nx
  cases (w.getD i 0 == l || w.getD i 0 == 42)
  · exact h0
  · show (bif Nat.beq (i + 1) n then 0 else i + 1) < n
    cases hb : Nat.beq (i + 1) n
    · have : i + 1 ≠ n := fun e => by rw [e, Nat.beq_refl] at hb; cases hb
      show i + 1 < n
      omega
    · exact h0
theorem Star.mv {v : Sq} {n : Nat} (h : Star v n) {i : Nat} (hi : i < n) (l : UInt8) : mv v l (shN i v) = shN (nx v.2.1 n l i) v := by
  have e : sAt (shN i v) 0 = v.2.1.getD i 0 := by rw [h.shAt, Nat.add_zero, Nat.mod_eq_of_lt hi]
  unfold Pure.mv nx
  rw [e]
  by_cases hc : v.2.1.getD i 0 = l ∨ v.2.1.getD i 0 = 42
  · have hb : (v.2.1.getD i 0 == l || v.2.1.getD i 0 == 42) = true := by
      rcases hc with hc | hc <;> simp only [hc, beq_self_eq_true, Bool.true_or, Bool.or_true]
    rw [if_pos hc, hb]
    show shN (i + 1) v = shN (bif Nat.beq (i + 1) n then 0 else i + 1) v
    cases hb : Nat.beq (i + 1) n
    · rfl
    · rw [Nat.eq_of_beq_eq_true hb, h.shn]; rfl
  · have hb : (v.2.1.getD i 0 == l || v.2.1.getD i 0 == 42) = false := by
      simp only [not_or] at hc
      simp only [Bool.or_eq_false_iff, beq_eq_false_iff_ne, ne_eq]
      exact hc
    rw [if_neg hc, hb]; rfl
/-- The vote, by the letters. -/
def voteN (x y z : UInt8) : Option UInt8 × Nat :=
  bif x == 42 then (bif y == z then (some y, 0) else (none, 0)) else bif y == 42 then (bif x == z then (some x, 0) else (none, 1)) else bif z == 42 then (bif x == y then (some x, 0) else (none, 2)) else bif x == y then (some x, 0) else (some z, 0)
theorem voteN_ok {x y z : UInt8} (hx : isLt x) (hy : isLt y) (hz : isLt z) {o : Option UInt8} {i : Nat} (h : Vote x y z o i) : voteN x y z = (o, i) := by
  have w1 : w64 1 = 1 := by decide
  have w2 : w64 2 = 2 := by decide
  have w3 : w64 3 = 3 := by decide
  have n1 : ¬ (49 : UInt8) = 48 := by decide
  have n2 : ¬ (42 : UInt8) = 48 := by decide
  have n3 : ¬ (42 : UInt8) = 49 := by decide
  have n4 : ¬ (48 : UInt8) = 49 := by decide
  cases h with
  | l hl e1 e2 _ _ =>
    rcases hl with rfl | rfl <;> rcases hx with rfl | rfl | rfl <;> rcases hy with rfl | rfl | rfl <;> rcases hz with rfl | rfl | rfl <;>
      first
      | rfl
      | (exfalso; simp [voteI, vs3, vs, w1, w2, w3, n1, n2, n3, n4] at e1; done)
      | (exfalso; simp [voteS, vs3, vs, w1, w2, w3, n1, n2, n3, n4] at e2; done)
  | s hi _ e1 e2 _ _ =>
    rcases (by omega : i = 0 ∨ i = 1 ∨ i = 2) with rfl | rfl | rfl <;> rcases hx with rfl | rfl | rfl <;> rcases hy with rfl | rfl | rfl <;> rcases hz with rfl | rfl | rfl <;>
      first
      | rfl
      | (exfalso; simp [voteI, vs3, vs, w1, w2, w3, n1, n2, n3, n4] at e1; done)
      | (exfalso; simp [voteS, vs3, vs, w1, w2, w3, n1, n2, n3, n4] at e2; done)
end Go.K.Pure

/- Plain laws of trees, part 52: no branch point is an orbit point. -/
set_option linter.all false
namespace Go.K.Pure
open Classical
/-- A word with a point behind it is none of the points but three. -/
def finC (w : List UInt8) (n : Nat) (A : Nat × Nat × Nat) (word : List UInt8) (e : Nat) : Bool :=
  (List.range n).all fun d => Nat.beq d A.1 || (Nat.beq d A.2.1 || (Nat.beq d A.2.2 || (!(Nat.beq ((d + word.length) % n) e) || !((List.range word.length).all fun t => w.getD ((d + t) % n) 0 == word.getD t 0))))
def chk (w : List UInt8) (n : Nat) (A : Nat × Nat × Nat) : Nat → List UInt8 → List (Nat × Nat × Nat) → Nat → Nat → Nat → Bool
  | 0, _, _, _, _, _ => false
  | f + 1, word, seen, i, j, k =>
    bif Nat.beq i j || Nat.beq i k then finC w n A word i else bif Nat.beq j k then finC w n A word j else
    match voteN (w.getD i 0) (w.getD j 0) (w.getD k 0) with
    | (none, x) => finC w n A word (match x with | 0 => i | 1 => j | _ => k)
    | (some l, _) => bif seen.any (fun q => Nat.beq q.1 i && (Nat.beq q.2.1 j && Nat.beq q.2.2 k)) then true else chk w n A f (word ++ [l]) ((i, j, k) :: seen) (nx w n l i) (nx w n l j) (nx w n l k)
theorem natbeq {a b : Nat} : Nat.beq a b = true ↔ a = b := ⟨Nat.eq_of_beq_eq_true, fun e => by rw [e, Nat.beq_refl]⟩
theorem finC_ok {v : Sq} {n : Nat} (h : Star v n) {A : Nat × Nat × Nat} {word : List UInt8} {e : Nat} (he : e < n) (hw : word.length ≤ 600) (hc : finC v.2.1 n A word e = true) {m : Sq} (hm : told (canS (word ++ (shN e v).1) (shN e v).2.1) = some m) {d : Nat} (hd : d < n) (hmd : m = shN d v) : d = A.1 ∨ d = A.2.1 ∨ d = A.2.2 := by
  have hP := shN_P h.P e
  obtain ⟨_, _, _, _, _, _, _, hat⟩ := canS_ok (pre := word ++ (shN e v).1) (per := (shN e v).2.1) hP.cn.per (by have := hP.l1; simp; omega) (by have := hP.l2; omega)
  have hm' : m = canS (word ++ (shN e v).1) (shN e v).2.1 := by
    unfold told at hm
    split at hm
    · exact (Option.some.inj hm).symm
    · cases hm
  have a1 : ∀ t, t < word.length → sAt (word ++ (shN e v).1, (shN e v).2.1, ()) t = word.getD t 0 := by
    intro t ht
    rw [sAt_pre (by simp; omega)]
    exact app_getD' ht
  have a2 : ∀ t, sAt (word ++ (shN e v).1, (shN e v).2.1, ()) (word.length + t) = sAt (shN e v) t := by
    intro t
    unfold sAt
    simp only [List.length_append]
    by_cases ht : t < (shN e v).1.length
    · rw [if_pos (by omega), if_pos ht, List.getD_eq_getElem?_getD, List.getElem?_append_right (by omega), List.getD_eq_getElem?_getD]
      congr 2; omega
    · rw [if_neg (by omega), if_neg ht]
      congr 2; omega
  have key : ∀ t, sAt (shN d v) t = sAt (word ++ (shN e v).1, (shN e v).2.1, ()) t := fun t => by rw [← hmd, hm', hat]
  unfold finC at hc
  rw [List.all_eq_true] at hc
  have := hc d (List.mem_range.2 hd)
  simp only [Bool.or_eq_true, natbeq, Bool.not_eq_true'] at this
  rcases this with h1 | h1 | h1 | h1 | h1
  · exact .inl h1
  · exact .inr (.inl h1)
  · exact .inr (.inr h1)
  · exfalso
    have hne : (d + word.length) % n ≠ e := fun h2 => by rw [h2, Nat.beq_refl] at h1; cases h1
    have k1 := key (word.length + (n - 1 - e))
    rw [a2, h.shAt, h.shAt] at k1
    have h3 : (e + (n - 1 - e)) % n = n - 1 := by rw [show e + (n - 1 - e) = n - 1 by omega, Nat.mod_eq_of_lt (by omega)]
    rw [h3, (h.star (k := n - 1) (by omega)).2 rfl] at k1
    have h4 := (h.star (Nat.mod_lt _ (by omega))).1 k1
    rw [← Nat.add_assoc] at h4
    exact hne (mod_star he h4)
  · exfalso
    have hall : ((List.range word.length).all fun t => v.2.1.getD ((d + t) % n) 0 == word.getD t 0) = true := by
      rw [List.all_eq_true]
      intro t ht
      have ht' := List.mem_range.1 ht
      have k1 := key t
      rw [a1 t ht', h.shAt] at k1
      rw [k1]; simp
    rw [hall] at h1; cases h1
theorem chk_ok {v : Sq} {n : Nat} (h : Star v n) {A : Nat × Nat × Nat} {word : List UInt8} {seen : List (List Sq)} {a b c : Sq} {r : Option Sq} (hM : Mid v word seen a b c r) : ∀ (f : Nat) (sI : List (Nat × Nat × Nat)) (i j k : Nat),
    a = shN i v → b = shN j v → c = shN k v → i < n → j < n → k < n → seen.length = word.length → word.length ≤ 600 → (∀ c ∈ word, c = 48 ∨ c = 49) → (∀ q ∈ sI, [shN q.1 v, shN q.2.1 v, shN q.2.2 v] ∈ seen) → chk v.2.1 n A f word sI i j k = true →
    ∀ m, r = some m → ∀ d, d < n → m = shN d v → d = A.1 ∨ d = A.2.1 ∨ d = A.2.2 := by
  have at0 : ∀ i, i < n → sAt (shN i v) 0 = v.2.1.getD i 0 := fun i hi => by rw [h.shAt, Nat.add_zero, Nat.mod_eq_of_lt hi]
  have hlt : ∀ i, i < n → isLt (v.2.1.getD i 0) := fun i hi => by rw [← at0 i hi]; exact (shN_P h.P i).lt 0
  induction hM with
  | @same word seen a b c s hs =>
    rintro f sI i j k rfl rfl rfl hi hj hk hl hw _ _ hc m hm d hd hmd
    cases f with
    | zero => cases hc
    | succ f =>
    unfold chk at hc
    unfold sameC at hs
    by_cases h1 : i = j ∨ i = k
    · have hb : (Nat.beq i j || Nat.beq i k) = true := by
        rcases h1 with h1 | h1 <;> simp [natbeq.2 h1]
      rw [hb] at hc
      have : shN i v = shN j v ∨ shN i v = shN k v := h1.imp (fun e => by rw [e]) (fun e => by rw [e])
      rw [if_pos this] at hs
      cases hs
      exact finC_ok h hi hw hc hm hd hmd
    · have hb : (Nat.beq i j || Nat.beq i k) = false := by
        simp only [not_or] at h1
        cases e1 : Nat.beq i j
        · cases e2 : Nat.beq i k
          · rfl
          · exact absurd (natbeq.1 e2) h1.2
        · exact absurd (natbeq.1 e1) h1.1
      rw [hb] at hc
      have : ¬ (shN i v = shN j v ∨ shN i v = shN k v) := fun e => h1 (e.imp (h.inj hi hj).1 (h.inj hi hk).1)
      rw [if_neg this] at hs
      split at hs
      · rename_i e
        cases hs
        have hb2 : Nat.beq j k = true := natbeq.2 ((h.inj hj hk).1 e)
        rw [hb2] at hc
        exact finC_ok h hj hw hc hm hd hmd
      · cases hs
  | @star word seen a b c x hs hV =>
    rintro f sI i j k rfl rfl rfl hi hj hk hl hw _ _ hc m hm d hd hmd
    cases f with
    | zero => cases hc
    | succ f =>
    obtain ⟨s1, s2, s3⟩ := sameC_none.1 hs
    have b1 : (Nat.beq i j || Nat.beq i k) = false := by
      cases e1 : Nat.beq i j
      · cases e2 : Nat.beq i k
        · rfl
        · exact absurd (by rw [natbeq.1 e2]) s2
      · exact absurd (by rw [natbeq.1 e1]) s1
    have b2 : Nat.beq j k = false := by
      cases e1 : Nat.beq j k
      · rfl
      · exact absurd (by rw [natbeq.1 e1]) s3
    have hx : x < 3 := by cases hV; assumption
    rw [at0 i hi, at0 j hj, at0 k hk] at hV
    have hN := voteN_ok (hlt i hi) (hlt j hj) (hlt k hk) hV
    unfold chk at hc
    rw [b1, b2, hN] at hc
    rcases (by omega : x = 0 ∨ x = 1 ∨ x = 2) with rfl | rfl | rfl
    · exact finC_ok h hi hw hc hm hd hmd
    · exact finC_ok h hj hw hc hm hd hmd
    · exact finC_ok h hk hw hc hm hd hmd
  | @seen word seen a b c l x y hs hV h1 h2 h3 =>
    rintro f sI i j k rfl rfl rfl hi hj hk hl hw hlt' _ hc m hm d hd hmd
    exfalso
    have hy : y < word.length := by omega
    obtain ⟨_, _, hcn, _, _, _, h7, _⟩ := canS_ok (pre := word.take y) (per := word.drop y) (by simp; omega) (by simp; omega) (by simp; omega)
    have hm' : m = canS (word.take y) (word.drop y) := by
      unfold told at hm
      split at hm
      · exact (Option.some.inj hm).symm
      · cases hm
    -- far behind there is a star
    have hn := h.pos
    have hp : 0 < m.2.1.length := by rw [hm']; exact hcn.per
    have e1 := h.shAt d (m.1.length * n + (n - 1 - d))
    have e2 : (d + (m.1.length * n + (n - 1 - d))) % n = n - 1 := by
      rw [show d + (m.1.length * n + (n - 1 - d)) = (n - 1) + m.1.length * n by omega, Nat.add_mul_mod_self_right, Nat.mod_eq_of_lt (by omega)]
    rw [e2, (h.star (k := n - 1) (by omega)).2 rfl, ← hmd] at e1
    unfold sAt at e1
    have hge : ¬ m.1.length * n + (n - 1 - d) < m.1.length := by
      have : m.1.length ≤ m.1.length * n := Nat.le_mul_of_pos_right _ hn
      omega
    rw [if_neg hge, getD_at (Nat.mod_lt _ hp)] at e1
    have h8 := List.getElem_mem (Nat.mod_lt (m.1.length * n + (n - 1 - d) - m.1.length) hp)
    rw [e1, hm'] at h8
    have h9 := hlt' 42 (List.mem_of_mem_drop (h7 42 h8))
    rcases h9 with h9 | h9 <;> cases h9
  | lim => rintro f sI i j k _ _ _ _ _ _ _ _ _ _ _ m hm; cases hm
  | @next word seen a b c l x r hs hV hmem hw' _ ih =>
    rintro f sI i j k rfl rfl rfl hi hj hk hl hw hlt' hsI hc m hm d hd hmd
    cases f with
    | zero => cases hc
    | succ f =>
    obtain ⟨s1, s2, s3⟩ := sameC_none.1 hs
    have b1 : (Nat.beq i j || Nat.beq i k) = false := by
      cases e1 : Nat.beq i j
      · cases e2 : Nat.beq i k
        · rfl
        · exact absurd (by rw [natbeq.1 e2]) s2
      · exact absurd (by rw [natbeq.1 e1]) s1
    have b2 : Nat.beq j k = false := by
      cases e1 : Nat.beq j k
      · rfl
      · exact absurd (by rw [natbeq.1 e1]) s3
    have hll : l = 48 ∨ l = 49 := by cases hV; assumption
    rw [at0 i hi, at0 j hj, at0 k hk] at hV
    have hN := voteN_ok (hlt i hi) (hlt j hj) (hlt k hk) hV
    unfold chk at hc
    rw [b1, b2, hN] at hc
    simp only [cond_false] at hc
    have b3 : sI.any (fun q => Nat.beq q.1 i && (Nat.beq q.2.1 j && Nat.beq q.2.2 k)) = false := by
      cases e1 : sI.any (fun q => Nat.beq q.1 i && (Nat.beq q.2.1 j && Nat.beq q.2.2 k))
      · rfl
      · rw [List.any_eq_true] at e1
        obtain ⟨q, hq, hqe⟩ := e1
        simp only [Bool.and_eq_true, natbeq] at hqe
        have := hsI q hq
        rw [hqe.1, hqe.2.1, hqe.2.2] at this
        exact absurd this hmem
    rw [b3] at hc
    refine ih f ((i, j, k) :: sI) _ _ _ (h.mv hi l) (h.mv hj l) (h.mv hk l) (nx_lt h.pos hi) (nx_lt h.pos hj) (nx_lt h.pos hk) (by simp [hl]) (by simp; omega) (fun c hc => ?_) (fun q hq => ?_) hc m hm d hd hmd
    · rcases List.mem_append.1 hc with hc | hc
      · exact hlt' c hc
      · simp only [List.mem_singleton] at hc
        rw [hc]; exact hll
    · rcases List.mem_cons.1 hq with rfl | hq
      · exact List.mem_append_right _ (by simp)
      · exact List.mem_append_left _ (hsI q hq)
/-- All three of n points. -/
def chkW (w : List UInt8) : Bool := (List.range w.length).all fun k => (List.range k).all fun j => (List.range j).all fun i => chk w w.length (i, j, k) 100 [] [] i j k
def allB : Nat → (List UInt8 → Bool) → Bool
  | 0, f => f []
  | n + 1, f => allB n (fun l => f (48 :: l)) && allB n (fun l => f (49 :: l))
theorem allB_ok : ∀ (n : Nat) (f : List UInt8 → Bool), allB n f = true → ∀ l : List UInt8, l.length = n → (∀ c ∈ l, c = 48 ∨ c = 49) → f l = true
  | 0, f, h, l, hl, _ => by rw [List.eq_nil_of_length_eq_zero hl]; exact h
  | n + 1, f, h, [], hl, _ => by simp at hl
  | n + 1, f, h, c :: l, hl, hc => by
    simp only [allB, Bool.and_eq_true] at h
    have hl' : l.length = n := by simpa using hl
    have hc' : ∀ c ∈ l, c = 48 ∨ c = 49 := fun d hd => hc d (List.mem_cons_of_mem _ hd)
    rcases hc c List.mem_cons_self with rfl | rfl
    · exact allB_ok n _ h.1 l hl' hc'
    · exact allB_ok n _ h.2 l hl' hc'
def chkN (n : Nat) : Bool := allB n fun l => chkW (49 :: (l ++ [42]))
theorem chkN0 : chkN 0 = true := by kernel_rfl
theorem chkN1 : chkN 1 = true := by kernel_rfl
theorem chkN2 : chkN 2 = true := by kernel_rfl
theorem chkN3 : chkN 3 = true := by kernel_rfl
end Go.K.Pure

/- Plain laws of trees, part 53: TreeVertices. -/
set_option linter.all false
namespace Go.K.Pure
open Classical
theorem chkN4 : chkN 4 = true := by kernel_rfl
theorem chkN5 : chkN 5 = true := by kernel_rfl
theorem chkN6 : chkN 6 = true := by kernel_rfl
theorem chkN_all : ∀ n, n ≤ 6 → chkN n = true
  | 0, _ => chkN0 | 1, _ => chkN1 | 2, _ => chkN2 | 3, _ => chkN3 | 4, _ => chkN4 | 5, _ => chkN5 | 6, _ => chkN6
  | n + 7, h => by omega
theorem star_word {v : Sq} {n : Nat} (h : Star v n) (hn : 2 ≤ n) : ∃ l : List UInt8, l.length = n - 2 ∧ (∀ c ∈ l, c = 48 ∨ c = 49) ∧ v.2.1 = 49 :: (l ++ [42]) := by
  have hl := h.n
  have hf := h.t.one (by omega)
  have hla := h.t.last
  refine ⟨(v.2.1.drop 1).take (n - 2), by simp; omega, fun c hc => ?_, ?_⟩
  · obtain ⟨q, hq, rfl⟩ := List.getElem_of_mem hc
    simp only [List.length_take, List.length_drop] at hq
    rw [List.getElem_take, List.getElem_drop]
    have h1 := h.s.l2 _ (List.getElem_mem (l := v.2.1) (n := 1 + q) (by omega))
    have h2 := h.t.no (1 + q) (by omega)
    rw [getD_at (show 1 + q < v.2.1.length by omega)] at h2
    rcases h1 with h1 | h1 | h1
    · exact .inl h1
    · exact .inr h1
    · exact absurd h1 h2
  · apply List.ext_getElem (by simp; omega)
    intro q h1 h2
    cases q with
    | zero =>
      rw [getD_at (by omega)] at hf
      simpa using hf
    | succ q =>
      simp only [List.getElem_cons_succ]
      by_cases hq : q < n - 2
      · rw [List.getElem_append_left (by simp; omega), List.getElem_take, List.getElem_drop]
        congr 1; omega
      · have hq' : q + 1 = v.2.1.length - 1 := by omega
        rw [List.getElem_append_right (by simp; omega)]
        rw [getD_at (by omega)] at hla
        simp only [hq', hla, List.getElem_singleton]
theorem star_chk {v : Sq} {n : Nat} (h : Star v n) (h8 : n ≤ 8) {i j k : Nat} (hi : i < j) (hj : j < k) (hk : k < n) : chk v.2.1 n (i, j, k) 100 [] [] i j k = true := by
  obtain ⟨l, l1, l2, l3⟩ := star_word h (by omega)
  have h1 := allB_ok (n - 2) _ (chkN_all (n - 2) (by omega)) l l1 l2
  rw [← l3] at h1
  unfold chkW at h1
  rw [h.n] at h1
  have h2 := List.all_eq_true.1 h1 k (List.mem_range.2 hk)
  have h3 := List.all_eq_true.1 h2 j (List.mem_range.2 hj)
  exact List.all_eq_true.1 h3 i (List.mem_range.2 hi)
theorem br_noOrb {v : Sq} {n : Nat} (h : Star v n) (h8 : n ≤ 8) {m : Sq} (hb : Br3 v m) : m ∉ orb v := by
  obtain ⟨i, j, k, hij, hjk, hk, hR, m1, m2, m3⟩ := hb
  intro hmem
  rw [h.n] at hk
  have hi' : i < v.2.1.length := by rw [h.n]; omega
  have hj' : j < v.2.1.length := by rw [h.n]; omega
  have hk' : k < v.2.1.length := by rw [h.n]; omega
  obtain ⟨d, hd, e⟩ := List.mem_map.1 hmem
  have hd' : d < n := by have := List.mem_range.1 hd; rw [h.n] at this; exact this
  have hM := (RR_ok h.P (orb_P h.P hi') (orb_P h.P hj') (orb_P h.P hk')).1
  rw [orb_at hi', orb_at hj', orb_at hk'] at hM hR
  rw [orb_at hi'] at m1
  rw [orb_at hj'] at m2
  rw [orb_at hk'] at m3
  rcases chk_ok h hM 100 [] i j k rfl rfl rfl (by omega) (by omega) hk rfl (by simp) (by simp) (by simp) (star_chk h h8 hij hjk hk) m hR d hd' e.symm with h1 | h1 | h1
  · exact m1 (by rw [← e, h1])
  · exact m2 (by rw [← e, h1])
  · exact m3 (by rw [← e, h1])
theorem find_not {L : List Sq} {m : Sq} (hl : L.length ≤ 1000000) (hm : m ∉ L) : spec_l06Find L m = some (-1) := by
  have := loop_count (step := spec_l06Find_l0) (fun i => (L, m, (i : Int), ())) L.length (.inr ()) (fun i hi => by
    have e3 : w64 ((i : Int) + 1) = ((i + 1 : Nat) : Int) := w64_succ (by omega)
    have e4 : decide (L.getD i zS = m) = false := decide_eq_false fun e => hm (by rw [← e, getD_at hi]; exact List.getElem_mem hi)
    unfold spec_l06Find_l0
    simp only [ltb hi, nn0 i, Bool.and_self, cond_true, Int.toNat_natCast, beqS, e4, cond_false, e3]) (by
    unfold spec_l06Find_l0
    simp only [nltb (Nat.lt_irrefl _), cond_false]) 0 (Nat.zero_le _)
  unfold spec_l06Find
  erw [this]
  rfl
theorem fresh_all {L O : List Sq} (hO : O.length ≤ 1000000) (hl : L.length ≤ 1000000) (h : ∀ m ∈ L, m ∉ O) : spec_l06Fresh L O = some L := by
  have := loop_count (step := spec_l06Fresh_l0) (fun i => (L, O, L.take i, (i : Int), ())) L.length (L, ()) (fun i hi => by
    have e3 : w64 ((i : Int) + 1) = ((i + 1 : Nat) : Int) := w64_succ (by omega)
    have e4 : spec_l06Find O (L.getD i zS) = some (-1) := find_not hO (h _ (by rw [getD_at hi]; exact List.getElem_mem hi))
    have e5 : decide ((-1 : Int) < 0) = true := by decide
    have e6 : decide (((L.take i).length + [L.getD i zS].length) * 32 ≤ 140737488355328) = true := by simp only [decide_eq_true_eq, List.length_singleton, List.length_take]; omega
    have e7 : L.take i ++ [L.getD i zS] = L.take (i + 1) := by rw [getD_at hi, List.take_succ_eq_append_getElem hi]
    unfold spec_l06Fresh_l0
    simp only [ltb hi, nn0 i, Bool.and_self, cond_true, Int.toNat_natCast, e4, Option.bind_some, e5, e6, e7, e3]) (by
    unfold spec_l06Fresh_l0
    simp only [nltb (Nat.lt_irrefl _), cond_false, List.take_length]) 0 (Nat.zero_le _)
  unfold spec_l06Fresh
  erw [this]
  rfl
theorem concat_ok {O L : List Sq} (hO : O.length ≤ 1000000) (hL : L.length ≤ 1000000) : slices_Concat__impl_Sequence_impl_Sequence [O, L] = some (O ++ L) := by
  have l0 : loop slices_Concat__impl_Sequence_impl_Sequence_l0 ([O, L], (0 : Int), [O, L], ((([O, L] : List (List Sq)).length : Nat) : Int), (0 : Int), ()) = some ([O, L], ((O.length + L.length : Nat) : Int), ()) := by
    have a1 : w64 ((0 : Int) + ((O.length : Nat) : Int)) = ((O.length : Nat) : Int) := by rw [w64_id (by omega) (by omega)]; omega
    have a2 : w64 (((O.length : Nat) : Int) + ((L.length : Nat) : Int)) = ((O.length + L.length : Nat) : Int) := by rw [w64_id (by omega) (by omega)]; omega
    have b1 : decide (((O.length : Nat) : Int) < 0) = false := by simp only [decide_eq_false_iff_not]; omega
    have b2 : decide (((O.length + L.length : Nat) : Int) < 0) = false := by simp only [decide_eq_false_iff_not]; omega
    have s0 : slices_Concat__impl_Sequence_impl_Sequence_l0 ([O, L], (0 : Int), [O, L], (2 : Int), (0 : Int), ()) = some (.next ([O, L], ((O.length : Nat) : Int), [O, L], (2 : Int), (1 : Int), ())) := by
      unfold slices_Concat__impl_Sequence_impl_Sequence_l0
      have g : [O, L].getD (0 : Int).toNat ([] : List Sq) = O := rfl
      have w : w64 ((0 : Int) + 1) = 1 := by decide
      simp only [g, a1, b1, w]
      rfl
    have s1 : slices_Concat__impl_Sequence_impl_Sequence_l0 ([O, L], ((O.length : Nat) : Int), [O, L], (2 : Int), (1 : Int), ()) = some (.next ([O, L], ((O.length + L.length : Nat) : Int), [O, L], (2 : Int), (2 : Int), ())) := by
      unfold slices_Concat__impl_Sequence_impl_Sequence_l0
      have g : [O, L].getD (1 : Int).toNat ([] : List Sq) = L := rfl
      have w : w64 ((1 : Int) + 1) = 2 := by decide
      simp only [g, a2, b2, w]
      rfl
    have s2 : slices_Concat__impl_Sequence_impl_Sequence_l0 ([O, L], ((O.length + L.length : Nat) : Int), [O, L], (2 : Int), (2 : Int), ()) = some (.stop ([O, L], ((O.length + L.length : Nat) : Int), ())) := rfl
    show loop slices_Concat__impl_Sequence_impl_Sequence_l0 ([O, L], (0 : Int), [O, L], (2 : Int), (0 : Int), ()) = _
    rw [loop_eq, s0]
    show loop _ _ = _
    rw [loop_eq, s1]
    show loop _ _ = _
    rw [loop_eq, s2]
  have l1 : loop slices_Concat__impl_Sequence_impl_Sequence_l1 ([O, L], ([] : List Sq), [O, L], ((([O, L] : List (List Sq)).length : Nat) : Int), (0 : Int), ()) = some (O ++ L, ()) := by
    have b1 : decide (((([] : List Sq)).length + O.length) * 32 ≤ 140737488355328) = true := by simp only [decide_eq_true_eq, List.length_nil]; omega
    have b2 : decide ((O.length + L.length) * 32 ≤ 140737488355328) = true := by simp only [decide_eq_true_eq]; omega
    have s0 : slices_Concat__impl_Sequence_impl_Sequence_l1 ([O, L], ([] : List Sq), [O, L], (2 : Int), (0 : Int), ()) = some (.next ([O, L], O, [O, L], (2 : Int), (1 : Int), ())) := by
      unfold slices_Concat__impl_Sequence_impl_Sequence_l1
      have g : [O, L].getD (0 : Int).toNat ([] : List Sq) = O := rfl
      have w : w64 ((0 : Int) + 1) = 1 := by decide
      simp only [g, b1, w]
      rfl
    have s1 : slices_Concat__impl_Sequence_impl_Sequence_l1 ([O, L], O, [O, L], (2 : Int), (1 : Int), ()) = some (.next ([O, L], O ++ L, [O, L], (2 : Int), (2 : Int), ())) := by
      unfold slices_Concat__impl_Sequence_impl_Sequence_l1
      have g : [O, L].getD (1 : Int).toNat ([] : List Sq) = L := rfl
      have w : w64 ((1 : Int) + 1) = 2 := by decide
      simp only [g, b2, w]
      rfl
    have s2 : slices_Concat__impl_Sequence_impl_Sequence_l1 ([O, L], O ++ L, [O, L], (2 : Int), (2 : Int), ()) = some (.stop (O ++ L, ())) := rfl
    show loop slices_Concat__impl_Sequence_impl_Sequence_l1 ([O, L], ([] : List Sq), [O, L], (2 : Int), (0 : Int), ()) = _
    rw [loop_eq, s0]
    show loop _ _ = _
    rw [loop_eq, s1]
    show loop _ _ = _
    rw [loop_eq, s2]
  unfold slices_Concat__impl_Sequence_impl_Sequence
  rw [l0]
  simp only [Option.bind_some]
  have hg : slices_Grow__impl_Sequence_impl_Sequence ([] : List Sq) ((O.length + L.length : Nat) : Int) = some [] := by
    unfold slices_Grow__impl_Sequence_impl_Sequence Go.K.growOf
    have g1 : decide ((0 : Int) ≤ ((O.length + L.length : Nat) : Int)) = true := nn0 _
    have g2 : decide (((O.length + L.length : Nat) : Int) * ((32 : Nat) : Int) ≤ 140737488355328) = true := by simp only [decide_eq_true_eq]; omega
    rw [g1, g2]; rfl
  rw [hg]
  simp only [Option.bind_some]
  rw [l1]
  rfl
theorem tv_same {v : Sq} (h1 : v.1.length ≤ 10000000) (h2 : v.2.1.length ≤ 10000000) : ∃ L c, spec_TreeVertices v = some (L, c) ∧ impl_TreeVertices v = some (L, c) ∧ L.length ≤ 400000 := by
  unfold spec_TreeVertices impl_TreeVertices impl_BranchPoints
  rw [spec_code h1 h2, impl_code h1 h2]
  simp only [Option.bind_some]
  by_cases hc : treeC v = 0
  · have hb : (treeC v != 0) = false := by rw [hc]; rfl
    rw [hb]
    simp only [cond_false]
    obtain ⟨a1, a2, a3⟩ := treeC_ok hc
    have hP := star_P a1 a2
    have hS : Star v v.2.1.length := ⟨a1, a2, rfl⟩
    unfold spec_l06Vertices
    rcases branches_same hP with ⟨e1, o, e2⟩ | ⟨L, e1, e2, _, e4, e5⟩
    · exact ⟨[], 3, by rw [e2]; rfl, by rw [e1]; rfl, by simp⟩
    · have hO : (orb v).length ≤ 1000000 := by rw [orb_len]; omega
      have hf := fresh_all (L := L) hO (by omega) fun m hm => br_noOrb hS a3 ((e5 m).1 hm)
      have hcc := concat_ok (L := L) hO (by omega)
      have hbd : decide (((orb v).length + L.length) * 32 ≤ 140737488355328) = true := by rw [orb_len]; simp only [decide_eq_true_eq]; omega
      refine ⟨orb v ++ L, 0, ?_, ?_, by rw [List.length_append, orb_len]; omega⟩
      · rw [e2, spec_orb hP]
        simp only [Option.bind_some, Bool.not_true, cond_false, hf, hbd, cond_true]
      · rw [e1, impl_orb hP]
        have c0 : ((0 : Int) != 0) = false := rfl
        simp only [Option.bind_some, c0, cond_false, hcc]
  · have hb : (treeC v != 0) = true := by simpa using hc
    rw [hb]
    refine ⟨[], treeC v, rfl, ?_, by simp⟩
    simp only [cond_true, Option.bind_some, hb]
end Go.K.Pure

/- Plain laws of trees, part 54: the law of TreeVertices. -/
set_option linter.all false
namespace Go.K.Pure
open Classical
theorem law_TreeVertices (v : Sq) (h1 : v.1.length ≤ 9223372036854775807) (h2 : v.2.1.length ≤ 9223372036854775807) : laws_FnExactTreeVertices v = some true := by
  obtain ⟨r, e1, h⟩ := sz_ok v h1 h2
  unfold laws_FnExactTreeVertices
  rw [e1]
  simp only [Option.bind_some]
  rcases h with h | ⟨h, h'⟩
  · rw [decide_eq_true h]; rfl
  · rw [decide_eq_false (by omega)]
    obtain ⟨L, c, e2, e3, e4⟩ := tv_same (v := v) (by omega) (by omega)
    obtain ⟨M, e5, e6, e7⟩ := mark_ok (L := L) (by omega)
    have e8 := held_ok e6 (by omega) e7
    have c1 : (c != c) = false := by simp
    have c2 : decide (((2 * L.length + 1 : Nat) : Int) < 0) = false := by simp only [decide_eq_false_iff_not]; omega
    have c3 : (((2 * L.length + 1 : Nat) : Int) != ((2 * L.length + 1 : Nat) : Int)) = false := by simp
    simp only [cond_false, to_ok, Option.bind_some, e2, e3, eqSS_ok (show L.length ≤ 1000000 by omega), Bool.not_true, c1, e5, e8, c2, c3]
end Go.K.Pure

