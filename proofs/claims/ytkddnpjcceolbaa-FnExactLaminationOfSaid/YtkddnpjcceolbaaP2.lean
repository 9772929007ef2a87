/- Part 2 of the plain law: the functions of the program as plain functions on lists and numbers, and what is shown of them; no condition. -/
import Derived.Test.YtkddnpjcceolbaaP1
set_option linter.all false
/- Plain laws of laminations, part H: what is asked of a minor leaf. -/
set_option linter.unusedVariables false
set_option linter.unusedSimpArgs false
namespace Go.K.Pure
open Classical

theorem X_symm {l m : Lf} : X l m ↔ X m l := by unfold X; omega
theorem X_irrefl {l : Lf} : ¬ X l l := by unfold X; omega
theorem impl_crossD {l m : Lf} (hl : isL l) (hm : isL m) : impl_Leaf_cross l m = some (dec (X l m)) := impl_cross hl hm
theorem spec_crossD {l m : Lf} (hl : isL l) (hm : isL m) : spec_l03Cross l m = some (dec (X l m)) := spec_cross hl hm
theorem have_ok {L M : List Lf} (hL : ∀ x ∈ L, isL x) (hM : ∀ x ∈ M, isL x) (h1 : L.length < 4611686018427387904) (h2 : M.length < 4611686018427387904) : impl_haveCross L M = some (dec (∃ l ∈ L, ∃ m ∈ M, X l m)) := by
  unfold impl_haveCross
  rw [cf_v3 (P := fun l => ∃ m ∈ M, X l m) (fun l hl => by
    unfold impl_haveCross_f1
    rw [cf_v4 (P := fun m => X l m) (fun m hm => impl_crossD (hL l hl) (hM m hm)) h2]
    rfl) h1]
  rfl
theorem lesser_ok {L : List Lf} {m : Lf} (hL : ∀ x ∈ L, isL x) (hm : isL m) (h1 : L.length < 4611686018427387904) : slices_ContainsFunc__impl_Leaf_impl_Leaf_v5 L m = some (dec (∃ l ∈ L, dl l < dl m)) := by
  refine cf_v5 (P := fun l => dl l < dl m) (fun l hl => ?_) h1
  unfold impl_minorOf_f1
  obtain ⟨r, r1, _, r3⟩ := dist_ok (hL l hl)
  obtain ⟨s, s1, _, s3⟩ := dist_ok hm
  rw [r1, s1]
  simp only [Option.bind_some]
  rw [fr_compare r3 s3]
  simp only [Option.bind_some]
  by_cases c : dl l < dl m
  · rw [if_pos c, dec_pos c]; rfl
  · rw [if_neg c, dec_neg c]
    split <;> rfl
theorem fails_l1 {m : Lf} {I M : List Lf} (hI : ∀ x ∈ I, isL x) (hl : I.length < 4611686018427387904) {i : Nat} (hi : i < I.length) :
    loop spec_l05Fails_l1 (m, I, M, (i : Int), (0 : Int), ()) = some (sel (∃ k, k < i ∧ X (at' I i) (at' I k)) (.inl (2, true, ())) (.inr (m, I, M, (i : Int), ()))) := by
  refine loop_any (step := spec_l05Fails_l1) (fun k => (m, I, M, (i : Int), (k : Int), ())) i _ _ (fun k => X (at' I i) (at' I k)) (fun k hk _ => ?_) (fun _ => ?_)
  · simp only [spec_l05Fails_l1, ltb hk, ltb hi, ltb (Nat.lt_trans hk hi), nn, Bool.and_self, cond_true, Int.toNat_natCast]
    have e := spec_crossD (hI _ (at_mem hi)) (hI _ (at_mem (Nat.lt_trans hk hi)))
    rw [e]
    simp only [Option.bind_some]
    by_cases hq : X (at' I i) (at' I k)
    · rw [sel_pos hq, dec_pos hq, cond_true]
    · rw [sel_neg hq, dec_neg hq, cond_false, w64_succ (by omega)]
  · simp only [spec_l05Fails_l1, nltb (Nat.lt_irrefl i), cond_false]
theorem fails_l0 {m : Lf} {I M : List Lf} (hI : ∀ x ∈ I, isL x) (hl : I.length < 4611686018427387904) :
    loop spec_l05Fails_l0 (m, I, M, (0 : Int), ()) = some (sel (∃ i, i < I.length ∧ ∃ k, k < i ∧ X (at' I i) (at' I k)) (.inl (2, true, ())) (.inr (m, I, M, ()))) := by
  refine loop_any (step := spec_l05Fails_l0) (fun i => (m, I, M, (i : Int), ())) I.length _ _ (fun i => ∃ k, k < i ∧ X (at' I i) (at' I k)) (fun i hi _ => ?_) (fun _ => ?_)
  · simp only [spec_l05Fails_l0, ltb hi, cond_true]
    rw [fails_l1 hI hl hi]
    simp only [Option.bind_some]
    by_cases hq : ∃ k, k < i ∧ X (at' I i) (at' I k)
    · rw [sel_pos hq, sel_pos hq]; rfl
    · rw [sel_neg hq, sel_neg hq]
      simp only [alt]
      rw [w64_succ (by omega)]
  · simp only [spec_l05Fails_l0, nltb (Nat.lt_irrefl _), cond_false]
theorem fails_l2 {m : Lf} {I M : List Lf} {r : Ang} (hI : ∀ x ∈ I, isL x) (hr : Fr r (dl m)) (hl : I.length < 4611686018427387904) :
    loop spec_l05Fails_l2 (I, M, r, (0 : Int), ()) = some (sel (∃ i, i < I.length ∧ dl (at' I i) < dl m) (.inl (3, true, ())) (.inr (I, M, ()))) := by
  refine loop_any (step := spec_l05Fails_l2) (fun i => (I, M, r, (i : Int), ())) I.length _ _ (fun i => dl (at' I i) < dl m) (fun i hi _ => ?_) (fun _ => ?_)
  · simp only [spec_l05Fails_l2, ltb hi, nn, Bool.and_self, cond_true, Int.toNat_natCast]
    obtain ⟨s, _, s2, s3⟩ := dist_ok (hI _ (at_mem hi))
    rw [s2]
    simp only [Option.bind_some]
    rw [fr_less s3 hr]
    simp only [Option.bind_some]
    by_cases hq : dl (at' I i) < dl m
    · rw [sel_pos hq, decide_eq_true hq, cond_true]
    · rw [sel_neg hq, decide_eq_false hq, cond_false, w64_succ (by omega)]
  · simp only [spec_l05Fails_l2, nltb (Nat.lt_irrefl _), cond_false]
theorem fails_l3 {I : List Lf} {x y : Lf} (hI : ∀ x ∈ I, isL x) (hx : isL x) (hy : isL y) (hl : I.length < 4611686018427387904) :
    loop spec_l05Fails_l3 (I, [x, y], (0 : Int), ()) = some (sel (∃ i, i < I.length ∧ (X (at' I i) x ∨ X (at' I i) y)) (.inl (4, true, ())) (.inr ())) := by
  refine loop_any (step := spec_l05Fails_l3) (fun i => (I, [x, y], (i : Int), ())) I.length _ _ (fun i => X (at' I i) x ∨ X (at' I i) y) (fun i hi _ => ?_) (fun _ => ?_)
  · have t0 : ((decide ((0 : Int) ≤ (0 : Int))) && (decide ((0 : Int) < (([x, y].length : Nat) : Int)))) = true := by simp
    have t1 : ((decide ((0 : Int) ≤ (1 : Int))) && (decide ((1 : Int) < (([x, y].length : Nat) : Int)))) = true := by simp
    simp only [spec_l05Fails_l3, ltb hi, nn, Bool.and_self, cond_true, Int.toNat_natCast]
    rw [t0, t1]
    have g0 : [x, y].getD (0 : Int).toNat dLf = x := rfl
    have g1 : [x, y].getD (1 : Int).toNat dLf = y := rfl
    rw [g0, g1]
    have e1 := spec_crossD (hI _ (at_mem hi)) hx
    have e2 := spec_crossD (hI _ (at_mem hi)) hy
    rw [e1, e2]
    simp only [Option.bind_some, cond_true]
    by_cases hq : X (at' I i) x
    · rw [sel_pos (Or.inl hq), dec_pos hq, cond_true]
    · rw [dec_neg hq, cond_false]
      by_cases hr : X (at' I i) y
      · rw [sel_pos (Or.inr hr), dec_pos hr, cond_true]
      · rw [sel_neg (fun h => h.elim hq hr), dec_neg hr, cond_false, w64_succ (by omega)]
  · simp only [spec_l05Fails_l3, nltb (Nat.lt_irrefl _), cond_false]
noncomputable def bad (m : Lf) : Prop := (∃ l ∈ (imgs m).1, ∃ k ∈ (imgs m).1, X l k) ∨ (∃ l ∈ (imgs m).1, dl l < dl m) ∨ ∃ l ∈ (imgs m).1, ∃ k ∈ mj m, X l k
def long (m : Lf) : Prop := 3 * dl m > KK
def fine (m : Lf) : Prop := (imgs m).2 = true ∧ limM m
theorem crossIK {I : List Lf} : (∃ i, i < I.length ∧ ∃ k, k < i ∧ X (at' I i) (at' I k)) ↔ ∃ l ∈ I, ∃ k ∈ I, X l k := by
  constructor
  · rintro ⟨i, hi, k, hk, h⟩
    exact ⟨_, at_mem hi, _, at_mem (Nat.lt_trans hk hi), h⟩
  · rintro ⟨l, hl, k, hk, h⟩
    obtain ⟨i, hi, rfl⟩ := mem_at hl
    obtain ⟨j, hj, rfl⟩ := mem_at hk
    rcases Nat.lt_trichotomy i j with c | c | c
    · exact ⟨j, hj, i, c, X_symm.1 h⟩
    · subst c; exact absurd h X_irrefl
    · exact ⟨i, hi, j, c, h⟩
theorem spec_fails {m : Lf} (h : isL m) : ∃ f : Int, spec_l05Fails m = some (sel (long m) (1, true) (sel (fine m) (f, true) (0, false))) ∧ (fine m → (f ≠ 0 ↔ bad m)) := by
  obtain ⟨hI, hI2, hI3⟩ := imgs_isL h
  unfold spec_l05Fails
  rw [(short_ok h).2]
  simp only [Option.bind_some]
  by_cases hlong : long m
  · refine ⟨if bad m then 1 else 0, ?_, fun _ => by split <;> simp_all⟩
    have : 3 * dl m > KK := hlong
    rw [sel_pos hlong, decide_eq_true this, cond_true]
  · have : ¬ 3 * dl m > KK := hlong
    simp only [sel_neg hlong]
    rw [decide_eq_false this, cond_false, (images_ok h).2, (majors_ok h).2]
    simp only [Option.bind_some]
    by_cases h1 : (imgs m).2 = true
    rotate_left
    · refine ⟨0, ?_, fun hf => absurd hf.1 h1⟩
      have : (imgs m).2 = false := by simpa using h1
      rw [this, sel_neg (fun hf : fine m => h1 hf.1)]; rfl
    by_cases h2 : limM m
    rotate_left
    · refine ⟨0, ?_, fun hf => absurd hf.2 h2⟩
      rw [h1, sel_neg h2, sel_neg (fun hf : fine m => h2 hf.2)]; rfl
    have hf : fine m := ⟨h1, h2⟩
    simp only [sel_pos hf]
    rw [h1, sel_pos h2]
    simp only [Bool.not_true, cond_false]
    have hM := mj_isL h h2
    obtain ⟨x, y, hxy⟩ : ∃ x y, mj m = [x, y] := by unfold mj pr; split <;> exact ⟨_, _, rfl⟩
    rw [fails_l0 hI (by omega)]
    simp only [Option.bind_some]
    have hbad : bad m ↔ (∃ i, i < (imgs m).1.length ∧ ∃ k, k < i ∧ X (at' (imgs m).1 i) (at' (imgs m).1 k)) ∨ (∃ i, i < (imgs m).1.length ∧ dl (at' (imgs m).1 i) < dl m) ∨ ∃ i, i < (imgs m).1.length ∧ (X (at' (imgs m).1 i) x ∨ X (at' (imgs m).1 i) y) := by
      unfold bad
      rw [← crossIK, ← ex_at (P := fun l => dl l < dl m), ← ex_at (P := fun l => ∃ k ∈ mj m, X l k), hxy]
      simp
    generalize (imgs m).1 = I at *
    by_cases c1 : ∃ i, i < I.length ∧ ∃ k, k < i ∧ X (at' I i) (at' I k)
    · exact ⟨2, by rw [sel_pos c1]; rfl, fun _ => ⟨fun _ => hbad.2 (.inl c1), fun _ => by omega⟩⟩
    rw [sel_neg c1]
    simp only [alt]
    obtain ⟨r, _, r2, r3⟩ := dist_ok h
    rw [r2]
    simp only [Option.bind_some]
    rw [fails_l2 (m := m) hI r3 (by omega)]
    simp only [Option.bind_some]
    by_cases c2 : ∃ i, i < I.length ∧ dl (at' I i) < dl m
    · exact ⟨3, by rw [sel_pos c2], fun _ => ⟨fun _ => hbad.2 (.inr (.inl c2)), fun _ => by omega⟩⟩
    rw [sel_neg c2, hxy]
    simp only
    rw [hxy] at hM
    rw [fails_l3 hI (hM x (by simp)) (hM y (by simp)) (by omega)]
    simp only [Option.bind_some]
    by_cases c3 : ∃ i, i < I.length ∧ (X (at' I i) x ∨ X (at' I i) y)
    · exact ⟨4, by rw [sel_pos c3], fun _ => ⟨fun _ => hbad.2 (.inr (.inr c3)), fun _ => by omega⟩⟩
    · refine ⟨0, by rw [sel_neg c3], fun _ => ⟨fun h => absurd rfl h, fun hb => ?_⟩⟩
      rcases hbad.1 hb with q | q | q
      · exact absurd q c1
      · exact absurd q c2
      · exact absurd q c3
/-- The code for a leaf that has to be minor. -/
noncomputable def mcode (m : Lf) : Int := sel (long m) 5 (sel (fine m) (sel (bad m) 5 0) 3)
theorem spec_minor {m : Lf} (h : isL m) : spec_l05Minor m = some (sel (mcode m = 0) (mj m, 0) ([], mcode m)) := by
  obtain ⟨f, h1, h2⟩ := spec_fails h
  unfold spec_l05Minor
  rw [h1]
  simp only [Option.bind_some]
  unfold mcode
  by_cases a1 : long m
  · rw [sel_pos a1, sel_pos a1, sel_neg (by omega)]; rfl
  rw [sel_neg a1, sel_neg a1]
  by_cases a2 : fine m
  rotate_left
  · rw [sel_neg a2, sel_neg a2, sel_neg (by omega)]; rfl
  rw [sel_pos a2, sel_pos a2]
  by_cases a3 : bad m
  · rw [sel_pos a3, sel_neg (by omega)]
    have : (f != 0) = true := by simpa using (h2 a2).2 a3
    simp only [this, Bool.not_true, cond_false, cond_true]
  · rw [sel_neg a3, sel_pos rfl]
    have : f = 0 := Classical.byContradiction fun hh => a3 ((h2 a2).1 hh)
    subst this
    simp only [Bool.not_true, cond_false, bne_self_eq_false]
    rw [(majors_ok h).2, sel_pos a2.2]
    rfl
abbrev Mn := Lf × (List Lf) × (List Lf) × Int × Unit
theorem impl_minor {m : Lf} (h : isL m) : ∃ p : Mn × Int, impl_minorOf m = some p ∧ (mcode m = 0 → p = ((m, (imgs m).1, mj m, 0, ()), 0)) ∧ (mcode m ≠ 0 → p.2 = mcode m ∨ p.2 = 0 ∧ p.1.2.2.2.1 ≠ 0 ∧ mcode m = 5) := by
  obtain ⟨hI, hI2, hI3⟩ := imgs_isL h
  unfold impl_minorOf
  have hcode : impl_leavesCode [m] = some 0 := by
    unfold impl_leavesCode impl_areAll_impl_Leaf
    rw [cf (s := [m]) (P := fun _ => False) (fun l hl => by
      rw [List.mem_singleton.1 hl]
      unfold impl_areAll_impl_Leaf_f1
      rw [impl_isL ⟨⟨⟨by have := h.1.2.2.1; omega, by have := h.1.2.2.2.1; have := h.1.2.1; omega⟩, ⟨by have := h.1.1; omega, by have := h.1.2.1; omega⟩⟩, ⟨⟨by have := h.2.1.2.2.1; omega, by have := h.2.1.2.2.2.1; have := h.2.1.2.1; omega⟩, ⟨by have := h.2.1.1; omega, by have := h.2.1.2.1; omega⟩⟩⟩]
      rw [dec_neg (fun h => h)]
      simp [h]) (by simp), dec_neg (fun ⟨_, _, h⟩ => h)]
    simp
  rw [hcode]
  simp only [Option.bind_some, bne_self_eq_false, cond_false]
  rw [(short_ok h).1]
  simp only [Option.bind_some]
  unfold mcode
  by_cases a1 : long m
  · have : 3 * dl m > KK := a1
    rw [decide_eq_true this, sel_pos a1]
    exact ⟨_, rfl, fun h => by omega, fun _ => .inr ⟨rfl, by simp, rfl⟩⟩
  have : ¬ 3 * dl m > KK := a1
  rw [decide_eq_false this, sel_neg a1]
  simp only [Bool.not_false, Bool.not_true, cond_false]
  rw [(images_ok h).1, (majors_ok h).1]
  simp only [Option.bind_some]
  by_cases b1 : (imgs m).2 = true
  rotate_left
  · have : (imgs m).2 = false := by simpa using b1
    rw [this, sel_neg (fun hf : fine m => b1 hf.1)]
    exact ⟨_, rfl, fun h => by omega, fun _ => .inl rfl⟩
  by_cases b2 : limM m
  rotate_left
  · rw [b1, sel_neg b2, sel_neg (fun hf : fine m => b2 hf.2)]
    exact ⟨_, rfl, fun h => by omega, fun _ => .inl rfl⟩
  rw [b1, sel_pos b2, sel_pos (show fine m from ⟨b1, b2⟩)]
  simp only [Bool.not_true, cond_false, bne_self_eq_false]
  have hM := mj_isL h b2
  have hMl : (mj m).length = 2 := pr_len
  rw [have_ok hI hI (by omega) (by omega)]
  simp only [Option.bind_some]
  by_cases c1 : ∃ l ∈ (imgs m).1, ∃ k ∈ (imgs m).1, X l k
  · rw [dec_pos c1, cond_true, sel_pos (show bad m from .inl c1)]
    exact ⟨_, rfl, fun h => by omega, fun _ => .inr ⟨rfl, by simp, rfl⟩⟩
  rw [dec_neg c1, cond_false, lesser_ok hI h (by omega)]
  simp only [Option.bind_some]
  by_cases c2 : ∃ l ∈ (imgs m).1, dl l < dl m
  · rw [dec_pos c2, cond_true, sel_pos (show bad m from .inr (.inl c2))]
    exact ⟨_, rfl, fun h => by omega, fun _ => .inr ⟨rfl, by simp, rfl⟩⟩
  rw [dec_neg c2, cond_false, have_ok hI hM (by omega) (by omega)]
  simp only [Option.bind_some]
  by_cases c3 : ∃ l ∈ (imgs m).1, ∃ k ∈ mj m, X l k
  · rw [dec_pos c3, cond_true, sel_pos (show bad m from .inr (.inr c3))]
    exact ⟨_, rfl, fun h => by omega, fun _ => .inr ⟨rfl, by simp, rfl⟩⟩
  rw [dec_neg c3, cond_false, sel_neg (fun hb : bad m => hb.elim c1 (fun h => h.elim c2 c3))]
  exact ⟨_, rfl, fun _ => rfl, fun h => absurd rfl h⟩
end Go.K.Pure

/- Plain laws of laminations, part I: leaves that are pulled back. -/
set_option linter.unusedVariables false
set_option linter.unusedSimpArgs false
namespace Go.K.Pure
open Classical

def Cr (L M : List Lf) : Prop := ∃ l ∈ L, ∃ k ∈ M, X l k
theorem free_l1 {L M : List Lf} (hL : ∀ x ∈ L, isL x) (hM : ∀ x ∈ M, isL x) (h1 : L.length = 2) (h2 : M.length = 2) {i : Nat} (hi : i < 2) :
    loop spec_l05Free_l1 (L, M, (i : Int), (0 : Int), ()) = some (sel (∃ k, k < 2 ∧ X (at' L i) (at' M k)) (.inl (false, ())) (.inr (L, M, (i : Int), ()))) := by
  refine loop_any (step := spec_l05Free_l1) (fun k => (L, M, (i : Int), (k : Int), ())) 2 _ _ (fun k => X (at' L i) (at' M k)) (fun k hk _ => ?_) (fun _ => ?_)
  · have e0 : decide ((k : Int) < (2 : Int)) = true := decide_eq_true (by omega)
    have hi' : i < L.length := by omega
    have hk' : k < M.length := by omega
    simp only [spec_l05Free_l1, e0, ltb hi', ltb hk', nn, Bool.and_self, cond_true, Int.toNat_natCast]
    have e := spec_crossD (hL _ (at_mem hi')) (hM _ (at_mem hk'))
    rw [e]
    simp only [Option.bind_some]
    by_cases hq : X (at' L i) (at' M k)
    · rw [sel_pos hq, dec_pos hq, cond_true]
    · rw [sel_neg hq, dec_neg hq, cond_false, w64_succ (by omega)]
  · have e0 : decide (((2 : Nat) : Int) < (2 : Int)) = false := decide_eq_false (by omega)
    simp only [spec_l05Free_l1, e0, cond_false]
theorem free_ok {L M : List Lf} (hL : ∀ x ∈ L, isL x) (hM : ∀ x ∈ M, isL x) (h1 : L.length = 2) (h2 : M.length = 2) : spec_l05Free L M = some (!dec (Cr L M)) := by
  unfold spec_l05Free
  have := loop_any (step := spec_l05Free_l0) (fun i => (L, M, (i : Int), ())) 2 (.inr ()) (.inl (false, ())) (fun i => ∃ k, k < 2 ∧ X (at' L i) (at' M k)) (fun i hi _ => by
    have e0 : decide ((i : Int) < (2 : Int)) = true := decide_eq_true (by omega)
    simp only [spec_l05Free_l0, e0, cond_true]
    rw [free_l1 hL hM h1 h2 hi]
    simp only [Option.bind_some]
    by_cases hq : ∃ k, k < 2 ∧ X (at' L i) (at' M k)
    · rw [sel_pos hq, sel_pos hq]; rfl
    · rw [sel_neg hq, sel_neg hq]
      simp only [alt]
      rw [w64_succ (by omega)]) (fun _ => by
    have e0 : decide (((2 : Nat) : Int) < (2 : Int)) = false := decide_eq_false (by omega)
    simp only [spec_l05Free_l0, e0, cond_false])
  have t : loop spec_l05Free_l0 (L, M, (0 : Int), ()) = _ := this
  rw [t]
  simp only [Option.bind_some]
  have e : (∃ i, i < 2 ∧ ∃ k, k < 2 ∧ X (at' L i) (at' M k)) ↔ Cr L M := by
    unfold Cr
    rw [← ex_at (P := fun l => ∃ k ∈ M, X l k), h1]
    constructor
    · rintro ⟨i, hi, k, hk, h⟩; exact ⟨i, hi, _, at_mem (by omega), h⟩
    · rintro ⟨i, hi, k, hk, h⟩
      obtain ⟨j, hj, rfl⟩ := mem_at hk
      exact ⟨i, hi, j, by omega, h⟩
  by_cases hq : Cr L M
  · rw [sel_pos (e.2 hq), dec_pos hq]; rfl
  · rw [sel_neg (fun h => hq (e.1 h)), dec_neg hq]; rfl
noncomputable def wlen (L : List Lf) : Int := dl (at' L 0)
/-- The leaves that arise when a leaf is pulled back. -/
noncomputable def bk (l m : Lf) (M : List Lf) : List Lf × Int :=
  sel (l = m) (M, 0) (sel (limW l) (sel (Cr (W0 l) M) (sel (Cr (W1 l) M) ([], 5) (W1 l, 0)) (sel (Cr (W1 l) M) (W0 l, 0) (sel (wlen (W0 l) < wlen (W1 l)) (W0 l, 0) (W1 l, 0)))) ([], 3))
theorem bk_ok {l m : Lf} {M : List Lf} (h : isL l) (hM : ∀ x ∈ M, isL x) (h2 : M.length = 2) : (bk l m M).2 = 0 ∧ (bk l m M).1.length = 2 ∧ (∀ x ∈ (bk l m M).1, isL x) ∨ (bk l m M).2 ≠ 0 ∧ (bk l m M).1 = [] := by
  have hw : limW l → (W0 l).length = 2 ∧ (∀ x ∈ W0 l, isL x) ∧ (W1 l).length = 2 ∧ ∀ x ∈ W1 l, isL x := fun hl => ⟨pr_len, (W_isL h hl).1, pr_len, (W_isL h hl).2⟩
  unfold bk
  by_cases c0 : l = m
  · rw [sel_pos c0]; exact .inl ⟨rfl, h2, hM⟩
  rw [sel_neg c0]
  by_cases c1 : limW l
  rotate_left
  · rw [sel_neg c1]; exact .inr ⟨by simp, rfl⟩
  obtain ⟨w1, w2, w3, w4⟩ := hw c1
  rw [sel_pos c1]
  by_cases c2 : Cr (W0 l) M <;> by_cases c3 : Cr (W1 l) M
  · rw [sel_pos c2, sel_pos c3]; exact .inr ⟨by simp, rfl⟩
  · rw [sel_pos c2, sel_neg c3]; exact .inl ⟨rfl, w3, w4⟩
  · rw [sel_neg c2, sel_pos c3]; exact .inl ⟨rfl, w1, w2⟩
  · rw [sel_neg c2, sel_neg c3]
    by_cases c4 : wlen (W0 l) < wlen (W1 l)
    · rw [sel_pos c4]; exact .inl ⟨rfl, w1, w2⟩
    · rw [sel_neg c4]; exact .inl ⟨rfl, w3, w4⟩
theorem two_wlen {L : List Lf} {D : Int} (h : Two L D) : wlen L = D := by
  obtain ⟨x, y, rfl, _, _, h, _⟩ := h
  exact h
theorem back_less {l : Lf} (h : isL l) (hl : limW l) : impl_isLess (W0 l) (W1 l) = some (dec (wlen (W0 l) < wlen (W1 l))) ∧ spec_l05Less (W0 l) (W1 l) = some (dec (wlen (W0 l) < wlen (W1 l))) := by
  obtain ⟨D, E, h1, h2⟩ := W_two h hl
  obtain ⟨h3, h4⟩ := less_ok h1 h2
  rw [two_wlen h1, two_wlen h2, h3, h4, dec_of]
  exact ⟨rfl, rfl⟩
theorem spec_back {l m : Lf} {M : List Lf} (h : isL l) (hM : ∀ x ∈ M, isL x) (h2 : M.length = 2) : spec_l05Back_v2 l m M = some (bk l m M) := by
  unfold spec_l05Back_v2 bk
  rw [beqL l m]
  by_cases c0 : l = m
  · rw [decide_eq_true c0, sel_pos c0]; rfl
  rw [decide_eq_false c0, sel_neg c0, cond_false, (halves_ok h.1).2, (halves_ok h.2.1).2]
  simp only [Option.bind_some]
  by_cases l1 : lim l.1
  rotate_left
  · rw [decide_eq_false l1, sel_neg (fun hw : limW l => l1 hw.1)]; rfl
  by_cases l2 : lim l.2.1
  rotate_left
  · rw [decide_eq_true l1, decide_eq_false l2, sel_neg (fun hw : limW l => l2 hw.2)]; rfl
  have hw : limW l := ⟨l1, l2⟩
  rw [decide_eq_true l1, decide_eq_true l2, sel_pos hw]
  simp only [Bool.not_true, cond_false]
  obtain ⟨a1, a2, _, _⟩ := halves_val h.1 l1
  obtain ⟨b1, b2, _, _⟩ := halves_val h.2.1 l2
  obtain ⟨i0, i1⟩ := W_isL h hw
  rw [(leaf_ok a1 b1).2, (leaf_ok a2 b2).2, (leaf_ok a1 b2).2, (leaf_ok a2 b1).2]
  simp only [Option.bind_some]
  rw [(two_ok (i0 _ (pr_mem.2 (.inl rfl))) (i0 _ (pr_mem.2 (.inr rfl)))).2, (two_ok (i1 _ (pr_mem.2 (.inl rfl))) (i1 _ (pr_mem.2 (.inr rfl)))).2]
  simp only [Option.bind_some]
  have f0 := free_ok i0 hM pr_len h2
  have f1 := free_ok i1 hM pr_len h2
  unfold W0 at f0
  unfold W1 at f1
  rw [f0, f1]
  simp only [Option.bind_some]
  have hless := (back_less h hw).2
  unfold W0 W1 at hless
  unfold W0 W1
  generalize pr (lfo (h0 l.1) (h0 l.2.1)) (lfo (h1 l.1) (h1 l.2.1)) = A at *
  generalize pr (lfo (h0 l.1) (h1 l.2.1)) (lfo (h1 l.1) (h0 l.2.1)) = B at *
  by_cases c2 : Cr A M <;> by_cases c3 : Cr B M
  · rw [sel_pos c2, sel_pos c3, dec_pos c2, dec_pos c3]; rfl
  · rw [sel_pos c2, sel_neg c3, dec_pos c2, dec_neg c3]; rfl
  · rw [sel_neg c2, sel_pos c3, dec_neg c2, dec_pos c3]; rfl
  · rw [sel_neg c2, sel_neg c3, dec_neg c2, dec_neg c3, hless]
    by_cases c4 : wlen A < wlen B
    · rw [sel_pos c4, dec_pos c4]; rfl
    · rw [sel_neg c4, dec_neg c4]; rfl
theorem impl_back {l m : Lf} {I M : List Lf} {z : Int × Unit} (h : isL l) (hM : ∀ x ∈ M, isL x) (h2 : M.length = 2) : impl_minor_pullBack_v2 (m, I, M, z) l = some (bk l m M) := by
  unfold impl_minor_pullBack_v2 bk
  simp only
  rw [beqL l m]
  by_cases c0 : l = m
  · rw [decide_eq_true c0, sel_pos c0]; rfl
  rw [decide_eq_false c0, sel_neg c0, cond_false]
  by_cases hw : limW l
  rotate_left
  · obtain ⟨p, p1, p2⟩ := (ways_ok h).2 hw
    rw [p1]
    simp only [Option.bind_some]
    rw [p2, sel_neg hw]; rfl
  obtain ⟨p1, p2⟩ := (ways_ok h).1 hw
  rw [p1]
  simp only [Option.bind_some]
  rw [p2, sel_pos hw]
  simp only [Option.bind_some, bne_self_eq_false, cond_false]
  obtain ⟨i0, i1⟩ := W_isL h hw
  have k0 : (W0 l).length = 2 := pr_len
  have k1 : (W1 l).length = 2 := pr_len
  rw [have_ok i0 hM (by omega) (by omega), have_ok i1 hM (by omega) (by omega)]
  simp only [Option.bind_some]
  have hless := (back_less h hw).1
  have e0 : dec (∃ l_1 ∈ W0 l, ∃ m ∈ M, X l_1 m) = dec (Cr (W0 l) M) := rfl
  have e1 : dec (∃ l_1 ∈ W1 l, ∃ m ∈ M, X l_1 m) = dec (Cr (W1 l) M) := rfl
  rw [e0, e1]
  by_cases c2 : Cr (W0 l) M <;> by_cases c3 : Cr (W1 l) M
  · rw [sel_pos c2, sel_pos c3, dec_pos c2, dec_pos c3]; rfl
  · rw [sel_pos c2, sel_neg c3, dec_pos c2, dec_neg c3]; rfl
  · rw [sel_neg c2, sel_pos c3, dec_neg c2, dec_pos c3]; rfl
  · rw [sel_neg c2, sel_neg c3, dec_neg c2, dec_neg c3, hless]
    by_cases c4 : wlen (W0 l) < wlen (W1 l)
    · rw [sel_pos c4, dec_pos c4]; rfl
    · rw [sel_neg c4, dec_neg c4]; rfl
end Go.K.Pure

/- Plain laws of laminations, part J: leaves that are put in. -/
set_option linter.unusedVariables false
set_option linter.unusedSimpArgs false
namespace Go.K.Pure
open Classical

/-- Leaves in order. -/
def AscF (L : List Lf) : Prop := (∀ x ∈ L, isL x) ∧ L.Pairwise ltL
theorem asc_at {L : List Lf} (h : AscF L) {i j : Nat} (hij : i < j) (hj : j < L.length) : ltL (at' L i) (at' L j) := by
  rw [at', at', getD_at hj, getD_at (Nat.lt_trans hij hj)]
  exact List.pairwise_iff_getElem.1 h.2 i j _ _ hij
/-- How many leaves, from the first on, come before a leaf. -/
noncomputable def ipos (l : Lf) : List Lf → Nat
  | [] => 0
  | x :: xs => if ltL x l then ipos l xs + 1 else 0
theorem ipos_ok {l : Lf} : ∀ {L : List Lf}, ipos l L ≤ L.length ∧ (∀ j, j < ipos l L → ltL (at' L j) l) ∧ (ipos l L < L.length → ¬ ltL (at' L (ipos l L)) l)
  | [] => ⟨Nat.le_refl _, fun j h => absurd h (Nat.not_lt_zero j), fun h => absurd h (Nat.lt_irrefl 0)⟩
  | x :: xs => by
    obtain ⟨h1, h2, h3⟩ := ipos_ok (l := l) (L := xs)
    unfold ipos
    split
    · rename_i hx
      refine ⟨by simp only [List.length_cons]; omega, fun j hj => ?_, fun h => ?_⟩
      · cases j with
        | zero => exact hx
        | succ j => exact h2 j (by omega)
      · exact h3 (by simp only [List.length_cons] at h; omega)
    · rename_i hx
      exact ⟨Nat.zero_le _, fun j hj => absurd hj (Nat.not_lt_zero j), fun _ => hx⟩
theorem ipos_uniq {l : Lf} {L : List Lf} (hL : AscF L) (hl : isL l) {i : Nat} (hi : i ≤ L.length) (h1 : ∀ k, k < i → ltL (at' L k) l) (h2 : ∀ k, i ≤ k → k < L.length → ¬ ltL (at' L k) l) : i = ipos l L := by
  obtain ⟨p1, p2, p3⟩ := ipos_ok (l := l) (L := L)
  rcases Nat.lt_trichotomy i (ipos l L) with c | c | c
  · exact absurd (p2 i c) (h2 i (Nat.le_refl _) (by omega))
  · exact c
  · exact absurd (h1 _ c) (p3 (by omega))
noncomputable def ins (l : Lf) (L : List Lf) : List Lf := if ipos l L < L.length ∧ at' L (ipos l L) = l then L else L.take (ipos l L) ++ [l] ++ L.drop (ipos l L)
theorem ins_ok {l : Lf} {L : List Lf} (hL : AscF L) (hl : isL l) : AscF (ins l L) ∧ (ins l L).length ≤ L.length + 1 ∧ ins l L ≠ [] := by
  obtain ⟨p1, p2, p3⟩ := ipos_ok (l := l) (L := L)
  unfold ins
  split
  · rename_i h
    exact ⟨hL, by omega, fun e => by rw [e] at h; exact absurd h.1 (Nat.not_lt_zero _)⟩
  · rename_i h
    have t1 : ∀ x ∈ L.take (ipos l L), ltL x l := fun x hx => by
      obtain ⟨j, hj, rfl⟩ := List.getElem_of_mem hx
      have hj' : j < ipos l L := by rw [List.length_take] at hj; omega
      have := p2 j hj'
      rw [at', getD_at (by omega)] at this
      rw [List.getElem_take]; exact this
    have t2 : ∀ x ∈ L.drop (ipos l L), ltL l x := fun x hx => by
      obtain ⟨j, hj, rfl⟩ := List.getElem_of_mem hx
      rw [List.length_drop] at hj
      rw [List.getElem_drop]
      have hk : ipos l L + j < L.length := by omega
      have hx' : isL L[ipos l L + j] := hL.1 _ (List.getElem_mem hk)
      have hp : isL (at' L (ipos l L)) := hL.1 _ (at_mem (by omega))
      have hpn := p3 (by omega)
      have e : at' L (ipos l L + j) = L[ipos l L + j] := getD_at hk
      rcases ltL_total hl hx' with c | c | c
      · exact c
      · exfalso
        by_cases hj0 : j = 0
        · subst hj0
          exact h ⟨by omega, by rw [← c] at e; simpa using e⟩
        · have := asc_at hL (show ipos l L < ipos l L + j by omega) hk
          rw [e, ← c] at this
          exact hpn this
      · exfalso
        by_cases hj0 : j = 0
        · subst hj0
          apply hpn
          have : at' L (ipos l L) = L[ipos l L + 0] := by rw [← e]; rfl
          rw [this]; exact c
        · have := asc_at hL (show ipos l L < ipos l L + j by omega) hk
          rw [e] at this
          exact hpn (ltL_trans hp hx' hl this c)
    refine ⟨⟨fun x hx => ?_, ?_⟩, ?_, by simp⟩
    · simp only [List.mem_append, List.mem_singleton] at hx
      rcases hx with (hx | hx) | hx
      · exact hL.1 x (List.mem_of_mem_take hx)
      · rw [hx]; exact hl
      · exact hL.1 x (List.mem_of_mem_drop hx)
    · rw [List.append_assoc, List.singleton_append, List.pairwise_append, List.pairwise_cons]
      refine ⟨hL.2.sublist (List.take_sublist _ _), ⟨t2, hL.2.sublist (List.drop_sublist _ _)⟩, fun x hx y hy => ?_⟩
      rcases List.mem_cons.1 hy with rfl | hy
      · exact t1 x hx
      · exact ltL_trans (hL.1 x (List.mem_of_mem_take hx)) hl (hL.1 y (List.mem_of_mem_drop hy)) (t1 x hx) (t2 y hy)
    · simp only [List.length_append, List.length_take, List.length_drop, List.length_singleton]; omega
theorem spec_ins {L : List Lf} {l : Lf} (hL : ∀ x ∈ L, isL x) (hl : isL l) (h1 : L.length ≤ 100000) : spec_l03Insert L l = some (ins l L) := by
  obtain ⟨p1, p2, p3⟩ := ipos_ok (l := l) (L := L)
  unfold spec_l03Insert ins
  have := loop_count (step := spec_l03Insert_l0) (fun n => (L, l, (n : Int), ())) (ipos l L) (L, l, ((ipos l L : Nat) : Int), ()) (fun n hn => by
    have hn' : n < L.length := by omega
    simp only [spec_l03Insert_l0, ltb hn', nn, Bool.and_self, cond_true, Int.toNat_natCast]
    have e := spec_lessL (hL _ (at_mem hn')) hl
    rw [e]
    simp only [Option.bind_some]
    rw [decide_eq_true (p2 n hn), cond_true, w64_succ (by omega)]) (by
    by_cases hp : ipos l L < L.length
    · simp only [spec_l03Insert_l0, ltb hp, nn, Bool.and_self, cond_true, Int.toNat_natCast]
      have e := spec_lessL (hL _ (at_mem hp)) hl
      rw [e]
      simp only [Option.bind_some]
      rw [decide_eq_false (p3 hp), cond_false]
    · simp only [spec_l03Insert_l0, nltb hp, cond_false]) 0 (Nat.zero_le _)
  have t : loop spec_l03Insert_l0 (L, l, (0 : Int), ()) = some (L, l, ((ipos l L : Nat) : Int), ()) := this
  rw [t]
  simp only [Option.bind_some]
  generalize ipos l L = p at *
  have le1 : (decide ((p : Int) ≤ ((L.length : Nat) : Int))) = true := decide_eq_true (by omega)
  have le2 : (decide (((L.length : Nat) : Int) ≤ ((L.length : Nat) : Int))) = true := decide_eq_true (by omega)
  have le3 : decide ((0 : Int) ≤ (0 : Int)) = true := by decide
  have tk : (L.take ((L.length : Nat) : Int).toNat) = L := by simp
  have b1 : decide ((([l].length + ((L.take L.length).drop p).length) * 32) ≤ 140737488355328) = true := decide_eq_true (by simp; omega)
  have b2 : decide (((([] : List Lf).length + ((L.take p).drop (0 : Int).toNat).length) * 32) ≤ 140737488355328) = true := decide_eq_true (by simp; omega)
  have b3 : decide (((([] : List Lf) ++ ((L.take p).drop (0 : Int).toNat)).length + ([l] ++ ((L.take L.length).drop p)).length) * 32 ≤ 140737488355328) = true := decide_eq_true (by simp; omega)
  have e0 : ([] : List Lf) ++ ((L.take p).drop (0 : Int).toNat) ++ ([l] ++ (L.take L.length).drop p) = L.take p ++ [l] ++ L.drop p := by simp
  by_cases hp : p < L.length
  · rw [ltb hp]
    simp only [nn, Bool.and_self, cond_true, Int.toNat_natCast]
    rw [beqL (L.getD p dLf) l]
    by_cases hq : at' L p = l
    · have hq' : L.getD p dLf = l := hq
      rw [decide_eq_true hq', if_pos ⟨hp, hq⟩]; rfl
    · have hq' : ¬ L.getD p dLf = l := hq
      rw [decide_eq_false hq', if_neg (fun h => hq h.2), cond_false, le1, le2]
      simp only [Bool.and_self, cond_true, le3]
      rw [b1, b2, b3, e0]
      rfl
  · rw [nltb hp, if_neg (fun h => hp h.1)]
    simp only [nn, Bool.and_self, cond_false, Int.toNat_natCast, le1, le2, le3, cond_true]
    rw [b1, b2, b3, e0]
    rfl
theorem spec_ins3 {L : List Lf} {l : Lf} (hL : ∀ x ∈ L, isL x) (hl : isL l) (h1 : L.length ≤ 100000) : spec_l03Insert_v3 L l = some (ins l L) := by
  have : spec_l03Insert_v3 L l = spec_l03Insert L l := rfl
  rw [this]; exact spec_ins hL hl h1
theorem sh1 : ((2 : Int) ^ (min (1 : Int).toNat 64)) = 2 := by decide
theorem mid_ok {i j : Nat} (hi : i ≤ 1000000) (hj : j ≤ 1000000) : (w64 ((wu64 (w64 ((i : Int) + (j : Int)))).fdiv ((2 : Int) ^ (min (1 : Int).toNat 64)))) = (((i + j) / 2 : Nat) : Int) := by
  rw [sh1, w64_id (n := (i : Int) + (j : Int)) (by omega) (by omega), wu64_id (n := (i : Int) + (j : Int)) (by omega) (by omega), Int.fdiv_eq_ediv_of_nonneg _ (by omega), w64_id (by omega) (by omega)]
  omega
theorem impl_search {L : List Lf} {l : Lf} (hL : AscF L) (hl : isL l) (h1 : L.length ≤ 100000) :
    slices_BinarySearchFunc__impl_Leaf_impl_Leaf_impl_Leaf L l = some (((ipos l L : Nat) : Int), dec (ipos l L < L.length ∧ at' L (ipos l L) = l)) := by
  unfold slices_BinarySearchFunc__impl_Leaf_impl_Leaf_impl_Leaf
  obtain ⟨b, h2, h3⟩ := loop_inv (step := slices_BinarySearchFunc__impl_Leaf_impl_Leaf_impl_Leaf_l0) (fun s => ∃ i j : Nat, i ≤ j ∧ j ≤ L.length ∧ s = (L, (), (), l, ((L.length : Nat) : Int), (i : Int), (j : Int), ()) ∧ (∀ k, k < i → ltL (at' L k) l) ∧ ∀ k, j ≤ k → k < L.length → ¬ ltL (at' L k) l)
    (fun s => s.2.2.2.2.2.2.1.toNat - s.2.2.2.2.2.1.toNat) (fun b => b = (L, (), (), l, ((L.length : Nat) : Int), ((ipos l L : Nat) : Int), ())) (by
    rintro _ ⟨i, j, hij, hj, rfl, q1, q2⟩
    by_cases h : i < j
    · right
      have hm : (i + j) / 2 < L.length := by omega
      have d1 : decide ((0 : Int) ≤ (1 : Int)) = true := by decide
      simp only [slices_BinarySearchFunc__impl_Leaf_impl_Leaf_impl_Leaf_l0, ltb h, cond_true, d1]
      rw [mid_ok (by omega) (by omega)]
      simp only [nn, ltb hm, Bool.and_self, cond_true, Int.toNat_natCast]
      obtain ⟨r, r1, r2, r3⟩ := impl_compareL (hL.1 _ (at_mem hm)) hl
      rw [r1]
      simp only [Option.bind_some]
      by_cases c : ltL (at' L ((i + j) / 2)) l
      · rw [decide_eq_true (r2.2 c), cond_true, w64_succ (by omega)]
        refine ⟨_, rfl, ⟨(i + j) / 2 + 1, j, by omega, hj, rfl, fun k hk => ?_, q2⟩, by simp only [Int.toNat_natCast]; omega⟩
        by_cases e : k = (i + j) / 2
        · subst e; exact c
        · exact ltL_trans (hL.1 _ (at_mem (by omega))) (hL.1 _ (at_mem hm)) hl (asc_at hL (by omega) hm) c
      · rw [decide_eq_false (fun h => c (r2.1 h)), cond_false]
        refine ⟨_, rfl, ⟨i, (i + j) / 2, by omega, by omega, rfl, q1, fun k hk hkl hlt => ?_⟩, by simp only [Int.toNat_natCast]; omega⟩
        by_cases e : k = (i + j) / 2
        · subst e; exact c hlt
        · exact c (ltL_trans (hL.1 _ (at_mem hm)) (hL.1 _ (at_mem hkl)) hl (asc_at hL (by omega) hkl) hlt)
    · left
      have : i = j := by omega
      subst this
      refine ⟨(L, (), (), l, ((L.length : Nat) : Int), (i : Int), ()), by simp only [slices_BinarySearchFunc__impl_Leaf_impl_Leaf_impl_Leaf_l0, nltb h, cond_false], ?_⟩
      rw [ipos_uniq hL hl hj q1 q2]) (L, (), (), l, ((L.length : Nat) : Int), (0 : Int), ((L.length : Nat) : Int), ()) ⟨0, L.length, Nat.zero_le _, Nat.le_refl _, rfl, fun k h => absurd h (Nat.not_lt_zero k), fun k h1 h2 => by omega⟩
  rw [h2, h3]
  simp only [Option.bind_some]
  by_cases hp : ipos l L < L.length
  · rw [ltb hp]
    simp only [nn, Bool.and_self, cond_true, Int.toNat_natCast]
    obtain ⟨r, r1, r2, r3⟩ := impl_compareL (hL.1 _ (at_mem hp)) hl
    have r1' : impl_Leaf_compare (L.getD (ipos l L) dLf) l = some r := r1
    rw [r1']
    simp only [Option.bind_some]
    by_cases hq : at' L (ipos l L) = l
    · rw [dec_pos ⟨hp, hq⟩]
      rw [hq] at r2 r3
      have : r = 0 := by
        have a1 : ¬ r < 0 := fun h => ltL_irrefl (r2.1 h)
        have a2 : ¬ 0 < r := fun h => ltL_irrefl (r3.1 h)
        omega
      rw [this]; rfl
    · rw [dec_neg (fun h => hq h.2)]
      have : ¬ r = 0 := fun e => by
        rcases ltL_total (hL.1 _ (at_mem hp)) hl with c | c | c
        · have := r2.2 c; omega
        · exact hq c
        · have := r3.2 c; omega
      have : (r == 0) = false := by simpa using this
      rw [this]
  · rw [nltb hp, dec_neg (fun h => hp h.1)]; rfl
theorem impl_ins {L : List Lf} {l : Lf} (hL : AscF L) (hl : isL l) (h1 : L.length ≤ 100000) : impl_put L l = some (ins l L) := by
  obtain ⟨p1, p2, p3⟩ := ipos_ok (l := l) (L := L)
  unfold impl_put
  rw [impl_search hL hl h1]
  simp only [Option.bind_some]
  unfold ins
  by_cases hq : ipos l L < L.length ∧ at' L (ipos l L) = l
  · rw [dec_pos hq, if_pos hq]; rfl
  · rw [dec_neg hq, if_neg hq, cond_false]
    unfold slices_Insert__impl_Leaf_impl_Leaf Go.K.insertOf
    have c : (decide ((0 : Int) ≤ ((ipos l L : Nat) : Int)) && decide (((ipos l L : Nat) : Int) ≤ ((L.length : Nat) : Int)) && !([l].isEmpty) && decide ((L.length + [l].length) * 32 ≤ 140737488355328)) = true := by
      simp; omega
    rw [c]
    simp only [cond_true, Option.bind_some, Int.toNat_natCast]
/-- A leaf is put in, unless it crosses one that is there. -/
noncomputable def putF (l : Lf) (L : List Lf) : List Lf := sel (∃ x ∈ L, X x l) L (ins l L)
theorem putF_ok {l : Lf} {L : List Lf} (hL : AscF L) (hl : isL l) : AscF (putF l L) ∧ (putF l L).length ≤ L.length + 1 ∧ (L ≠ [] → putF l L ≠ []) := by
  obtain ⟨h1, h2, h3⟩ := ins_ok hL hl
  unfold putF
  by_cases c : ∃ x ∈ L, X x l
  · rw [sel_pos c]; exact ⟨hL, by omega, id⟩
  · rw [sel_neg c]; exact ⟨h1, h2, fun _ => h3⟩
theorem spec_put {L : List Lf} {l : Lf} (hL : AscF L) (hl : isL l) (h1 : L.length ≤ 100000) : spec_l05Put L l = some (putF l L) := by
  unfold spec_l05Put putF
  have := loop_any (step := spec_l05Put_l0) (fun i => (L, l, (i : Int), ())) L.length (.inr (L, l, ())) (.inl (L, L, L, ())) (fun i => X (at' L i) l) (fun i hi _ => by
    simp only [spec_l05Put_l0, ltb hi, nn, Bool.and_self, cond_true, Int.toNat_natCast]
    have e := spec_crossD (hL.1 _ (at_mem hi)) hl
    rw [e]
    simp only [Option.bind_some]
    by_cases hq : X (at' L i) l
    · rw [sel_pos hq, dec_pos hq, cond_true]
    · rw [sel_neg hq, dec_neg hq, cond_false, w64_succ (by omega)]) (fun _ => by simp only [spec_l05Put_l0, nltb (Nat.lt_irrefl L.length), cond_false])
  have t : loop spec_l05Put_l0 (L, l, (0 : Int), ()) = _ := this
  rw [t]
  simp only [Option.bind_some]
  rw [sel_congr (ex_at (P := fun x => X x l))]
  by_cases c : ∃ x ∈ L, X x l
  · rw [sel_pos c, sel_pos c]; rfl
  · rw [sel_neg c, sel_neg c]
    simp only [alt]
    rw [spec_ins3 hL.1 hl h1]; rfl
theorem impl_crosses {L : List Lf} {l : Lf} (hL : ∀ x ∈ L, isL x) (hl : isL l) (h1 : L.length ≤ 100000) : slices_ContainsFunc__impl_Leaf_impl_Leaf_v4 L l = some (dec (∃ x ∈ L, X x l)) := by
  rw [cf_v4 (P := fun x => X l x) (fun x hx => impl_crossD hl (hL x hx)) (by omega)]
  exact congrArg some (dec_congr ⟨fun ⟨x, h, c⟩ => ⟨x, h, X_symm.1 c⟩, fun ⟨x, h, c⟩ => ⟨x, h, X_symm.1 c⟩⟩)
end Go.K.Pure

/- Plain laws of laminations, part K: laminations by depths. -/
set_option linter.unusedVariables false
set_option linter.unusedSimpArgs false
namespace Go.K.Pure
open Classical

/-- Some leaves are pulled back, and what arises is put in. -/
noncomputable def dp (m : Lf) (M : List Lf) : List Lf → List Lf → List Lf × Int
  | [], out => (out, 0)
  | l :: ls, out => sel ((bk l m M).2 = 0) (sel (200 < (putF (at' (bk l m M).1 1) (putF (at' (bk l m M).1 0) out)).length) ([], 3) (dp m M ls (putF (at' (bk l m M).1 1) (putF (at' (bk l m M).1 0) out)))) ([], (bk l m M).2)
theorem putF2 {a b : Lf} {out : List Lf} (ho : AscF out) (ha : isL a) (hb : isL b) : AscF (putF b (putF a out)) ∧ (putF b (putF a out)).length ≤ out.length + 2 := by
  obtain ⟨h1, h2, _⟩ := putF_ok ho ha
  obtain ⟨h3, h4, _⟩ := putF_ok h1 hb
  exact ⟨h3, by omega⟩
theorem dp_ok {m : Lf} {M : List Lf} (hM : ∀ x ∈ M, isL x) (h2 : M.length = 2) : ∀ {ls out : List Lf}, (∀ x ∈ ls, isL x) → AscF out → (dp m M ls out).2 = 0 → AscF (dp m M ls out).1 ∧ ((dp m M ls out).1.length ≤ out.length ∨ (dp m M ls out).1.length ≤ 200)
  | [], out, _, ho, _ => ⟨ho, .inl (Nat.le_refl _)⟩
  | l :: ls, out, hl, ho, hc => by
    unfold dp at hc ⊢
    rcases bk_ok (m := m) (hl l (by simp)) hM h2 with ⟨b1, b2, b3⟩ | ⟨b1, b2⟩
    rotate_left
    · rw [sel_neg b1] at hc; exact absurd hc b1
    rw [sel_pos b1] at hc ⊢
    have p := putF2 ho (b3 _ (at_mem (i := 0) (by omega))) (b3 _ (at_mem (i := 1) (by omega)))
    by_cases c : 200 < (putF (at' (bk l m M).1 1) (putF (at' (bk l m M).1 0) out)).length
    · rw [sel_pos c] at hc; cases hc
    · rw [sel_neg c] at hc ⊢
      obtain ⟨i1, i2⟩ := dp_ok hM h2 (fun x hx => hl x (by simp [hx])) p.1 hc
      exact ⟨i1, .inr (by omega)⟩
theorem drop_at {L : List Lf} {i : Nat} (h : i < L.length) : L.drop i = at' L i :: L.drop (i + 1) := by
  rw [at', getD_at h]; exact List.drop_eq_getElem_cons h
theorem spec_deepen {m : Lf} {M L : List Lf} (hM : ∀ x ∈ M, isL x) (h2 : M.length = 2) (hL : ∀ x ∈ L, isL x) (hl : L.length ≤ 1000) : ∀ (k i : Nat) {out : List Lf}, L.length - i = k → i ≤ L.length → AscF out → out.length ≤ 1000 →
    ((loop spec_l05Deepen_v3_l0 (L, M, m, out, (i : Int), L, ())).bind fun r0 => alt r0 (fun r1 => some (r1.2.1, r1.2.2.1)) (fun r2 => alt r2 (fun r3 => some (r3.2.1, r3.2.2.1)) (fun r4 => some (r4.2.1, (0 : Int))))) = some (dp m M (L.drop i) out)
  | 0, i, out, hk, hi, ho, hol => by
    have : i = L.length := by omega
    subst this
    rw [loop_eq]
    simp only [spec_l05Deepen_v3_l0, nltb (Nat.lt_irrefl L.length), cond_false]
    rw [List.drop_of_length_le (Nat.le_refl _)]
    rfl
  | k + 1, i, out, hk, hi, ho, hol => by
    have hi' : i < L.length := by omega
    rw [loop_eq, drop_at hi']
    simp only [spec_l05Deepen_v3_l0, ltb hi', nn, Bool.and_self, cond_true, Int.toNat_natCast]
    have hx := hL _ (at_mem hi')
    have e := spec_back (m := m) hx hM h2
    rw [e]
    simp only [Option.bind_some]
    unfold dp
    rcases bk_ok (m := m) hx hM h2 with ⟨b1, b2, b3⟩ | ⟨b1, b2⟩
    rotate_left
    · have : ((bk (at' L i) m M).2 != 0) = true := by simpa using b1
      rw [this, sel_neg b1]; rfl
    rw [sel_pos b1, b1]
    have c0 := b3 _ (at_mem (i := 0) (by omega))
    have c1 := b3 _ (at_mem (i := 1) (by omega))
    have t0 : ((decide ((0 : Int) ≤ (0 : Int))) && (decide ((0 : Int) < (((bk (at' L i) m M).1.length : Nat) : Int)))) = true := by rw [b2]; decide
    have t1 : ((decide ((0 : Int) ≤ (1 : Int))) && (decide ((1 : Int) < (((bk (at' L i) m M).1.length : Nat) : Int)))) = true := by rw [b2]; decide
    rw [t0, t1]
    simp only [bne_self_eq_false, cond_false, cond_true]
    have g0 : (bk (at' L i) m M).1.getD (0 : Int).toNat dLf = at' (bk (at' L i) m M).1 0 := rfl
    have g1 : (bk (at' L i) m M).1.getD (1 : Int).toNat dLf = at' (bk (at' L i) m M).1 1 := rfl
    rw [g0, g1, spec_put ho c0 (by omega)]
    simp only [Option.bind_some]
    obtain ⟨q1, q2, _⟩ := putF_ok ho c0
    rw [spec_put q1 c1 (by omega)]
    simp only [Option.bind_some]
    obtain ⟨q3, q4⟩ := putF2 ho c0 c1
    generalize putF (at' (bk (at' L i) m M).1 1) (putF (at' (bk (at' L i) m M).1 0) out) = o at *
    by_cases c : 200 < o.length
    · have : decide (((o.length : Nat) : Int) > (200 : Int)) = true := decide_eq_true (by omega)
      rw [this, sel_pos c]; rfl
    · have : decide (((o.length : Nat) : Int) > (200 : Int)) = false := decide_eq_false (by omega)
      rw [this, sel_neg c, cond_false, w64_succ (by omega)]
      exact spec_deepen hM h2 hL hl k (i + 1) (by omega) (by omega) q3 (by omega)
theorem spec_deep {m : Lf} {M L : List Lf} (hM : ∀ x ∈ M, isL x) (h2 : M.length = 2) (hL : AscF L) (hl : L.length ≤ 1000) : spec_l05Deepen_v3 L m M = some (dp m M L L) := by
  unfold spec_l05Deepen_v3
  have := spec_deepen (m := m) hM h2 hL.1 hl L.length 0 (by omega) (Nat.zero_le _) hL hl
  exact this
/-- What each depth adds. -/
noncomputable def dpt (m : Lf) (M : List Lf) : Nat → List Lf → List (List Lf) × Int
  | 0, _ => ([], 0)
  | n + 1, L => sel ((dp m M L L).2 = 0) ((dp m M L L).1 :: (dpt m M n (dp m M L L).1).1, (dpt m M n (dp m M L L).1).2) ([], (dp m M L L).2)
theorem dpt_len {m : Lf} {M : List Lf} : ∀ (n : Nat) (L : List Lf), (dpt m M n L).2 = 0 → (dpt m M n L).1.length = n
  | 0, L, _ => rfl
  | n + 1, L, h => by
    unfold dpt at h ⊢
    by_cases c : (dp m M L L).2 = 0
    · rw [sel_pos c] at h ⊢
      simp only [List.length_cons]
      rw [dpt_len n _ h]
    · rw [sel_neg c] at h; exact absurd h c
theorem spec_dpt {m : Lf} {M : List Lf} (hM : ∀ x ∈ M, isL x) (h2 : M.length = 2) : ∀ (n : Nat) {L : List Lf} {out : List (List Lf)}, AscF L → L.length ≤ 200 → out.length + n ≤ 1000 →
    ((loop spec_l05Depths_v3_l1 ((n : Int), m, M, L, out, ())).bind fun r5 => alt r5 (fun r6 => some (r6.1, r6.2.1)) (fun r7 => some (r7.1, (0 : Int)))) = some (sel ((dpt m M n L).2 = 0) (out ++ (dpt m M n L).1, 0) ([], (dpt m M n L).2))
  | 0, L, out, hL, hl, ho => by
    rw [loop_eq]
    have : decide (((0 : Nat) : Int) > (0 : Int)) = false := by decide
    simp only [spec_l05Depths_v3_l1, this, cond_false]
    unfold dpt
    rw [sel_pos rfl]
    simp [alt]
  | n + 1, L, out, hL, hl, ho => by
    rw [loop_eq]
    have : decide (((n + 1 : Nat) : Int) > (0 : Int)) = true := decide_eq_true (by omega)
    simp only [spec_l05Depths_v3_l1, this, cond_true]
    rw [spec_deep hM h2 hL (by omega)]
    simp only [Option.bind_some]
    unfold dpt
    by_cases c : (dp m M L L).2 = 0
    rotate_left
    · have : ((dp m M L L).2 != 0) = true := by simpa using c
      simp only [sel_neg c]
      rw [this]; rfl
    simp only [sel_pos c]
    rw [c]
    simp only [bne_self_eq_false, cond_false]
    have b : decide (((out.length + [(dp m M L L).1].length) * 24) ≤ 140737488355328) = true := decide_eq_true (by simp; omega)
    rw [b, cond_true, w64_pred (by omega) (by omega)]
    obtain ⟨a1, a2⟩ := dp_ok hM h2 hL.1 hL c
    have ih := spec_dpt (m := m) hM h2 n (L := (dp m M L L).1) (out := out ++ [(dp m M L L).1]) a1 (by omega) (by simp; omega)
    have e : n + 1 - 1 = n := by omega
    rw [e]
    refine Eq.trans ih ?_
    by_cases d : (dpt m M n (dp m M L L).1).2 = 0
    · rw [sel_pos d, sel_pos d]; simp
    · rw [sel_neg d, sel_neg d]
/-- Leaves put in one after the other. -/
noncomputable def insAll : List Lf → List Lf → List Lf
  | [], L => L
  | x :: xs, L => insAll xs (ins x L)
theorem insAll_ok : ∀ {xs L : List Lf}, (∀ x ∈ xs, isL x) → AscF L → AscF (insAll xs L) ∧ (insAll xs L).length ≤ L.length + xs.length
  | [], L, _, hL => ⟨hL, by simp [insAll]⟩
  | x :: xs, L, hx, hL => by
    obtain ⟨h1, h2, _⟩ := ins_ok hL (hx x (by simp))
    obtain ⟨i1, i2⟩ := insAll_ok (xs := xs) (fun y hy => hx y (by simp [hy])) h1
    exact ⟨i1, by simp only [insAll, List.length_cons]; omega⟩
theorem insAll_append : ∀ (xs ys L : List Lf), insAll (xs ++ ys) L = insAll ys (insAll xs L)
  | [], ys, L => rfl
  | x :: xs, ys, L => insAll_append xs ys (ins x L)
theorem spec_start {m : Lf} {k : Int} {M I : List Lf} (hI : ∀ x ∈ I, isL x) (hi : I.length ≤ 1000) : ∀ (d i : Nat) {L : List Lf}, I.length - i = d → i ≤ I.length → AscF L → L.length + d ≤ 2000 →
    loop spec_l05Depths_v3_l0 (k, m, M, I, L, (i : Int), ()) = some (k, m, M, insAll (I.drop i) L, ())
  | 0, i, L, hd, hi', hL, hl => by
    have : i = I.length := by omega
    subst this
    rw [loop_eq]
    simp only [spec_l05Depths_v3_l0, nltb (Nat.lt_irrefl I.length), cond_false]
    rw [List.drop_of_length_le (Nat.le_refl _)]
    rfl
  | d + 1, i, L, hd, hi', hL, hl => by
    have h : i < I.length := by omega
    rw [loop_eq, drop_at h]
    simp only [spec_l05Depths_v3_l0, ltb h, nn, Bool.and_self, cond_true, Int.toNat_natCast]
    have hx := hI _ (at_mem h)
    have e := spec_ins hL.1 hx (by omega : L.length ≤ 100000)
    rw [e]
    simp only [Option.bind_some]
    rw [w64_succ (by omega)]
    obtain ⟨q1, q2, _⟩ := ins_ok hL hx
    exact spec_start hI hi d (i + 1) (by omega) (by omega) q1 (by omega)
noncomputable def start (m : Lf) : List Lf := insAll ((imgs m).1 ++ mj m) []
theorem asc_nil : AscF [] := ⟨by simp, List.Pairwise.nil⟩
theorem start_ok {m : Lf} (h : isL m) (hc : mcode m = 0) : fine m ∧ AscF (start m) ∧ (start m).length ≤ 200 := by
  have hf : fine m := by
    unfold mcode at hc
    by_cases a1 : long m
    · rw [sel_pos a1] at hc; omega
    rw [sel_neg a1] at hc
    by_cases a2 : fine m
    · exact a2
    · rw [sel_neg a2] at hc; omega
  obtain ⟨hI, hI2, _⟩ := imgs_isL h
  have hM := mj_isL h hf.2
  have hMl : (mj m).length = 2 := pr_len
  obtain ⟨q1, q2⟩ := insAll_ok (xs := (imgs m).1 ++ mj m) (fun x hx => (List.mem_append.1 hx).elim (hI x) (hM x)) asc_nil
  refine ⟨hf, q1, ?_⟩
  simp only [List.length_append, List.length_nil] at q2
  show (insAll ((imgs m).1 ++ mj m) []).length ≤ 200
  omega
theorem spec_depths {m : Lf} (h : isL m) {n : Nat} (hn : n ≤ 6) : spec_l05Depths_v3 m (n : Int) = some (sel (mcode m = 0) (sel ((dpt m (mj m) n (start m)).2 = 0) (start m :: (dpt m (mj m) n (start m)).1, 0) ([], (dpt m (mj m) n (start m)).2)) ([], mcode m)) := by
  unfold spec_l05Depths_v3
  rw [spec_minor h]
  simp only [Option.bind_some]
  by_cases hc : mcode m = 0
  rotate_left
  · rw [sel_neg hc, sel_neg hc]
    have : (mcode m != 0) = true := by simpa using hc
    simp only [this, cond_true]
  rw [sel_pos hc, sel_pos hc]
  simp only [bne_self_eq_false, cond_false]
  obtain ⟨hf, hS, hSl⟩ := start_ok h hc
  obtain ⟨hI, hI2, _⟩ := imgs_isL h
  have hM := mj_isL h hf.2
  have hMl : (mj m).length = 2 := pr_len
  rw [(images_ok h).2]
  simp only [Option.bind_some]
  have hs := spec_start (m := m) (k := (n : Int)) (M := mj m) hI (by omega) (imgs m).1.length 0 (by omega) (Nat.zero_le _) asc_nil (by simp; omega)
  have hs' : loop spec_l05Depths_v3_l0 ((n : Int), m, mj m, (imgs m).1, ([] : List Lf), (0 : Int), ()) = some ((n : Int), m, mj m, insAll (imgs m).1 [], ()) := hs
  rw [hs']
  simp only [Option.bind_some]
  have t0 : ((decide ((0 : Int) ≤ (0 : Int))) && (decide ((0 : Int) < (((mj m).length : Nat) : Int)))) = true := by rw [hMl]; decide
  have t1 : ((decide ((0 : Int) ≤ (1 : Int))) && (decide ((1 : Int) < (((mj m).length : Nat) : Int)))) = true := by rw [hMl]; decide
  rw [t0, t1]
  simp only [cond_true]
  have g0 : (mj m).getD (0 : Int).toNat dLf = at' (mj m) 0 := rfl
  have g1 : (mj m).getD (1 : Int).toNat dLf = at' (mj m) 1 := rfl
  obtain ⟨q1, q2⟩ := insAll_ok hI asc_nil
  simp only [List.length_nil] at q2
  have m0 := hM _ (at_mem (i := 0) (by omega))
  have m1 := hM _ (at_mem (i := 1) (by omega))
  rw [g0, g1, spec_ins q1.1 m0 (by omega)]
  simp only [Option.bind_some]
  obtain ⟨r1, r2, _⟩ := ins_ok q1 m0
  rw [spec_ins r1.1 m1 (by omega)]
  simp only [Option.bind_some]
  have hst : ins (at' (mj m) 1) (ins (at' (mj m) 0) (insAll (imgs m).1 [])) = start m := by
    unfold start
    rw [insAll_append]
    obtain ⟨x, y, hxy⟩ : ∃ x y, mj m = [x, y] := by unfold mj pr; split <;> exact ⟨_, _, rfl⟩
    rw [hxy]; rfl
  rw [hst]
  exact (spec_dpt (m := m) hM hMl n hS hSl (out := [start m]) (by simp; omega)).trans rfl
end Go.K.Pure

/- Plain laws of laminations, part L: laminations of the program. -/
set_option linter.unusedVariables false
set_option linter.unusedSimpArgs false
namespace Go.K.Pure
open Classical
open Go.K

abbrev LL := List (List Lf)
abbrev sl (S : LL) (i : Nat) : List Lf := S.getD i ([] : List Lf)
def fl (S : LL) (i : Nat) : List Lf := (S.take i).flatten
theorem fl_zero (S : LL) : fl S 0 = [] := by simp [fl]
theorem fl_succ {S : LL} {i : Nat} (h : i < S.length) : fl S (i + 1) = fl S i ++ sl S i := by
  unfold fl
  rw [List.take_succ_eq_append_getElem h, List.flatten_append, sl, getD_at h]
  simp
theorem fl_all (S : LL) : fl S S.length = S.flatten := by simp [fl]
theorem fl_mono {S : LL} {i j : Nat} (h : i ≤ j) : (fl S i).length ≤ (fl S j).length := by
  unfold fl
  have : S.take i = (S.take j).take i := by rw [List.take_take, Nat.min_eq_left h]
  rw [this]
  generalize S.take j = T
  conv => rhs; rw [← List.take_append_drop i T, List.flatten_append, List.length_append]
  omega
theorem len_fl {S : LL} {i : Nat} (h : i < S.length) : (sl S i).length ≤ S.flatten.length := by
  have h1 := fl_succ h
  have h2 := fl_mono (S := S) (i := i + 1) (j := S.length) (by omega)
  rw [h1, fl_all, List.length_append] at h2
  omega
theorem concat_ok {S : LL} (h : S.length ≤ 1048576) (hJ : S.flatten.length ≤ 1048576) : slices_Concat__impl_Leaf_impl_Leaf S = some S.flatten := by
  unfold slices_Concat__impl_Leaf_impl_Leaf
  have hb : ∀ n, n ≤ S.length → (fl S n).length ≤ 1048576 := fun n hn => by
    have := fl_mono (S := S) hn
    rw [fl_all] at this; omega
  have l0 := loop_count (step := slices_Concat__impl_Leaf_impl_Leaf_l0) (fun n => (S, ((fl S n).length : Int), S, ((S.length : Nat) : Int), (n : Int), ())) S.length (S, ((fl S S.length).length : Int), ()) (by
    intro n hn
    have e1 : (fl S (n + 1)).length = (fl S n).length + (sl S n).length := by rw [fl_succ hn, List.length_append]
    have e2 := hb (n + 1) hn
    simp only [slices_Concat__impl_Leaf_impl_Leaf_l0, ltb hn, nn, Bool.and_self, cond_true, Int.toNat_natCast]
    have hd : (S.getD n []).length = (sl S n).length := rfl
    have hw : w64 (((fl S n).length : Int) + ((S.getD n []).length : Int)) = ((fl S n).length : Int) + ((S.getD n []).length : Int) := w64_id (by omega) (by omega)
    have e3 : ¬ ((fl S n).length : Int) + ((S.getD n []).length : Int) < 0 := by omega
    simp only [hw, decide_eq_false e3, cond_false]
    rw [w64_succ (by omega)]
    congr 4
    omega) (by simp only [slices_Concat__impl_Leaf_impl_Leaf_l0, nltb (Nat.lt_irrefl S.length), cond_false]) 0 (Nat.zero_le _)
  have t0 : loop slices_Concat__impl_Leaf_impl_Leaf_l0 (S, (0 : Int), S, ((S.length : Nat) : Int), (0 : Int), ()) = some (S, ((fl S S.length).length : Int), ()) := by
    rw [← l0]; simp [fl_zero]
  rw [t0]
  simp only [Option.bind_some]
  have hg : slices_Grow__impl_Leaf_impl_Leaf ([] : List Lf) ((fl S S.length).length : Int) = some [] := by
    unfold slices_Grow__impl_Leaf_impl_Leaf growOf
    have := hb S.length (Nat.le_refl _)
    have e : decide (((fl S S.length).length : Int) * ((32 : Nat) : Int) ≤ 140737488355328) = true := decide_eq_true (by omega)
    rw [e, nn]; rfl
  rw [hg]
  simp only [Option.bind_some]
  have l1 := loop_count (step := slices_Concat__impl_Leaf_impl_Leaf_l1) (fun n => (S, fl S n, S, ((S.length : Nat) : Int), (n : Int), ())) S.length (fl S S.length, ()) (by
    intro n hn
    have e1 : (fl S (n + 1)).length = (fl S n).length + (sl S n).length := by rw [fl_succ hn, List.length_append]
    have e2 := hb (n + 1) hn
    simp only [slices_Concat__impl_Leaf_impl_Leaf_l1, ltb hn, nn, Bool.and_self, cond_true, Int.toNat_natCast]
    have e3 : decide (((fl S n).length + (S.getD n []).length) * 32 ≤ 140737488355328) = true := decide_eq_true (by show ((fl S n).length + (sl S n).length) * 32 ≤ _; omega)
    rw [e3, cond_true, w64_succ (by omega), fl_succ hn]) (by simp only [slices_Concat__impl_Leaf_impl_Leaf_l1, nltb (Nat.lt_irrefl S.length), cond_false]) 0 (Nat.zero_le _)
  have t1 : loop slices_Concat__impl_Leaf_impl_Leaf_l1 (S, ([] : List Lf), S, ((S.length : Nat) : Int), (0 : Int), ()) = some (fl S S.length, ()) := by
    rw [← l1, fl_zero]; rfl
  rw [t1]
  simp only [Option.bind_some, fl_all]
theorem clone_ok {L : List Lf} (h : L.length ≤ 100000) : slices_Clone__impl_Leaf_impl_Leaf L = some L := by
  unfold slices_Clone__impl_Leaf_impl_Leaf Go.K.cloneOf
  rw [decide_eq_true (by omega), cond_true]
theorem impl_start {k : Int} {m : Mn} {I : List Lf} (hI : ∀ x ∈ I, isL x) (hi : I.length ≤ 1000) : ∀ (d i : Nat) {L : List Lf}, I.length - i = d → i ≤ I.length → AscF L → L.length + d ≤ 2000 →
    loop impl_minor_laminations_l0 (k, m, L, I, ((I.length : Nat) : Int), (i : Int), ()) = some (k, m, insAll (I.drop i) L, ())
  | 0, i, L, hd, hi', hL, hl => by
    have : i = I.length := by omega
    subst this
    rw [loop_eq]
    simp only [impl_minor_laminations_l0, nltb (Nat.lt_irrefl I.length), cond_false]
    rw [List.drop_of_length_le (Nat.le_refl _)]
    rfl
  | d + 1, i, L, hd, hi', hL, hl => by
    have h : i < I.length := by omega
    rw [loop_eq, drop_at h]
    simp only [impl_minor_laminations_l0, ltb h, nn, Bool.and_self, cond_true, Int.toNat_natCast]
    have hx := hI _ (at_mem h)
    have e := impl_ins hL hx (by omega : L.length ≤ 100000)
    rw [e]
    simp only [Option.bind_some]
    rw [w64_succ (by omega)]
    obtain ⟨q1, q2, _⟩ := ins_ok hL hx
    exact impl_start hI hi d (i + 1) (by omega) (by omega) q1 (by omega)
/-- The two leaves that arise are put in. -/
theorem impl_pair {m : Mn} {L : List Lf} {counts : List Int} {p : List Lf} {a b c d : Int} {q : List Lf} (hL : AscF L) (hl : L.length ≤ 1000) (hp : p.length = 2) (hpv : ∀ x ∈ p, isL x) :
    loop impl_minor_laminations_l3 (m, L, counts, p, a, b, q, c, d, p, p, ((p.length : Nat) : Int), (0 : Int), ()) = some (m, putF (at' p 1) (putF (at' p 0) L), counts, a, b, q, c, d, ()) := by
  have step : ∀ (i : Nat) {A : List Lf}, i < 2 → AscF A → A.length ≤ 2000 → impl_minor_laminations_l3 (m, A, counts, p, a, b, q, c, d, p, p, ((p.length : Nat) : Int), (i : Int), ()) = some (.next (m, putF (at' p i) A, counts, p, a, b, q, c, d, p, p, ((p.length : Nat) : Int), ((i + 1 : Nat) : Int), ())) := by
    intro i A hi hA hAl
    have h : i < p.length := by omega
    simp only [impl_minor_laminations_l3, ltb h, nn, Bool.and_self, cond_true, Int.toNat_natCast]
    have hx := hpv _ (at_mem h)
    have e := impl_crosses hA.1 hx (by omega)
    rw [e]
    simp only [Option.bind_some]
    unfold putF
    by_cases cr : ∃ x ∈ A, X x (at' p i)
    · rw [sel_pos cr, dec_pos cr, Bool.not_true, cond_false, w64_succ (by omega)]
    · rw [sel_neg cr, dec_neg cr, Bool.not_false, cond_true]
      have e2 := impl_ins hA hx (by omega)
      rw [e2]
      simp only [Option.bind_some]
      rw [w64_succ (by omega)]
  have c0 := hpv _ (at_mem (i := 0) (by omega))
  obtain ⟨q1, q2, _⟩ := putF_ok hL c0
  rw [loop_eq]
  have s0 := step 0 (A := L) (by omega) hL (by omega)
  have s0' : impl_minor_laminations_l3 (m, L, counts, p, a, b, q, c, d, p, p, ((p.length : Nat) : Int), (0 : Int), ()) = _ := s0
  rw [s0']
  simp only
  rw [loop_eq, step 1 (by omega) q1 (by omega)]
  simp only
  rw [loop_eq]
  have : decide (((1 + 1 : Nat) : Int) < ((p.length : Nat) : Int)) = false := decide_eq_false (by omega)
  simp only [impl_minor_laminations_l3, this, cond_false]
theorem impl_deepen {m : Lf} {I M L : List Lf} {z : Int × Unit} {counts : List Int} {a b : Int} (hM : ∀ x ∈ M, isL x) (h2 : M.length = 2) (hL : ∀ x ∈ L, isL x) (hl : L.length ≤ 1000) : ∀ (k i : Nat) {out : List Lf}, L.length - i = k → i ≤ L.length → AscF out → out.length ≤ 1000 →
    ∃ g, loop impl_minor_laminations_l2 ((m, I, M, z), out, counts, a, b, L, ((L.length : Nat) : Int), (i : Int), ()) = some (sel ((dp m M (L.drop i) out).2 = 0) (.inr ((m, I, M, z), (dp m M (L.drop i) out).1, counts, a, b, ())) (.inl ([], [], (dp m M (L.drop i) out).2, g, counts, ())))
  | 0, i, out, hk, hi, ho, hol => by
    have : i = L.length := by omega
    subst this
    rw [loop_eq]
    simp only [impl_minor_laminations_l2, nltb (Nat.lt_irrefl L.length), cond_false]
    rw [List.drop_of_length_le (Nat.le_refl _)]
    unfold dp
    exact ⟨[], by rw [sel_pos rfl]⟩
  | k + 1, i, out, hk, hi, ho, hol => by
    have hi' : i < L.length := by omega
    rw [loop_eq, drop_at hi']
    simp only [impl_minor_laminations_l2, ltb hi', nn, Bool.and_self, cond_true, Int.toNat_natCast]
    have hx := hL _ (at_mem hi')
    have e := impl_back (m := m) (I := I) (z := z) hx hM h2
    rw [e]
    simp only [Option.bind_some]
    unfold dp
    rcases bk_ok (m := m) hx hM h2 with ⟨b1, b2, b3⟩ | ⟨b1, b2⟩
    rotate_left
    · have : ((bk (at' L i) m M).2 != 0) = true := by simpa using b1
      rw [this, sel_neg b1]
      refine ⟨out, ?_⟩
      have : ¬ ((([] : List Lf), (bk (at' L i) m M).2)).2 = 0 := b1
      rw [sel_neg this]; rfl
    rw [sel_pos b1, b1]
    simp only [bne_self_eq_false, cond_false]
    have c0 := b3 _ (at_mem (i := 0) (by omega))
    have c1 := b3 _ (at_mem (i := 1) (by omega))
    rw [impl_pair ho (by omega) b2 b3]
    simp only [Option.bind_some]
    obtain ⟨q3, q4⟩ := putF2 ho c0 c1
    generalize putF (at' (bk (at' L i) m M).1 1) (putF (at' (bk (at' L i) m M).1 0) out) = o at *
    by_cases c : 200 < o.length
    · have : decide (((o.length : Nat) : Int) > (200 : Int)) = true := decide_eq_true (by omega)
      rw [this, sel_pos c]
      refine ⟨o, ?_⟩
      have : ¬ ((([] : List Lf), (3 : Int))).2 = 0 := by simp
      rw [sel_neg this]; rfl
    · have : decide (((o.length : Nat) : Int) > (200 : Int)) = false := decide_eq_false (by omega)
      rw [this, sel_neg c, cond_false, w64_succ (by omega)]
      exact impl_deepen hM h2 hL hl k (i + 1) (by omega) (by omega) q3 (by omega)
def lens (S : LL) : List Int := S.map fun L => ((L.length : Nat) : Int)
theorem impl_dpt {m : Lf} {I M : List Lf} {z : Int × Unit} {k : Nat} (hM : ∀ x ∈ M, isL x) (h2 : M.length = 2) (hk : k ≤ 100) : ∀ (n i : Nat) {L : List Lf} {counts : List Int}, k - i = n → i ≤ k → AscF L → L.length ≤ 200 → counts.length + n ≤ 1000 →
    ((loop impl_minor_laminations_l1 ((m, I, M, z), L, counts, (k : Int), (i : Int), ())).bind fun r3 => alt r3 (fun r4 => some (r4.1, r4.2.1, r4.2.2.1)) (fun r5 => some (r5.1, r5.2.1, (0 : Int)))) =
      some (sel ((dpt m M n L).2 = 0) ((L :: (dpt m M n L).1).getLast (by simp), counts ++ lens (dpt m M n L).1, 0) ([], [], (dpt m M n L).2))
  | 0, i, L, counts, hn, hi, hL, hl, hc => by
    rw [loop_eq]
    have : decide ((i : Int) < (k : Int)) = false := decide_eq_false (by omega)
    simp only [impl_minor_laminations_l1, this, cond_false]
    unfold dpt
    rw [sel_pos rfl]
    simp [alt, lens]
  | n + 1, i, L, counts, hn, hi, hL, hl, hc => by
    rw [loop_eq]
    have : decide ((i : Int) < (k : Int)) = true := decide_eq_true (by omega)
    simp only [impl_minor_laminations_l1, this, cond_true]
    rw [clone_ok (by omega)]
    simp only [Option.bind_some]
    obtain ⟨g, hg⟩ := impl_deepen (m := m) (I := I) (M := M) (L := L) (z := z) (counts := counts) (a := (k : Int)) (b := (i : Int)) hM h2 hL.1 (by omega) L.length 0 (by omega) (Nat.zero_le _) hL (by omega)
    have hg' : loop impl_minor_laminations_l2 ((m, I, M, z), L, counts, (k : Int), (i : Int), L, ((L.length : Nat) : Int), (0 : Int), ()) = _ := hg
    rw [hg']
    simp only [Option.bind_some, List.drop_zero]
    unfold dpt
    by_cases c : (dp m M L L).2 = 0
    rotate_left
    · simp only [sel_neg c]
      rfl
    simp only [sel_pos c]
    simp only [alt]
    unfold impl_length_impl_Leaf
    simp only [Option.bind_some]
    have b : decide (((counts.length + [(((dp m M L L).1.length : Nat) : Int)].length) * 8) ≤ 140737488355328) = true := decide_eq_true (by simp; omega)
    rw [b, cond_true, w64_succ (by omega)]
    obtain ⟨a1, a2⟩ := dp_ok hM h2 hL.1 hL c
    have ih := impl_dpt (m := m) (I := I) (z := z) hM h2 hk n (i + 1) (L := (dp m M L L).1) (counts := counts ++ [(((dp m M L L).1.length : Nat) : Int)]) (by omega) (by omega) a1 (by omega) (by simp; omega)
    refine Eq.trans ih ?_
    by_cases d : (dpt m M n (dp m M L L).1).2 = 0
    · rw [sel_pos d, sel_pos d]
      simp [lens]
    · rw [sel_neg d, sel_neg d]
theorem impl_lams {m : Lf} (h : isL m) (hc : mcode m = 0) {n : Nat} (hn : n ≤ 6) : impl_minor_laminations (m, (imgs m).1, mj m, 0, ()) (n : Int) =
    some (sel ((dpt m (mj m) n (start m)).2 = 0) ((start m :: (dpt m (mj m) n (start m)).1).getLast (by simp), lens (start m :: (dpt m (mj m) n (start m)).1), 0) ([], [], (dpt m (mj m) n (start m)).2)) := by
  obtain ⟨hf, hS, hSl⟩ := start_ok h hc
  obtain ⟨hI, hI2, _⟩ := imgs_isL h
  have hM := mj_isL h hf.2
  have hMl : (mj m).length = 2 := pr_len
  unfold impl_minor_laminations
  simp only
  rw [concat_ok (S := [(imgs m).1, mj m]) (by simp) (by simp; omega)]
  simp only [Option.bind_some]
  have e0 : [(imgs m).1, mj m].flatten = (imgs m).1 ++ mj m := by simp
  rw [e0]
  have hs := impl_start (k := (n : Int)) (m := (m, (imgs m).1, mj m, 0, ())) (I := (imgs m).1 ++ mj m) (fun x hx => (List.mem_append.1 hx).elim (hI x) (hM x)) (by simp; omega) ((imgs m).1 ++ mj m).length 0 (by omega) (Nat.zero_le _) asc_nil (by simp; omega)
  have hs' : loop impl_minor_laminations_l0 ((n : Int), (m, (imgs m).1, mj m, 0, ()), ([] : List Lf), (imgs m).1 ++ mj m, ((((imgs m).1 ++ mj m).length : Nat) : Int), (0 : Int), ()) = some ((n : Int), (m, (imgs m).1, mj m, 0, ()), start m, ()) := hs
  rw [hs']
  simp only [Option.bind_some]
  unfold impl_length_impl_Leaf
  simp only [Option.bind_some]
  have := impl_dpt (m := m) (I := (imgs m).1) (z := (0, ())) hM hMl (show n ≤ 100 by omega) n 0 (L := start m) (counts := [(((start m).length : Nat) : Int)]) (by omega) (Nat.zero_le _) hS hSl (by simp; omega)
  refine Eq.trans this ?_
  rfl
end Go.K.Pure

/- Plain laws of laminations, part M: what both return, and the laws. -/
set_option linter.unusedVariables false
set_option linter.unusedSimpArgs false
namespace Go.K.Pure
open Classical

theorem code_nil : impl_leavesCode [] = some 0 := by
  unfold impl_leavesCode impl_areAll_impl_Leaf
  rw [cf (s := []) (P := fun _ => False) (fun l hl => by cases hl) (by simp), dec_neg (fun ⟨_, h, _⟩ => by cases h)]
  simp
theorem code_bad {m : Lf} (hI : InL m) (h : ¬ isL m) : impl_leavesCode [m] = some 1 := by
  unfold impl_leavesCode impl_areAll_impl_Leaf
  rw [cf (s := [m]) (P := fun _ => True) (fun l hl => by
    rw [List.mem_singleton.1 hl]
    unfold impl_areAll_impl_Leaf_f1
    rw [impl_isL hI, dec_pos trivial]
    simp [h]) (by simp), dec_pos ⟨m, by simp, trivial⟩]
  simp
theorem minorLeaf_ok {m : Lf} (hI : InL m) (b : Bool) : ∃ p : Mn × Int, impl_minorLeaf m b [] = some p ∧ (¬ isL m → p.2 = 1) ∧ (isL m → b = false → p.2 = 2) ∧ (isL m → b = true → p.2 = mcode m ∧ (mcode m = 0 → p.1 = (m, (imgs m).1, mj m, 0, ()))) := by
  unfold impl_minorLeaf
  rw [code_nil]
  simp only [Option.bind_some, bne_self_eq_false, cond_false]
  rw [impl_isL hI]
  simp only [Option.bind_some]
  by_cases h : isL m
  rotate_left
  · rw [decide_eq_false h, cond_false]
    unfold impl_minorOf
    rw [code_bad hI h]
    exact ⟨_, rfl, fun _ => rfl, fun h' => absurd h' h, fun h' => absurd h' h⟩
  rw [decide_eq_true h, cond_true]
  cases b with
  | false => exact ⟨_, rfl, fun h' => absurd h h', fun _ _ => rfl, fun _ h => (by cases h)⟩
  | true =>
    simp only [Bool.not_true, cond_false]
    obtain ⟨p, p1, p2, p3⟩ := impl_minor h
    rw [p1]
    simp only [Option.bind_some]
    by_cases c : mcode m = 0
    · rw [p2 c]
      exact ⟨_, rfl, fun h' => absurd h h', fun _ h => (by cases h), fun _ _ => ⟨c.symm, fun _ => rfl⟩⟩
    · rcases p3 c with q | ⟨q1, q2, q3⟩
      · have : (p.2 != 0) = true := by rw [q]; simpa using c
        rw [this, cond_true]
        exact ⟨_, rfl, fun h' => absurd h h', fun _ h => (by cases h), fun _ _ => ⟨q, fun h => absurd h c⟩⟩
      · have e1 : (p.1.2.2.2.1 != 0) = true := by simpa using q2
        rw [q1, e1]
        exact ⟨_, rfl, fun h' => absurd h h', fun _ h => (by cases h), fun _ _ => ⟨q3.symm, fun h => absurd h c⟩⟩
/-- The depths' laminations, and a code. -/
noncomputable def res (m : Lf) (k : Int) : LL × Int :=
  sel (isL m) (sel (0 ≤ k ∧ k ≤ 6) (sel (mcode m = 0) (sel ((dpt m (mj m) k.toNat (start m)).2 = 0) (start m :: (dpt m (mj m) k.toNat (start m)).1, 0) ([], (dpt m (mj m) k.toNat (start m)).2)) ([], mcode m)) ([], 2)) ([], 1)
theorem dpt_bound {m : Lf} {M : List Lf} (hM : ∀ x ∈ M, isL x) (h2 : M.length = 2) : ∀ (n : Nat) {L : List Lf}, AscF L → L.length ≤ 200 → ∀ A ∈ (dpt m M n L).1, A.length ≤ 200
  | 0, L, _, _, A, h => by unfold dpt at h; cases h
  | n + 1, L, hL, hl, A, h => by
    unfold dpt at h
    by_cases c : (dp m M L L).2 = 0
    · rw [sel_pos c] at h
      obtain ⟨a1, a2⟩ := dp_ok hM h2 hL.1 hL c
      rcases List.mem_cons.1 h with rfl | h
      · omega
      · exact dpt_bound hM h2 n a1 (by omega) A h
    · rw [sel_neg c] at h; cases h
theorem res_ok (m : Lf) (k : Int) : (res m k).2 = 0 ∧ isL m ∧ (0 ≤ k ∧ k ≤ 6) ∧ mcode m = 0 ∧ (dpt m (mj m) k.toNat (start m)).2 = 0 ∧ (res m k).1 = start m :: (dpt m (mj m) k.toNat (start m)).1 ∧ (res m k).1.length = k.toNat + 1 ∧ (∀ A ∈ (res m k).1, A.length ≤ 200) ∨ (res m k).2 ≠ 0 ∧ (res m k).1 = [] := by
  unfold res
  by_cases a1 : isL m
  rotate_left
  · rw [sel_neg a1]; exact .inr ⟨by simp, rfl⟩
  rw [sel_pos a1]
  by_cases a2 : 0 ≤ k ∧ k ≤ 6
  rotate_left
  · rw [sel_neg a2]; exact .inr ⟨by simp, rfl⟩
  rw [sel_pos a2]
  by_cases a3 : mcode m = 0
  rotate_left
  · rw [sel_neg a3]; exact .inr ⟨a3, rfl⟩
  rw [sel_pos a3]
  by_cases a4 : (dpt m (mj m) k.toNat (start m)).2 = 0
  rotate_left
  · rw [sel_neg a4]; exact .inr ⟨a4, rfl⟩
  rw [sel_pos a4]
  obtain ⟨hf, hS, hSl⟩ := start_ok a1 a3
  refine .inl ⟨rfl, a1, a2, a3, a4, rfl, by simp [dpt_len _ _ a4], fun A hA => ?_⟩
  rcases List.mem_cons.1 hA with rfl | hA
  · exact hSl
  · exact dpt_bound (mj_isL a1 hf.2) pr_len _ hS hSl A hA
theorem impl_depth {k : Int} : impl_isDepth k = some (decide (0 ≤ k ∧ k ≤ 6)) := by
  unfold impl_isDepth
  rw [impl_in]; rfl
noncomputable def lastL (S : LL) : List Lf := S.getLast?.getD []
theorem impl_both {m : Lf} {k : Int} (hI : InL m) : impl_CountByDepth m k = some (lens (res m k).1, (res m k).2) ∧ impl_LaminationOf m k = some (lastL (res m k).1, (res m k).2) := by
  unfold impl_CountByDepth impl_LaminationOf
  rw [impl_depth]
  simp only [Option.bind_some]
  obtain ⟨p, p1, p2, p3, p4⟩ := minorLeaf_ok hI (decide (0 ≤ k ∧ k ≤ 6))
  rw [p1]
  simp only [Option.bind_some]
  have fin : ∀ c : Int, c ≠ 0 → p.2 = c → res m k = ([], c) → ((bif p.2 != 0 then some (([] : List Int), p.2) else (impl_minor_laminations p.1 k).bind fun r2 => some (r2.2.1, r2.2.2)) = some (lens (res m k).1, (res m k).2)) ∧ ((bif p.2 != 0 then some (([] : List Lf), p.2) else (impl_minor_laminations p.1 k).bind fun r2 => some (r2.1, r2.2.2)) = some (lastL (res m k).1, (res m k).2)) := by
    intro c hc hp hr
    have : (c != 0) = true := by simpa using hc
    rw [hr, hp, this]
    exact ⟨rfl, rfl⟩
  by_cases a1 : isL m
  rotate_left
  · exact fin 1 (by decide) (p2 a1) (by unfold res; rw [sel_neg a1])
  by_cases a2 : 0 ≤ k ∧ k ≤ 6
  rotate_left
  · exact fin 2 (by decide) (p3 a1 (decide_eq_false a2)) (by unfold res; rw [sel_pos a1, sel_neg a2])
  obtain ⟨q1, q2⟩ := p4 a1 (decide_eq_true a2)
  by_cases a3 : mcode m = 0
  rotate_left
  · exact fin (mcode m) a3 q1 (by unfold res; rw [sel_pos a1, sel_pos a2, sel_neg a3])
  rw [q1, a3, q2 a3]
  simp only [bne_self_eq_false, cond_false]
  obtain ⟨n, rfl⟩ := Int.eq_ofNat_of_zero_le a2.1
  rw [impl_lams a1 a3 (by omega)]
  unfold res
  rw [sel_pos a1, sel_pos a2, sel_pos a3, Int.toNat_natCast]
  simp only [Option.bind_some]
  by_cases a4 : (dpt m (mj m) n (start m)).2 = 0
  · rw [sel_pos a4, sel_pos a4]
    refine ⟨rfl, ?_⟩
    simp [lastL, List.getLast?_eq_some_getLast]
  · rw [sel_neg a4, sel_neg a4]
    exact ⟨rfl, rfl⟩
theorem spec_pre {m : Lf} {k : Int} (hI : InL m) : (isL m → 0 ≤ k ∧ k ≤ 6 → spec_l05Depths_v3 m k = some (res m k)) := by
  intro a1 a2
  obtain ⟨n, rfl⟩ := Int.eq_ofNat_of_zero_le a2.1
  rw [spec_depths a1 (by omega)]
  unfold res
  rw [sel_pos a1, sel_pos a2, Int.toNat_natCast]
theorem spec_lens {S : LL} (hl : S.length ≤ 1000) : loop spec_CountByDepth_l0 (S, ([] : List Int), (0 : Int), ()) = some (lens S, ()) := by
  have := loop_count (step := spec_CountByDepth_l0) (fun n => (S, lens (S.take n), (n : Int), ())) S.length (lens S, ()) (fun n hn => by
    simp only [spec_CountByDepth_l0, ltb hn, nn, Bool.and_self, cond_true, Int.toNat_natCast]
    have b : decide (((lens (S.take n)).length + [(((S.getD n ([] : List Lf)).length : Nat) : Int)].length) * 8 ≤ 140737488355328) = true := decide_eq_true (by simp [lens]; omega)
    rw [b, cond_true, w64_succ (by omega)]
    have e : lens (S.take (n + 1)) = lens (S.take n) ++ [(((S.getD n ([] : List Lf)).length : Nat) : Int)] := by
      unfold lens
      rw [List.take_succ_eq_append_getElem hn, List.map_append, getD_at hn]
      simp
    rw [e]) (by simp only [spec_CountByDepth_l0, nltb (Nat.lt_irrefl S.length), cond_false, List.take_length]) 0 (Nat.zero_le _)
  exact this
theorem spec_both {m : Lf} {k : Int} (hI : InL m) : spec_CountByDepth m k = some (lens (res m k).1, (res m k).2) ∧ spec_LaminationOf_v2 m k = some (lastL (res m k).1, (res m k).2) := by
  unfold spec_CountByDepth spec_LaminationOf_v2
  rw [spec_isL hI]
  simp only [Option.bind_some]
  by_cases a1 : isL m
  rotate_left
  · have : res m k = ([], 1) := by unfold res; rw [sel_neg a1]
    rw [decide_eq_false a1, this]; exact ⟨rfl, rfl⟩
  rw [decide_eq_true a1, spec_in]
  simp only [Option.bind_some, Bool.not_true, cond_false]
  by_cases a2 : 0 ≤ k ∧ k ≤ 6
  rotate_left
  · have : res m k = ([], 2) := by unfold res; rw [sel_pos a1, sel_neg a2]
    rw [decide_eq_false a2, this]; exact ⟨rfl, rfl⟩
  rw [decide_eq_true a2, spec_pre hI a1 a2]
  simp only [Option.bind_some, Bool.not_true, cond_false]
  rcases res_ok m k with ⟨r1, _, _, _, _, _, r7, r8⟩ | ⟨r1, r2⟩
  · rw [r1]
    simp only [bne_self_eq_false, cond_false]
    rw [spec_lens (by omega)]
    refine ⟨rfl, ?_⟩
    obtain ⟨n, rfl⟩ := Int.eq_ofNat_of_zero_le a2.1
    rw [Int.toNat_natCast] at r7
    have : (decide ((0 : Int) ≤ (n : Int)) && decide ((n : Int) < (((res m (n : Int)).1.length : Nat) : Int))) = true := inb (by omega)
    rw [this, cond_true, Int.toNat_natCast]
    congr 2
    generalize (res m (n : Int)).1 = S at *
    have hne : S ≠ [] := fun e => by rw [e] at r7; simp at r7
    unfold lastL
    rw [List.getLast?_eq_some_getLast hne, Option.getD_some, List.getLast_eq_getElem, getD_at (by omega)]
    congr 1
    omega
  · have : ((res m k).2 != 0) = true := by simpa using r1
    rw [this, r2]; exact ⟨rfl, rfl⟩
theorem to_leaf (m : Lf) : laws_toLeaf m = some m := rfl
/- Numbers. -/
theorem eq_ints {a : List Int} (h : a.length ≤ 1000000) : laws_eqInt64S a a = some true := by
  unfold laws_eqInt64S
  simp only [bne_self_eq_false, cond_false]
  have := loop_count (step := laws_eqInt64S_l0) (fun n => (a, a, (n : Int), ())) a.length (.inr ()) (by
    intro n hn
    simp only [laws_eqInt64S_l0, ltb hn, nn, Bool.and_self, cond_true, Int.toNat_natCast, bne_self_eq_false, cond_false]
    rw [w64_succ (by omega)]) (by simp only [laws_eqInt64S_l0, nltb (Nat.lt_irrefl a.length), cond_false]) 0 (Nat.zero_le _)
  have t2 : loop laws_eqInt64S_l0 (a, a, (0 : Int), ()) = some (.inr ()) := this
  rw [t2]
  rfl
theorem mark_ints {a : List Int} (h : a.length ≤ 1000000) : laws_markInt64S a 1 = some ((a.length : Int) + 1, tab (fun i => (i : Int) + 1) a.length) := by
  unfold laws_markInt64S
  have := loop_count (step := laws_markInt64S_l0) (fun n => (tab (fun i => if i < n then (i : Int) + 1 else a.getD i 0) a.length, ((n : Int) + 1), (n : Int), ())) a.length (tab (fun i => if i < a.length then (i : Int) + 1 else a.getD i 0) a.length, (a.length : Int) + 1, ()) (by
    intro n hn
    have hn' : n < (tab (fun i => if i < n then (i : Int) + 1 else a.getD i 0) a.length).length := by rw [tab_len]; exact hn
    simp only [laws_markInt64S_l0, ltb hn', nn, Bool.and_self, cond_true, Int.toNat_natCast]
    rw [tab_set hn, w64_succ (by omega), show (n : Int) + 1 = ((n + 1 : Nat) : Int) by omega, w64_succ (by omega)]
    congr 2
    refine Prod.ext (tab_ext fun p hp => ?_) rfl
    by_cases e : p = n
    · subst e; simp
    · by_cases c : p < n
      · simp [e, c, show p < n + 1 by omega]
      · simp [e, c, show ¬ p < n + 1 by omega]) (by
    have : ¬ a.length < (tab (fun i => if i < a.length then (i : Int) + 1 else a.getD i 0) a.length).length := by rw [tab_len]; omega
    simp only [laws_markInt64S_l0, nltb this, cond_false]) 0 (Nat.zero_le _)
  have e0 : tab (fun i => if i < 0 then (i : Int) + 1 else a.getD i 0) a.length = a := by
    rw [show (fun i : Nat => if i < 0 then (i : Int) + 1 else a.getD i 0) = fun i => a.getD i 0 from funext fun i => if_neg (Nat.not_lt_zero i)]
    exact tab_self a
  have t2 : loop laws_markInt64S_l0 (a, (1 : Int), (0 : Int), ()) = some (tab (fun i => if i < a.length then (i : Int) + 1 else a.getD i 0) a.length, (a.length : Int) + 1, ()) := by
    have t := this
    simp only [e0] at t
    exact t
  rw [t2]
  simp only [Option.bind_some]
  congr 2
  exact tab_ext fun p hp => if_pos hp
theorem held_ints {n : Nat} (h : n ≤ 1000000) : laws_heldInt64S (tab (fun i => (i : Int) + 1) n) 1 = some ((n : Int) + 1) := by
  unfold laws_heldInt64S
  have := loop_count (step := laws_heldInt64S_l0) (fun i => (tab (fun i => (i : Int) + 1) n, (i : Int) + 1, (i : Int), ())) n (.inr ((n : Int) + 1, ())) (by
    intro i hi
    have hi' : i < (tab (fun i => (i : Int) + 1) n).length := by rw [tab_len]; exact hi
    simp only [laws_heldInt64S_l0, ltb hi', nn, Bool.and_self, cond_true, Int.toNat_natCast]
    rw [tab_at hi]
    simp only [bne_self_eq_false, cond_false]
    rw [w64_succ (by omega), show (i : Int) + 1 = ((i + 1 : Nat) : Int) by omega, w64_succ (by omega)]
    rfl) (by
    have : ¬ n < (tab (fun i => (i : Int) + 1) n).length := by rw [tab_len]; omega
    simp only [laws_heldInt64S_l0, nltb this, cond_false]) 0 (Nat.zero_le _)
  have t2 : loop laws_heldInt64S_l0 (tab (fun i => (i : Int) + 1) n, (1 : Int), (0 : Int), ()) = some (.inr ((n : Int) + 1, ())) := this
  rw [t2]
  rfl
theorem lens_len (S : LL) : (lens S).length = S.length := by simp [lens]
theorem res_len (m : Lf) (k : Int) : (res m k).1.length ≤ 7 ∧ (lastL (res m k).1).length ≤ 200 := by
  rcases res_ok m k with ⟨_, _, a2, _, _, _, r7, r8⟩ | ⟨_, r2⟩
  · refine ⟨by omega, ?_⟩
    have hne : (res m k).1 ≠ [] := fun e => by rw [e] at r7; simp at r7
    unfold lastL
    rw [List.getLast?_eq_some_getLast hne]
    exact r8 _ (List.getLast_mem hne)
  · rw [r2]; simp [lastL]
theorem law_CountByDepth {aM : Lf} {aK : Int} (hM : InL aM) : laws_FnExactCountByDepth aM aK = some true := by
  unfold laws_FnExactCountByDepth
  rw [to_leaf]
  simp only [Option.bind_some]
  rw [(spec_both hM).1, (impl_both hM).1]
  simp only [Option.bind_some]
  have hl := (res_len aM aK).1
  have hL := lens_len (res aM aK).1
  generalize lens (res aM aK).1 = g at *
  generalize (res aM aK).2 = c at *
  rw [eq_ints (by omega)]
  simp only [Option.bind_some, Bool.not_true, cond_false, bne_self_eq_false]
  rw [mark_ints (by omega)]
  simp only [Option.bind_some]
  rw [held_ints (by omega)]
  have e : decide (((g.length : Nat) : Int) + 1 < 0) = false := decide_eq_false (by omega)
  simp only [Option.bind_some, e, cond_false, bne_self_eq_false]
end Go.K.Pure

/- Plain laws of laminations, part N: the law of the lists of leaves. -/
set_option linter.unusedVariables false
set_option linter.unusedSimpArgs false
namespace Go.K.Pure
open Classical

theorem eq_leaf (a : Lf) : laws_eqLeaf a a = some true := by
  unfold laws_eqLeaf
  rw [eq_angle, eq_angle]; rfl
theorem eq_leafS {a : List Lf} (h : a.length ≤ 1000000) : laws_eqLeafS a a = some true := by
  unfold laws_eqLeafS
  simp only [bne_self_eq_false, cond_false]
  have := loop_count (step := laws_eqLeafS_l0) (fun n => (a, a, (n : Int), ())) a.length (.inr ()) (by
    intro n hn
    simp only [laws_eqLeafS_l0, ltb hn, nn, Bool.and_self, cond_true, Int.toNat_natCast]
    rw [eq_leaf]
    simp only [Option.bind_some, Bool.not_true, cond_false]
    rw [w64_succ (by omega)]) (by simp only [laws_eqLeafS_l0, nltb (Nat.lt_irrefl a.length), cond_false]) 0 (Nat.zero_le _)
  have t2 : loop laws_eqLeafS_l0 (a, a, (0 : Int), ()) = some (.inr ()) := this
  rw [t2]
  rfl
/-- The mark at a place. -/
def mk4 (i : Nat) : Lf := ((((4 * i + 1 : Nat) : Int), ((4 * i + 2 : Nat) : Int), ()), (((4 * i + 3 : Nat) : Int), ((4 * i + 4 : Nat) : Int), ()), ())
theorem w4 {n : Nat} (h : n ≤ 1000000) : w64 (((4 * n + 1 : Nat) : Int) + 1) = ((4 * n + 2 : Nat) : Int) ∧ w64 (((4 * n + 2 : Nat) : Int) + 1) = ((4 * n + 3 : Nat) : Int) ∧ w64 (((4 * n + 3 : Nat) : Int) + 1) = ((4 * n + 4 : Nat) : Int) ∧ w64 (((4 * n + 4 : Nat) : Int) + 1) = ((4 * (n + 1) + 1 : Nat) : Int) :=
  ⟨w64_succ (by omega), w64_succ (by omega), w64_succ (by omega), (w64_succ (by omega)).trans (by congr 1)⟩
theorem mark_step {A : List Lf} {n : Nat} (hn : n < A.length) (h : n ≤ 1000000) : laws_markLeafS_l0 (A, ((4 * n + 1 : Nat) : Int), (n : Int), ()) = some (.next (A.set n (mk4 n), ((4 * (n + 1) + 1 : Nat) : Int), ((n + 1 : Nat) : Int), ())) := by
  have gs : ∀ x : Lf, (A.set n x).getD n dLf = x := fun x => by
    rw [getD_at (by simpa using hn)]; simp
  obtain ⟨w1, w2, w3, w5⟩ := w4 h
  simp only [laws_markLeafS_l0, List.length_set, ltb hn, nn, Bool.and_self, cond_true, Int.toNat_natCast, List.set_set, gs, w1, w2, w3, w5, w64_succ (show n < 4611686018427387904 by omega)]
  rfl
theorem mark_leafS {a : List Lf} (h : a.length ≤ 1000000) : laws_markLeafS a 1 = some (((4 * a.length + 1 : Nat) : Int), tab mk4 a.length) := by
  unfold laws_markLeafS
  have := loop_count (step := laws_markLeafS_l0) (fun n => (tab (fun i => if i < n then mk4 i else at' a i) a.length, ((4 * n + 1 : Nat) : Int), (n : Int), ())) a.length (tab (fun i => if i < a.length then mk4 i else at' a i) a.length, ((4 * a.length + 1 : Nat) : Int), ()) (by
    intro n hn
    have hn' : n < (tab (fun i => if i < n then mk4 i else at' a i) a.length).length := by rw [tab_len]; exact hn
    rw [mark_step hn' (by omega), tab_set hn]
    congr 2
    refine Prod.ext (tab_ext fun p hp => ?_) rfl
    by_cases e : p = n
    · subst e; simp
    · by_cases c : p < n
      · simp [e, c, show p < n + 1 by omega]
      · simp [e, c, show ¬ p < n + 1 by omega]) (by
    have : ¬ a.length < (tab (fun i => if i < a.length then mk4 i else at' a i) a.length).length := by rw [tab_len]; omega
    simp only [laws_markLeafS_l0, nltb this, cond_false]) 0 (Nat.zero_le _)
  have e0 : tab (fun i => if i < 0 then mk4 i else at' a i) a.length = a := by
    rw [show (fun i : Nat => if i < 0 then mk4 i else at' a i) = fun i => a.getD i dLf from funext fun i => if_neg (Nat.not_lt_zero i)]
    exact tab_self a
  have t2 : loop laws_markLeafS_l0 (a, (1 : Int), (0 : Int), ()) = some (tab (fun i => if i < a.length then mk4 i else at' a i) a.length, ((4 * a.length + 1 : Nat) : Int), ()) := by
    have t := this
    simp only [e0] at t
    exact t
  rw [t2]
  simp only [Option.bind_some]
  congr 2
  exact tab_ext fun p hp => if_pos hp
theorem held_leafS {n : Nat} (h : n ≤ 1000000) : laws_heldLeafS (tab mk4 n) 1 = some ((4 * n + 1 : Nat) : Int) := by
  unfold laws_heldLeafS
  have := loop_count (step := laws_heldLeafS_l0) (fun i => (tab mk4 n, ((4 * i + 1 : Nat) : Int), (i : Int), ())) n (.inr (((4 * n + 1 : Nat) : Int), ())) (by
    intro i hi
    have hi' : i < (tab mk4 n).length := by rw [tab_len]; exact hi
    obtain ⟨w1, w2, w3, w5⟩ := w4 (show i ≤ 1000000 by omega)
    simp only [laws_heldLeafS_l0, ltb hi', nn, Bool.and_self, cond_true, Int.toNat_natCast]
    rw [tab_at hi]
    unfold mk4
    simp only [w1, w2, w3, w5, bne_self_eq_false, cond_false]
    rw [w64_succ (by omega)]) (by
    have : ¬ n < (tab mk4 n).length := by rw [tab_len]; omega
    simp only [laws_heldLeafS_l0, nltb this, cond_false]) 0 (Nat.zero_le _)
  have t2 : loop laws_heldLeafS_l0 (tab mk4 n, (1 : Int), (0 : Int), ()) = some (.inr (((4 * n + 1 : Nat) : Int), ())) := this
  rw [t2]
  rfl
theorem law_LaminationOf {aM : Lf} {aK : Int} (hM : InL aM) : laws_FnExactLaminationOf aM aK = some true := by
  unfold laws_FnExactLaminationOf
  rw [to_leaf]
  simp only [Option.bind_some]
  rw [(spec_both hM).2, (impl_both hM).2]
  simp only [Option.bind_some]
  have hl := (res_len aM aK).2
  generalize lastL (res aM aK).1 = g at *
  generalize (res aM aK).2 = c at *
  rw [eq_leafS (by omega)]
  simp only [Option.bind_some, Bool.not_true, cond_false, bne_self_eq_false]
  rw [mark_leafS (by omega)]
  simp only [Option.bind_some]
  rw [held_leafS (by omega)]
  have e : decide (((4 * g.length + 1 : Nat) : Int) < 0) = false := decide_eq_false (by omega)
  simp only [Option.bind_some, e, cond_false, bne_self_eq_false]
end Go.K.Pure

