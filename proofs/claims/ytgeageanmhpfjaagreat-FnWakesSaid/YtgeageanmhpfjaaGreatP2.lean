/- Part 2 of the plain law: the functions of the program as plain functions on lists and numbers, and what is shown of them; no condition. -/
import Derived.Test.YtgeageanmhpfjaaGreatP1
set_option linter.all false
/- Plain laws of ray pairs, part 6: what is deleted from lists of pairs. -/
set_option linter.all false
namespace Go.K.Pure
theorem del_loop2 {f : Pr → Bool} {del : List Ang} : ∀ (J K R : List Pr), R ≠ [] → (∀ x ∈ J, impl_wakesAround_f1 x del = some (f x)) → K.length + R.length + J.length < 1000000 →
    ∃ G, loop slices_DeleteFunc__impl_RayPair_impl_RayPair_v2_l0 (K ++ (R ++ J), (), (del, ()), (K.length : Int), ((K.length + R.length : Nat) : Int), ()) = some ((K ++ J.filter fun x => !f x) ++ G, ((K ++ J.filter fun x => !f x).length : Int), ())
  | [], K, R, hR, hf, hl => by
    refine ⟨R, ?_⟩
    have : ¬ K.length + R.length < (K ++ R).length := by simp
    rw [loop_eq, List.append_nil]
    simp only [slices_DeleteFunc__impl_RayPair_impl_RayPair_v2_l0, nltb this, cond_false, List.filter_nil, List.append_nil]
  | x :: J, K, [], hR, hf, hl => absurd rfl hR
  | x :: J, K, r :: R, hR, hf, hl => by
    have hj : K.length + (r :: R).length < (K ++ (r :: R ++ x :: J)).length := by simp
    have hi : K.length < (K ++ (r :: R ++ x :: J)).length := by simp
    have gj : (K ++ (r :: R ++ x :: J)).getD (K.length + (r :: R).length) dP = x := by
      rw [← List.append_assoc, ← List.length_append]; exact app_getD
    simp only [List.length_cons] at hl
    have hw : w64 (((K.length + (r :: R).length : Nat) : Int) + 1) = ((K.length + (r :: R).length + 1 : Nat) : Int) := w64_succ (by simp; omega)
    have hwi : w64 ((K.length : Int) + 1) = ((K.length + 1 : Nat) : Int) := w64_succ (by omega)
    have hfx := hf x (by simp)
    have hfJ : ∀ y ∈ J, impl_wakesAround_f1 y del = some (f y) := fun y hy => hf y (by simp [hy])
    rw [loop_eq]
    simp only [slices_DeleteFunc__impl_RayPair_impl_RayPair_v2_l0, ltb hj, inb hj, Int.toNat_natCast, cond_true, gj, hfx, Option.bind_some, hw, inb hi, hwi]
    cases hb : f x with
    | true =>
      obtain ⟨G, hG⟩ := del_loop2 J K (r :: R ++ [x]) (by simp) hfJ (by simp; omega)
      refine ⟨G, ?_⟩
      simp only [Bool.not_true, cond_false]
      have e1 : K.length + (r :: R ++ [x]).length = K.length + (r :: R).length + 1 := by simp; omega
      rw [e1, List.append_assoc, List.singleton_append] at hG
      rw [List.filter_cons]
      simp only [hb, Bool.not_true]
      exact hG
    | false =>
      obtain ⟨G, hG⟩ := del_loop2 J (K ++ [x]) (R ++ [x]) (by simp) hfJ (by simp; omega)
      refine ⟨G, ?_⟩
      simp only [Bool.not_false, cond_true]
      have es : (K ++ (r :: R ++ x :: J)).set K.length x = (K ++ [x]) ++ ((R ++ [x]) ++ J) := by
        rw [List.set_append_right _ _ (Nat.le_refl _)]; simp
      have e1 : (K ++ [x]).length + (R ++ [x]).length = K.length + (r :: R).length + 1 := by simp; omega
      have e2 : (K ++ [x]).length = K.length + 1 := by simp
      rw [e1, ← es] at hG
      rw [List.filter_cons]
      simp only [hb, Bool.not_false, if_true]
      have e3 : K ++ [x] ++ J.filter (fun x => !f x) = K ++ x :: J.filter (fun x => !f x) := by simp
      rw [e3, e2] at hG
      exact hG
theorem del_func2 {f : Pr → Bool} {del : List Ang} {xs : List Pr} (hf : ∀ x ∈ xs, impl_wakesAround_f1 x del = some (f x)) (hl : xs.length < 100000) :
    slices_DeleteFunc__impl_RayPair_impl_RayPair_v2 xs del = some (xs.filter fun x => !f x) := by
  have h1 : slices_IndexFunc__impl_RayPair_impl_RayPair_v4 xs del = some (match xs.findIdx? f with | some k => (k : Int) | none => -1) := by
    unfold slices_IndexFunc__impl_RayPair_impl_RayPair_v4
    have := loop_fidx (step := slices_IndexFunc__impl_RayPair_impl_RayPair_v4_l0) (fun i => (xs, (), (del, ()), ((xs.length : Nat) : Int), (i : Int), ())) xs dP f (fun i => ((i : Int), ())) (fun i hi => by
      have hm : xs.getD i dP ∈ xs := by rw [getD_at hi]; exact List.getElem_mem hi
      have hw : w64 ((i : Int) + 1) = ((i + 1 : Nat) : Int) := w64_succ (by omega)
      simp only [slices_IndexFunc__impl_RayPair_impl_RayPair_v4_l0, ltb hi, cond_true, inb hi, Int.toNat_natCast, hf _ hm, Option.bind_some, hw]
      cases f (xs.getD i dP) <;> rfl) (by
      simp only [slices_IndexFunc__impl_RayPair_impl_RayPair_v4_l0, nltb (Nat.lt_irrefl _), cond_false])
    have e : loop slices_IndexFunc__impl_RayPair_impl_RayPair_v4_l0 (xs, (), (del, ()), ((xs.length : Nat) : Int), (0 : Int), ()) = _ := this
    rw [e]
    cases xs.findIdx? f <;> rfl
  unfold slices_DeleteFunc__impl_RayPair_impl_RayPair_v2
  rw [h1]
  simp only [Option.bind_some]
  cases hk : xs.findIdx? f with
  | none =>
    have hn := List.findIdx?_eq_none_iff.1 hk
    have : xs.filter (fun x => !f x) = xs := List.filter_eq_self.2 (fun x hx => by rw [hn x hx]; rfl)
    rw [this]; rfl
  | some k =>
    obtain ⟨hkl, hk1, hk2⟩ := List.findIdx?_eq_some_iff_getElem.1 hk
    have hne : ((k : Int) == (-1 : Int)) = false := by
      simp only [beq_eq_false_iff_ne, ne_eq]; omega
    have e : xs = xs.take k ++ ([xs[k]] ++ xs.drop (k + 1)) := by
      rw [List.singleton_append, List.getElem_cons_drop, List.take_append_drop]
    have hlk : (xs.take k).length = k := by simp; omega
    obtain ⟨G, hG⟩ := del_loop2 (f := f) (del := del) (xs.drop (k + 1)) (xs.take k) [xs[k]] (by simp) (fun x hx => hf x (List.mem_of_mem_drop hx)) (by simp; omega)
    have hw : w64 ((k : Int) + 1) = ((k + 1 : Nat) : Int) := w64_succ (by omega)
    rw [← e, hlk] at hG
    have hfil : xs.take k ++ (xs.drop (k + 1)).filter (fun x => !f x) = xs.filter fun x => !f x := by
      have h3 : (xs.take k).filter (fun x => !f x) = xs.take k := List.filter_eq_self.2 (fun x hx => by
        obtain ⟨i, hi, rfl⟩ := List.mem_iff_getElem.1 hx
        have hik : i < k := by rw [hlk] at hi; exact hi
        have := hk2 i hik
        rw [List.getElem_take]
        simpa using this)
      conv => rhs; rw [e, List.filter_append, List.filter_append, h3]
      have : [xs[k]].filter (fun x => !f x) = [] := by rw [List.filter_cons]; simp [hk1]
      rw [this, List.nil_append]
    rw [hfil] at hG
    have hG' : loop slices_DeleteFunc__impl_RayPair_impl_RayPair_v2_l0 (xs, (), (del, ()), (k : Int), ((k + 1 : Nat) : Int), ()) = _ := hG
    simp only [hne, cond_false, hw, hG', Option.bind_some, Int.toNat_natCast]
    generalize xs.filter (fun x => !f x) = F
    have c1 : (((decide ((0 : Int) ≤ ((F.length : Nat) : Int))) && (decide (((F.length : Nat) : Int) ≤ (((F ++ G).length : Nat) : Int)))) && (decide ((((F ++ G).length : Nat) : Int) ≤ (((F ++ G).length : Nat) : Int)))) = true := by simp; omega
    have hcl : (Go.K.cleared (F ++ G) dP F.length (F ++ G).length) = F ++ List.replicate G.length dP := by
      unfold Go.K.cleared; simp
    have c2 : (((decide ((0 : Int) ≤ (0 : Int))) && (decide ((0 : Int) ≤ ((F.length : Nat) : Int)))) && (decide (((F.length : Nat) : Int) ≤ (((F ++ List.replicate G.length dP).length : Nat) : Int)))) = true := by simp; omega
    simp only [c1, cond_true, hcl, c2]
    have c3 : Nat.beq (0 : Int).toNat 0 = true := rfl
    rw [c3, cond_true]
    simp
theorem del_loop3 {f : Pr → Bool} : ∀ (J K R : List Pr), R ≠ [] → (∀ x ∈ J, impl_CountSatellites_f1 x = some (f x)) → K.length + R.length + J.length < 1000000 →
    ∃ G, loop slices_DeleteFunc__impl_RayPair_impl_RayPair_v3_l0 (K ++ (R ++ J), (), (), (K.length : Int), ((K.length + R.length : Nat) : Int), ()) = some ((K ++ J.filter fun x => !f x) ++ G, ((K ++ J.filter fun x => !f x).length : Int), ())
  | [], K, R, hR, hf, hl => by
    refine ⟨R, ?_⟩
    have : ¬ K.length + R.length < (K ++ R).length := by simp
    rw [loop_eq, List.append_nil]
    simp only [slices_DeleteFunc__impl_RayPair_impl_RayPair_v3_l0, nltb this, cond_false, List.filter_nil, List.append_nil]
  | x :: J, K, [], hR, hf, hl => absurd rfl hR
  | x :: J, K, r :: R, hR, hf, hl => by
    have hj : K.length + (r :: R).length < (K ++ (r :: R ++ x :: J)).length := by simp
    have hi : K.length < (K ++ (r :: R ++ x :: J)).length := by simp
    have gj : (K ++ (r :: R ++ x :: J)).getD (K.length + (r :: R).length) dP = x := by
      rw [← List.append_assoc, ← List.length_append]; exact app_getD
    simp only [List.length_cons] at hl
    have hw : w64 (((K.length + (r :: R).length : Nat) : Int) + 1) = ((K.length + (r :: R).length + 1 : Nat) : Int) := w64_succ (by simp; omega)
    have hwi : w64 ((K.length : Int) + 1) = ((K.length + 1 : Nat) : Int) := w64_succ (by omega)
    have hfx := hf x (by simp)
    have hfJ : ∀ y ∈ J, impl_CountSatellites_f1 y = some (f y) := fun y hy => hf y (by simp [hy])
    rw [loop_eq]
    simp only [slices_DeleteFunc__impl_RayPair_impl_RayPair_v3_l0, ltb hj, inb hj, Int.toNat_natCast, cond_true, gj, hfx, Option.bind_some, hw, inb hi, hwi]
    cases hb : f x with
    | true =>
      obtain ⟨G, hG⟩ := del_loop3 J K (r :: R ++ [x]) (by simp) hfJ (by simp; omega)
      refine ⟨G, ?_⟩
      simp only [Bool.not_true, cond_false]
      have e1 : K.length + (r :: R ++ [x]).length = K.length + (r :: R).length + 1 := by simp; omega
      rw [e1, List.append_assoc, List.singleton_append] at hG
      rw [List.filter_cons]
      simp only [hb, Bool.not_true]
      exact hG
    | false =>
      obtain ⟨G, hG⟩ := del_loop3 J (K ++ [x]) (R ++ [x]) (by simp) hfJ (by simp; omega)
      refine ⟨G, ?_⟩
      simp only [Bool.not_false, cond_true]
      have es : (K ++ (r :: R ++ x :: J)).set K.length x = (K ++ [x]) ++ ((R ++ [x]) ++ J) := by
        rw [List.set_append_right _ _ (Nat.le_refl _)]; simp
      have e1 : (K ++ [x]).length + (R ++ [x]).length = K.length + (r :: R).length + 1 := by simp; omega
      have e2 : (K ++ [x]).length = K.length + 1 := by simp
      rw [e1, ← es] at hG
      rw [List.filter_cons]
      simp only [hb, Bool.not_false, if_true]
      have e3 : K ++ [x] ++ J.filter (fun x => !f x) = K ++ x :: J.filter (fun x => !f x) := by simp
      rw [e3, e2] at hG
      exact hG
theorem del_func3 {f : Pr → Bool} {xs : List Pr} (hf : ∀ x ∈ xs, impl_CountSatellites_f1 x = some (f x)) (hl : xs.length < 100000) :
    slices_DeleteFunc__impl_RayPair_impl_RayPair_v3 xs = some (xs.filter fun x => !f x) := by
  have h1 : slices_IndexFunc__impl_RayPair_impl_RayPair_v5 xs = some (match xs.findIdx? f with | some k => (k : Int) | none => -1) := by
    unfold slices_IndexFunc__impl_RayPair_impl_RayPair_v5
    have := loop_fidx (step := slices_IndexFunc__impl_RayPair_impl_RayPair_v5_l0) (fun i => (xs, (), (), ((xs.length : Nat) : Int), (i : Int), ())) xs dP f (fun i => ((i : Int), ())) (fun i hi => by
      have hm : xs.getD i dP ∈ xs := by rw [getD_at hi]; exact List.getElem_mem hi
      have hw : w64 ((i : Int) + 1) = ((i + 1 : Nat) : Int) := w64_succ (by omega)
      simp only [slices_IndexFunc__impl_RayPair_impl_RayPair_v5_l0, ltb hi, cond_true, inb hi, Int.toNat_natCast, hf _ hm, Option.bind_some, hw]
      cases f (xs.getD i dP) <;> rfl) (by
      simp only [slices_IndexFunc__impl_RayPair_impl_RayPair_v5_l0, nltb (Nat.lt_irrefl _), cond_false])
    have e : loop slices_IndexFunc__impl_RayPair_impl_RayPair_v5_l0 (xs, (), (), ((xs.length : Nat) : Int), (0 : Int), ()) = _ := this
    rw [e]
    cases xs.findIdx? f <;> rfl
  unfold slices_DeleteFunc__impl_RayPair_impl_RayPair_v3
  rw [h1]
  simp only [Option.bind_some]
  cases hk : xs.findIdx? f with
  | none =>
    have hn := List.findIdx?_eq_none_iff.1 hk
    have : xs.filter (fun x => !f x) = xs := List.filter_eq_self.2 (fun x hx => by rw [hn x hx]; rfl)
    rw [this]; rfl
  | some k =>
    obtain ⟨hkl, hk1, hk2⟩ := List.findIdx?_eq_some_iff_getElem.1 hk
    have hne : ((k : Int) == (-1 : Int)) = false := by
      simp only [beq_eq_false_iff_ne, ne_eq]; omega
    have e : xs = xs.take k ++ ([xs[k]] ++ xs.drop (k + 1)) := by
      rw [List.singleton_append, List.getElem_cons_drop, List.take_append_drop]
    have hlk : (xs.take k).length = k := by simp; omega
    obtain ⟨G, hG⟩ := del_loop3 (f := f) (xs.drop (k + 1)) (xs.take k) [xs[k]] (by simp) (fun x hx => hf x (List.mem_of_mem_drop hx)) (by simp; omega)
    have hw : w64 ((k : Int) + 1) = ((k + 1 : Nat) : Int) := w64_succ (by omega)
    rw [← e, hlk] at hG
    have hfil : xs.take k ++ (xs.drop (k + 1)).filter (fun x => !f x) = xs.filter fun x => !f x := by
      have h3 : (xs.take k).filter (fun x => !f x) = xs.take k := List.filter_eq_self.2 (fun x hx => by
        obtain ⟨i, hi, rfl⟩ := List.mem_iff_getElem.1 hx
        have hik : i < k := by rw [hlk] at hi; exact hi
        have := hk2 i hik
        rw [List.getElem_take]
        simpa using this)
      conv => rhs; rw [e, List.filter_append, List.filter_append, h3]
      have : [xs[k]].filter (fun x => !f x) = [] := by rw [List.filter_cons]; simp [hk1]
      rw [this, List.nil_append]
    rw [hfil] at hG
    have hG' : loop slices_DeleteFunc__impl_RayPair_impl_RayPair_v3_l0 (xs, (), (), (k : Int), ((k + 1 : Nat) : Int), ()) = _ := hG
    simp only [hne, cond_false, hw, hG', Option.bind_some, Int.toNat_natCast]
    generalize xs.filter (fun x => !f x) = F
    have c1 : (((decide ((0 : Int) ≤ ((F.length : Nat) : Int))) && (decide (((F.length : Nat) : Int) ≤ (((F ++ G).length : Nat) : Int)))) && (decide ((((F ++ G).length : Nat) : Int) ≤ (((F ++ G).length : Nat) : Int)))) = true := by simp; omega
    have hcl : (Go.K.cleared (F ++ G) dP F.length (F ++ G).length) = F ++ List.replicate G.length dP := by
      unfold Go.K.cleared; simp
    have c2 : (((decide ((0 : Int) ≤ (0 : Int))) && (decide ((0 : Int) ≤ ((F.length : Nat) : Int)))) && (decide (((F.length : Nat) : Int) ≤ (((F ++ List.replicate G.length dP).length : Nat) : Int)))) = true := by simp; omega
    simp only [c1, cond_true, hcl, c2]
    have c3 : Nat.beq (0 : Int).toNat 0 = true := rfl
    rw [c3, cond_true]
    simp
end Go.K.Pure

/- Plain laws of ray pairs, part 7: widths and satellites. -/
set_option linter.all false
namespace Go.K.Pure
open Classical
theorem angN_parts {i M : Nat} (hi : i < M) : ∃ l f g : Nat, angN i M = ((l : Int), (f : Int), ()) ∧ l * g = i ∧ f * g = M ∧ 0 < g ∧ 0 < f ∧ f ≤ M ∧ l ≤ i ∧ M / f = g := by
  have g0 : 0 < Nat.gcd i M := Nat.gcd_pos_of_pos_right _ (by omega)
  have hf : 0 < M / Nat.gcd i M := Nat.div_pos (Nat.le_of_dvd (by omega) (Nat.gcd_dvd_right i M)) g0
  have e2 := Nat.div_mul_cancel (Nat.gcd_dvd_right i M)
  refine ⟨i / Nat.gcd i M, M / Nat.gcd i M, Nat.gcd i M, ?_, Nat.div_mul_cancel (Nat.gcd_dvd_left i M), e2, g0, hf, Nat.div_le_self _ _, Nat.div_le_self _ _, ?_⟩
  · unfold angN
    rw [Nat.mod_eq_of_lt hi]
  · exact Nat.div_div_self (Nat.gcd_dvd_right i M) (by omega)
/-- A pair's numbers at its period. -/
theorem aP_nums {k : Nat} (h2 : 2 ≤ k) (h8 : k ≤ 8) {p : Nat × Nat} (hp : p ∈ NP k) : ∃ i j : Nat, i < j ∧ j < 2 ^ k - 1 ∧ aP p = (angN i (2 ^ k - 1), angN j (2 ^ k - 1), ()) := by
  obtain ⟨a1, a2, a3⟩ := NP_mem h2 h8 hp
  have key : ∀ {N : Nat}, N ∈ AN k → ∃ i, i < 2 ^ k - 1 ∧ N = i * (LL / (2 ^ k - 1)) := fun {N} h => by
    obtain ⟨i, hi, rfl⟩ := List.mem_map.1 h
    exact ⟨i, List.mem_range.1 (List.mem_filter.1 hi).1, rfl⟩
  obtain ⟨i, i1, i2⟩ := key a1
  obtain ⟨j, j1, j2⟩ := key a2
  refine ⟨i, j, ?_, j1, ?_⟩
  · have := a3.2.2
    rw [i2, j2] at this
    exact Nat.lt_of_mul_lt_mul_right this
  · unfold aP
    rw [i2, j2, aN_of (by omega) h8, aN_of (by omega) h8]
section
variable {i j M : Nat} (hij : i < j) (hj : j < M) (hM : M ≤ 255)
include hij hj hM
theorem impl_width : impl_RayPair_width (angN i M, angN j M, ()) = some (angN (j - i) M) := by
  obtain ⟨l, f, g1, e1, a1, a2, a3, a4, a5, a6, _⟩ := angN_parts (i := i) (M := M) (by omega)
  obtain ⟨u, e, g2, e2, b1, b2, b3, b4, b5, b6, _⟩ := angN_parts (i := j) (M := M) hj
  unfold impl_RayPair_width impl_Angle_minus
  simp only [e1, e2]
  have hlt : l * e * (g1 * g2) < u * f * (g1 * g2) := by
    have x1 : l * e * (g1 * g2) = i * M := by rw [← a1, ← b2]; grind
    have x2 : u * f * (g1 * g2) = j * M := by rw [← b1, ← a2]; grind
    rw [x1, x2]; exact Nat.mul_lt_mul_of_pos_right hij (by omega)
  have hle : l * e < u * f := Nat.lt_of_mul_lt_mul_right hlt
  have m1 : u * f ≤ 255 * 255 := Nat.mul_le_mul (by omega) (by omega)
  have m2 : e * f ≤ 255 * 255 := Nat.mul_le_mul (by omega) (by omega)
  have m3 : 0 < e * f := Nat.mul_pos b4 a4
  have w1 : w64 ((u : Int) * (f : Int)) = ((u * f : Nat) : Int) := by rw [← Int.natCast_mul, w64_nat (by omega)]
  have w2 : w64 ((l : Int) * (e : Int)) = ((l * e : Nat) : Int) := by rw [← Int.natCast_mul, w64_nat (by omega)]
  have w3 : w64 ((e : Int) * (f : Int)) = ((e * f : Nat) : Int) := by rw [← Int.natCast_mul, w64_nat (by omega)]
  have w4 : w64 (((u * f : Nat) : Int) - ((l * e : Nat) : Int)) = ((u * f - l * e : Nat) : Int) := by rw [w64_id (by omega) (by omega)]; omega
  rw [w1, w2, w3, w4, impl_angN m3 (by omega) (by omega)]
  simp only [Option.bind_some]
  have hs : (u * f - l * e) * (g1 * g2) = (j - i) * M := by
    rw [Nat.sub_mul, Nat.sub_mul]
    have x1 : l * e * (g1 * g2) = i * M := by rw [← a1, ← b2]; grind
    have x2 : u * f * (g1 * g2) = j * M := by rw [← b1, ← a2]; grind
    rw [x1, x2]
  have hd : e * f * (g1 * g2) = M * M := by
    have : e * f * (g1 * g2) = (f * g1) * (e * g2) := by grind
    rw [this, a2, b2]
  rw [← angN_scale (c := g1 * g2) (Nat.mul_pos a3 b3) m3, Nat.mul_comm (g1 * g2), hs, Nat.mul_comm (g1 * g2), hd, Nat.mul_comm (j - i), angN_scale (by omega) (by omega)]
theorem spec_width : spec_l01Of (w64 ((w64 ((angN j M).1 * (w64 ((M : Int).tdiv (angN j M).2.1)))) - (w64 ((angN i M).1 * (w64 ((M : Int).tdiv (angN i M).2.1)))))) (M : Int) = some (angN (j - i) M) := by
  obtain ⟨l, f, g1, e1, a1, a2, a3, a4, a5, a6, a7⟩ := angN_parts (i := i) (M := M) (by omega)
  obtain ⟨u, e, g2, e2, b1, b2, b3, b4, b5, b6, b7⟩ := angN_parts (i := j) (M := M) hj
  have hg1 : g1 ≤ M := by rw [← a7]; exact Nat.div_le_self _ _
  have hg2 : g2 ≤ M := by rw [← b7]; exact Nat.div_le_self _ _
  simp only [e1, e2]
  rw [tdiv_nat, tdiv_nat, a7, b7, w64_nat (by omega), w64_nat (by omega), ← Int.natCast_mul, ← Int.natCast_mul, a1, b1, w64_nat (by omega), w64_nat (by omega)]
  have w4 : w64 ((j : Int) - (i : Int)) = ((j - i : Nat) : Int) := by rw [w64_id (by omega) (by omega)]; omega
  rw [w4, spec_angN (by omega) (by omega) (by omega)]
theorem angN_pos (n : Nat) : ((angN n M).2.1 == 0) = false := by
  have h := (angN_isA (n := n) (d := M) (by omega) (by omega)).1
  simp only [beq_eq_false_iff_ne, ne_eq]; omega
theorem impl_limit (n : Nat) : impl_limited (angN n M) = some (angN n M, 0) := by
  have h := (angN_isA (n := n) (d := M) (by omega) (by omega)).2.1
  unfold impl_limited
  rw [decide_eq_false (by omega)]; rfl
theorem impl_add : impl_AddAngles (angN i M) (angN (j - i) M) = some (angN j M, 0) := by
  have hA : ∀ n, isA (angN n M) := fun n => angN_isA (by omega) (by omega)
  unfold impl_AddAngles
  have hL : ∀ a ∈ [angN i M, angN (j - i) M], isA a := fun a ha => by
    rcases List.mem_cons.1 ha with rfl | ha
    · exact hA _
    · rw [List.mem_singleton.1 ha]; exact hA _
  rw [impl_code (L := [angN i M, angN (j - i) M]) (fun a ha => inA_isA (hL a ha)) (by simp), if_pos hL]
  have e0 : ((0 : Int) != 0) = false := rfl
  simp only [Option.bind_some, e0, cond_false]
  have hp : impl_Angle_plus (angN i M) (angN (j - i) M) = some (angN j M) := by
    obtain ⟨l, f, g1, e1, a1, a2, a3, a4, a5, a6, _⟩ := angN_parts (i := i) (M := M) (by omega)
    obtain ⟨u, e, g2, e2, b1, b2, b3, b4, b5, b6, _⟩ := angN_parts (i := j - i) (M := M) (by omega)
    unfold impl_Angle_plus
    simp only [e1, e2]
    have m1 : l * e ≤ 255 * 255 := Nat.mul_le_mul (by omega) (by omega)
    have m4 : u * f ≤ 255 * 255 := Nat.mul_le_mul (by omega) (by omega)
    have m2 : f * e ≤ 255 * 255 := Nat.mul_le_mul (by omega) (by omega)
    have m3 : 0 < f * e := Nat.mul_pos a4 b4
    have w1 : w64 ((u : Int) * (f : Int)) = ((u * f : Nat) : Int) := by rw [← Int.natCast_mul, w64_nat (by omega)]
    have w2 : w64 ((l : Int) * (e : Int)) = ((l * e : Nat) : Int) := by rw [← Int.natCast_mul, w64_nat (by omega)]
    have w3 : w64 ((f : Int) * (e : Int)) = ((f * e : Nat) : Int) := by rw [← Int.natCast_mul, w64_nat (by omega)]
    have w4 : w64 (((l * e : Nat) : Int) + ((u * f : Nat) : Int)) = ((l * e + u * f : Nat) : Int) := by rw [w64_id (by omega) (by omega)]; omega
    rw [w1, w2, w3, w4, impl_angN m3 (by omega) (by omega)]
    simp only [Option.bind_some]
    have hs : (l * e + u * f) * (g1 * g2) = j * M := by
      rw [Nat.add_mul]
      have x1 : l * e * (g1 * g2) = i * M := by rw [← a1, ← b2]; grind
      have x2 : u * f * (g1 * g2) = (j - i) * M := by rw [← b1, ← a2]; grind
      rw [x1, x2, ← Nat.add_mul]; congr 1; omega
    have hd : f * e * (g1 * g2) = M * M := by
      have : f * e * (g1 * g2) = (f * g1) * (e * g2) := by grind
      rw [this, a2, b2]
    rw [← angN_scale (c := g1 * g2) (Nat.mul_pos a3 b3) m3, Nat.mul_comm (g1 * g2), hs, Nat.mul_comm (g1 * g2), hd, Nat.mul_comm j, angN_scale (by omega) (by omega)]
  rw [hp]
  simp only [Option.bind_some]
  rw [impl_limit hij hj hM]; rfl
end
/-- Whether a pair's angles are in one orbit. -/
noncomputable def sat (P : Pr) : Bool := decide (P.2.1 ∈ orbL P.1 (pg P.1))
theorem impl_sat {P : Pr} {n : Nat} (h : isPP P n) : impl_RayPair_isSatellite P = some (sat P) := by
  unfold impl_RayPair_isSatellite
  rw [ob_impl h.a.isA, ob_per h.a.isA (by rw [h.a.per]; exact h.a.pos)]
  simp only [Option.bind_some]
  unfold slices_Contains__impl_Angle_impl_Angle
  have h8 := h.a.le
  rw [impl_index (by rw [orbL_len, h.a.per]; omega)]
  simp only [Option.bind_some]
  unfold sat
  congr 1
  exact decide_eq_decide.2 plc_nonneg
theorem spec_sat {P : Pr} {n : Nat} (h : isPP P n) (hne : P.1 ≠ P.2.1) : spec_l04Satellite P = some (sat P) := by
  have hA := h.a.isA
  have hn := h.a.pos
  have h8 := h.a.le
  have hmin := (pg_back hA (by rw [h.a.per]; exact hn)).2.2
  rw [h.a.per] at hmin
  unfold spec_l04Satellite
  rw [spec_dbl hA]
  simp only [Option.bind_some]
  have hL := loop_any (step := spec_l04Satellite_l0) (fun k => (P, dblN P.1 (k + 1), ())) (n - 1) (.inr ()) (.inl (true, ())) (fun k => dblN P.1 (k + 1) = P.2.1) (fun k hk _ => by
    have h1 : dblN P.1 (k + 1) ≠ P.1 := hmin (k + 1) (by omega) (by omega)
    simp only [spec_l04Satellite_l0]
    rw [beqA, beqA, decide_eq_false h1]
    simp only [Bool.not_false, cond_true]
    by_cases h2 : dblN P.1 (k + 1) = P.2.1
    · rw [sel_pos h2, decide_eq_true h2]; rfl
    · rw [sel_neg h2, decide_eq_false h2]
      simp only [cond_false]
      rw [spec_dbl (dblN_isA hA _)]; rfl) (fun _ => by
    have e : n - 1 + 1 = n := by omega
    simp only [spec_l04Satellite_l0, e]
    rw [beqA, h.a.back, decide_eq_true rfl]; rfl)
  have e : loop spec_l04Satellite_l0 (P, dbl P.1, ()) = _ := hL
  rw [e]
  simp only [Option.bind_some]
  have hiff : (∃ k, k < n - 1 ∧ dblN P.1 (k + 1) = P.2.1) ↔ P.2.1 ∈ orbL P.1 (pg P.1) := by
    rw [orbL_mem, h.a.per]
    constructor
    · rintro ⟨k, k1, k2⟩; exact ⟨k + 1, by omega, k2⟩
    · rintro ⟨k, k1, k2⟩
      cases k with
      | zero => exact absurd k2 hne
      | succ k => exact ⟨k, by omega, k2⟩
  unfold sat
  by_cases hx : ∃ k, k < n - 1 ∧ dblN P.1 (k + 1) = P.2.1
  · rw [sel_pos hx, decide_eq_true (hiff.1 hx)]; rfl
  · rw [sel_neg hx, decide_eq_false (fun h => hx (hiff.2 h))]; rfl
theorem spec_pairsOf {n : Nat} (h2 : 2 ≤ n) (h8 : n ≤ 8) : spec_PairsOfPeriod_v2 (n : Int) = some ((NP n).map aP, 0) := by
  obtain ⟨m, rfl⟩ : ∃ m, n = m + 2 := ⟨n - 2, by omega⟩
  unfold spec_PairsOfPeriod_v2
  have d1 : decide ((2 : Int) ≤ ((m + 2 : Nat) : Int) ∧ ((m + 2 : Nat) : Int) ≤ 8) = true := decide_eq_true (by omega)
  have w1 : w64 (((m + 2 : Nat) : Int) - 1) = ((m + 1 : Nat) : Int) := by rw [w64_id (by omega) (by omega)]; omega
  rw [spec_in, d1]
  simp only [Option.bind_some, Bool.not_true, cond_false]
  rw [spec_upTo h8, w1, spec_upTo (n := m + 1) (by omega)]
  simp only [Option.bind_some]
  have e := (UP_new h8).1
  have hl : ((UP (m + 1)).map aP).length ≤ ((UP (m + 2)).map aP).length := by rw [e]; simp
  have c1 : (((decide ((0 : Int) ≤ ((((UP (m + 1)).map aP).length : Nat) : Int))) && (decide (((((UP (m + 1)).map aP).length : Nat) : Int) ≤ ((((UP (m + 2)).map aP).length : Nat) : Int)))) && (decide (((((UP (m + 2)).map aP).length : Nat) : Int) ≤ ((((UP (m + 2)).map aP).length : Nat) : Int)))) = true := by
    simp only [Bool.and_eq_true, decide_eq_true_eq]; omega
  rw [c1, cond_true, Int.toNat_natCast, Int.toNat_natCast, List.take_length, List.length_map, ← List.map_drop]
  rfl
theorem NP_PP {n : Nat} (h2 : 2 ≤ n) (h8 : n ≤ 8) {x : Pr} (h : x ∈ (NP n).map aP) : isPP x n ∧ lt x.1 x.2.1 := by
  obtain ⟨p, hp, rfl⟩ := List.mem_map.1 h
  obtain ⟨a1, a2, a3⟩ := NP_mem h2 h8 hp
  exact ⟨⟨⟨a3.1.2.1, period_AN (by omega) h8 a1, by omega⟩, ⟨a3.2.1.2.1, period_AN (by omega) h8 a2, by omega⟩⟩, (okP_isL a3).2.2⟩
theorem lt_ne {a b : Ang} (h : lt a b) : a ≠ b := fun e => by rw [e] at h; unfold lt at h; omega
theorem count_same {n : Nat} : ∃ r : Int × Int, impl_CountSatellites (n : Int) = some r ∧ spec_CountSatellites (n : Int) = some r := by
  unfold impl_CountSatellites spec_CountSatellites impl_isPeriod
  rw [impl_in]
  have e0 : ((0 : Int) != 0) = false := rfl
  by_cases hr : (2 : Int) ≤ (n : Int) ∧ (n : Int) ≤ 8
  · have h2 : 2 ≤ n := by omega
    have h8 : n ≤ 8 := by omega
    obtain ⟨y1, y2, y3⟩ := YS_ok h2 h8
    rw [spec_pairsOf h2 h8, decide_eq_true hr]
    simp only [Option.bind_some, Bool.not_true, cond_false, e0, y1]
    have hYl := YS_len h2 h8
    have hd := del_func3 (f := fun P => !sat P) (xs := YS n) (fun x hx => by
      unfold impl_CountSatellites_f1
      rw [impl_sat (YS_PP h2 h8 hx)]; rfl) (by omega)
    rw [hd]
    simp only [Option.bind_some, Bool.not_not]
    have hperm : (YS n).filter (fun x => sat x) |>.Perm (((NP n).map aP).filter fun x => sat x) := y2.filter _
    have hlen : ((NP n).map aP).length ≤ 2040 := by rw [← y2.length_eq]; exact hYl
    have hPP : ∀ x ∈ (NP n).map aP, isPP x n ∧ lt x.1 x.2.1 := fun x hx => NP_PP h2 h8 hx
    unfold impl_length_impl_RayPair
    simp only [Option.bind_some]
    rw [hperm.length_eq]
    generalize (NP n).map aP = L at *
    have := loop_count (step := spec_CountSatellites_l0) (fun i => (L, (((L.take i).filter fun x => sat x).length : Int), (i : Int), L, ())) L.length (((L.filter fun x => sat x).length : Int), ()) (fun i hi => by
      have hm : L.getD i dP ∈ L := by rw [getD_at hi]; exact List.getElem_mem hi
      obtain ⟨p1, p2⟩ := hPP _ hm
      have hw : w64 ((i : Int) + 1) = ((i + 1 : Nat) : Int) := w64_succ (by omega)
      have hfl : ((L.take i).filter fun x => sat x).length ≤ i := Nat.le_trans (List.length_filter_le _ _) (by rw [List.length_take]; omega)
      have hw2 : w64 ((((L.take i).filter fun x => sat x).length : Int) + 1) = ((((L.take i).filter fun x => sat x).length + 1 : Nat) : Int) := w64_succ (by omega)
      simp only [spec_CountSatellites_l0, ltb hi, cond_true, Int.toNat_natCast, nn0 i, Bool.and_self]
      have hsp := spec_sat p1 (lt_ne p2)
      simp only [hsp, Option.bind_some, hw, hw2]
      rw [filter_step (d := dP) hi]
      cases hb : sat (L.getD i dP) with
      | true => simp
      | false => simp) (by
      simp only [spec_CountSatellites_l0, nltb (Nat.lt_irrefl _), cond_false, List.take_length]) 0 (by omega)
    have e : loop spec_CountSatellites_l0 (L, (0 : Int), (0 : Int), L, ()) = _ := this
    rw [e]
    exact ⟨_, rfl, rfl⟩
  · unfold spec_PairsOfPeriod_v2
    rw [spec_in, decide_eq_false hr]
    exact ⟨_, rfl, rfl⟩
end Go.K.Pure

/- Plain laws of ray pairs, part 8a: pairs up to period 8 are beside each other or one in the other. -/
set_option linter.all false
namespace Go.K.Pure
open Classical
/-- Two pairs beside each other, or one in the other. -/
def nestS (p q : Nat × Nat) : Bool := Nat.blt p.2 q.1 || (Nat.blt q.2 p.1 || ((Nat.blt p.1 q.1 && Nat.blt q.2 p.2) || (Nat.blt q.1 p.1 && Nat.blt p.2 q.2)))
def pwN : List (Nat × Nat) → Bool
  | [] => true
  | p :: ps => ps.all (nestS p) && pwN ps
set_option maxRecDepth 1000000 in
theorem pw_all : (match upToN 8 with | some ps => pwN ps | none => false) = true := by decide +kernel
def SN (a b : Pr) : Prop := val a.2.1 < val b.1 ∨ val b.2.1 < val a.1 ∨ val a.1 < val b.1 ∧ val b.2.1 < val a.2.1 ∨ val b.1 < val a.1 ∧ val a.2.1 < val b.2.1
theorem SN_symm {a b : Pr} (h : SN a b) : SN b a := by unfold SN at *; omega
theorem pwN_spec : ∀ {ps : List (Nat × Nat)}, pwN ps = true → ps.Pairwise fun p q => nestS p q = true
  | [], _ => List.Pairwise.nil
  | p :: ps, h => by
    unfold pwN at h
    rw [Bool.and_eq_true, List.all_eq_true] at h
    exact List.Pairwise.cons h.1 (pwN_spec h.2)
theorem UP_pre : ∀ {n m : Nat}, n ≤ m → m ≤ 8 → ∃ r, UP m = UP n ++ r
  | n, 0, h, _ => ⟨[], by have : n = 0 := by omega
                          subst this; simp⟩
  | n, m + 1, h, h8 => by
    by_cases e : n = m + 1
    · subst e; exact ⟨[], by simp⟩
    · obtain ⟨r, hr⟩ := UP_pre (n := n) (m := m) (by omega) (by omega)
      cases m with
      | zero => have : n = 0 := by omega
                subst this; exact ⟨UP 1, by rw [show UP 0 = [] from rfl]; rfl⟩
      | succ m =>
        have := (UP_new h8).1
        exact ⟨r ++ NP (m + 2), by rw [this, hr, List.append_assoc]⟩
theorem UP_SN {n : Nat} (h8 : n ≤ 8) : ((UP n).map aP).Pairwise SN := by
  obtain ⟨r, hr⟩ := UP_pre h8 (Nat.le_refl 8)
  have h := pw_all
  rw [UP_eq (Nat.le_refl 8)] at h
  have h2 := pwN_spec h
  rw [hr] at h2
  have h3 := (List.pairwise_append.1 h2).1
  refine List.pairwise_map.2 (List.Pairwise.imp_of_mem ?_ h3)
  intro p q hp hq hn
  obtain ⟨o1, o2, o3⟩ := (UP_ok h8).1 p hp
  obtain ⟨o4, o5, o6⟩ := (UP_ok h8).1 q hq
  unfold nestS at hn
  simp only [Bool.or_eq_true, Bool.and_eq_true, Nat.blt_eq] at hn
  show val (aN p.2) < val (aN q.1) ∨ val (aN q.2) < val (aN p.1) ∨ val (aN p.1) < val (aN q.1) ∧ val (aN q.2) < val (aN p.2) ∨ val (aN q.1) < val (aN p.1) ∧ val (aN p.2) < val (aN q.2)
  rw [okN_lt o2 o4, okN_lt o5 o1, okN_lt o1 o4, okN_lt o5 o2, okN_lt o4 o1, okN_lt o2 o5]
  exact hn
end Go.K.Pure

/- Plain laws of ray pairs, part 8: the wakes around angles. -/
set_option linter.all false
namespace Go.K.Pure
open Classical
/-- What is asked of a list of pairs. -/
structure gdP (P : Pr) : Prop where
  a : isA P.1
  b : isA P.2.1
  l : val P.1 < val P.2.1
  w : ∃ W, impl_RayPair_width P = some W ∧ isA W ∧ val W = val P.2.1 - val P.1
theorem UP_gd {n : Nat} (h8 : n ≤ 8) : ∀ P ∈ (UP n).map aP, gdP P := fun P hP => by
  obtain ⟨p, hp, rfl⟩ := List.mem_map.1 hP
  obtain ⟨k, k2, k8, hk⟩ := (UP_mem h8 p).1 hp
  obtain ⟨h1, h2⟩ := NP_PP k2 (by omega) (List.mem_map.2 ⟨p, hk, rfl⟩)
  have hl := (lt_val h1.a.isA h1.b.isA).1 h2
  obtain ⟨i, j, q1, q2, q3⟩ := aP_nums k2 (by omega) hk
  obtain ⟨f1, f2⟩ := den_facts (n := k) (by omega) (by omega)
  refine ⟨h1.a.isA, h1.b.isA, hl, angN (j - i) (2 ^ k - 1), ?_, angN_isA f1 (by omega), ?_⟩
  · rw [q3]; exact impl_width q1 q2 f2
  · rw [q3]
    have v1 := val_angN (n := i) f1 (by omega) (by omega : i < 2 ^ k - 1)
    have v2 := val_angN (n := j) f1 (by omega) q2
    have v3 := val_angN (n := j - i) f1 (by omega) (by omega)
    have hd0 : ((2 ^ k - 1 : Nat) : Int) ≠ 0 := by omega
    apply Int.eq_of_mul_eq_mul_right hd0
    simp only
    rw [v3, Int.sub_mul, v1, v2, ← Int.sub_mul]
    congr 1
    omega
/-- A pair's wake is around an angle. -/
def ins (x : Ang) (P : Pr) : Prop := val P.1 < val x ∧ val x < val P.2.1
theorem impl_around {P : Pr} {x : Ang} (h : gdP P) (hx : isA x) : impl_RayPair_isAround P x = some (decide (ins x P)) := by
  unfold impl_RayPair_isAround
  rw [impl_order_ok h.a hx h.b]
  simp only [Option.bind_some]
  congr 1
  have hl := h.l
  have b1 := val_nonneg h.a
  have b2 := val_lt_KK h.b
  have b3 := val_lt_KK hx
  have b4 := val_nonneg hx
  by_cases e : P.1 = x ∨ x = P.2.1 ∨ P.1 = P.2.1
  · rw [if_pos e]
    have : ¬ ins x P := by
      unfold ins
      rcases e with e | e | e
      · rw [e]; omega
      · rw [← e]; omega
      · rw [e] at hl; omega
    rw [decide_eq_false this]; rfl
  · rw [if_neg e]
    have n1 : val P.1 ≠ val x := fun h' => e (.inl (val_inj h.a hx h'))
    have n2 : val x ≠ val P.2.1 := fun h' => e (.inr (.inl (val_inj hx h.b h')))
    by_cases c : ins x P
    · rw [decide_eq_true c, if_pos (by
        unfold ins at c
        unfold dv
        rw [if_pos (by omega), if_pos (by omega)]; omega)]; rfl
    · rw [decide_eq_false c, if_neg (by
        unfold ins at c
        unfold dv
        rw [if_pos (show val P.1 ≤ val P.2.1 by omega)]
        split <;> omega)]; rfl
def arnd (xs : List Ang) (P : Pr) : Prop := ∀ x ∈ xs, ins x P
theorem impl_wf {P : Pr} {xs : List Ang} (h : gdP P) (hx : ∀ x ∈ xs, isA x) (hl : xs.length < 1000) : impl_wakesAround_f1 P xs = some (!decide (arnd xs P)) := by
  unfold impl_wakesAround_f1 impl_areAll_impl_Angle_v2 slices_ContainsFunc__impl_Angle_impl_Angle_v2 slices_IndexFunc__impl_Angle_impl_Angle_v3
  have := loop_fidx (step := slices_IndexFunc__impl_Angle_impl_Angle_v3_l0) (fun i => (xs, (), (((P, ()), ()), ()), ((xs.length : Nat) : Int), (i : Int), ())) xs dA0 (fun x => !decide (ins x P)) (fun i => ((i : Int), ())) (fun i hi => by
    have hm : xs.getD i dA0 ∈ xs := by rw [getD_at hi]; exact List.getElem_mem hi
    have hw : w64 ((i : Int) + 1) = ((i + 1 : Nat) : Int) := w64_succ (by omega)
    have hf : impl_areAll_impl_Angle_f1_v2 (xs.getD i dA0) P = some (!decide (ins (xs.getD i dA0) P)) := by
      unfold impl_areAll_impl_Angle_f1_v2
      rw [impl_around h (hx _ hm)]; rfl
    simp only [slices_IndexFunc__impl_Angle_impl_Angle_v3_l0, ltb hi, cond_true, inb hi, Int.toNat_natCast, hf, Option.bind_some, hw, nn0 i, Bool.and_true, Bool.true_and]
    cases decide (ins (xs.getD i dA0) P) <;> rfl) (by
    simp only [slices_IndexFunc__impl_Angle_impl_Angle_v3_l0, nltb (Nat.lt_irrefl _), cond_false])
  have e : loop slices_IndexFunc__impl_Angle_impl_Angle_v3_l0 (xs, (), (((P, ()), ()), ()), ((xs.length : Nat) : Int), (0 : Int), ()) = _ := this
  rw [e]
  cases hf : xs.findIdx? fun x => !decide (ins x P) with
  | none =>
    have hn := List.findIdx?_eq_none_iff.1 hf
    have : arnd xs P := fun x hx => by
      have := hn x hx
      by_cases hA : ins x P
      · exact hA
      · simp [hA] at this
    rw [decide_eq_true this]
    simp [alt]
  | some k =>
    obtain ⟨h1, h2, _⟩ := List.findIdx?_eq_some_iff_getElem.1 hf
    have : ¬ arnd xs P := fun hA => by
      have := hA _ (List.getElem_mem h1)
      rw [decide_eq_true this] at h2; cases h2
    rw [decide_eq_false this]
    simp [alt]
noncomputable def wid (P : Pr) : Int := val P.2.1 - val P.1
theorem wf2 {p q : Pr} (hp : gdP p) (hq : gdP q) : ∃ r, impl_wakesAround_f2 p q = some r ∧ (r < 0 ↔ wid q < wid p) := by
  obtain ⟨V, v1, v2, v3⟩ := hp.w
  obtain ⟨W, w1, w2, w3⟩ := hq.w
  unfold impl_wakesAround_f2
  rw [v1, w1]
  simp only [Option.bind_some]
  rw [impl_compare w2 v2]
  refine ⟨_, rfl, ?_⟩
  unfold cmpA wid
  have h1 := lt_val w2 v2
  rw [v3, w3] at h1
  by_cases c1 : lt W V
  · rw [if_pos c1]; have := h1.1 c1; omega
  · rw [if_neg c1]
    have := mt h1.2 c1
    split <;> omega
theorem ltO_wid {p q : Pr} (hp : gdP p) (hq : gdP q) : ltO (fun x y => impl_wakesAround_f2 x y) p q = decide (wid q < wid p) := by
  obtain ⟨r, r1, r2⟩ := wf2 hp hq
  unfold ltO
  simp only [r1]
  exact decide_eq_decide.2 r2
theorem ordered_wid {xs : List Pr} (h : ∀ x ∈ xs, gdP x) (hl : xs.length < 4611686018427387904) : Ordered (fun x y => impl_wakesAround_f2 x y) xs := by
  refine ⟨hl, fun x hx y hy => by
    obtain ⟨r, r1, _⟩ := wf2 (h x hx) (h y hy)
    exact ⟨r, r1⟩, fun x hx => ?_, fun x hx y hy z hz h1 h2 => ?_, fun x hx y hy z hz h1 h2 => ?_⟩
  · rw [ltO_wid (h x hx) (h x hx)]; exact decide_eq_false (by omega)
  · rw [ltO_wid (h x hx) (h y hy), decide_eq_true_eq] at h1
    rw [ltO_wid (h y hy) (h z hz), decide_eq_true_eq] at h2
    rw [ltO_wid (h x hx) (h z hz), decide_eq_true_eq]; omega
  · rw [ltO_wid (h x hx) (h y hy), decide_eq_false_iff_not] at h1
    rw [ltO_wid (h y hy) (h z hz), decide_eq_false_iff_not] at h2
    rw [ltO_wid (h x hx) (h z hz), decide_eq_false_iff_not]; omega
def nst (a b : Pr) : Prop := val a.1 < val b.1 ∧ val b.2.1 < val a.2.1
theorem UP_small {n : Nat} (h8 : n ≤ 8) : ((UP n).map aP).length ≤ 2040 := by
  rw [List.length_map]; have := (UP_ok h8).2; omega
theorem wakes_impl {n : Nat} (h8 : n ≤ 8) {xs : List Ang} (hx : ∀ x ∈ xs, isA x) (hl : xs.length < 1000) (h0 : xs ≠ []) :
    ∃ T, impl_wakesAround (n : Int) xs = some T ∧ T.Perm (((UP n).map aP).filter fun P => decide (arnd xs P)) ∧ T.Pairwise nst := by
  have hg := UP_gd h8
  have hs := UP_SN h8
  have hsm := UP_small h8
  unfold impl_wakesAround
  rw [impl_upTo h8]
  simp only [Option.bind_some]
  generalize (UP n).map aP = L at *
  rw [del_func2 (f := fun P => !decide (arnd xs P)) (fun P hP => impl_wf (hg P hP) hx hl) (by omega)]
  simp only [Option.bind_some, Bool.not_not]
  unfold slices_SortFunc__impl_RayPair_impl_RayPair_v2
  have hgF : ∀ P ∈ L.filter (fun P => decide (arnd xs P)), gdP P ∧ arnd xs P := fun P hP => by
    obtain ⟨h1, h2⟩ := List.mem_filter.1 hP
    exact ⟨hg P h1, of_decide_eq_true h2⟩
  obtain ⟨T, t1, t2, t3⟩ := sortOf_ok (ordered_wid (fun P hP => (hgF P hP).1) (Nat.lt_of_le_of_lt (List.length_filter_le _ _) (by omega)))
  rw [t1]
  refine ⟨T, rfl, t2, ?_⟩
  have hsT : T.Pairwise SN := (t2.pairwise_iff (fun h => SN_symm h)).2 (hs.sublist List.filter_sublist)
  refine List.Pairwise.imp_of_mem ?_ (hsT.and t3)
  intro a b ha hb hab
  obtain ⟨g1, g2⟩ := hgF a (t2.subset ha)
  obtain ⟨g3, g4⟩ := hgF b (t2.subset hb)
  obtain ⟨c1, c2⟩ := hab
  rw [ltO_wid g3 g1, decide_eq_false_iff_not] at c2
  obtain ⟨x, hxx⟩ := List.exists_mem_of_ne_nil xs h0
  have i1 := g2 x hxx
  have i2 := g4 x hxx
  unfold ins at i1 i2
  unfold wid at c2
  unfold SN at c1
  unfold nst
  omega
def leL (a b : Pr) : Prop := val a.1 ≤ val b.1
theorem ins_at {out : List Pr} {P : Pr} (hs : out.Pairwise leL) {a : Nat} (h1 : ∀ j, j < a → val (out.getD j dP).1 ≤ val P.1) (h2 : a < out.length → val P.1 ≤ val (out.getD a dP).1) (ha : a ≤ out.length) : (out.take a ++ (P :: out.drop a)).Pairwise leL := by
  have hsp := hs
  rw [← List.take_append_drop a out] at hsp
  obtain ⟨s1, s2, s3⟩ := List.pairwise_append.1 hsp
  have hd : ∀ b ∈ out.drop a, leL P b := fun b hb => by
    obtain ⟨m, hm, rfl⟩ := List.mem_iff_getElem.1 hb
    have hal : a < out.length := by rw [List.length_drop] at hm; omega
    have h2' := h2 hal
    rw [getD_at hal] at h2'
    rw [List.getElem_drop]
    by_cases hm0 : m = 0
    · subst hm0; exact h2'
    · have hlen : a + m < out.length := by rw [List.length_drop] at hm; omega
      have := List.pairwise_iff_getElem.1 hs a (a + m) hal hlen (by omega)
      unfold leL at *; omega
  refine List.pairwise_append.2 ⟨s1, List.Pairwise.cons hd s2, fun x hx b hb => ?_⟩
  rcases List.mem_cons.1 hb with rfl | hb
  · obtain ⟨m, hm, rfl⟩ := List.mem_iff_getElem.1 hx
    rw [List.length_take] at hm
    have := h1 m (by omega)
    rw [getD_at (by omega)] at this
    rw [List.getElem_take]; exact this
  · exact s3 x hx b hb
theorem spec_inside {x : Ang} {P : Pr} (hx : isA x) (h : gdP P) : spec_l04Inside x P = some (decide (ins x P)) := by
  unfold spec_l04Inside
  rw [spec_within hx h.a h.b ((lt_val h.a h.b).2 h.l)]
  simp only [Option.bind_some]
  congr 1
  exact decide_eq_decide.2 (by rw [lt_val h.a hx, lt_val hx h.b]; exact Iff.rfl)
theorem spec_sorted {L : List Pr} (hg : ∀ P ∈ L, gdP P) (hl : L.length ≤ 2040) {x : Ang} (hx : isA x) :
    ∃ S, spec_l04Sorted x L = some S ∧ S.Perm (L.filter fun P => decide (ins x P)) ∧ S.Pairwise leL := by
  have key : ∀ k i (out : List Pr), L.length - i = k → i ≤ L.length → out.Perm ((L.take i).filter fun P => decide (ins x P)) → out.Pairwise leL →
      ∃ S, loop spec_l04Sorted_l0 (L, x, out, (i : Int), ()) = some (S, ()) ∧ S.Perm (L.filter fun P => decide (ins x P)) ∧ S.Pairwise leL := by
    intro k
    induction k with
    | zero =>
      intro i out hk hi hp hs
      have : i = L.length := by omega
      subst this
      rw [List.take_length] at hp
      refine ⟨out, ?_, hp, hs⟩
      rw [loop_eq]
      simp only [spec_l04Sorted_l0, nltb (Nat.lt_irrefl _), cond_false]
    | succ k ih =>
      intro i out hk hi hp hs
      have hil : i < L.length := by omega
      have hm : L.getD i dP ∈ L := by rw [getD_at hil]; exact List.getElem_mem hil
      have hgi := hg _ hm
      have hw : w64 ((i : Int) + 1) = ((i + 1 : Nat) : Int) := w64_succ (by omega)
      have hgo : ∀ P ∈ out, gdP P := fun P hP => hg P (List.mem_of_mem_take (List.mem_filter.1 (hp.subset hP)).1)
      have hol : out.length ≤ 2040 := by
        rw [hp.length_eq]
        exact Nat.le_trans (List.length_filter_le _ _) (by rw [List.length_take]; omega)
      have hst := filter_step (f := fun P => decide (ins x P)) (d := dP) hil
      rw [loop_eq]
      simp only [spec_l04Sorted_l0, ltb hil, cond_true, nn0 i, Bool.and_self, Int.toNat_natCast]
      have hsi := spec_inside hx hgi
      simp only [hsi, Option.bind_some]
      by_cases hc : ins x (L.getD i dP)
      · rw [decide_eq_true hc] at hst
        rw [if_pos rfl] at hst
        rw [decide_eq_true hc]
        simp only [Bool.not_true, cond_false]
        have hin : ∃ a : Nat, a ≤ out.length ∧ (∀ j, j < a → val (out.getD j dP).1 ≤ val (L.getD i dP).1) ∧ (a < out.length → val (L.getD i dP).1 ≤ val (out.getD a dP).1) ∧ loop spec_l04Sorted_l1 (L, x, out, (i : Int), (0 : Int), ()) = some (L, x, out, (i : Int), (a : Int), ()) := by
          rcases loop_find (step := spec_l04Sorted_l1) (fun j => (L, x, out, (i : Int), (j : Int), ())) out.length (L, x, out, (i : Int), (out.length : Int), ()) (fun j => if lt (out.getD j dP).1 (L.getD i dP).1 then none else some (L, x, out, (i : Int), (j : Int), ())) (fun j hj => by
              have hgj := hgo (out.getD j dP) (by rw [getD_at hj]; exact List.getElem_mem hj)
              have hwj : w64 ((j : Int) + 1) = ((j + 1 : Nat) : Int) := w64_succ (by omega)
              simp only [spec_l04Sorted_l1, ltb hj, ltb hil, cond_true, nn0, Bool.and_self, Int.toNat_natCast]
              have hle := spec_less hgj.a hgi.a
              simp only [hle, Option.bind_some, hwj]
              by_cases hlt : lt (out.getD j dP).1 (L.getD i dP).1
              · rw [if_pos hlt, decide_eq_true hlt]; rfl
              · rw [if_neg hlt, decide_eq_false hlt]; rfl) (by
              simp only [spec_l04Sorted_l1, nltb (Nat.lt_irrefl _), cond_false]) 0 (by omega) with ⟨j1, j2⟩ | ⟨j, c, _, j2, j3, j4, j5⟩
          · refine ⟨out.length, Nat.le_refl _, fun j hj => ?_, fun h => absurd h (Nat.lt_irrefl _), j1⟩
            have hgj := hgo (out.getD j dP) (by rw [getD_at hj]; exact List.getElem_mem hj)
            have := j2 j (by omega) hj
            split at this
            · rename_i hlt; have := (lt_val hgj.a hgi.a).1 hlt; omega
            · cases this
          · have hgj := hgo (out.getD j dP) (by rw [getD_at j2]; exact List.getElem_mem j2)
            split at j3
            · cases j3
            · rename_i hlt
              simp only [Option.some.injEq] at j3
              subst j3
              refine ⟨j, by omega, fun m hm => ?_, fun _ => ?_, j4⟩
              · have hgm := hgo (out.getD m dP) (by rw [getD_at (by omega)]; exact List.getElem_mem (by omega))
                have := j5 m (by omega) hm
                split at this
                · rename_i hlt2; have := (lt_val hgm.a hgi.a).1 hlt2; omega
                · cases this
              · have := mt (lt_val hgj.a hgi.a).2 hlt; omega
        obtain ⟨a, a1, a2, a3, a4⟩ := hin
        rw [a4]
        simp only [Option.bind_some, ltb hil, nn0 i, Bool.and_self, cond_true, Int.toNat_natCast]
        have d0 : ∀ l : List Pr, l.drop (0 : Int).toNat = l := fun l => rfl
        have c1 : (((decide ((0 : Int) ≤ (a : Int))) && (decide ((a : Int) ≤ ((out.length : Nat) : Int)))) && (decide (((out.length : Nat) : Int) ≤ ((out.length : Nat) : Int)))) = true := by
          simp only [Bool.and_eq_true, decide_eq_true_eq]; omega
        have c2 : (((decide ((0 : Int) ≤ (0 : Int))) && (decide ((0 : Int) ≤ (a : Int)))) && (decide ((a : Int) ≤ ((out.length : Nat) : Int)))) = true := by
          simp only [Bool.and_eq_true, decide_eq_true_eq]; omega
        have tl : out.take out.length = out := List.take_length
        have c3 : decide (([L.getD i ((((0 : Int), (0 : Int), ()), ((0 : Int), (0 : Int), ()), ()) : Pr)].length + ((out.take out.length).drop a).length) * 32 ≤ 140737488355328) = true := decide_eq_true (by rw [tl, List.length_drop]; simp; omega)
        have c4 : decide ((([] : List Pr).length + ((out.take a).drop (0 : Int).toNat).length) * 32 ≤ 140737488355328) = true := decide_eq_true (by rw [d0, List.length_take]; simp; omega)
        have c5 : decide ((([] ++ (out.take a).drop (0 : Int).toNat : List Pr).length + ([L.getD i ((((0 : Int), (0 : Int), ()), ((0 : Int), (0 : Int), ()), ()) : Pr)] ++ (out.take out.length).drop a).length) * 32 ≤ 140737488355328) = true := decide_eq_true (by rw [d0, tl]; simp; omega)
        rw [c1, cond_true, c3, cond_true, c2, cond_true, c4, cond_true, c5, cond_true, hw, List.nil_append, d0, tl]
        refine ih (i + 1) (out.take a ++ ([L.getD i dP] ++ out.drop a)) (by omega) (by omega) ?_ (ins_at hs a2 a3 a1)
        rw [hst]
        have p1 : (out.take a ++ ([L.getD i dP] ++ out.drop a)).Perm (L.getD i dP :: out) := by
          have := (List.perm_middle (a := L.getD i dP) (l₁ := out.take a) (l₂ := out.drop a))
          rw [List.take_append_drop] at this
          exact this
        refine p1.trans ?_
        exact ((List.Perm.cons _ hp).trans (List.perm_append_singleton _ _).symm)
      · rw [decide_eq_false hc] at hst
        rw [if_neg (by simp), List.append_nil] at hst
        rw [decide_eq_false hc]
        simp only [Bool.not_false, cond_true, hw]
        exact ih (i + 1) out (by omega) (by omega) (by rw [hst]; exact hp) hs
  unfold spec_l04Sorted
  obtain ⟨S, s1, s2, s3⟩ := key _ 0 [] rfl (by omega) (by simp) List.Pairwise.nil
  have s1' : loop spec_l04Sorted_l0 (L, x, ([] : List Pr), (0 : Int), ()) = some (S, ()) := s1
  rw [s1']
  exact ⟨S, rfl, s2, s3⟩
end Go.K.Pure

/- Plain laws of ray pairs, part 9: the law of FnWakes. -/
set_option linter.all false
namespace Go.K.Pure
open Classical
theorem pw_two {α : Type} {R : α → α → Prop} (hs : ∀ x y, R x y → R y x) (hr : ∀ x, R x x) : ∀ {l : List α}, l.Pairwise R → ∀ a ∈ l, ∀ b ∈ l, R a b
  | [], _, a, ha, _, _ => by cases ha
  | x :: l, h, a, ha, b, hb => by
    obtain ⟨h1, h2⟩ := List.pairwise_cons.1 h
    rcases List.mem_cons.1 ha with ha | ha <;> rcases List.mem_cons.1 hb with hb | hb
    · rw [ha, hb]; exact hr x
    · rw [ha]; exact h1 b hb
    · rw [hb]; exact hs _ _ (h1 a ha)
    · exact pw_two hs hr h2 a ha b hb
theorem UP_two {n : Nat} (h8 : n ≤ 8) {a b : Pr} (ha : a ∈ (UP n).map aP) (hb : b ∈ (UP n).map aP) : a = b ∨ SN a b := by
  have h := (UP_SN h8).imp (S := fun a b => a = b ∨ SN a b) (fun h => .inr h)
  exact pw_two (R := fun a b => a = b ∨ SN a b) (fun x y h => h.elim (fun e => .inl e.symm) (fun e => .inr (SN_symm e))) (fun x => .inl rfl) h a ha b hb
theorem UP_anti {n : Nat} (h8 : n ≤ 8) {a b : Pr} (ha : a ∈ (UP n).map aP) (hb : b ∈ (UP n).map aP) (h1 : leL a b) (h2 : leL b a) : a = b := by
  rcases UP_two h8 ha hb with e | e
  · exact e
  · have g1 := (UP_gd h8 a ha).l
    have g2 := (UP_gd h8 b hb).l
    unfold leL at h1 h2
    unfold SN at e
    omega
theorem wakes_same {n : Nat} (h8 : n ≤ 8) {x : Ang} (hx : isA x) : ∃ T, impl_wakesAround (n : Int) [x] = some T ∧ spec_l04Sorted x ((UP n).map aP) = some T ∧ T.Pairwise nst ∧ (∀ P ∈ T, gdP P ∧ ins x P) ∧ T.length ≤ 2040 := by
  obtain ⟨T, t1, t2, t3⟩ := wakes_impl h8 (xs := [x]) (by simpa using hx) (by simp) (by simp)
  obtain ⟨S, s1, s2, s3⟩ := spec_sorted (UP_gd h8) (UP_small h8) hx
  have hF : ((UP n).map aP).filter (fun P => decide (arnd [x] P)) = ((UP n).map aP).filter fun P => decide (ins x P) := List.filter_congr fun P _ => decide_eq_decide.2 (by unfold arnd; simp)
  rw [hF] at t2
  have hmem : ∀ P ∈ T, P ∈ (UP n).map aP ∧ ins x P := fun P hP => by
    obtain ⟨h1, h2⟩ := List.mem_filter.1 (t2.subset hP)
    exact ⟨h1, of_decide_eq_true h2⟩
  have hST : S = T := List.Perm.eq_of_pairwise (le := leL) (fun a b ha hb h1 h2 => UP_anti h8 (List.mem_filter.1 (s2.subset ha)).1 (hmem b hb).1 h1 h2) s3 (t3.imp fun h => Int.le_of_lt h.1) (s2.trans t2.symm)
  rw [hST] at s1
  exact ⟨T, t1, s1, t3, fun P hP => ⟨UP_gd h8 P (hmem P hP).1, (hmem P hP).2⟩, by
    rw [t2.length_eq]; exact Nat.le_trans (List.length_filter_le _ _) (UP_small h8)⟩
theorem around_same {n : Nat} (h8 : n ≤ 8) {P : Pr} (hP : gdP P) : ∃ T, impl_wakesAround (n : Int) [P.1, P.2.1] = some T ∧ spec_l04Around P ((UP n).map aP) = some T ∧ (∀ Q, Q ∈ T ↔ Q ∈ (UP n).map aP ∧ ins P.1 Q ∧ ins P.2.1 Q) ∧ T.length ≤ 2040 := by
  have hL : ∀ x ∈ [P.1, P.2.1], isA x := fun a ha => by
    rcases List.mem_cons.1 ha with rfl | ha
    · exact hP.a
    · rw [List.mem_singleton.1 ha]; exact hP.b
  obtain ⟨T, t1, t2, t3⟩ := wakes_impl h8 (xs := [P.1, P.2.1]) hL (by simp) (by simp)
  obtain ⟨S, s1, s2, s3⟩ := spec_sorted (UP_gd h8) (UP_small h8) hP.a
  have hS : ∀ Q ∈ S, Q ∈ (UP n).map aP := fun Q hQ => (List.mem_filter.1 (s2.subset hQ)).1
  have hSl : S.length ≤ 2040 := by rw [s2.length_eq]; exact Nat.le_trans (List.length_filter_le _ _) (UP_small h8)
  have hsp : spec_l04Around P ((UP n).map aP) = some (S.filter fun Q => decide (ins P.2.1 Q)) := by
    unfold spec_l04Around
    rw [s1]
    simp only [Option.bind_some]
    have := loop_count (step := spec_l04Around_l0) (fun i => (P, (S.take i).filter (fun Q => decide (ins P.2.1 Q)), S, (i : Int), ())) S.length (S.filter (fun Q => decide (ins P.2.1 Q)), ()) (fun i hi => by
      have hm : S.getD i dP ∈ S := by rw [getD_at hi]; exact List.getElem_mem hi
      have hw : w64 ((i : Int) + 1) = ((i + 1 : Nat) : Int) := w64_succ (by omega)
      have hsi := spec_inside hP.b (UP_gd h8 _ (hS _ hm))
      have hfl : ((S.take i).filter fun Q => decide (ins P.2.1 Q)).length ≤ i := Nat.le_trans (List.length_filter_le _ _) (by rw [List.length_take]; omega)
      simp only [spec_l04Around_l0, ltb hi, cond_true, Int.toNat_natCast, nn0 i, Bool.and_self]
      simp only [hsi, Option.bind_some, hw]
      rw [filter_step (d := dP) hi]
      have hb : decide ((((S.take i).filter fun Q => decide (ins P.2.1 Q)).length + [S.getD i dP].length) * 32 ≤ 140737488355328) = true := decide_eq_true (by simp; omega)
      by_cases hc : ins P.2.1 (S.getD i dP)
      · rw [decide_eq_true hc, if_pos rfl]
        have hb' : decide ((((S.take i).filter fun Q => decide (ins P.2.1 Q)).length + [S.getD i ((((0 : Int), (0 : Int), ()), ((0 : Int), (0 : Int), ()), ()) : Pr)].length) * 32 ≤ 140737488355328) = true := hb
        rw [cond_true, hb', cond_true]
      · rw [decide_eq_false hc, if_neg (by simp), List.append_nil]; rfl) (by
      simp only [spec_l04Around_l0, nltb (Nat.lt_irrefl _), cond_false, List.take_length]) 0 (by omega)
    have e : loop spec_l04Around_l0 (P, ([] : List Pr), S, (0 : Int), ()) = _ := this
    rw [e]; rfl
  have hF : ((UP n).map aP).filter (fun Q => decide (arnd [P.1, P.2.1] Q)) = (((UP n).map aP).filter fun Q => decide (ins P.1 Q)).filter fun Q => decide (ins P.2.1 Q) := by
    rw [List.filter_filter]
    refine List.filter_congr fun Q _ => ?_
    have : arnd [P.1, P.2.1] Q ↔ ins P.1 Q ∧ ins P.2.1 Q := by unfold arnd; simp
    by_cases h1 : ins P.1 Q <;> by_cases h2 : ins P.2.1 Q <;> simp [this, h1, h2]
  rw [hF] at t2
  have hmem : ∀ Q, Q ∈ T ↔ Q ∈ (UP n).map aP ∧ ins P.1 Q ∧ ins P.2.1 Q := fun Q => by
    rw [t2.mem_iff, List.mem_filter, List.mem_filter, decide_eq_true_eq, decide_eq_true_eq, and_assoc]
  have p2 : (S.filter fun Q => decide (ins P.2.1 Q)).Perm T := (s2.filter _).trans t2.symm
  have hST : (S.filter fun Q => decide (ins P.2.1 Q)) = T := List.Perm.eq_of_pairwise (le := leL) (fun a b ha hb h1 h2 => UP_anti h8 (hS a (List.mem_filter.1 ha).1) ((hmem b).1 hb).1 h1 h2) (s3.sublist List.filter_sublist) (t3.imp fun h => Int.le_of_lt h.1) p2
  rw [hST] at hsp
  exact ⟨T, t1, hsp, hmem, by
    rw [← hST]; exact Nat.le_trans (List.length_filter_le _ _) hSl⟩
theorem pair_same {x : Ang} (hx : InA x) : (∃ c : Int, c ≠ 0 ∧ impl_PairOf x = some (dP, c) ∧ spec_PairOf x = some (dP, c)) ∨ ∃ P n, 2 ≤ n ∧ n ≤ 8 ∧ isP x n ∧ ps x = n ∧ P ∈ (NP n).map aP ∧ impl_PairOf x = some (P, 0) ∧ spec_PairOf x = some (P, 0) := by
  have e0 : ((0 : Int) != 0) = false := rfl
  have e1 : ((1 : Int) != 0) = true := rfl
  have e2 : ((2 : Int) != 0) = true := rfl
  unfold spec_PairOf spec_l04Code
  rw [spec_isA hx]
  by_cases hX : isA x
  · have hp := ps_pg hX
    rw [decide_eq_true hX]
    simp only [Option.bind_some, Bool.not_true, cond_false, spec_period hX, spec_in]
    by_cases hr : 2 ≤ ps x ∧ ps x ≤ 8
    · right
      have hpg : pg x = ps x := by rw [hp, if_pos hr.2]
      have hP : isP x (ps x) := ⟨hX, hpg, by omega⟩
      obtain ⟨P, p1, p2, p3⟩ := spec_pair hP hr.1
      obtain ⟨Q, q1, q2, q3, q4⟩ := pair_one hP hr.1
      have d1 : decide ((2 : Int) ≤ (ps x : Int) ∧ (ps x : Int) ≤ 8) = true := decide_eq_true (by omega)
      have hQU : Q ∈ (UP (ps x)).map aP := by
        obtain ⟨p, hp, rfl⟩ := List.mem_map.1 q2
        exact List.mem_map.2 ⟨p, (UP_mem hr.2 p).2 ⟨_, hr.1, by omega, hp⟩, rfl⟩
      refine ⟨P, ps x, hr.1, hr.2, hP, rfl, ?_, impl_pair hP hr.1 p3, ?_⟩
      · rw [← p3 Q hQU q3]; exact q2
      · rw [d1]
        simp only [Option.bind_some, Bool.not_true, cond_false, e0, p2]
    · left
      have d1 : decide ((2 : Int) ≤ (ps x : Int) ∧ (ps x : Int) ≤ 8) = false := decide_eq_false (by omega)
      have d2 : decide ((2 : Int) ≤ (pg x : Int) ∧ (pg x : Int) ≤ 8) = false := decide_eq_false (by
        rw [hp]
        split <;> omega)
      refine ⟨2, by omega, ?_, ?_⟩
      · unfold impl_PairOf
        rw [impl_code (L := [x]) (by simpa using hx) (by simp), if_pos (by simpa using hX)]
        simp only [Option.bind_some, e0, cond_false, impl_period hX, impl_isPeriod, impl_in, d2, Bool.not_false, cond_true]
      · rw [d1]; rfl
  · left
    refine ⟨1, by omega, ?_, ?_⟩
    · unfold impl_PairOf
      rw [impl_code (L := [x]) (by simpa using hx) (by simp), if_neg (by simpa using hX)]
      rfl
    · rw [decide_eq_false hX]; rfl
theorem less9_ok {a b : Ang} (ha : isA a) (hb : isA b) : laws_less9 a b = some (decide (lt a b)) := by
  have h1 := cross_bnd ha hb
  have h2 := cross_bnd hb ha
  unfold laws_less9
  rw [w64_id (by omega) (by omega), w64_id (by omega) (by omega)]
  rfl
theorem beqP (p q : Pr) : (((p.1.1 == q.1.1) && ((p.1.2.1 == q.1.2.1) && true)) && (((p.2.1.1 == q.2.1.1) && ((p.2.1.2.1 == q.2.1.2.1) && true)) && true)) = decide (p = q) := by
  rw [beqA, beqA]
  obtain ⟨a, b, ⟨⟩⟩ := p
  obtain ⟨c, d, ⟨⟩⟩ := q
  by_cases h1 : a = c <;> by_cases h2 : b = d <;> simp [h1, h2]
theorem pairs9_same {T : List Pr} (hl : T.length ≤ 2040) : laws_pairs9 T T = some true := by
  unfold laws_pairs9
  have := loop_count (step := laws_pairs9_l0) (fun i => (T, T, (i : Int), ())) T.length (.inr ()) (fun i hi => by
    have hw : w64 ((i : Int) + 1) = ((i + 1 : Nat) : Int) := w64_succ (by omega)
    simp only [laws_pairs9_l0, ltb hi, cond_true, nn0 i, Bool.and_self, Int.toNat_natCast, hw]
    simp) (by simp only [laws_pairs9_l0, nltb (Nat.lt_irrefl _), cond_false]) 0 (by omega)
  have e : loop laws_pairs9_l0 (T, T, (0 : Int), ()) = _ := this
  rw [e]
  simp [alt]
theorem wakesAround_same {y : Ang} (hy : InA y) {n : Nat} : ∃ (T : List Pr) (c : Int), impl_WakesAround y (n : Int) = some (T, c) ∧ spec_WakesAround y (n : Int) = some (T, c) ∧ T.length ≤ 2040 ∧ T.Pairwise nst ∧ ∀ P ∈ T, isA y ∧ gdP P ∧ ins y P := by
  unfold impl_WakesAround spec_WakesAround impl_isPeriod
  rw [impl_isA hy, spec_isA hy, impl_in, spec_in]
  have hnil : ∀ P ∈ ([] : List Pr), isA y ∧ gdP P ∧ ins y P := fun P hP => by simp at hP
  by_cases hY : isA y
  · rw [decide_eq_true hY]
    simp only [Option.bind_some, Bool.not_true, cond_false]
    by_cases hr : (2 : Int) ≤ (n : Int) ∧ (n : Int) ≤ 8
    · have h8 : n ≤ 8 := by omega
      obtain ⟨T, t1, t2, t3, t4, t5⟩ := wakes_same h8 hY
      rw [decide_eq_true hr]
      simp only [Bool.not_true, cond_false, spec_upTo h8, Option.bind_some, t1, t2]
      exact ⟨T, 0, rfl, rfl, t5, t3, fun P hP => ⟨hY, t4 P hP⟩⟩
    · rw [decide_eq_false hr]
      exact ⟨[], 2, rfl, rfl, by simp, List.Pairwise.nil, hnil⟩
  · rw [decide_eq_false hY]
    exact ⟨[], 1, rfl, rfl, by simp, List.Pairwise.nil, hnil⟩
theorem nest_loop {x w : Ang} {one : Int} {st : Bool} {y : Ang} {T : List Pr} {pa : Pr} {four dep : Int} (hl : T.length ≤ 2040) (hs : T.Pairwise nst) (hT : ∀ P ∈ T, isA y ∧ gdP P ∧ ins y P) :
    loop laws_FnWakes_l0 (x, w, one, st, y, T, pa, four, dep, (0 : Int), ()) = some (.inr (x, w, one, st, pa, four, dep, ())) := by
  have := loop_count (step := laws_FnWakes_l0) (fun i => (x, w, one, st, y, T, pa, four, dep, (i : Int), ())) T.length (.inr (x, w, one, st, pa, four, dep, ())) (fun i hi => by
    have hm : T.getD i dP ∈ T := by rw [getD_at hi]; exact List.getElem_mem hi
    obtain ⟨hy, g, hin⟩ := hT _ hm
    have hw : w64 ((i : Int) + 1) = ((i + 1 : Nat) : Int) := w64_succ (by omega)
    have l1 := less9_ok g.a hy
    rw [decide_eq_true ((lt_val g.a hy).2 hin.1)] at l1
    have l2 := less9_ok hy g.b
    rw [decide_eq_true ((lt_val hy g.b).2 hin.2)] at l2
    simp only [laws_FnWakes_l0, ltb hi, cond_true, nn0 i, Bool.and_self, Int.toNat_natCast]
    have l1' : laws_less9 (T.getD i ((((0 : Int), (0 : Int), ()), ((0 : Int), (0 : Int), ()), ()) : Pr)).1 y = some true := l1
    have l2' : laws_less9 y (T.getD i ((((0 : Int), (0 : Int), ()), ((0 : Int), (0 : Int), ()), ()) : Pr)).2.1 = some true := l2
    rw [l1']
    simp only [Option.bind_some, Bool.not_true, cond_false]
    rw [l2']
    simp only [Option.bind_some, Bool.not_true, cond_false]
    by_cases h0 : i = 0
    · subst h0
      have : decide (((0 : Nat) : Int) > 0) = false := rfl
      rw [this, cond_false, hw]
    · have hd : decide ((i : Int) > 0) = true := decide_eq_true (by omega)
      have hw2 : w64 ((i : Int) - 1) = ((i - 1 : Nat) : Int) := w64_pred (by omega) (by omega)
      have hi1 : i - 1 < T.length := by omega
      have hm1 : T.getD (i - 1) dP ∈ T := by rw [getD_at hi1]; exact List.getElem_mem hi1
      obtain ⟨_, g', _⟩ := hT _ hm1
      have hn := List.pairwise_iff_getElem.1 hs (i - 1) i hi1 hi (by omega)
      rw [← getD_at (d := dP) hi1, ← getD_at (d := dP) hi] at hn
      have l3 := less9_ok g'.a g.a
      rw [decide_eq_true ((lt_val g'.a g.a).2 hn.1)] at l3
      have l4 := less9_ok g.b g'.b
      rw [decide_eq_true ((lt_val g.b g'.b).2 hn.2)] at l4
      have l3' : laws_less9 (T.getD (i - 1) ((((0 : Int), (0 : Int), ()), ((0 : Int), (0 : Int), ()), ()) : Pr)).1 (T.getD i ((((0 : Int), (0 : Int), ()), ((0 : Int), (0 : Int), ()), ()) : Pr)).1 = some true := l3
      have l4' : laws_less9 (T.getD i ((((0 : Int), (0 : Int), ()), ((0 : Int), (0 : Int), ()), ()) : Pr)).2.1 (T.getD (i - 1) ((((0 : Int), (0 : Int), ()), ((0 : Int), (0 : Int), ()), ()) : Pr)).2.1 = some true := l4
      rw [hd, cond_true, hw2, ltb hi1, nn0, Bool.and_self, cond_true, Int.toNat_natCast, l3']
      simp only [Option.bind_some, Bool.not_true, cond_false, cond_true]
      rw [l4']
      simp only [Option.bind_some, Bool.not_true, cond_false, hw]) (by
    simp only [laws_FnWakes_l0, nltb (Nat.lt_irrefl _), cond_false]) 0 (by omega)
  exact this
theorem met_loop {st : Bool} {pa : Pr} {four dep : Int} {P : Pr} {c7 : Int} {due : Ang} {c8 : Int} {c9 : Int} {L : List Ang} (hl : L.length ≤ 1000) :
    loop laws_FnWakes_l1 (st, pa, four, dep, P, c7, due, c8, L, c9, false, (0 : Int), ()) = some (st, pa, four, dep, P, c7, due, c8, c9, decide (P.2.1 ∈ L), ()) := by
  have := loop_count (step := laws_FnWakes_l1) (fun i => (st, pa, four, dep, P, c7, due, c8, L, c9, decide (P.2.1 ∈ L.take i), (i : Int), ())) L.length (st, pa, four, dep, P, c7, due, c8, c9, decide (P.2.1 ∈ L), ()) (fun i hi => by
    have hw : w64 ((i : Int) + 1) = ((i + 1 : Nat) : Int) := w64_succ (by omega)
    have hiff : P.2.1 ∈ L.take (i + 1) ↔ P.2.1 ∈ L.take i ∨ L.getD i dA0 = P.2.1 := by
      rw [List.take_succ_eq_append_getElem hi, List.mem_append, List.mem_singleton, getD_at hi]
      exact or_congr Iff.rfl eq_comm
    simp only [laws_FnWakes_l1, ltb hi, cond_true, nn0 i, Bool.and_self, Int.toNat_natCast, hw]
    by_cases h1 : P.2.1 ∈ L.take i
    · rw [decide_eq_true h1, decide_eq_true (hiff.2 (.inl h1))]; rfl
    · rw [decide_eq_false h1, cond_false, beqA]
      refine congrArg (fun b => some (Ctl.next (st, pa, four, dep, P, c7, due, c8, L, c9, b, ((i + 1 : Nat) : Int), ()))) ?_
      exact decide_eq_decide.2 ⟨fun h => hiff.2 (.inr h), fun h => (hiff.1 h).elim (fun h => absurd h h1) id⟩) (by
    simp only [laws_FnWakes_l1, nltb (Nat.lt_irrefl _), cond_false, List.take_length]) 0 (by omega)
  have e : decide (P.2.1 ∈ L.take 0) = false := by simp
  rw [e] at this
  exact this
end Go.K.Pure

/- Plain laws of ray pairs, part 10: the law of FnWakes, joined. -/
set_option linter.all false
namespace Go.K.Pure
open Classical
section
variable {x : Ang} {P : Pr} {n : Nat} (h : impl_PairOf x = some (P, 0)) (h' : spec_PairOf x = some (P, 0)) (hx : isP x n) (hps : ps x = n) (h2 : 2 ≤ n) (h8 : n ≤ 8) (hP : P ∈ (NP n).map aP)
include h h' hx hps h2 h8 hP
theorem width_same : ∃ W, impl_WidthOf x = some (W, 0) ∧ spec_WidthOf x = some (W, 0) ∧ impl_AddAngles P.1 W = some (P.2.1, 0) := by
  obtain ⟨p, hp, rfl⟩ := List.mem_map.1 hP
  obtain ⟨i, j, q1, q2, q3⟩ := aP_nums h2 h8 hp
  obtain ⟨f1, f2⟩ := den_facts (n := n) (by omega) h8
  have e0 : ((0 : Int) != 0) = false := rfl
  refine ⟨angN (j - i) (2 ^ n - 1), ?_, ?_, ?_⟩
  · unfold impl_WidthOf
    rw [h, q3]
    simp only [Option.bind_some, e0, cond_false]
    rw [impl_width q1 q2 f2]
    simp only [Option.bind_some]
    rw [impl_limit q1 q2 f2]; rfl
  · unfold spec_WidthOf
    rw [h', q3]
    simp only [Option.bind_some, e0, cond_false, spec_period hx.isA, hps, wu_small h8]
    rw [nn0, cond_true, angN_pos q1 q2 f2, angN_pos q1 q2 f2, Bool.not_false, cond_true, cond_true, den_w (by omega) h8, spec_width q1 q2 f2]
    rfl
  · rw [q3]; exact impl_add q1 q2 f2
theorem sat_same : impl_IsSatellite x = some (sat P, 0) ∧ spec_IsSatellite x = some (sat P, 0) := by
  obtain ⟨g1, g2⟩ := NP_PP h2 h8 hP
  have e0 : ((0 : Int) != 0) = false := rfl
  unfold impl_IsSatellite spec_IsSatellite
  rw [h, h']
  simp only [Option.bind_some, e0, cond_false, impl_sat g1, spec_sat g1 (lt_ne g2)]
  trivial
theorem inUP : P ∈ (UP n).map aP := by
  obtain ⟨p, hp, rfl⟩ := List.mem_map.1 hP
  exact List.mem_map.2 ⟨p, (UP_mem h8 p).2 ⟨n, h2, by omega, hp⟩, rfl⟩
theorem depth_same : ∃ T : List Pr, impl_DepthOf x = some ((T.length : Int), 0) ∧ spec_DepthOf x = some ((T.length : Int), 0) ∧ ∀ Q ∈ T, Q ∈ (UP 8).map aP ∧ ins P.1 Q ∧ ins P.2.1 Q := by
  obtain ⟨T, t1, t2, t3, t4⟩ := around_same h8 (UP_gd h8 P (inUP h h' hx hps h2 h8 hP))
  have e0 : ((0 : Int) != 0) = false := rfl
  refine ⟨T, ?_, ?_, fun Q hQ => ?_⟩
  · unfold impl_DepthOf
    rw [h]
    simp only [Option.bind_some, e0, cond_false, impl_period hx.isA, hx.per, t1]
    rfl
  · unfold spec_DepthOf
    rw [h']
    simp only [Option.bind_some, e0, cond_false, spec_period hx.isA, hps, spec_upTo h8, t2]
  · obtain ⟨a1, a2⟩ := (t3 Q).1 hQ
    obtain ⟨q, hq, rfl⟩ := List.mem_map.1 a1
    obtain ⟨k, k1, k2, k3⟩ := (UP_mem h8 q).1 hq
    exact ⟨List.mem_map.2 ⟨q, (UP_mem (Nat.le_refl 8) q).2 ⟨k, k1, by omega, k3⟩, rfl⟩, a2⟩
theorem parent_same : ∃ (Q : Pr) (c : Int), impl_ParentOf x = some (Q, c) ∧ spec_ParentOf x = some (Q, c) ∧ (c ≠ 0 → ∀ R ∈ (UP 8).map aP, ¬ (ins P.1 R ∧ ins P.2.1 R)) ∧ (c = 0 → gdP Q ∧ ins P.1 Q ∧ ins P.2.1 Q) := by
  have hg := UP_gd h8 P (inUP h h' hx hps h2 h8 hP)
  obtain ⟨T, t1, t2, t3, t4⟩ := around_same (n := 8) (Nat.le_refl 8) hg
  have e0 : ((0 : Int) != 0) = false := rfl
  have t1' : impl_wakesAround (8 : Int) [P.1, P.2.1] = some T := t1
  have t2' : spec_l04Pairs (8 : Int) = some ((UP 8).map aP) := spec_upTo (n := 8) (Nat.le_refl 8)
  unfold impl_ParentOf spec_ParentOf
  rw [h, h']
  simp only [Option.bind_some, e0, cond_false, t1', t2', t2]
  by_cases hT : T = []
  · subst hT
    refine ⟨dP, 4, rfl, rfl, fun _ R hR hh => ?_, fun hh => absurd hh (by decide)⟩
    have := (t3 R).2 ⟨hR, hh⟩
    simp at this
  · have hpos : 0 < T.length := List.length_pos_iff.2 hT
    have hb : (((T.length : Nat) : Int) == 0) = false := e0_false hpos
    have hw : w64 (((T.length : Nat) : Int) - 1) = ((T.length - 1 : Nat) : Int) := by rw [w64_id (by omega) (by omega)]; omega
    have hi : T.length - 1 < T.length := by omega
    rw [hb, cond_false, hw, nn0, ltb hi]
    refine ⟨T.getD (T.length - 1) dP, 0, rfl, rfl, fun hh => absurd rfl hh, fun _ => ?_⟩
    have hm : T.getD (T.length - 1) dP ∈ T := by rw [getD_at hi]; exact List.getElem_mem hi
    obtain ⟨a1, a2⟩ := (t3 _).1 hm
    exact ⟨UP_gd (Nat.le_refl 8) _ a1, a2⟩
theorem orbit_ok : impl_OrbitOf P.1 = some (orbL P.1 (pg P.1), 0) := by
  obtain ⟨g1, g2⟩ := NP_PP h2 h8 hP
  unfold impl_OrbitOf impl_orbitOf
  rw [impl_isA (inA_isA g1.a.isA), ob_impl g1.a.isA, ob_per g1.a.isA (by rw [g1.a.per]; exact g1.a.pos), decide_eq_true g1.a.isA]
  rfl
end
theorem law_Wakes {code : List Int} (hc : ∀ c ∈ code, 0 ≤ c ∧ c < 256) : laws_FnWakes code = some true := by
  unfold laws_FnWakes laws_big
  simp only [Option.bind_some]
  by_cases hl : code.length ≤ 4096
  · have hd : decide (((code.length : Nat) : Int) > 4096) = false := decide_eq_false (by omega)
    obtain ⟨x, x1, x2⟩ := drawWidth_ok hl hc
    obtain ⟨y, n, y1, y2⟩ := drawWakes_ok hl hc
    obtain ⟨k, k1⟩ := drawCount_ok hl hc
    obtain ⟨T, c, w1, w2, w3, w4, w5⟩ := wakesAround_same y2 (n := n)
    obtain ⟨⟨r, s⟩, r1, r2⟩ := count_same (n := k)
    have e0 : ((0 : Int) != 0) = false := rfl
    rw [hd, cond_false, x1]
    simp only [Option.bind_some]
    rcases pair_same x2 with ⟨c', p1, p2, p3⟩ | ⟨P, m, m2, m8, mP, mps, mN, p2, p3⟩
    · have hb : (c' != 0) = true := by simpa using p1
      have a1 : impl_WidthOf x = some ((0, 0, ()), c') := by unfold impl_WidthOf; rw [p2]; simp only [Option.bind_some, hb, cond_true]
      have a2 : spec_WidthOf x = some ((0, 0, ()), c') := by unfold spec_WidthOf; rw [p3]; simp only [Option.bind_some, hb, cond_true]
      have a3 : impl_IsSatellite x = some (false, c') := by unfold impl_IsSatellite; rw [p2]; simp only [Option.bind_some, hb, cond_true]
      have a4 : spec_IsSatellite x = some (false, c') := by unfold spec_IsSatellite; rw [p3]; simp only [Option.bind_some, hb, cond_true]
      have a5 : impl_ParentOf x = some (dP, c') := by unfold impl_ParentOf; rw [p2]; simp only [Option.bind_some, hb, cond_true]
      have a6 : spec_ParentOf x = some (dP, c') := by unfold spec_ParentOf; rw [p3]; simp only [Option.bind_some, hb, cond_true]
      have a7 : impl_DepthOf x = some (0, c') := by unfold impl_DepthOf; rw [p2]; simp only [Option.bind_some, hb, cond_true]
      have a8 : spec_DepthOf x = some (0, c') := by unfold spec_DepthOf; rw [p3]; simp only [Option.bind_some, hb, cond_true]
      simp only [a1, a2, a3, a4, a5, a6, a7, a8, y1, w1, w2, k1, r1, r2, Option.bind_some, bne_self_eq_false, cond_false, beq_self_eq_true, Bool.and_self, Bool.not_true, pairs9_same w3, nest_loop w3 w4 w5, alt, hb, cond_true]
    · obtain ⟨W, a1, a2, a3⟩ := width_same p2 p3 mP mps m2 m8 mN
      obtain ⟨a4, a5⟩ := sat_same p2 p3 mP mps m2 m8 mN
      obtain ⟨D, b1, b2, b3⟩ := depth_same p2 p3 mP mps m2 m8 mN
      obtain ⟨Q, c4, b4, b5, b6, b7⟩ := parent_same p2 p3 mP mps m2 m8 mN
      have o1 := orbit_ok p2 p3 mP mps m2 m8 mN
      obtain ⟨g1, g2⟩ := NP_PP m2 m8 mN
      have hol : (orbL P.1 (pg P.1)).length ≤ 1000 := by
        rw [orbL_len, g1.a.per]; omega
      have hsat : decide (P.2.1 ∈ orbL P.1 (pg P.1)) = sat P := rfl
      simp only [a1, a2, a4, a5, b1, b2, b4, b5, y1, w1, w2, k1, r1, r2, Option.bind_some, bne_self_eq_false, cond_false, beq_self_eq_true, Bool.and_self, Bool.not_true, pairs9_same w3, nest_loop w3 w4 w5, alt, p2, a3, o1, met_loop hol, hsat]
      by_cases h4 : c4 = 0
      · subst h4
        obtain ⟨gQ, i1, i2⟩ := b7 rfl
        have l1 := less9_ok gQ.a g1.a.isA
        rw [decide_eq_true ((lt_val gQ.a g1.a.isA).2 i1.1)] at l1
        have l2 := less9_ok g1.b.isA gQ.b
        rw [decide_eq_true ((lt_val g1.b.isA gQ.b).2 i2.2)] at l2
        simp only [bne_self_eq_false, cond_false, l1, l2, Option.bind_some, cond_true]
      · have hb : (c4 != 0) = true := by simpa using h4
        have hD : D = [] := by
          refine List.eq_nil_iff_forall_not_mem.2 fun R hR => ?_
          obtain ⟨d1, d2⟩ := b3 R hR
          exact b6 h4 R d1 d2
        subst hD
        simp only [hb, cond_true]
        rfl
  · have hd : decide (((code.length : Nat) : Int) > 4096) = true := decide_eq_true (by omega)
    rw [hd]; rfl
end Go.K.Pure

