/- Part 1 of an evaluator of the language's code on plain values, with the proof that what it gives is what the code does; no condition. -/
import Derived.Test.YtnknjfjbihogoaaK3
import Derived.Shelf.SlSortCmp.NoneTotal
import Derived.Sort.AssemblyPlain
import Derived.Shelf.Strings.Repeat
import Derived.Shelf.Strings.Search3
import Derived.Shelf.Small.Strs
set_option linter.all false
/- K, part S1: slices.SortFunc at aggregates of scalars. -/
set_option linter.unusedVariables false
set_option linter.unusedSimpArgs false
namespace Go.K
open Go.Shelf Go.Proofs Go.Sort

def Ty.plain : Ty → Bool
  | .int _ | .bool | .str | .unit => true
  | .pair a b => a.plain && b.plain
  | _ => false
def cellsOf : (t : Ty) → t.den → List Value
  | .int k, n => [.int k n]
  | .bool, b => [.bool b]
  | .str, s => [.string ⟨s.toArray⟩]
  | .pair a b, x => cellsOf a x.1 ++ cellsOf b x.2
  | _, _ => []
theorem rep_plain {w : World} {Z : BSet} : ∀ {t : Ty} {x : t.den} {cs : List Value} {F : BSet}, t.plain = true → Rep w Z t .fr x cs F → cs = cellsOf t x
  | .int k, x, cs, F, hp, h => by
    rcases h with ⟨_, h, _⟩ | ⟨h, _⟩
    · exact h
    · cases h
  | .bool, x, cs, F, hp, h => by
    rcases h with ⟨_, h, _⟩ | ⟨h, _⟩
    · exact h
    · cases h
  | .str, x, cs, F, hp, h => by
    rcases h with ⟨_, h, _⟩ | ⟨h, _⟩
    · exact h
    · cases h
  | .unit, x, cs, F, hp, h => h.1
  | .pair a b, x, cs, F, hp, h => by
    simp only [Ty.plain, Bool.and_eq_true] at hp
    obtain ⟨c1, c2, F1, F2, rfl, h1, h2, _⟩ := h
    rw [rep_plain hp.1 h1, rep_plain hp.2 h2]; rfl
  | .sl .., x, cs, F, hp, h => by cases hp
  | .ptr _, x, cs, F, hp, h => by cases hp
  | .arr .., x, cs, F, hp, h => by cases hp
  | .mp .., x, cs, F, hp, h => by cases hp
theorem plain_rep {w : World} {Z : BSet} : ∀ {t : Ty} {x : t.den}, t.plain = true → Rep w Z t .fr x (cellsOf t x) (fun _ => False)
  | .int k, x, hp => .inl ⟨by simp, rfl, fun _ h => h⟩
  | .bool, x, hp => .inl ⟨by simp, rfl, fun _ h => h⟩
  | .str, x, hp => .inl ⟨by simp, rfl, fun _ h => h⟩
  | .unit, x, hp => ⟨rfl, fun _ h => h⟩
  | .pair a b, x, hp => by
    simp only [Ty.plain, Bool.and_eq_true] at hp
    exact ⟨_, _, _, _, rfl, plain_rep hp.1, plain_rep hp.2, Join.none⟩
  | .sl .., x, hp => by cases hp
  | .ptr _, x, hp => by cases hp
  | .arr .., x, hp => by cases hp
  | .mp .., x, hp => by cases hp
theorem plain_cells {t : Ty} {x : t.den} (hp : t.plain = true) : (cellsOf t x).length = t.cells := (plain_rep (w := default) (Z := fun _ => False) (x := x) hp).length
theorem plain_one {t : Ty} {x : t.den} (hp : t.plain = true) : ∀ v ∈ cellsOf t x, v.oneCell' = true := (plain_rep (w := default) (Z := fun _ => False) (x := x) hp).one
theorem elems_plain {w : World} {Z : BSet} {e : Ty} (hp : e.plain = true) : ∀ {xs : List e.den} {cs : List Value} {F : BSet}, ElemsRep (fun y => Rep w Z e .fr y) xs cs F → cs = xs.flatMap (cellsOf e) ∧ E0 F
  | [], _, _, h => h
  | x :: xs, _, _, ⟨c1, c2, F1, F2, h0, h1, h2, j⟩ => by
    obtain ⟨i1, i2⟩ := elems_plain hp h2
    refine ⟨by rw [h0, rep_plain hp h1, i1]; rfl, fun b hb => ?_⟩
    rcases (j.1 b).1 hb with hb | hb
    · exact h1.e0 rfl b hb
    · exact i2 b hb
theorem plain_elems {w : World} {Z : BSet} {e : Ty} (hp : e.plain = true) : ∀ {xs : List e.den}, ElemsRep (fun y => Rep w Z e .fr y) xs (xs.flatMap (cellsOf e)) (fun _ => False)
  | [] => ⟨rfl, fun _ h => h⟩
  | x :: xs => ⟨_, _, _, _, by rw [List.flatMap_cons], plain_rep hp, plain_elems hp, Join.none⟩

/-- Less, by a comparison that may fail. -/
def ltO {α : Type} (cf : α → α → Option Int) (x y : α) : Bool := match cf x y with | some r => decide (r < 0) | none => false
/-- On these elements the comparison is a strict weak order. -/
structure Ordered {α : Type} (cf : α → α → Option Int) (xs : List α) : Prop where
  small : xs.length < 4611686018427387904
  tot : ∀ x ∈ xs, ∀ y ∈ xs, ∃ r, cf x y = some r
  irrefl : ∀ x ∈ xs, ltO cf x x = false
  trans : ∀ x ∈ xs, ∀ y ∈ xs, ∀ z ∈ xs, ltO cf x y = true → ltO cf y z = true → ltO cf x z = true
  ntrans : ∀ x ∈ xs, ∀ y ∈ xs, ∀ z ∈ xs, ltO cf x y = false → ltO cf y z = false → ltO cf x z = false
def cfm {α : Type} (cf : α → α → Option Int) (xs : List α) (x y : {x // x ∈ xs}) : Int := (cf x.1 y.1).getD 0
theorem ltm {α : Type} {cf : α → α → Option Int} {xs : List α} (h : Ordered cf xs) (x y : {x // x ∈ xs}) : ltOf (cfm cf xs) x y = ltO cf x.1 y.1 := by
  obtain ⟨r, hr⟩ := h.tot x.1 x.2 y.1 y.2
  simp only [ltOf, cfm, ltO, hr, Option.getD_some]
theorem swom {α : Type} {cf : α → α → Option Int} {xs : List α} (h : Ordered cf xs) : SWO (ltOf (cfm cf xs)) where
  irrefl x := by rw [ltm h]; exact h.irrefl x.1 x.2
  trans x y z := by rw [ltm h, ltm h, ltm h]; exact h.trans _ x.2 _ y.2 _ z.2
  ntrans x y z := by rw [ltm h, ltm h, ltm h]; exact h.ntrans _ x.2 _ y.2 _ z.2
open Classical in
/-- What slices.SortFunc leaves. -/
noncomputable def sortOf {α : Type} (cf : α → α → Option Int) (xs : List α) : Option (List α) :=
  if h : Ordered cf xs then
    if hx : xs = [] then some [] else
      haveI : Inhabited {x // x ∈ xs} := ⟨⟨xs.head hx, List.head_mem hx⟩⟩
      some ((pdq (ltOf (cfm cf xs)) xs.attach.toArray 0 xs.length (Lib.bitLen xs.length) true true).toList.map (·.1))
  else none
theorem sortOf_ok {α : Type} {cf : α → α → Option Int} {xs : List α} (h : Ordered cf xs) : ∃ ys, sortOf cf xs = some ys ∧ ys.Perm xs ∧ ys.Pairwise fun a b => ltO cf b a = false := by
  unfold sortOf
  rw [dif_pos h]
  by_cases hx : xs = []
  · subst hx
    exact ⟨[], by rw [dif_pos rfl], List.Perm.refl _, List.Pairwise.nil⟩
  · rw [dif_neg hx]
    letI : Inhabited {x // x ∈ xs} := ⟨⟨xs.head hx, List.head_mem hx⟩⟩
    have hsz : xs.attach.toArray.size = xs.length := by simp
    obtain ⟨⟨p1, p2, p3⟩, s⟩ := pdq_sorts (ltOf (cfm cf xs)) (swom h) xs.attach.toArray 0 xs.length (Lib.bitLen xs.length) true true (Nat.zero_le _) (by rw [hsz]; exact Nat.le_refl _) (Or.inl rfl)
    refine ⟨_, rfl, ?_, ?_⟩
    · generalize pdq (ltOf (cfm cf xs)) xs.attach.toArray 0 xs.length (Lib.bitLen xs.length) true true = d at p1 p3
      rw [hsz] at p1
      have e1 : d.extract 0 xs.length = d := by rw [← p1]; simp
      have e2 : xs.attach.toArray.extract 0 xs.length = xs.attach.toArray := by rw [← hsz, Array.extract_size]
      rw [e1, e2] at p3
      have := p3.map (·.1)
      simpa using this
    · generalize pdq (ltOf (cfm cf xs)) xs.attach.toArray 0 xs.length (Lib.bitLen xs.length) true true = d at p1 s
      rw [hsz] at p1
      rw [List.pairwise_map, List.pairwise_iff_getElem]
      intro i j hi hj hij
      have hj' : j < d.size := by simpa using hj
      have hi' : i < d.size := by simpa using hi
      have := s i j (Nat.zero_le _) hij (by omega)
      rw [ltm h, getElem!_pos d j hj', getElem!_pos d i hi'] at this
      simpa using this

theorem muts_nil : ∀ (i : Nat) (vs : List Value), mutsOf (modeOf []) i vs = []
  | _, [] => rfl
  | i, _ :: vs => by
    unfold mutsOf
    exact muts_nil (i + 1) vs
theorem grown_of {w w' : World} (h : @Ext drA w w' (fun _ => False)) : ∃ q os, w' = grow (w.drewN q) os := by
  refine ⟨w'.drawn - w.drawn, w'.heap.extract w.heap.size w'.heap.size, ?_⟩
  have hh : w'.heap = w.heap ++ w'.heap.extract w.heap.size w'.heap.size := by
    apply Array.ext_getElem?
    intro k
    rw [Array.getElem?_append]
    by_cases hk : k < w.heap.size
    · rw [if_pos hk, h.block k hk (fun h => h)]
    · rw [if_neg hk, Array.getElem?_extract]
      have := h.size
      by_cases h2 : k < w'.heap.size
      · rw [if_pos (by omega)]; congr 1; omega
      · rw [if_neg (by omega)]; simp; omega
  obtain ⟨h1, h2, h3, h4, h5, h6⟩ := h
  replace h6 : w.drawn ≤ w'.drawn := h6
  cases w; cases w'
  simp only [grow, World.drewN] at *
  subst h1; subst h2; subst h3
  congr 1
  omega
theorem flat_get {α : Type} {enc : α → List Value} {k : Nat} (hk : ∀ x, (enc x).length = k) : ∀ (d : List α) (t : Nat), t < d.length * k → ∃ x, d[t / k]? = some x ∧ (d.flatMap enc)[t]? = (enc x)[t % k]?
  | [], t, h => by simp at h
  | x :: d, t, h => by
    have k0 : 0 < k := by
      rcases Nat.eq_zero_or_pos k with h0 | h0
      · subst h0; simp at h
      · exact h0
    by_cases ht : t < k
    · refine ⟨x, by rw [Nat.div_eq_of_lt ht]; rfl, ?_⟩
      rw [List.flatMap_cons, List.getElem?_append_left (by rw [hk]; exact ht), Nat.mod_eq_of_lt ht]
    · have ht' : k ≤ t := by omega
      obtain ⟨y, h1, h2⟩ := flat_get hk d (t - k) (by simp only [List.length_cons, Nat.add_mul, Nat.one_mul] at h; omega)
      refine ⟨y, ?_, ?_⟩
      · rw [Nat.div_eq_sub_div k0 ht', List.getElem?_cons_succ]; exact h1
      · rw [List.flatMap_cons, List.getElem?_append_right (by rw [hk]; exact ht'), hk, Nat.mod_eq_sub_mod ht']; exact h2
theorem flat_len {α : Type} {enc : α → List Value} {k : Nat} (hk : ∀ x, (enc x).length = k) : ∀ (d : List α), (d.flatMap enc).length = d.length * k
  | [] => by simp
  | x :: d => by rw [List.flatMap_cons, List.length_append, hk, flat_len hk d, List.length_cons, Nat.add_mul, Nat.one_mul, Nat.add_comm]
theorem flatK_eq {α : Type} [Inhabited α] {enc : α → List Value} {k : Nat} (hk : ∀ x, (enc x).length = k) (d : Array α) : flatK enc k d = (d.toList.flatMap enc).toArray := by
  apply Array.ext_getElem?
  intro t
  by_cases ht : t < d.size * k
  · obtain ⟨x, h1, h2⟩ := flat_get hk d.toList t (by simpa using ht)
    have ht' : t < (flatK enc k d).size := by simpa using ht
    have := get_flatK enc k d t ht
    rw [getElem!_pos _ t ht'] at this
    rw [Array.getElem?_eq_getElem ht', this, List.getElem?_toArray, h2]
    have h3 : d[t / k]! = x := by
      have : d[t / k]? = some x := by simpa using h1
      simp [getElem!_def, this]
    rw [h3]
    have h4 : t % k < (enc x).length := by
      rw [hk]
      refine Nat.mod_lt _ ?_
      rcases Nat.eq_zero_or_pos k with h0 | h0
      · subst h0; simp at ht
      · exact h0
    rw [getElem!_pos (enc x) (t % k) h4, List.getElem?_eq_getElem h4]
  · rw [Array.getElem?_eq_none (by simpa using ht), Array.getElem?_eq_none]
    simpa [flat_len hk] using ht
theorem attach_flat {α : Type} (enc : α → List Value) (xs : List α) : xs.attach.flatMap (fun x => enc x.1) = xs.flatMap enc := by
  simp

noncomputable def sortS (T : Nat) (e : Ty) (cg : Nat) (cs : List ASh) (cf : denL cs → e.den → e.den → Option Int) : Spec :=
  ⟨[.v (.sl T e) (.own .fr), .fn cg [] cs], List e.den, fun v => sortOf (cf v.2.1.2) v.1, fun r => ([], [.v (.sl T e) (.own .fr) r])⟩
theorem one_val {V U : Value} (h : V.cells.toList = [U]) (ha : (false = true) ↔ ∃ cs, V = .agg cs) : V = U := by
  cases V <;> simp_all [Value.cells]
theorem Ordered.of_some {α : Type} {cf : α → α → Option Int} {xs ys : List α} (h : sortOf cf xs = some ys) : Ordered cf xs := by
  unfold sortOf at h
  split at h
  · assumption
  · cases h
variable [drI : Dr]
theorem sortFunc_main {P : Program} {ρ : Ren} (L : SlLaysF0.n6 P ρ) {T : Nat} {e : Ty} (hp : e.plain = true) (ha : e.isAgg = true)
    (aE : ∀ w, (isAgg (ρ.t 24)).run P w = .ok true w) (zE : ∀ w, (Go.sizeOf (ρ.t 24)).run P w = .ok e.cells w)
    {cg : Nat} {cs : List ASh} {φc : List Arg → Out (List Arg × List Arg)} (hc : @FnIs drA P cg (modeOf []) φc) {cf : denL cs → e.den → e.den → Option Int}
    (hφ : ∀ c x y r, cf c x y = some r → (φc (.v e .fr x :: .v e .fr y :: encL cs c)).run = some ([.v (.int .i64) .fr r], []))
    {c : denL cs} {xs ys : List e.den} (hs : sortOf (cf c) xs = some ys) {w : World} {Z Fo : BSet} {vs : List Value}
    (hA : ArgsRep w Z [.v (.sl T e) (.own .fr) xs, .fn cg [] (encL cs c)] vs Fo) (hZ : ∀ b, Z b → b < w.heap.size) (hF : ∀ b, Fo b → ¬ Z b ∧ b < w.heap.size) :
    Calls P (ρ.f 6) vs.toArray w fun e' w' => match e' with
      | .returned v => CallPost w w' Z Fo (mutsOf (modeOf [.mut]) 0 vs) [] [.v (.sl T e) (.own .fr) ys] v
      | _ => False := by
  obtain ⟨V, Vs', F1, F2, rfl, h1, ⟨V2, Vs2, F3, F4, rfl, h3, ⟨rfl, h4⟩, j2⟩, j1⟩ := hA
  obtain ⟨⟨V', cells, Fe, hV, ho, hE, hFb, hFd⟩, hag⟩ := h1
  have := one_val hV hag
  subst this
  obtain ⟨h3, _⟩ := h3
  have hord := Ordered.of_some hs
  obtain ⟨ys', hy1, hy2, _⟩ := sortOf_ok hord
  rw [hs] at hy1
  replace hy1 := Option.some.inj hy1
  subst hy1
  have hlen : ys.length = xs.length := hy2.length_eq
  obtain ⟨hcl, hFe⟩ := elems_plain hp hE
  have hag' : ∀ {V : Value}, (∃ A n c, V = .slice A n c) → ((Ty.sl T e).isAgg = true ↔ ∃ cs, V = .agg cs) := by
    rintro V ⟨A, n, c, rfl⟩
    simp [Ty.isAgg]
  cases h3 with
  | fn h3f h3c =>
  rename_i fs cb
  cases h3f
  by_cases hx : xs = []
  · subst hx
    have hy : ys = [] := by
      cases ys with
      | nil => rfl
      | cons a l => simp at hlen
    subst hy
    have key : ∀ A c, V = .slice A 0 c → Calls P (ρ.f 6) #[V, .func (.func cg) [].toArray cb.toArray] w fun e' w' => match e' with
      | .returned v => CallPost w w' Z Fo (mutsOf (modeOf [.mut]) 0 [V, .func (.func cg) [].toArray cb.toArray]) [] [.v (.sl T e) (.own .fr) []] v
      | _ => False := by
      rintro A c' rfl
      refine (AnyF.slices_SortFunc_none L A c' _ w).mono ?_
      rintro e' w' ⟨rfl, rfl⟩
      refine ⟨Z, fun _ => False, F1, [], Ext.refl _ _, fun b h => h, fun b h => ⟨hZ b h, .inl h⟩, .inr ⟨by simp, _, rfl, rfl⟩, ⟨rfl, fun _ h => h⟩, ?_, ?_, fun b h => h.elim⟩
      · exact ⟨_, _, F1, fun _ => False, rfl, ⟨⟨_, cells, Fe, rfl, ho, hE, hFb, hFd⟩, hag' ⟨_, _, _, rfl⟩⟩, ⟨rfl, fun _ h => h⟩, fun b => by simp, fun b _ h => h⟩
      · rintro b (hb | hb)
        · exact hb.elim
        · have hb' : Fo b := (j1.1 b).2 (.inl hb)
          exact ⟨(hF b hb').1, (hF b hb').2, .inl hb'⟩
    rcases ho.2 with ⟨hVe, _⟩ | ⟨g, cap, cur, hVe, _⟩
    · exact key _ _ hVe
    · exact key _ _ hVe
  · rcases ho.2 with ⟨_, h0⟩ | ⟨g, cap, cur, rfl, _, hg, hle, hcap, hcur, htake⟩
    · exact absurd (List.length_eq_zero_iff.1 h0) hx
    letI : Inhabited {x // x ∈ xs} := ⟨⟨xs.head hx, List.head_mem hx⟩⟩
    have hgF : F1 g := (hFb g).2 (.inl rfl)
    have hgFo : Fo g := (j1.1 g).2 (.inl hgF)
    obtain ⟨hgZ, hgs⟩ := hF g hgFo
    have hk : ∀ x : {x // x ∈ xs}, (cellsOf e x.1).length = e.cells := fun x => plain_cells hp
    have hone : ∀ x : {x // x ∈ xs}, ∀ v ∈ cellsOf e x.1, v.oneCell' = true := fun x => plain_one hp
    have hfl : flatK (fun x : {x // x ∈ xs} => cellsOf e x.1) e.cells xs.attach.toArray = cells.toArray := by
      rw [flatK_eq hk, hcl]
      congr 1
      exact attach_flat _ _
    have hHolds : HoldsK (fun x : {x // x ∈ xs} => cellsOf e x.1) e.cells w g 0 xs.attach.toArray := by
      unfold HoldsK
      rw [hfl]
      intro j hj
      have hj' : j < cells.length := by simpa using hj
      have hc1 := ho.cells rfl j cells[j] (List.getElem?_eq_getElem hj')
      rw [add_mem, Nat.zero_add] at hc1
      rw [Nat.zero_add]
      refine ⟨by rw [hc1]; simp [hj'], ?_⟩
      unfold World.frozen?
      simp only [hg]
      simp
    have hsz : xs.attach.toArray.size = xs.length := by simp
    have hcmp : CmpLays P cg cb.toArray (fun x : {x // x ∈ xs} => cellsOf e x.1) e.cells (cfm (cf c) xs) g 0 xs.attach.toArray.size w := by
      intro m os dk hdk x y
      obtain ⟨r, hr⟩ := hord.tot x.1 x.2 y.1 y.2
      have hblk : ∀ b, b < w.heap.size → b ≠ g → (sortWorldK (fun x : {x // x ∈ xs} => cellsOf e x.1) e.cells w g 0 m dk os).heap[b]? = w.heap[b]? := by
        intro b hb hbg
        simp only [sortWorldK, grow, putRowK, putRow, mapBlock, Sort.ahead]
        rw [Array.getElem?_append_left (by simpa using hb), Array.getElem?_modify, if_neg (Ne.symm hbg)]
      have hsz' : w.heap.size ≤ (sortWorldK (fun x : {x // x ∈ xs} => cellsOf e x.1) e.cells w g 0 m dk os).heap.size := by
        simp [sortWorldK, grow, putRowK, putRow, mapBlock, Sort.ahead]
      generalize sortWorldK (fun x : {x // x ∈ xs} => cellsOf e x.1) e.cells w g 0 m dk os = W at hblk hsz'
      have hZW : ∀ b, Z b → Z b ∧ W.heap[b]? = w.heap[b]? := fun b hb => ⟨hb, hblk b (hZ b hb) (fun h => hgZ (h ▸ hb))⟩
      have hag2 : ∀ z : e.den, (e.isAgg = true ↔ ∃ cs, Value.agg (cellsOf e z).toArray = .agg cs) := fun z => ⟨fun _ => ⟨_, rfl⟩, fun _ => ha⟩
      have hcall := (hc _ _ _ (hφ c x.1 y.1 r hr)).2 W Z (fun _ => False) (.agg (cellsOf e x.1).toArray :: .agg (cellsOf e y.1).toArray :: cb)
        ⟨_, _, fun _ => False, fun _ => False, rfl, ⟨by simpa [Value.cells] using plain_rep hp, hag2 _⟩, ⟨_, _, fun _ => False, fun _ => False, rfl, ⟨by simpa [Value.cells] using plain_rep hp, hag2 _⟩, (h3c.frame hZW).argsRep, Join.none⟩, Join.none⟩
        (fun b hb => Nat.lt_of_lt_of_le (hZ b hb) hsz') (fun b h => h.elim)
      have e1 : (#[Value.agg (cellsOf e x.1).toArray, .agg (cellsOf e y.1).toArray] ++ cb.toArray) = (Value.agg (cellsOf e x.1).toArray :: .agg (cellsOf e y.1).toArray :: cb).toArray := by simp
      rw [e1]
      refine hcall.mono ?_
      intro e' w' hpost
      cases e' with
      | returned v =>
        obtain ⟨Z', Fr, Fb, vals, p1, p2, p3, p4, p5, p6, p7, p8⟩ := hpost
        refine ⟨?_, grown_of p1⟩
        obtain ⟨V0, Vs0, G1, G2, rfl, q1, ⟨rfl, _⟩, _⟩ := p5
        rcases p4 with ⟨_, p4⟩ | ⟨p4, _⟩
        · simp only [List.cons.injEq, and_true] at p4
          subst p4
          obtain ⟨q2, q3⟩ := q1
          rcases q2 with ⟨_, q2, _⟩ | ⟨q2, _⟩
          · rw [one_val q2 q3]
            simp only [cfm, hr, Option.getD_some]
          · cases q2
        · simp at p4
      | _ => exact hpost.elim
    have eg : ∀ args w, (callFunc cg args).run P w = .ok (.enter cg args) w := by
      obtain ⟨x⟩ : Nonempty {x // x ∈ xs} := ⟨⟨xs.head hx, List.head_mem hx⟩⟩
      obtain ⟨r, hr⟩ := hord.tot x.1 x.2 x.1 x.2
      obtain ⟨⟨fn, f1, f2, f3⟩, _⟩ := hc _ _ _ (hφ c x.1 x.1 r hr)
      cases hb : fn.body with
      | none => rw [hb] at f2; cases f2
      | some code => exact enters_of f1 f3 hb
    have hsw : (if h : xs = [] then some [] else some ((pdq (ltOf (cfm (cf c) xs)) xs.attach.toArray 0 xs.length (Lib.bitLen xs.length) true true).toList.map (·.1))) = some ys := by
      rw [← hs]
      unfold sortOf
      rw [dif_pos hord]
    rw [dif_neg hx] at hsw
    replace hsw := Option.some.inj hsw
    have hmain := AnyQ.slices_SortFunc_eq L e.cells aE zE (fun x : {x // x ∈ xs} => cellsOf e x.1) hk hone (cfm (cf c) xs) (swom hord) cg cb.toArray g 0 cap xs.attach.toArray w eg hcmp hHolds hgs (by rw [hsz]; exact hord.small)
    rw [hsz] at hmain
    refine hmain.mono ?_
    rintro e' w' ⟨rfl, n, os, rfl⟩
    generalize pdq (ltOf (cfm (cf c) xs)) xs.attach.toArray 0 xs.length (Lib.bitLen xs.length) true true = d' at hsw
    have hd' : d'.size = xs.length := by rw [← hlen, ← hsw]; simp
    have hfl' : flatK (fun x : {x // x ∈ xs} => cellsOf e x.1) e.cells d' = (ys.flatMap (cellsOf e)).toArray := by
      rw [flatK_eq hk, ← hsw, List.flatMap_map]
    have hfs : (ys.flatMap (cellsOf e)).length = xs.length * e.cells := by rw [flat_len (fun x => plain_cells hp), hlen]
    have hheap : ∀ b, b < w.heap.size → (sortWorldK (fun x : {x // x ∈ xs} => cellsOf e x.1) e.cells w g 0 n d' os).heap[b]? = if g = b then some (.cells (putCells id 0 (ys.flatMap (cellsOf e)).toArray cur) T (0, 0)) else w.heap[b]? := by
      intro b hb
      simp only [sortWorldK, grow, putRowK, putRow, mapBlock, Sort.ahead, hfl']
      rw [Array.getElem?_append_left (by simpa using hb), Array.getElem?_modify]
      split
      · rename_i h; subst h; rw [hg]; rfl
      · rfl
    refine ⟨Z, fun _ => False, fun b => b = g, [], ⟨rfl, rfl, rfl, ?_, ?_, ?_⟩, fun b h => h, fun b h => ⟨?_, .inl h⟩, .inr ⟨by simp, _, rfl, rfl⟩, ⟨rfl, fun _ h => h⟩, ?_, ?_, fun b h => h.elim⟩
    · simp [sortWorldK, grow, putRowK, putRow, mapBlock, Sort.ahead]
    · intro b hb hn
      rw [hheap b hb, if_neg (fun (h : g = b) => hn (h ▸ hgFo))]
    · exact Dr.of_le (by simp [sortWorldK, grow, putRowK, putRow, mapBlock, Sort.ahead])
    · refine Nat.lt_of_lt_of_le (hZ b h) ?_
      simp [sortWorldK, grow, putRowK, putRow, mapBlock, Sort.ahead]
    · refine ⟨_, _, fun b => b = g, fun _ => False, rfl, ⟨⟨.slice (some ⟨g, 0, none⟩) xs.length cap, ys.flatMap (cellsOf e), fun _ => False, rfl, ⟨by rw [hfs, hlen], .inr ⟨g, cap, putCells id 0 (ys.flatMap (cellsOf e)).toArray cur, by rw [hlen], Nat.zero_le _, ?_, by rw [hlen]; exact hle, hcap, ?_, ?_⟩⟩, plain_elems hp, fun b => ?_, fun b _ h => h⟩, hag' ⟨_, _, _, rfl⟩⟩, ⟨rfl, fun _ h => h⟩, fun b => by simp, fun b _ h => h⟩
      · rw [hheap g hgs, if_pos rfl]
      · simp [putCells, hcur]
      · apply List.ext_getElem?
        intro t
        rw [hlen, List.getElem?_take]
        by_cases ht : t < xs.length * e.cells
        · have h5 : t < cur.size := by
            have := Nat.mul_le_mul_right e.cells hle
            omega
          have h6 : t < (ys.flatMap (cellsOf e)).length := by rw [hfs]; exact ht
          rw [if_pos ht]
          simp only [putCells, Array.getElem?_toList, Array.getElem?_mapIdx, Array.getElem?_eq_getElem h5, Option.map_some, List.getElem?_eq_getElem h6, Nat.zero_add, List.size_toArray, Nat.sub_zero]
          rw [if_pos ⟨Nat.zero_le _, h6⟩, getElem!_pos _ t (by simpa using h6)]
          rfl
        · rw [if_neg ht, List.getElem?_eq_none (by rw [hfs]; omega)]
      · simp [Value.ownBlock, eq_comm]
    · rintro b (hb | hb)
      · exact hb.elim
      · subst hb
        refine ⟨hgZ, Nat.lt_of_lt_of_le hgs ?_, .inl hgFo⟩
        simp [sortWorldK, grow, putRowK, putRow, mapBlock, Sort.ahead]
theorem sortFunc_is {P : Program} {ρ : Ren} (L : SlLaysF0.n6 P ρ) (hfn : ∃ fn, P.funcs[ρ.f 6]? = some fn ∧ fn.body.isSome = true ∧ (fn.name == "runtime.NumGoroutine") = false) {T : Nat} {e : Ty} (hp : e.plain = true) (ha : e.isAgg = true)
    (aE : ∀ w, (isAgg (ρ.t 24)).run P w = .ok true w) (zE : ∀ w, (Go.sizeOf (ρ.t 24)).run P w = .ok e.cells w)
    {cg : Nat} {cs : List ASh} {φc : List Arg → Out (List Arg × List Arg)} (hc : @FnIs drA P cg (modeOf []) φc) {cf : denL cs → e.den → e.den → Option Int}
    (hφ : ∀ c x y r, cf c x y = some r → (φc (.v e .fr x :: .v e .fr y :: encL cs c)).run = some ([.v (.int .i64) .fr r], []))
    : FnIs P (ρ.f 6) (modeOf [.mut]) (phi [sortS T e cg cs cf]) := by
  intro args res fin h
  refine ⟨hfn, fun w Z Fo vs hA hZ hF => ?_⟩
  simp only [phi] at h
  split at h
  rotate_left
  · cases h
  rename_i v hv
  obtain ⟨xs, ⟨u, c⟩, u'⟩ := v
  have hargs := decL_ok hv
  subst hargs
  simp only [sortS, Out.run] at h
  cases hs : sortOf (cf c) xs with
  | none => rw [hs] at h; cases h
  | some ys =>
  rw [hs] at h
  simp only [Option.bind_some, Option.some.injEq, Prod.mk.injEq] at h
  obtain ⟨rfl, rfl⟩ := h
  exact sortFunc_main L hp ha aE zE hc hφ hs hA hZ hF
end Go.K

/- K, part S5: functions of plain values by their contracts. -/
set_option linter.unusedVariables false
set_option linter.unusedSimpArgs false
namespace Go.K
open Go.Shelf Go.Proofs Go.RowKit

def Ty.scal : Ty → Bool | .int _ | .bool | .str => true | _ => false
def sval : (t : Ty) → t.den → Value
  | .int k, n => .int k n
  | .bool, b => .bool b
  | .str, s => .string ⟨s.toArray⟩
  | _, _ => .nilFunc
theorem sval_of {w : World} {Z : BSet} {t : Ty} {x : t.den} {V : Value} {F : BSet} (hs : t.scal = true) (h : VRep w Z t .fr x V F) : V = sval t x ∧ E0 F := by
  obtain ⟨h1, h2⟩ := h
  cases t with
  | int k => rcases h1 with ⟨_, h3, h4⟩ | ⟨h3, _⟩
             · exact ⟨one_val h3 (by simpa [Ty.isAgg] using h2), h4⟩
             · cases h3
  | bool => rcases h1 with ⟨_, h3, h4⟩ | ⟨h3, _⟩
            · exact ⟨one_val h3 (by simpa [Ty.isAgg] using h2), h4⟩
            · cases h3
  | str => rcases h1 with ⟨_, h3, h4⟩ | ⟨h3, _⟩
           · exact ⟨one_val h3 (by simpa [Ty.isAgg] using h2), h4⟩
           · cases h3
  | _ => cases hs
theorem sval_rep {w : World} {Z : BSet} {t : Ty} {x : t.den} (hs : t.scal = true) : VRep w Z t .fr x (sval t x) (fun _ => False) := by
  cases t with
  | int k => exact ⟨.inl ⟨by simp, rfl, fun _ h => h⟩, by simp [Ty.isAgg, sval]⟩
  | bool => exact ⟨.inl ⟨by simp, rfl, fun _ h => h⟩, by simp [Ty.isAgg, sval]⟩
  | str => exact ⟨.inl ⟨by simp, rfl, fun _ h => h⟩, by simp [Ty.isAgg, sval]⟩
  | _ => cases hs
def frs : List Ty → List ASh
  | [] => []
  | t :: ts => .v t .fr :: frs ts
def svals : (ts : List Ty) → denL (frs ts) → List Value
  | [], _ => []
  | t :: ts, x => sval t x.1 :: svals ts x.2
theorem svals_of {w : World} {Z : BSet} : ∀ {ts : List Ty} {x : denL (frs ts)} {vs : List Value} {F : BSet}, ts.all Ty.scal = true → ArgsRep w Z (encL (frs ts) x) vs F → vs = svals ts x ∧ E0 F
  | [], x, vs, F, _, h => h
  | t :: ts, x, vs, F, ht, h => by
    simp only [List.all_cons, Bool.and_eq_true] at ht
    obtain ⟨V, Vs, F1, F2, rfl, h1, h2, j⟩ := h
    obtain ⟨rfl, e1⟩ := sval_of ht.1 h1
    obtain ⟨rfl, e2⟩ := svals_of ht.2 h2
    refine ⟨rfl, fun b hb => ?_⟩
    rcases (j.1 b).1 hb with hb | hb
    · exact e1 b hb
    · exact e2 b hb
theorem svals_rep {w : World} {Z : BSet} : ∀ {ts : List Ty} {x : denL (frs ts)}, ts.all Ty.scal = true → ArgsRep w Z (encL (frs ts) x) (svals ts x) (fun _ => False)
  | [], x, _ => ⟨rfl, fun _ h => h⟩
  | t :: ts, x, ht => by
    simp only [List.all_cons, Bool.and_eq_true] at ht
    exact ⟨_, _, _, _, rfl, sval_rep ht.1, svals_rep ht.2, Join.none⟩
/-- One value, or a tuple of some. -/
def retVal (l : List Value) : Value := match l with | [v] => v | l => .tuple l.toArray
def flatS (ts rs : List Ty) (f : denL (frs ts) → Option (denL (frs rs))) : Spec := ⟨frs ts, denL (frs rs), f, fun r => (encL (frs rs) r, [])⟩
theorem modeOf_nil_muts : ∀ (l : List Value) (i : Nat), mutsOf (modeOf []) i l = []
  | [], _ => rfl
  | _ :: l, i => modeOf_nil_muts l (i + 1)
theorem lens_svals {rs : List Ty} : ∀ (y : denL (frs rs)), (encL (frs rs) y).length = (svals rs y).length := by
  induction rs with
  | nil => intro y; rfl
  | cons t rs ih => intro y; simp [frs, encL, svals, ih]
/-- What holds of draws is forgotten. -/
theorem weak_is {P : Program} {g : Nat} {m : Nat → Mode} {φ : List Arg → Out (List Arg × List Arg)} (h : @FnIs drA P g m φ) : @FnIs drZ P g m φ := by
  intro args res fin h1
  obtain ⟨h2, h3⟩ := h args res fin h1
  refine ⟨h2, fun w Z Fo vs hA hZ hF => (h3 w Z Fo vs hA hZ hF).mono ?_⟩
  intro e w' he
  cases e with
  | returned v =>
    obtain ⟨Z', Fr, Fb, vals, hx, r⟩ := he
    exact @CallPost.mk drZ _ _ _ _ _ _ _ _ ⟨Z', Fr, Fb, vals, @Ext.mk drZ _ _ _ hx.os hx.tape hx.output hx.size hx.block trivial, r⟩
  | _ => exact he
variable [drI : Dr]
theorem flatG_is {P : Program} {g : Nat} {ts : List Ty} {β : Type} {f : denL (frs ts) → Option β} {out : β → List Arg × List Arg} {ret : β → List Value} (hts : ts.all Ty.scal = true)
    (hout : ∀ y, ∃ (rs : List Ty) (x : denL (frs rs)), rs.all Ty.scal = true ∧ out y = (encL (frs rs) x, []) ∧ ret y = svals rs x)
    (hfn : ∃ fn, P.funcs[g]? = some fn ∧ fn.body.isSome = true ∧ (fn.name == "runtime.NumGoroutine") = false)
    (H : ∀ x y w, f x = some y → Calls P g (svals ts x).toArray w fun e w' => e = .returned (retVal (ret y)) ∧ Below w.heap.size w w' ∧ Dr.le w.drawn w'.drawn) :
    FnIs P g (modeOf []) (phi [⟨frs ts, β, f, out⟩]) := by
  intro args res fin h
  refine ⟨hfn, fun w Z Fo vs hA hZ hF => ?_⟩
  simp only [phi] at h
  split at h
  rotate_left
  · cases h
  rename_i x hx
  have hargs := decL_ok hx
  subst hargs
  simp only [Out.run] at h
  cases hf : f x with
  | none => rw [hf] at h; cases h
  | some y =>
  rw [hf] at h
  simp only [Option.bind_some, Out.run, Option.some.injEq] at h
  obtain ⟨rs, z, hrs, ho, hr⟩ := hout y
  rw [ho] at h
  simp only [Prod.mk.injEq] at h
  obtain ⟨rfl, rfl⟩ := h
  obtain ⟨rfl, hE⟩ := svals_of hts hA
  rw [modeOf_nil_muts]
  refine (H x y w hf).mono ?_
  rintro e w' ⟨rfl, hb, hd⟩
  rw [hr]
  refine ⟨Z, fun _ => False, fun _ => False, svals rs z, ⟨hb.os, hb.tape, hb.output, hb.size, fun b hb' _ => hb.block b hb', hd⟩, fun b h => h, fun b h => ⟨Nat.lt_of_lt_of_le (hZ b h) hb.size, .inl h⟩, ?_, svals_rep hrs, ⟨rfl, fun _ h => h⟩, ?_, fun b h _ => h⟩
  · rw [lens_svals]
    unfold unpack retVal
    split
    · rename_i v hv
      exact .inl ⟨by rw [hv]; rfl, hv⟩
    · rename_i hv
      refine .inr ⟨fun h1 => ?_, _, rfl, rfl⟩
      obtain ⟨v, hv1⟩ := List.length_eq_one_iff.1 h1
      exact hv v hv1
  · rintro b (hb' | hb') <;> exact hb'.elim
/-- A specification with one plain result. -/
theorem flat1_is {P : Program} {g : Nat} {ts : List Ty} {r : Ty} {f : denL (frs ts) → Option r.den} (hts : ts.all Ty.scal = true) (hr : r.scal = true)
    (hfn : ∃ fn, P.funcs[g]? = some fn ∧ fn.body.isSome = true ∧ (fn.name == "runtime.NumGoroutine") = false)
    (H : ∀ x y w, f x = some y → Calls P g (svals ts x).toArray w fun e w' => e = .returned (sval r y) ∧ Below w.heap.size w w' ∧ Dr.le w.drawn w'.drawn) :
    FnIs P g (modeOf []) (phi [⟨frs ts, r.den, f, fun y => ([.v r .fr y], [])⟩]) :=
  flatG_is (ret := fun y => [sval r y]) hts (fun y => ⟨[r], show denL (frs [r]) from (show r.den × Unit from (y, ())), by simp [hr], rfl, rfl⟩) hfn H

/-! strings.Repeat -/
def repeatOf (s : List UInt8) (n : Int) : Option (List UInt8) :=
  bif decide (0 ≤ n) && decide (n ≤ 9223372036854775807) && decide (s.length * n.toNat ≤ 140737488355328) then some (Lib.repeatL s n.toNat) else none
theorem repeat_calls {P : Program} {ρ : Ren} (L : Lays.n105 P ρ) (X : Builder.Extra P ρ) (s y : List UInt8) (n : Int) (w : World) (h : repeatOf s n = some y) :
    Calls P (ρ.f 105) #[.string ⟨s.toArray⟩, .int .i64 n] w fun e w' => e = .returned (.string ⟨y.toArray⟩) ∧ Below w.heap.size w w' := by
  unfold repeatOf at h
  cases hd : decide (0 ≤ n) && decide (n ≤ 9223372036854775807) && decide (s.length * n.toNat ≤ 140737488355328) with
  | false => rw [hd] at h; cases h
  | true =>
  rw [hd] at h
  simp only [cond_true, Option.some.injEq] at h
  subst h
  simp only [Bool.and_eq_true, decide_eq_true_eq] at hd
  obtain ⟨⟨h0, h1⟩, h2⟩ := hd
  obtain ⟨c, rfl⟩ := Int.eq_ofNat_of_zero_le h0
  exact Any.strings_Repeat L X ⟨s.toArray⟩ c w (by omega) (by simpa [ByteArray.size] using h2)
def repeatS : Spec := ⟨[.v .str .fr, .v (.int .i64) .fr], List UInt8, fun v => repeatOf v.1 v.2.1, fun r => ([.v .str .fr r], [])⟩
theorem repeat_is {P : Program} {ρ : Ren} (L : Lays.n105 P ρ) (X : Builder.Extra P ρ) (hfn : ∃ fn, P.funcs[ρ.f 105]? = some fn ∧ fn.body.isSome = true ∧ (fn.name == "runtime.NumGoroutine") = false)
    : @FnIs drZ P (ρ.f 105) (modeOf []) (phi [repeatS]) :=
  @flat1_is drZ P (ρ.f 105) [.str, .int .i64] .str (fun v => repeatOf v.1 v.2.1) rfl rfl hfn (by
    rintro ⟨s, n, _⟩ y w h
    refine (repeat_calls L X s y n w h).mono ?_
    rintro e w' ⟨rfl, hb⟩
    exact ⟨rfl, hb, trivial⟩)
/-! strings.Contains at one byte -/
def hasByte (s sub : List UInt8) : Option Bool := match sub with | [c] => some (decide (0 ≤ Lib.indexByte s c)) | _ => none
def containsS : Spec := ⟨[.v .str .fr, .v .str .fr], Bool, fun v => hasByte v.1 v.2.1, fun r => ([.v .bool .fr r], [])⟩
theorem contains_calls {P : Program} {ρ : Ren} (L : Lays.n144 P ρ) (s sub : List UInt8) (y : Bool) (w : World) (h : hasByte s sub = some y) :
    Calls P (ρ.f 144) #[.string ⟨s.toArray⟩, .string ⟨sub.toArray⟩] w fun e w' => e = .returned (.bool y) ∧ w' = w := by
  unfold hasByte at h
  split at h
  · simp only [Option.some.injEq] at h
    subst h
    exact Any.strings_Contains_one L ⟨s.toArray⟩ _ w
  · cases h
theorem contains_is {P : Program} {ρ : Ren} (L : Lays.n144 P ρ) (hfn : ∃ fn, P.funcs[ρ.f 144]? = some fn ∧ fn.body.isSome = true ∧ (fn.name == "runtime.NumGoroutine") = false)
    : FnIs P (ρ.f 144) (modeOf []) (phi [containsS]) :=
  flat1_is (ts := [.str, .str]) (r := .bool) (f := fun v => hasByte v.1 v.2.1) rfl rfl hfn (by
    rintro ⟨s, sub, _⟩ y w h
    refine (contains_calls L s sub y w h).mono ?_
    rintro e w' ⟨rfl, rfl⟩
    exact ⟨rfl, Below.refl _ _, Dr.refl _⟩)
end Go.K

/- K, part S11: strings.IndexByte, strings.Compare. -/
set_option linter.unusedVariables false
set_option linter.unusedSimpArgs false
namespace Go.K
open Go.Shelf Go.Proofs Go.RowKit
variable [drI : Dr]
/-! strings.IndexByte -/
def ixOf (s : List UInt8) (c : Int) : Option Int := some (Lib.indexByte s c.toNat.toUInt8)
def ixS : Spec := ⟨[.v .str .fr, .v (.int .u8) .fr], Int, fun v => ixOf v.1 v.2.1, fun r => ([.v (.int .i64) .fr r], [])⟩
theorem ix_calls {P : Program} {ρ : Ren} (L : Lays.n137 P ρ) (s : List UInt8) (c y : Int) (w : World) (h : ixOf s c = some y) :
    Calls P (ρ.f 137) #[.string ⟨s.toArray⟩, .int .u8 c] w fun e w' => e = .returned (.int .i64 y) ∧ w' = w := by
  unfold ixOf at h
  simp only [Option.some.injEq] at h
  subst h
  exact Any.strings_IndexByte L ⟨s.toArray⟩ c w
theorem ix_is {P : Program} {ρ : Ren} (L : Lays.n137 P ρ) (hfn : ∃ fn, P.funcs[ρ.f 137]? = some fn ∧ fn.body.isSome = true ∧ (fn.name == "runtime.NumGoroutine") = false)
    : FnIs P (ρ.f 137) (modeOf []) (phi [ixS]) :=
  @flat1_is drI P (ρ.f 137) [.str, .int .u8] (.int .i64) (fun v => ixOf v.1 v.2.1) rfl rfl hfn (by
    rintro ⟨s, c, _⟩ y w h
    refine (ix_calls L s c y w h).mono ?_
    rintro e w' ⟨rfl, rfl⟩
    exact ⟨rfl, Below.refl _ _, Dr.refl _⟩)
/-! strings.Compare -/
def cmpOf (a b : List UInt8) : Option Int := some (Lib.compareBytes a b)
def cmpS : Spec := ⟨[.v .str .fr, .v .str .fr], Int, fun v => cmpOf v.1 v.2.1, fun r => ([.v (.int .i64) .fr r], [])⟩
theorem cmp_calls {P : Program} {ρ : Ren} (L : Lays.n106 P ρ) (a b : List UInt8) (y : Int) (w : World) (h : cmpOf a b = some y) :
    Calls P (ρ.f 106) #[.string ⟨a.toArray⟩, .string ⟨b.toArray⟩] w fun e w' => e = .returned (.int .i64 y) ∧ w' = w := by
  unfold cmpOf at h
  simp only [Option.some.injEq] at h
  subst h
  exact Any.strings_Compare L ⟨a.toArray⟩ ⟨b.toArray⟩ w
theorem cmp_is {P : Program} {ρ : Ren} (L : Lays.n106 P ρ) (hfn : ∃ fn, P.funcs[ρ.f 106]? = some fn ∧ fn.body.isSome = true ∧ (fn.name == "runtime.NumGoroutine") = false)
    : FnIs P (ρ.f 106) (modeOf []) (phi [cmpS]) :=
  @flat1_is drI P (ρ.f 106) [.str, .str] (.int .i64) (fun v => cmpOf v.1 v.2.1) rfl rfl hfn (by
    rintro ⟨s, c, _⟩ y w h
    refine (cmp_calls L s c y w h).mono ?_
    rintro e w' ⟨rfl, rfl⟩
    exact ⟨rfl, Below.refl _ _, Dr.refl _⟩)
end Go.K

