/- Part 1 of an evaluator of the language's code on plain values, with the proof that what it gives is what the code does; no condition. -/
import Derived.Test.YtnknjfjbihogoaaGreatK3
import Derived.Shelf.SlSortCmp.NoneTotal
import Derived.Sort.AssemblyPlain
import Derived.RangeFuncGives
import Derived.RangeFuncBox
import Derived.RangeFuncLeaves
import Derived.OwnWalkIn
import Derived.TacticsInMore
import Derived.LoopNIn
import Derived.LoopIn
import Derived.Maps.AppendAt
import Derived.Maps.RangeWalk
import Derived.Lib.SliceRun
import Derived.Shelf.Strings.Repeat
import Derived.Shelf.Strings.Search3
import Derived.Shelf.Small.Strs
set_option linter.all false
/- K, part S1: slices.SortFunc at aggregates of scalars. -/
set_option linter.unusedVariables false
set_option linter.unusedSimpArgs false
namespace Go.K
open Go.Shelf Go.Proofs Go.Sort

def Ty.plain : Ty → Bool
  | .int _ | .bool | .str | .unit => true
  | .pair a b => a.plain && b.plain
  | _ => false
def cellsOf : (t : Ty) → t.den → List Value
  | .int k, n => [.int k n]
  | .bool, b => [.bool b]
  | .str, s => [.string ⟨s.toArray⟩]
  | .pair a b, x => cellsOf a x.1 ++ cellsOf b x.2
  | _, _ => []
theorem rep_plain {w : World} {Z : BSet} : ∀ {t : Ty} {x : t.den} {cs : List Value} {F : BSet}, t.plain = true → Rep w Z t .fr x cs F → cs = cellsOf t x
  | .int k, x, cs, F, hp, h => by
    rcases h with ⟨_, h, _⟩ | ⟨h, _⟩
    · exact h
    · cases h
  | .bool, x, cs, F, hp, h => by
    rcases h with ⟨_, h, _⟩ | ⟨h, _⟩
    · exact h
    · cases h
  | .str, x, cs, F, hp, h => by
    rcases h with ⟨_, h, _⟩ | ⟨h, _⟩
    · exact h
    · cases h
  | .unit, x, cs, F, hp, h => h.1
  | .pair a b, x, cs, F, hp, h => by
    simp only [Ty.plain, Bool.and_eq_true] at hp
    obtain ⟨c1, c2, F1, F2, rfl, h1, h2, _⟩ := h
    rw [rep_plain hp.1 h1, rep_plain hp.2 h2]; rfl
  | .sl .., x, cs, F, hp, h => by cases hp
  | .ptr _, x, cs, F, hp, h => by cases hp
  | .arr .., x, cs, F, hp, h => by cases hp
  | .mp .., x, cs, F, hp, h => by cases hp
theorem plain_rep {w : World} {Z : BSet} : ∀ {t : Ty} {x : t.den}, t.plain = true → Rep w Z t .fr x (cellsOf t x) (fun _ => False)
  | .int k, x, hp => .inl ⟨by simp, rfl, fun _ h => h⟩
  | .bool, x, hp => .inl ⟨by simp, rfl, fun _ h => h⟩
  | .str, x, hp => .inl ⟨by simp, rfl, fun _ h => h⟩
  | .unit, x, hp => ⟨rfl, fun _ h => h⟩
  | .pair a b, x, hp => by
    simp only [Ty.plain, Bool.and_eq_true] at hp
    exact ⟨_, _, _, _, rfl, plain_rep hp.1, plain_rep hp.2, Join.none⟩
  | .sl .., x, hp => by cases hp
  | .ptr _, x, hp => by cases hp
  | .arr .., x, hp => by cases hp
  | .mp .., x, hp => by cases hp
theorem plain_cells {t : Ty} {x : t.den} (hp : t.plain = true) : (cellsOf t x).length = t.cells := (plain_rep (w := default) (Z := fun _ => False) (x := x) hp).length
theorem plain_one {t : Ty} {x : t.den} (hp : t.plain = true) : ∀ v ∈ cellsOf t x, v.oneCell' = true := (plain_rep (w := default) (Z := fun _ => False) (x := x) hp).one
theorem elems_plain {w : World} {Z : BSet} {e : Ty} (hp : e.plain = true) : ∀ {xs : List e.den} {cs : List Value} {F : BSet}, ElemsRep (fun y => Rep w Z e .fr y) xs cs F → cs = xs.flatMap (cellsOf e) ∧ E0 F
  | [], _, _, h => h
  | x :: xs, _, _, ⟨c1, c2, F1, F2, h0, h1, h2, j⟩ => by
    obtain ⟨i1, i2⟩ := elems_plain hp h2
    refine ⟨by rw [h0, rep_plain hp h1, i1]; rfl, fun b hb => ?_⟩
    rcases (j.1 b).1 hb with hb | hb
    · exact h1.e0 rfl b hb
    · exact i2 b hb
theorem plain_elems {w : World} {Z : BSet} {e : Ty} (hp : e.plain = true) : ∀ {xs : List e.den}, ElemsRep (fun y => Rep w Z e .fr y) xs (xs.flatMap (cellsOf e)) (fun _ => False)
  | [] => ⟨rfl, fun _ h => h⟩
  | x :: xs => ⟨_, _, _, _, by rw [List.flatMap_cons], plain_rep hp, plain_elems hp, Join.none⟩

/-- Less, by a comparison that may fail. -/
def ltO {α : Type} (cf : α → α → Option Int) (x y : α) : Bool := match cf x y with | some r => decide (r < 0) | none => false
/-- On these elements the comparison is a strict weak order. -/
structure Ordered {α : Type} (cf : α → α → Option Int) (xs : List α) : Prop where
  small : xs.length < 4611686018427387904
  tot : ∀ x ∈ xs, ∀ y ∈ xs, ∃ r, cf x y = some r
  irrefl : ∀ x ∈ xs, ltO cf x x = false
  trans : ∀ x ∈ xs, ∀ y ∈ xs, ∀ z ∈ xs, ltO cf x y = true → ltO cf y z = true → ltO cf x z = true
  ntrans : ∀ x ∈ xs, ∀ y ∈ xs, ∀ z ∈ xs, ltO cf x y = false → ltO cf y z = false → ltO cf x z = false
def cfm {α : Type} (cf : α → α → Option Int) (xs : List α) (x y : {x // x ∈ xs}) : Int := (cf x.1 y.1).getD 0
theorem ltm {α : Type} {cf : α → α → Option Int} {xs : List α} (h : Ordered cf xs) (x y : {x // x ∈ xs}) : ltOf (cfm cf xs) x y = ltO cf x.1 y.1 := by
  obtain ⟨r, hr⟩ := h.tot x.1 x.2 y.1 y.2
  simp only [ltOf, cfm, ltO, hr, Option.getD_some]
theorem swom {α : Type} {cf : α → α → Option Int} {xs : List α} (h : Ordered cf xs) : SWO (ltOf (cfm cf xs)) where
  irrefl x := by rw [ltm h]; exact h.irrefl x.1 x.2
  trans x y z := by rw [ltm h, ltm h, ltm h]; exact h.trans _ x.2 _ y.2 _ z.2
  ntrans x y z := by rw [ltm h, ltm h, ltm h]; exact h.ntrans _ x.2 _ y.2 _ z.2
open Classical in
/-- What slices.SortFunc leaves. -/
noncomputable def sortOf {α : Type} (cf : α → α → Option Int) (xs : List α) : Option (List α) :=
  if h : Ordered cf xs then
    if hx : xs = [] then some [] else
      haveI : Inhabited {x // x ∈ xs} := ⟨⟨xs.head hx, List.head_mem hx⟩⟩
      some ((pdq (ltOf (cfm cf xs)) xs.attach.toArray 0 xs.length (Lib.bitLen xs.length) true true).toList.map (·.1))
  else none
theorem sortOf_ok {α : Type} {cf : α → α → Option Int} {xs : List α} (h : Ordered cf xs) : ∃ ys, sortOf cf xs = some ys ∧ ys.Perm xs ∧ ys.Pairwise fun a b => ltO cf b a = false := by
  unfold sortOf
  rw [dif_pos h]
  by_cases hx : xs = []
  · subst hx
    exact ⟨[], by rw [dif_pos rfl], List.Perm.refl _, List.Pairwise.nil⟩
  · rw [dif_neg hx]
    letI : Inhabited {x // x ∈ xs} := ⟨⟨xs.head hx, List.head_mem hx⟩⟩
    have hsz : xs.attach.toArray.size = xs.length := by simp
    obtain ⟨⟨p1, p2, p3⟩, s⟩ := pdq_sorts (ltOf (cfm cf xs)) (swom h) xs.attach.toArray 0 xs.length (Lib.bitLen xs.length) true true (Nat.zero_le _) (by rw [hsz]; exact Nat.le_refl _) (Or.inl rfl)
    refine ⟨_, rfl, ?_, ?_⟩
    · generalize pdq (ltOf (cfm cf xs)) xs.attach.toArray 0 xs.length (Lib.bitLen xs.length) true true = d at p1 p3
      rw [hsz] at p1
      have e1 : d.extract 0 xs.length = d := by rw [← p1]; simp
      have e2 : xs.attach.toArray.extract 0 xs.length = xs.attach.toArray := by rw [← hsz, Array.extract_size]
      rw [e1, e2] at p3
      have := p3.map (·.1)
      simpa using this
    · generalize pdq (ltOf (cfm cf xs)) xs.attach.toArray 0 xs.length (Lib.bitLen xs.length) true true = d at p1 s
      rw [hsz] at p1
      rw [List.pairwise_map, List.pairwise_iff_getElem]
      intro i j hi hj hij
      have hj' : j < d.size := by simpa using hj
      have hi' : i < d.size := by simpa using hi
      have := s i j (Nat.zero_le _) hij (by omega)
      rw [ltm h, getElem!_pos d j hj', getElem!_pos d i hi'] at this
      simpa using this

theorem muts_nil : ∀ (i : Nat) (vs : List Value), mutsOf (modeOf []) i vs = []
  | _, [] => rfl
  | i, _ :: vs => by
    unfold mutsOf
    exact muts_nil (i + 1) vs
theorem grown_of {w w' : World} (h : @Ext drA w w' (fun _ => False)) : ∃ q os, w' = grow (w.drewN q) os := by
  refine ⟨w'.drawn - w.drawn, w'.heap.extract w.heap.size w'.heap.size, ?_⟩
  have hh : w'.heap = w.heap ++ w'.heap.extract w.heap.size w'.heap.size := by
    apply Array.ext_getElem?
    intro k
    rw [Array.getElem?_append]
    by_cases hk : k < w.heap.size
    · rw [if_pos hk, h.block k hk (fun h => h)]
    · rw [if_neg hk, Array.getElem?_extract]
      have := h.size
      by_cases h2 : k < w'.heap.size
      · rw [if_pos (by omega)]; congr 1; omega
      · rw [if_neg (by omega)]; simp; omega
  obtain ⟨h1, h2, h3, h4, h5, h6⟩ := h
  replace h6 : w.drawn ≤ w'.drawn := h6
  cases w; cases w'
  simp only [grow, World.drewN] at *
  subst h1; subst h2; subst h3
  congr 1
  omega
theorem flat_get {α : Type} {enc : α → List Value} {k : Nat} (hk : ∀ x, (enc x).length = k) : ∀ (d : List α) (t : Nat), t < d.length * k → ∃ x, d[t / k]? = some x ∧ (d.flatMap enc)[t]? = (enc x)[t % k]?
  | [], t, h => by simp at h
  | x :: d, t, h => by
    have k0 : 0 < k := by
      rcases Nat.eq_zero_or_pos k with h0 | h0
      · subst h0; simp at h
      · exact h0
    by_cases ht : t < k
    · refine ⟨x, by rw [Nat.div_eq_of_lt ht]; rfl, ?_⟩
      rw [List.flatMap_cons, List.getElem?_append_left (by rw [hk]; exact ht), Nat.mod_eq_of_lt ht]
    · have ht' : k ≤ t := by omega
      obtain ⟨y, h1, h2⟩ := flat_get hk d (t - k) (by simp only [List.length_cons, Nat.add_mul, Nat.one_mul] at h; omega)
      refine ⟨y, ?_, ?_⟩
      · rw [Nat.div_eq_sub_div k0 ht', List.getElem?_cons_succ]; exact h1
      · rw [List.flatMap_cons, List.getElem?_append_right (by rw [hk]; exact ht'), hk, Nat.mod_eq_sub_mod ht']; exact h2
theorem flat_len {α : Type} {enc : α → List Value} {k : Nat} (hk : ∀ x, (enc x).length = k) : ∀ (d : List α), (d.flatMap enc).length = d.length * k
  | [] => by simp
  | x :: d => by rw [List.flatMap_cons, List.length_append, hk, flat_len hk d, List.length_cons, Nat.add_mul, Nat.one_mul, Nat.add_comm]
theorem flatK_eq {α : Type} [Inhabited α] {enc : α → List Value} {k : Nat} (hk : ∀ x, (enc x).length = k) (d : Array α) : flatK enc k d = (d.toList.flatMap enc).toArray := by
  apply Array.ext_getElem?
  intro t
  by_cases ht : t < d.size * k
  · obtain ⟨x, h1, h2⟩ := flat_get hk d.toList t (by simpa using ht)
    have ht' : t < (flatK enc k d).size := by simpa using ht
    have := get_flatK enc k d t ht
    rw [getElem!_pos _ t ht'] at this
    rw [Array.getElem?_eq_getElem ht', this, List.getElem?_toArray, h2]
    have h3 : d[t / k]! = x := by
      have : d[t / k]? = some x := by simpa using h1
      simp [getElem!_def, this]
    rw [h3]
    have h4 : t % k < (enc x).length := by
      rw [hk]
      refine Nat.mod_lt _ ?_
      rcases Nat.eq_zero_or_pos k with h0 | h0
      · subst h0; simp at ht
      · exact h0
    rw [getElem!_pos (enc x) (t % k) h4, List.getElem?_eq_getElem h4]
  · rw [Array.getElem?_eq_none (by simpa using ht), Array.getElem?_eq_none]
    simpa [flat_len hk] using ht
theorem attach_flat {α : Type} (enc : α → List Value) (xs : List α) : xs.attach.flatMap (fun x => enc x.1) = xs.flatMap enc := by
  simp

noncomputable def sortS (T : Nat) (e : Ty) (cg : Nat) (cs : List ASh) (cf : denL cs → e.den → e.den → Option Int) : Spec :=
  ⟨[.v (.sl T e) (.own .fr), .fn cg [] cs], List e.den, fun v => sortOf (cf v.2.1.2) v.1, fun r => ([], [.v (.sl T e) (.own .fr) r])⟩
theorem one_val {V U : Value} (h : V.cells.toList = [U]) (ha : (false = true) ↔ ∃ cs, V = .agg cs) : V = U := by
  cases V <;> simp_all [Value.cells]
theorem Ordered.of_some {α : Type} {cf : α → α → Option Int} {xs ys : List α} (h : sortOf cf xs = some ys) : Ordered cf xs := by
  unfold sortOf at h
  split at h
  · assumption
  · cases h
variable [drI : Dr]
theorem sortFunc_main {P : Program} {ρ : Ren} (L : SlLaysF0.n6 P ρ) {T : Nat} {e : Ty} (hp : e.plain = true) (ha : e.isAgg = true)
    (aE : ∀ w, (isAgg (ρ.t 24)).run P w = .ok true w) (zE : ∀ w, (Go.sizeOf (ρ.t 24)).run P w = .ok e.cells w)
    {cg : Nat} {cs : List ASh} {φc : List Arg → Out (List Arg × List Arg)} (hc : @FnIs drA P cg (modeOf []) φc) {cf : denL cs → e.den → e.den → Option Int}
    (hφ : ∀ c x y r, cf c x y = some r → (φc (.v e .fr x :: .v e .fr y :: encL cs c)).run = some ([.v (.int .i64) .fr r], []))
    {c : denL cs} {xs ys : List e.den} (hs : sortOf (cf c) xs = some ys) {w : World} {Z Fo : BSet} {vs : List Value}
    (hA : ArgsRep w Z [.v (.sl T e) (.own .fr) xs, .fn cg [] (encL cs c)] vs Fo) (hZ : ∀ b, Z b → b < w.heap.size) (hF : ∀ b, Fo b → ¬ Z b ∧ b < w.heap.size) :
    Calls P (ρ.f 6) vs.toArray w fun e' w' => match e' with
      | .returned v => CallPost w w' Z Fo (mutsOf (modeOf [.mut]) 0 vs) [] [.v (.sl T e) (.own .fr) ys] v
      | _ => False := by
  obtain ⟨V, Vs', F1, F2, rfl, h1, ⟨V2, Vs2, F3, F4, rfl, h3, ⟨rfl, h4⟩, j2⟩, j1⟩ := hA
  obtain ⟨⟨V', cells, Fe, hV, ho, hE, hFb, hFd⟩, hag⟩ := h1
  have := one_val hV hag
  subst this
  obtain ⟨h3, _⟩ := h3
  have hord := Ordered.of_some hs
  obtain ⟨ys', hy1, hy2, _⟩ := sortOf_ok hord
  rw [hs] at hy1
  replace hy1 := Option.some.inj hy1
  subst hy1
  have hlen : ys.length = xs.length := hy2.length_eq
  obtain ⟨hcl, hFe⟩ := elems_plain hp hE
  have hag' : ∀ {V : Value}, (∃ A n c, V = .slice A n c) → ((Ty.sl T e).isAgg = true ↔ ∃ cs, V = .agg cs) := by
    rintro V ⟨A, n, c, rfl⟩
    simp [Ty.isAgg]
  cases h3 with
  | fn h3f h3c =>
  rename_i fs cb
  cases h3f
  by_cases hx : xs = []
  · subst hx
    have hy : ys = [] := by
      cases ys with
      | nil => rfl
      | cons a l => simp at hlen
    subst hy
    have key : ∀ A c, V = .slice A 0 c → Calls P (ρ.f 6) #[V, .func (.func cg) [].toArray cb.toArray] w fun e' w' => match e' with
      | .returned v => CallPost w w' Z Fo (mutsOf (modeOf [.mut]) 0 [V, .func (.func cg) [].toArray cb.toArray]) [] [.v (.sl T e) (.own .fr) []] v
      | _ => False := by
      rintro A c' rfl
      refine (AnyF.slices_SortFunc_none L A c' _ w).mono ?_
      rintro e' w' ⟨rfl, rfl⟩
      refine ⟨Z, fun _ => False, F1, [], Ext.refl _ _, fun b h => h, fun b h => ⟨hZ b h, .inl h⟩, .inr ⟨by simp, _, rfl, rfl⟩, ⟨rfl, fun _ h => h⟩, ?_, ?_, fun b h => h.elim⟩
      · exact ⟨_, _, F1, fun _ => False, rfl, ⟨⟨_, cells, Fe, rfl, ho, hE, hFb, hFd⟩, hag' ⟨_, _, _, rfl⟩⟩, ⟨rfl, fun _ h => h⟩, fun b => by simp, fun b _ h => h⟩
      · rintro b (hb | hb)
        · exact hb.elim
        · have hb' : Fo b := (j1.1 b).2 (.inl hb)
          exact ⟨(hF b hb').1, (hF b hb').2, .inl hb'⟩
    rcases ho.2 with ⟨hVe, _⟩ | ⟨g, cap, cur, hVe, _⟩
    · exact key _ _ hVe
    · exact key _ _ hVe
  · rcases ho.2 with ⟨_, h0⟩ | ⟨g, cap, cur, rfl, _, hg, hle, hcap, hcur, htake⟩
    · exact absurd (List.length_eq_zero_iff.1 h0) hx
    letI : Inhabited {x // x ∈ xs} := ⟨⟨xs.head hx, List.head_mem hx⟩⟩
    have hgF : F1 g := (hFb g).2 (.inl rfl)
    have hgFo : Fo g := (j1.1 g).2 (.inl hgF)
    obtain ⟨hgZ, hgs⟩ := hF g hgFo
    have hk : ∀ x : {x // x ∈ xs}, (cellsOf e x.1).length = e.cells := fun x => plain_cells hp
    have hone : ∀ x : {x // x ∈ xs}, ∀ v ∈ cellsOf e x.1, v.oneCell' = true := fun x => plain_one hp
    have hfl : flatK (fun x : {x // x ∈ xs} => cellsOf e x.1) e.cells xs.attach.toArray = cells.toArray := by
      rw [flatK_eq hk, hcl]
      congr 1
      exact attach_flat _ _
    have hHolds : HoldsK (fun x : {x // x ∈ xs} => cellsOf e x.1) e.cells w g 0 xs.attach.toArray := by
      unfold HoldsK
      rw [hfl]
      intro j hj
      have hj' : j < cells.length := by simpa using hj
      have hc1 := ho.cells rfl j cells[j] (List.getElem?_eq_getElem hj')
      rw [add_mem, Nat.zero_add] at hc1
      rw [Nat.zero_add]
      refine ⟨by rw [hc1]; simp [hj'], ?_⟩
      unfold World.frozen?
      simp only [hg]
      simp
    have hsz : xs.attach.toArray.size = xs.length := by simp
    have hcmp : CmpLays P cg cb.toArray (fun x : {x // x ∈ xs} => cellsOf e x.1) e.cells (cfm (cf c) xs) g 0 xs.attach.toArray.size w := by
      intro m os dk hdk x y
      obtain ⟨r, hr⟩ := hord.tot x.1 x.2 y.1 y.2
      have hblk : ∀ b, b < w.heap.size → b ≠ g → (sortWorldK (fun x : {x // x ∈ xs} => cellsOf e x.1) e.cells w g 0 m dk os).heap[b]? = w.heap[b]? := by
        intro b hb hbg
        simp only [sortWorldK, grow, putRowK, putRow, mapBlock, Sort.ahead]
        rw [Array.getElem?_append_left (by simpa using hb), Array.getElem?_modify, if_neg (Ne.symm hbg)]
      have hsz' : w.heap.size ≤ (sortWorldK (fun x : {x // x ∈ xs} => cellsOf e x.1) e.cells w g 0 m dk os).heap.size := by
        simp [sortWorldK, grow, putRowK, putRow, mapBlock, Sort.ahead]
      generalize sortWorldK (fun x : {x // x ∈ xs} => cellsOf e x.1) e.cells w g 0 m dk os = W at hblk hsz'
      have hZW : ∀ b, Z b → Z b ∧ W.heap[b]? = w.heap[b]? := fun b hb => ⟨hb, hblk b (hZ b hb) (fun h => hgZ (h ▸ hb))⟩
      have hag2 : ∀ z : e.den, (e.isAgg = true ↔ ∃ cs, Value.agg (cellsOf e z).toArray = .agg cs) := fun z => ⟨fun _ => ⟨_, rfl⟩, fun _ => ha⟩
      have hcall := (hc _ _ _ (hφ c x.1 y.1 r hr)).2 W Z (fun _ => False) (.agg (cellsOf e x.1).toArray :: .agg (cellsOf e y.1).toArray :: cb)
        ⟨_, _, fun _ => False, fun _ => False, rfl, ⟨by simpa [Value.cells] using plain_rep hp, hag2 _⟩, ⟨_, _, fun _ => False, fun _ => False, rfl, ⟨by simpa [Value.cells] using plain_rep hp, hag2 _⟩, (h3c.frame hZW).argsRep, Join.none⟩, Join.none⟩
        (fun b hb => Nat.lt_of_lt_of_le (hZ b hb) hsz') (fun b h => h.elim)
      have e1 : (#[Value.agg (cellsOf e x.1).toArray, .agg (cellsOf e y.1).toArray] ++ cb.toArray) = (Value.agg (cellsOf e x.1).toArray :: .agg (cellsOf e y.1).toArray :: cb).toArray := by simp
      rw [e1]
      refine hcall.mono ?_
      intro e' w' hpost
      cases e' with
      | returned v =>
        obtain ⟨Z', Fr, Fb, vals, p1, p2, p3, p4, p5, p6, p7, p8⟩ := hpost
        refine ⟨?_, grown_of p1⟩
        obtain ⟨V0, Vs0, G1, G2, rfl, q1, ⟨rfl, _⟩, _⟩ := p5
        rcases p4 with ⟨_, p4⟩ | ⟨p4, _⟩
        · simp only [List.cons.injEq, and_true] at p4
          subst p4
          obtain ⟨q2, q3⟩ := q1
          rcases q2 with ⟨_, q2, _⟩ | ⟨q2, _⟩
          · rw [one_val q2 q3]
            simp only [cfm, hr, Option.getD_some]
          · cases q2
        · simp at p4
      | _ => exact hpost.elim
    have eg : ∀ args w, (callFunc cg args).run P w = .ok (.enter cg args) w := by
      obtain ⟨x⟩ : Nonempty {x // x ∈ xs} := ⟨⟨xs.head hx, List.head_mem hx⟩⟩
      obtain ⟨r, hr⟩ := hord.tot x.1 x.2 x.1 x.2
      obtain ⟨⟨fn, f1, f2, f3⟩, _⟩ := hc _ _ _ (hφ c x.1 x.1 r hr)
      cases hb : fn.body with
      | none => rw [hb] at f2; cases f2
      | some code => exact enters_of f1 f3 hb
    have hsw : (if h : xs = [] then some [] else some ((pdq (ltOf (cfm (cf c) xs)) xs.attach.toArray 0 xs.length (Lib.bitLen xs.length) true true).toList.map (·.1))) = some ys := by
      rw [← hs]
      unfold sortOf
      rw [dif_pos hord]
    rw [dif_neg hx] at hsw
    replace hsw := Option.some.inj hsw
    have hmain := AnyQ.slices_SortFunc_eq L e.cells aE zE (fun x : {x // x ∈ xs} => cellsOf e x.1) hk hone (cfm (cf c) xs) (swom hord) cg cb.toArray g 0 cap xs.attach.toArray w eg hcmp hHolds hgs (by rw [hsz]; exact hord.small)
    rw [hsz] at hmain
    refine hmain.mono ?_
    rintro e' w' ⟨rfl, n, os, rfl⟩
    generalize pdq (ltOf (cfm (cf c) xs)) xs.attach.toArray 0 xs.length (Lib.bitLen xs.length) true true = d' at hsw
    have hd' : d'.size = xs.length := by rw [← hlen, ← hsw]; simp
    have hfl' : flatK (fun x : {x // x ∈ xs} => cellsOf e x.1) e.cells d' = (ys.flatMap (cellsOf e)).toArray := by
      rw [flatK_eq hk, ← hsw, List.flatMap_map]
    have hfs : (ys.flatMap (cellsOf e)).length = xs.length * e.cells := by rw [flat_len (fun x => plain_cells hp), hlen]
    have hheap : ∀ b, b < w.heap.size → (sortWorldK (fun x : {x // x ∈ xs} => cellsOf e x.1) e.cells w g 0 n d' os).heap[b]? = if g = b then some (.cells (putCells id 0 (ys.flatMap (cellsOf e)).toArray cur) T (0, 0)) else w.heap[b]? := by
      intro b hb
      simp only [sortWorldK, grow, putRowK, putRow, mapBlock, Sort.ahead, hfl']
      rw [Array.getElem?_append_left (by simpa using hb), Array.getElem?_modify]
      split
      · rename_i h; subst h; rw [hg]; rfl
      · rfl
    refine ⟨Z, fun _ => False, fun b => b = g, [], ⟨rfl, rfl, rfl, ?_, ?_, ?_⟩, fun b h => h, fun b h => ⟨?_, .inl h⟩, .inr ⟨by simp, _, rfl, rfl⟩, ⟨rfl, fun _ h => h⟩, ?_, ?_, fun b h => h.elim⟩
    · simp [sortWorldK, grow, putRowK, putRow, mapBlock, Sort.ahead]
    · intro b hb hn
      rw [hheap b hb, if_neg (fun (h : g = b) => hn (h ▸ hgFo))]
    · exact Dr.of_le (by simp [sortWorldK, grow, putRowK, putRow, mapBlock, Sort.ahead])
    · refine Nat.lt_of_lt_of_le (hZ b h) ?_
      simp [sortWorldK, grow, putRowK, putRow, mapBlock, Sort.ahead]
    · refine ⟨_, _, fun b => b = g, fun _ => False, rfl, ⟨⟨.slice (some ⟨g, 0, none⟩) xs.length cap, ys.flatMap (cellsOf e), fun _ => False, rfl, ⟨by rw [hfs, hlen], .inr ⟨g, cap, putCells id 0 (ys.flatMap (cellsOf e)).toArray cur, by rw [hlen], Nat.zero_le _, ?_, by rw [hlen]; exact hle, hcap, ?_, ?_⟩⟩, plain_elems hp, fun b => ?_, fun b _ h => h⟩, hag' ⟨_, _, _, rfl⟩⟩, ⟨rfl, fun _ h => h⟩, fun b => by simp, fun b _ h => h⟩
      · rw [hheap g hgs, if_pos rfl]
      · simp [putCells, hcur]
      · apply List.ext_getElem?
        intro t
        rw [hlen, List.getElem?_take]
        by_cases ht : t < xs.length * e.cells
        · have h5 : t < cur.size := by
            have := Nat.mul_le_mul_right e.cells hle
            omega
          have h6 : t < (ys.flatMap (cellsOf e)).length := by rw [hfs]; exact ht
          rw [if_pos ht]
          simp only [putCells, Array.getElem?_toList, Array.getElem?_mapIdx, Array.getElem?_eq_getElem h5, Option.map_some, List.getElem?_eq_getElem h6, Nat.zero_add, List.size_toArray, Nat.sub_zero]
          rw [if_pos ⟨Nat.zero_le _, h6⟩, getElem!_pos _ t (by simpa using h6)]
          rfl
        · rw [if_neg ht, List.getElem?_eq_none (by rw [hfs]; omega)]
      · simp [Value.ownBlock, eq_comm]
    · rintro b (hb | hb)
      · exact hb.elim
      · subst hb
        refine ⟨hgZ, Nat.lt_of_lt_of_le hgs ?_, .inl hgFo⟩
        simp [sortWorldK, grow, putRowK, putRow, mapBlock, Sort.ahead]
theorem sortFunc_is {P : Program} {ρ : Ren} (L : SlLaysF0.n6 P ρ) (hfn : ∃ fn, P.funcs[ρ.f 6]? = some fn ∧ fn.body.isSome = true ∧ (fn.name == "runtime.NumGoroutine") = false) {T : Nat} {e : Ty} (hp : e.plain = true) (ha : e.isAgg = true)
    (aE : ∀ w, (isAgg (ρ.t 24)).run P w = .ok true w) (zE : ∀ w, (Go.sizeOf (ρ.t 24)).run P w = .ok e.cells w)
    {cg : Nat} {cs : List ASh} {φc : List Arg → Out (List Arg × List Arg)} (hc : @FnIs drA P cg (modeOf []) φc) {cf : denL cs → e.den → e.den → Option Int}
    (hφ : ∀ c x y r, cf c x y = some r → (φc (.v e .fr x :: .v e .fr y :: encL cs c)).run = some ([.v (.int .i64) .fr r], []))
    : FnIs P (ρ.f 6) (modeOf [.mut]) (phi [sortS T e cg cs cf]) := by
  intro args res fin h
  refine ⟨hfn, fun w Z Fo vs hA hZ hF => ?_⟩
  simp only [phi] at h
  split at h
  rotate_left
  · cases h
  rename_i v hv
  obtain ⟨xs, ⟨u, c⟩, u'⟩ := v
  have hargs := decL_ok hv
  subst hargs
  simp only [sortS, Out.run] at h
  cases hs : sortOf (cf c) xs with
  | none => rw [hs] at h; cases h
  | some ys =>
  rw [hs] at h
  simp only [Option.bind_some, Option.some.injEq, Prod.mk.injEq] at h
  obtain ⟨rfl, rfl⟩ := h
  exact sortFunc_main L hp ha aE zE hc hφ hs hA hZ hF
end Go.K

/- K, part S2: slices.Collect of slices.Values, at aggregates of two ints. -/
set_option linter.unusedVariables false
set_option linter.unusedSimpArgs false
namespace Go.K
open Go.RowKit Go.Maps Go.Sort Go.Shelf Go.Proofs
variable [drI : Dr]
attribute [local go_sem] Oper.semAt_some
attribute [local go_sem] Oper.semAt_eq

section
variable {q39 q40 q50 q51 q52 q54 q59 q60 : String}
def apAssign (q51 : String) (TE : TypeId) : Code := Code.region 2 #[{ dst := some 5, op := Op.alloc TE, type := 0, pos := q51, after := #[], guard := none }, { dst := none, op := Op.store TE (Operand.tmp 5) (Operand.tmp 7), type := 0, pos := q51, after := #[{ on := 0, ground := Ground.data }, { on := 0, ground := Ground.phase }], guard := none }] false
def apBody (q52 : String) (TS TE : TypeId) : Code := Code.block 1 (Code.region 3 #[{ dst := some 8, op := Op.load TS (Operand.tmp 2), type := TS, pos := q52, after := #[], guard := none }, { dst := some 9, op := Op.load TE (Operand.tmp 5), type := TE, pos := q52, after := #[], guard := none }, { dst := some 10, op := Op.buildSlice TS 1 #[(0, Operand.tmp 9)], type := TS, pos := q52, after := #[{ on := 1, ground := Ground.data }], guard := none }, { dst := some 11, op := Op.call { callee := Callee.builtin Builtin.append, args := #[Operand.tmp 8, Operand.tmp 10], argTypes := #[TS, TS] }, type := TS, pos := q52, after := #[{ on := 0, ground := Ground.data }, { on := 2, ground := Ground.data }], guard := none }, { dst := none, op := Op.store TS (Operand.tmp 2) (Operand.tmp 11), type := 0, pos := q52, after := #[{ on := 3, ground := Ground.data }, { on := 3, ground := Ground.chain }, { on := 0, ground := Ground.phase }, { on := 1, ground := Ground.phase }, { on := 2, ground := Ground.phase }, { on := 3, ground := Ground.phase }], guard := none }] false)
def apCode (q50 q51 q52 q54 : String) (TS TE TF : TypeId) : Code :=
  (Code.region 0 #[{ dst := some 2, op := Op.box TS (Operand.tmp 0), type := 0, pos := q50, after := #[], guard := none }, { dst := some 4, op := Op.assign (Operand.const (Value.slice none 0 0)), type := TS, pos := q50, after := #[], guard := none }] false).seq
    (((Code.region 1 #[{ dst := some 6, op := Op.move (Operand.tmp 1), type := TF, pos := q51, after := #[], guard := none }] false).seq
      (Code.block 0 (Code.rangeFunc (Operand.tmp 6) #[7] (apAssign q51 TE) (apBody q52 TS TE)))).seq
    ((Code.region 4 #[{ dst := some 12, op := Op.load TS (Operand.tmp 2), type := TS, pos := q54, after := #[], guard := none }, { dst := some 4, op := Op.assign (Operand.tmp 12), type := TS, pos := q54, after := #[{ on := 0, ground := Ground.data }, { on := 0, ground := Ground.phase }], guard := none }] false).seq Code.ret))
def apRec (q51 q52 : String) (TS TE : TypeId) (fn : FuncId) (sv : Value) (Bs D : Nat) (st : LoopState) (pend : Option Code) : Loop :=
  { state := st, pending := pend, fn, tmps := #[.slice none 0 0, sv, .pointer (some ⟨Bs, 0, none⟩), undef, .slice none 0 0, undef, sv, undef, undef, undef, undef, undef, undef], params := #[7], assign := apAssign q51 TE, body := apBody q52 TS TE, defers := D }

abbrev Two := Ty.pair (.int .i64) (.pair (.int .i64) .unit)
def encTwo (x : Int × Int × Unit) : Value := .agg #[.int .i64 x.1, .int .i64 x.2.1]
def cells2 (xs : List (Int × Int × Unit)) : List Value := xs.flatMap fun x => [.int .i64 x.1, .int .i64 x.2.1]
structure ApAt (q51 q52 : String) (TS TE : TypeId) (w0 : World) (fn : FuncId) (sv : Value) (Bs l D : Nat) (ss : List (Int × Int × Unit)) (W : World) : Prop where
  box : ∃ v, W.heap[Bs]? = some (.cells #[v] TS (0, 0)) ∧ W.ownsRow w0.heap.size TE 2 v ss.length (cells2 ss)
  L : W.heap[l]? = some (.loop (apRec q51 q52 TS TE fn sv Bs D .ready none))
  K : W.heap[D]? = some (.deferred (some []))
  ext : Ext w0 W (fun _ => False)

theorem ext_alloc {w W : World} {S : BSet} (h : Ext w W S) (o : Obj) : Ext w (W.alloc o) S := by
  refine ⟨h.os, h.tape, h.output, by rw [World.size_alloc]; have := h.size; omega, fun b hb hn => ?_, h.drawn⟩
  rw [Below.heap_alloc _ _ b (Nat.lt_of_lt_of_le hb h.size)]
  exact h.block b hb hn

theorem wpListIn_append_d {F : Fence} {n : Nat} {P : Program} (w : World) {ops : Array Oper} {rest : List Oper} {o : Oper} {a : Act} {Q : Exit → Act → World → Prop}
    (hg : o.guard = none) (s x : Operand) (t : TypeId) (hop : o.op = Op.call { callee := Callee.builtin Builtin.append, args := #[s, x], argTypes := #[t, t] })
    (base : Nat) (e : TypeId) (i : TypeInfo) (z : Value) (size bytes : Nat) (h1 : P.underlying t = some (.slice e)) (h2 : P.info? e = some i) (h3 : i.zero = some z) (h4 : i.size = size) (h5 : i.bytes = bytes) (h6 : z.cells.size = size) (h7 : 0 < size)
    (v : Value) (k : Nat) (xs : List Value) (hs : a.eval s = v) (hown : w.ownsRow base e size v k xs) (ad : Addr) (m c : Nat) (news : List Value) (hx : a.eval x = .slice (some ad) m c) (hn : news.length = m * size)
    (hc : ∀ j u, news[j]? = some u → w.cell? (ad.add j) = some u) (h1c : ∀ u ∈ news, u.oneCell' = true) (b1 : k + m ≤ maxLen) (b2 : (k + m) * bytes ≤ 140737488355328) (b3 : base ≤ w.heap.size)
    (hK : ∀ v' w', w'.ownsRow base e size v' (k + m) (xs ++ news) → w.grownBy w' v.ownBlock → w.drawn ≤ w'.drawn → wpListIn F n P ops Q rest (a.put o.dst v') w') :
    wpListIn F n P ops Q (o :: rest) a w := by
  refine wpListIn_plain hg fun K hK' => ?_
  obtain ⟨v', w', hrun, r1, r2, r3⟩ := run_append_own (P := P) w base t o.type e i z size bytes h1 h2 h3 h4 h5 h6 h7 v k xs hown ad m c news hn hc h1c b1 b2 b3
  unfold Oper.wpIn
  refine ⟨?_, ?_⟩
  · simp [Oper.about, hop, resolve, Target.leads, Sem.run_pure]
  · rw [Oper.semAt_plain F _ _ (by rw [hop]; intro c hc'; cases hc')]
    simp [execOp, hop, resolve, invoke, builtin, hs, hx, hrun, Result.andThen]
    exact hK' _ _ (hK v' w' r1 r2 (run_drawn hrun))
theorem ext_grown {w W W' : World} {row : Option Nat} (h : Ext w W (fun _ => False)) (hg : W.grownBy W' row) (hd : W.drawn ≤ W'.drawn) (hr : ∀ k, row = some k → w.heap.size ≤ k) : Ext w W' (fun _ => False) := by
  refine ⟨hg.os.trans h.os, hg.tape.trans h.tape, hg.output.trans h.output, Nat.le_trans h.size hg.size, fun b hb hn => ?_, Dr.trans h.drawn (Dr.of_le hd)⟩
  exact (hg.block b (Nat.lt_of_lt_of_le hb h.size) (fun e => by have := hr b e.symm; omega)).trans (h.block b hb hn)
theorem ownsRow_ne {W : World} {base : Nat} {e : TypeId} {size : Nat} {v : Value} {k : Nat} {xs : List Value} (h : W.ownsRow base e size v k xs) {j : Nat} {o : Obj} (hj : W.heap[j]? = some o) (hno : ∀ cur, o ≠ .cells cur e (0, 0)) :
    v.ownBlock = none ∨ v.ownBlock ≠ some j := by
  rcases h.2 with ⟨rfl, _⟩ | ⟨g, cap, cur, rfl, _, hgb, _⟩
  · exact .inl rfl
  · refine .inr fun e' => ?_
    have : g = j := by simpa [Value.ownBlock] using e'
    subst this; rw [hgb] at hj; cases hj; exact hno cur rfl
theorem cell_of_box {W : World} {B : Nat} {v : Value} {t : TypeId} (h : W.heap[B]? = some (.cells #[v] t (0, 0))) : W.cell? ⟨B, 0, none⟩ = some v ∧ W.frozen? ⟨B, 0, none⟩ = false := by
  constructor <;> simp [World.cell?, World.frozen?, h]
theorem heap_setCell_box {W : World} {B : Nat} {v : Value} {t : TypeId} (v' : Value) (h : W.heap[B]? = some (.cells #[v] t (0, 0))) : (W.setCell ⟨B, 0, none⟩ v').heap[B]? = some (.cells #[v'] t (0, 0)) := by
  obtain ⟨hlt, hk⟩ := Array.getElem?_eq_some_iff.1 h
  show (W.heap.modify B _)[B]? = _
  rw [Array.getElem?_eq_getElem (by rw [Array.size_modify]; exact hlt), Array.getElem_modify_self, hk]
  rfl
theorem grownBy_putObj (W : World) (l : Nat) (o : Obj) : W.grownBy (W.putObj l o) (some l) :=
  ⟨rfl, rfl, rfl, by simp, fun k _ hk => World.putObj_heap_other (fun e => hk (by rw [e]))⟩
theorem grownBy_setCell0 (W : World) (b o : Nat) (v : Value) : W.grownBy (W.setCell ⟨b, o, none⟩ v) (some b) :=
  ⟨rfl, rfl, rfl, (KeepsWalks.setCell W _ v).size, fun k _ hk => Below.heap_setCell _ _ _ k (fun e => hk (by rw [e]))⟩

/-- What is told of the types. -/
structure TwoTy (P : Program) (TS TE : TypeId) : Prop where
  tS : P.underlying TS = some (.slice TE)
  iE : (P.info? TE).map (fun i => (i.zero, i.size, i.bytes)) = some (some (.agg #[.int .i64 0, .int .i64 0]), 2, 16)
  aS : ∀ w, (isAgg TS).run P w = .ok false w
  zS : ∀ w, (Go.sizeOf TS).run P w = .ok 1 w
  aE : ∀ w, (isAgg TE).run P w = .ok true w
  zE : ∀ w, (Go.sizeOf TE).run P w = .ok 2 w
  vE : ∀ w, (zeroValue TE).run P w = .ok (.agg #[.int .i64 0, .int .i64 0]) w
theorem two_new (W : World) (TE : TypeId) (a b : Value) : ∀ (j : Nat) (u : Value), [a, b][j]? = some u → (W.alloc (.cells #[a, b] TE)).cell? ((⟨W.heap.size, 0, none⟩ : Addr).add j) = some u := by
  intro j u h
  rw [add_mem]
  have e : (W.alloc (.cells #[a, b] TE)).heap[W.heap.size]? = some (.cells #[a, b] TE) := World.alloc_heap_new W _
  unfold World.cell?
  simp only [e]
  simpa using h
set_option maxRecDepth 100000 in
set_option maxHeartbeats 2000000 in
theorem apYield {P : Program} {TS TE : TypeId} (T : TwoTy P TS TE) (hne : TS ≠ TE) (F : Fence) (m : Nat) (w0 : World) (fn : FuncId) (hfn : F.fn fn) (sv : Value) (Bs l D : Nat) (hBl : Bs ≠ l) (hDl : D ≠ l) (hDB : D ≠ Bs) (h0B : w0.heap.size ≤ Bs) (h0l : w0.heap.size ≤ l)
    (N : Nat) (hN : N ≤ maxLen) (hNb : N * 16 ≤ 140737488355328) (ss : List (Int × Int × Unit)) (x : Int × Int × Unit) (W : World) (h : ApAt q51 q52 TS TE w0 fn sv Bs l D ss W) (hlen : ss.length < N) :
    YieldAt F m P l #[encTwo x] W fun e W' => e = .returned (.bool true) ∧ ApAt q51 q52 TS TE w0 fn sv Bs l D (ss ++ [x]) W' := by
  obtain ⟨i0, hi, hz0, hz1, hz2⟩ := info_parts T.iE
  have tS := T.tS; have aS := T.aS; have zS := T.zS; have aE := T.aE; have zE := T.zE; have vE := T.vE
  have uS := fun w => run_underlying (P := P) T.tS (w := w)
  obtain ⟨v, hv, hrow⟩ := h.box
  refine ⟨fn, #[.slice none 0 0, sv, .pointer (some ⟨Bs, 0, none⟩), undef, .slice none 0 0, undef, sv, encTwo x, undef, undef, undef, undef, undef], apAssign q51 TE, apBody q52 TS TE, by simpa [apRec] using run_yield (P := P) (args := #[encTwo x]) h.L rfl, roundIn_of_wpIn hfn ?_⟩
  have hl : l < W.heap.size := (Array.getElem?_eq_some_iff.1 h.L).1
  have hBW : Bs < W.heap.size := (Array.getElem?_eq_some_iff.1 hv).1
  have hDW : D < W.heap.size := (Array.getElem?_eq_some_iff.1 h.K).1
  obtain ⟨W1, hW1⟩ : ∃ W1, W.alloc (Obj.cells #[Value.int IntKind.i64 x.1, Value.int IntKind.i64 x.2.1] TE) = W1 := ⟨_, rfl⟩
  have hs1 : W1.heap.size = W.heap.size + 1 := by rw [← hW1]; simp
  have hold : ∀ k, k < W.heap.size → W1.heap[k]? = W.heap[k]? := fun k hk => by rw [← hW1]; exact Below.heap_alloc _ _ k hk
  have hL1 : W1.heap[l]? = some (.loop (apRec q51 q52 TS TE fn sv Bs D .ready none)) := (hold l hl).trans h.L
  have hx1 : W1.heap[W.heap.size]? = some (.cells #[Value.int IntKind.i64 x.1, Value.int IntKind.i64 x.2.1] TE (0, 0)) := by rw [← hW1]; exact World.alloc_heap_new W _
  have hext1 : Ext w0 W1 (fun _ => False) := by rw [← hW1]; exact ext_alloc h.ext _
  have hrow1 : W1.ownsRow w0.heap.size TE 2 v ss.length (cells2 ss) := by rw [← hW1]; exact hrow.alloc _
  have hbr := run_beginRound (P := P) hL1 rfl
  obtain ⟨W2, hW2⟩ : ∃ W2, W1.putObj l (.loop { apRec q51 q52 TS TE fn sv Bs D .ready none with state := .busy }) = W2 := ⟨_, rfl⟩
  rw [hW2] at hbr
  have hg2 : W1.grownBy W2 (some l) := by rw [← hW2]; exact grownBy_putObj _ _ _
  have hv2 : W2.heap[Bs]? = some (.cells #[v] TS (0, 0)) := by rw [← hW2]; exact (World.putObj_heap_other hBl).trans ((hold _ hBW).trans hv)
  have hK2 : W2.heap[D]? = some (.deferred (some [])) := by rw [← hW2]; exact (World.putObj_heap_other hDl).trans ((hold _ hDW).trans h.K)
  have hx2 : W2.heap[W.heap.size]? = some (.cells #[Value.int IntKind.i64 x.1, Value.int IntKind.i64 x.2.1] TE (0, 0)) := by rw [← hW2]; exact (World.putObj_heap_other (by omega)).trans hx1
  have hL2 : W2.heap[l]? = some (.loop { apRec q51 q52 TS TE fn sv Bs D .ready none with state := .busy }) := by rw [← hW2]; exact World.putObj_heap_same (by omega)
  have hrow2 : W2.ownsRow w0.heap.size TE 2 v ss.length (cells2 ss) := hrow1.kept hg2 (ownsRow_ne hrow1 hL1 (fun cur e => by cases e))
  have hb2 : Ext w0 W2 (fun _ => False) := ext_grown hext1 hg2 (by rw [← hW2]; exact Nat.le_refl _) (fun k e => by cases e; exact h0l)
  obtain ⟨hc2, hf2⟩ := cell_of_box hv2
  have hcx0 : W2.cell? ⟨W.heap.size, 0, none⟩ = some (Value.int IntKind.i64 x.1) := by simp [World.cell?, hx2]
  have hcx1 : W2.cell? ⟨W.heap.size, 1, none⟩ = some (Value.int IntKind.i64 x.2.1) := by simp [World.cell?, hx2]
  have hBlt : Bs < W2.heap.size := (Array.getElem?_eq_some_iff.1 hv2).1
  have hl2 : l < W2.heap.size := (Array.getElem?_eq_some_iff.1 hL2).1
  have hDlt : D < W2.heap.size := (Array.getElem?_eq_some_iff.1 hK2).1
  have ne_of : ∀ {j : Nat} {o : Obj}, W2.heap[j]? = some o → (∀ cur, o ≠ .cells cur TE (0, 0)) → some j ≠ v.ownBlock := fun hj hno => by
    rcases ownsRow_ne hrow2 hj hno with e | e
    · rw [e]; simp
    · exact fun e' => e e'.symm
  clear hW2
  unfold encTwo apAssign
  gi_wp2_with (rw [Oper.semAt_eq _ _ _ (fun c h => by cases h)]; go_simp; try go_bits)
  unfold apBody
  gi_wp2_with (first
    | (gi_at_builtin; refine wpListIn_append_d _ rfl _ _ TS rfl w0.heap.size TE i0 (.agg #[.int .i64 0, .int .i64 0]) 2 16 tS hi hz0 hz1 hz2 rfl (by decide) _ _ _ rfl (hrow2.alloc _) ⟨W2.heap.size, 0, none⟩ 1 1 [.int .i64 x.1, .int .i64 x.2.1] rfl rfl (two_new _ _ _ _) (by simp [Value.oneCell']) (by omega) (by omega) (by have := hb2.size; simp; omega) ?_
       intro v' w3 hown' hg3 hd3
       have hv3 : w3.heap[Bs]? = some (.cells #[v] TS (0, 0)) := (hg3.block Bs (by simp; omega) (ne_of hv2 (fun cur e => hne (by cases e; rfl)))).trans ((Below.heap_alloc _ _ Bs hBlt).trans hv2)
       obtain ⟨hc3, hf3⟩ := cell_of_box hv3
       obtain ⟨g', cap', cur', rfl, hbase', hgb', hr1, hr2, hr3, hr4⟩ : ∃ g' cap' cur', v' = .slice (some ⟨g', 0, none⟩) (ss.length + 1) cap' ∧ w0.heap.size ≤ g' ∧ w3.heap[g']? = some (.cells cur' TE (0, 0)) ∧ ss.length + 1 ≤ cap' ∧ cap' ≤ maxLen ∧ cur'.size = cap' * 2 ∧ cur'.toList.take ((ss.length + 1) * 2) = cells2 ss ++ [.int .i64 x.1, .int .i64 x.2.1] := by
         rcases hown'.2 with ⟨_, h0⟩ | h'
         · exact absurd h0 (by omega)
         · exact h'
       go_frame)
    | (rw [Oper.semAt_eq _ _ _ (fun c h => by cases h)]; go_simp; try go_bits))
  have hg3' : (W2.alloc (.cells #[.int .i64 x.1, .int .i64 x.2.1] TE)).grownBy w3 v.ownBlock := hg3
  have hL3 : w3.heap[l]? = some (.loop { apRec q51 q52 TS TE fn sv Bs D .ready none with state := .busy }) := (hg3'.block l (by simp; omega) (ne_of hL2 (fun cur e => by cases e))).trans ((Below.heap_alloc _ _ l hl2).trans hL2)
  have hK3 : w3.heap[D]? = some (.deferred (some [])) := (hg3'.block D (by simp; omega) (ne_of hK2 (fun cur e => by cases e))).trans ((Below.heap_alloc _ _ D hDlt).trans hK2)
  obtain ⟨w4, hw4⟩ : ∃ w4, w3.setCell ⟨Bs, 0, none⟩ (.slice (some ⟨g', 0, none⟩) (ss.length + 1) cap') = w4 := ⟨_, rfl⟩
  rw [hw4]
  have hg4 : w3.grownBy w4 (some Bs) := by rw [← hw4]; exact grownBy_setCell0 _ _ _ _
  have hd4 : w3.drawn ≤ w4.drawn := by rw [← hw4]; exact Nat.le_refl _
  have hv4 : w4.heap[Bs]? = some (.cells #[.slice (some ⟨g', 0, none⟩) (ss.length + 1) cap'] TS (0, 0)) := by rw [← hw4]; exact heap_setCell_box _ hv3
  have hL4 : w4.heap[l]? = some (.loop { apRec q51 q52 TS TE fn sv Bs D .ready none with state := .busy }) := (hg4.block l (Array.getElem?_eq_some_iff.1 hL3).1 (fun e => hBl (by cases e; rfl))).trans hL3
  have hK4 : w4.heap[D]? = some (.deferred (some [])) := (hg4.block D (Array.getElem?_eq_some_iff.1 hK3).1 (fun e => hDB (by cases e; rfl))).trans hK3
  have hrow4 := hown'.kept hg4 (ownsRow_ne hown' hv3 (fun cur e => hne (by cases e; rfl)))
  have hl4 : l < w4.heap.size := (Array.getElem?_eq_some_iff.1 hL4).1
  have hb3 : Ext w0 w3 (fun _ => False) := ext_grown (ext_alloc hb2 _) hg3' hd3 (fun k e => (hrow2.lt k e).1)
  have hb4 : Ext w0 w4 (fun _ => False) := ext_grown hb3 hg4 hd4 (fun k e => by cases e; exact h0B)
  clear hw4
  refine ⟨_, _, run_endRound none hL4, rfl, ⟨⟨_, (World.putObj_heap_other hBl).trans hv4, ?_⟩, World.putObj_heap_same hl4, (World.putObj_heap_other hDl).trans hK4, ext_grown hb4 (grownBy_putObj _ _ _) (Nat.le_refl _) (fun k e => by cases e; exact h0l)⟩⟩
  have := hrow4.kept (grownBy_putObj w4 l (.loop { { apRec q51 q52 TS TE fn sv Bs D .ready none with state := .busy } with state := if (none : Option Code).isNone then .ready else .done, pending := none })) (ownsRow_ne hrow4 hL4 (fun cur e => by cases e))
  simpa [cells2] using this

def v1Code (q39 q40 : String) (TS TE TF : TypeId) : Code :=
  (Code.region 0 #[{ dst := some 5, op := Op.load TS (Operand.tmp 1), type := TS, pos := q39, after := #[], guard := none }, { dst := some 6, op := Op.call { callee := Callee.builtin Builtin.len, args := #[Operand.tmp 5], argTypes := #[TS] }, type := 3, pos := q39, after := #[{ on := 0, ground := Ground.data }], guard := none }, { dst := some 7, op := Op.move (Operand.const (Value.int IntKind.i64 0)), type := 3, pos := q39, after := #[], guard := none }] false).seq
    (Code.block 0
      ((Code.region 1 #[{ dst := some 8, op := Op.binOp BinOp.lss 3 (Operand.tmp 7) (Operand.tmp 6) 3, type := 0, pos := q39, after := #[], guard := none }] false).seq
        ((Code.cond (Operand.tmp 8) Code.skip (Code.exit 0)).seq
          ((Code.block 1
            ((Code.region 2 #[{ dst := some 9, op := Op.indexAddr TS (Operand.tmp 5) (Operand.tmp 7), type := 0, pos := q39, after := #[], guard := none }, { dst := some 10, op := Op.load TE (Operand.tmp 9), type := TE, pos := q39, after := #[{ on := 0, ground := Ground.data }], guard := none }, { dst := some 4, op := Op.alloc TE, type := 0, pos := q39, after := #[], guard := none }, { dst := none, op := Op.store TE (Operand.tmp 4) (Operand.tmp 10), type := 0, pos := q39, after := #[{ on := 2, ground := Ground.data }, { on := 1, ground := Ground.data }, { on := 0, ground := Ground.phase }, { on := 1, ground := Ground.phase }, { on := 2, ground := Ground.phase }], guard := none }] false).seq
              ((Code.region 3 #[{ dst := some 11, op := Op.move (Operand.tmp 0), type := TF, pos := q40, after := #[], guard := none }, { dst := some 12, op := Op.load TE (Operand.tmp 4), type := TE, pos := q40, after := #[], guard := none }, { dst := some 13, op := Op.call { callee := Callee.value (Operand.tmp 11), args := #[Operand.tmp 12], argTypes := #[TE] }, type := 4, pos := q40, after := #[{ on := 0, ground := Ground.data }, { on := 1, ground := Ground.data }], guard := none }, { dst := some 14, op := Op.unOp UnOp.not 4 (Operand.tmp 13), type := 4, pos := q40, after := #[{ on := 2, ground := Ground.data }], guard := none }] false).seq
                (Code.cond (Operand.tmp 14) Code.ret Code.skip)))).seq
            (Code.region 4 #[{ dst := some 15, op := Op.binOp BinOp.add 3 (Operand.tmp 7) (Operand.const (Value.int IntKind.i64 1)) 3, type := 3, pos := q39, after := #[], guard := none }, { dst := some 7, op := Op.move (Operand.tmp 15), type := 3, pos := q39, after := #[{ on := 0, ground := Ground.data }], guard := none }] false)))).loop)
theorem cells_at_two {W : World} {ad : Addr} {xs : List (Int × Int × Unit)} (h : CellsAt W ad (cells2 xs)) : ∀ {k : Nat} {x : Int × Int × Unit}, xs[k]? = some x → W.cell? (ad.add (k * 2)) = some (.int .i64 x.1) ∧ W.cell? (ad.add (k * 2 + 1)) = some (.int .i64 x.2.1) := by
  have aux : ∀ (xs : List (Int × Int × Unit)) (k : Nat) (x : Int × Int × Unit), xs[k]? = some x → (cells2 xs)[k * 2]? = some (.int .i64 x.1) ∧ (cells2 xs)[k * 2 + 1]? = some (.int .i64 x.2.1) := by
    intro xs
    induction xs with
    | nil => intro k x h; simp at h
    | cons y ys ih =>
      intro k x h
      cases k with
      | zero => simp at h; subst h; exact ⟨rfl, rfl⟩
      | succ k =>
        have := ih k x (by simpa using h)
        have e : cells2 (y :: ys) = .int .i64 y.1 :: .int .i64 y.2.1 :: cells2 ys := rfl
        rw [e, show (k + 1) * 2 = k * 2 + 1 + 1 by omega]
        simpa using this
  intro k x hx
  obtain ⟨h1, h2⟩ := aux xs k x hx
  exact ⟨h _ _ h1, h _ _ h2⟩
set_option maxRecDepth 100000 in
set_option maxHeartbeats 2000000 in
theorem values1_in {P : Program} {TS TE TF f : TypeId} {fn : Func} (T : TwoTy P TS TE) (u3 : P.underlying 3 = some (.int .i64)) (u4 : P.underlying 4 = some .bool) (hf : P.funcs[f]? = some fn) (hb : fn.body = some (v1Code q39 q40 TS TE TF)) (hnt : fn.ntmps = 16) (hres : fn.results = #[])
    (F : Fence) (n : Nat) (h7 : F.fn f) (hro : F.round = none) (hn : 1 ≤ n) (l : Nat) (bB oB : Nat) (b off cap : Nat) (xs : List (Int × Int × Unit)) (hreach : xs.length * 16 ≤ 140737488355328) (J : List (Int × Int × Unit) → World → Prop)
    (hJ : ∀ pre W W', J pre W → Ext W W' (fun _ => False) → J pre W')
    (hS : ∀ pre W, J pre W → W.cell? ⟨bB, oB, none⟩ = some (.slice (some ⟨b, off, none⟩) xs.length cap) ∧ ∀ k x, xs[k]? = some x → W.cell? ⟨b, off + k * 2, none⟩ = some (.int .i64 x.1) ∧ W.cell? ⟨b, off + k * 2 + 1, none⟩ = some (.int .i64 x.2.1))
    (hY : ∀ pre x W, J pre W → pre.length < xs.length → YieldAt F (n - 1) P l #[encTwo x] W fun e W' => e = .returned (.bool true) ∧ J (pre ++ [x]) W')
    (W : World) (h0 : J [] W) :
    CallsIn F n P f #[.func (.yield l) #[] #[], .pointer (some ⟨bB, oB, none⟩)] W fun e W' => (∃ v, e = .returned v) ∧ J xs W' := by
  have tS := T.tS; have aS := T.aS; have zS := T.zS; have aE := T.aE; have zE := T.zE; have vE := T.vE
  have uS := fun w => run_underlying (P := P) T.tS (w := w)
  have uu3 := fun w => run_underlying (P := P) u3 (w := w)
  have uu4 := fun w => run_underlying (P := P) u4 (w := w)
  refine callsIn_of_wp hf hb h7 ?_ hro
  simp only [hnt, List.size_toArray, List.length_cons, List.length_nil, Nat.reduceAdd, Nat.reduceSub, Array.replicate_succ, Array.replicate_zero, List.push_toArray, List.append_toArray, List.nil_append, List.cons_append]
  unfold v1Code
  obtain ⟨hBs, _⟩ := hS _ _ h0
  gi_wp2
  gi_loopw [7] (fun i wr => ∃ k : Nat, k ≤ xs.length ∧ i = .int .i64 k ∧ J (xs.take k) wr)
    (fun i _ => xs.length - (RowKit.intOf i).toNat)
  case atStart => exact ⟨0, Nat.zero_le _, rfl, h0⟩
  case round =>
    obtain ⟨k, hk, rfl, hJs⟩ := hrel
    obtain ⟨hBs', hcs⟩ := hS _ _ hJs
    by_cases hlt : k < xs.length
    · obtain ⟨hcx, hcy⟩ := hcs k xs[k] (List.getElem?_eq_getElem hlt)
      have hJ1 : J (xs.take k) (wr.alloc (.cells #[.int .i64 xs[k].1, .int .i64 xs[k].2.1] TE)) := hJ _ _ _ hJs (ext_alloc (Ext.refl _ _) _)
      obtain ⟨fn', tmps, assign, body, hy, hR⟩ := hY _ xs[k] _ hJ1 (by rw [List.length_take]; omega)
      unfold encTwo at hy
      have htk : xs.take k ++ [xs[k]] = xs.take (k + 1) := (List.take_succ_eq_append_getElem hlt).symm
      rw [htk] at hR
      clear hcs
      generalize xs[k] = x at hcx hcy hJ1 hy hR
      gi_wp2
      refine hR.mono ?_
      rintro e W3 ⟨rfl, hJ3⟩
      gi_wp2
      go_roundw
      case rel => exact ⟨k + 1, by omega, by simp, hJ3⟩
      case measure => simp [RowKit.intOf]; omega
    · obtain rfl : k = xs.length := by omega
      rw [List.take_length] at hJs
      gi_wp2
      (try simp only [Exit.inBlock, Exit.then]); refine bodyPost_end (results_none hres _ _ _) rfl ?_
      exact ⟨⟨_, rfl⟩, hJs⟩

set_option maxRecDepth 100000 in
set_option maxHeartbeats 2000000 in
theorem values1_nil_in {P : Program} {TS TE TF f : TypeId} {fn : Func} (T : TwoTy P TS TE) (u3 : P.underlying 3 = some (.int .i64)) (u4 : P.underlying 4 = some .bool) (hf : P.funcs[f]? = some fn) (hb : fn.body = some (v1Code q39 q40 TS TE TF)) (hnt : fn.ntmps = 16) (hres : fn.results = #[])
    (F : Fence) (n : Nat) (h7 : F.fn f) (hro : F.round = none) (l : Nat) (bB oB : Nat) (A : Option Addr) (cap : Nat) (J : World → Prop)
    (W : World) (hBs : W.cell? ⟨bB, oB, none⟩ = some (.slice A 0 cap)) (h0 : J W) :
    CallsIn F n P f #[.func (.yield l) #[] #[], .pointer (some ⟨bB, oB, none⟩)] W fun e W' => (∃ v, e = .returned v) ∧ J W' := by
  have tS := T.tS; have aS := T.aS; have zS := T.zS; have aE := T.aE; have zE := T.zE; have vE := T.vE
  have uS := fun w => run_underlying (P := P) T.tS (w := w)
  have uu3 := fun w => run_underlying (P := P) u3 (w := w)
  have uu4 := fun w => run_underlying (P := P) u4 (w := w)
  refine callsIn_of_wp hf hb h7 ?_ hro
  simp only [hnt, List.size_toArray, List.length_cons, List.length_nil, Nat.reduceAdd, Nat.reduceSub, Array.replicate_succ, Array.replicate_zero, List.push_toArray, List.append_toArray, List.nil_append, List.cons_append]
  unfold v1Code
  gi_wp2
  gi_loopw [7] (fun i wr => i = .int .i64 0 ∧ J wr) (fun _ _ => 0)
  case atStart => exact ⟨rfl, h0⟩
  case round =>
    obtain ⟨rfl, hJs⟩ := hrel
    gi_wp2
    (try simp only [Exit.inBlock, Exit.then]); refine bodyPost_end (results_none hres _ _ _) rfl ?_
    exact ⟨⟨_, rfl⟩, hJs⟩

/-- An iterator's values, against whatever loop's invariant that new blocks do not mind. -/
def SeqIs (F : Fence) (n : Nat) (P : Program) (g : Nat) (lb : Array Value) (xs : List (Int × Int × Unit)) (w : World) : Prop :=
  ∀ (l : Nat) (J : List (Int × Int × Unit) → World → Prop) (W : World), (∀ pre W W', J pre W → Ext W W' (fun _ => False) → J pre W') → (∀ pre W, J pre W → Ext w W (fun _ => False)) →
    (∀ pre x W, J pre W → pre.length < xs.length → YieldAt F (n - 1) P l #[encTwo x] W fun e W' => e = .returned (.bool true) ∧ J (pre ++ [x]) W') →
    J [] W → CallsIn F n P g (#[.func (.yield l) #[] #[]] ++ lb) W fun e W' => (∃ v, e = .returned v) ∧ J xs W'
theorem ApAt.ext' {TS TE : TypeId} {w0 W W' : World} {fn : FuncId} {sv : Value} {Bs l D : Nat} {ss : List (Int × Int × Unit)} (h : ApAt q51 q52 TS TE w0 fn sv Bs l D ss W) (hx : Ext W W' (fun _ => False)) : ApAt q51 q52 TS TE w0 fn sv Bs l D ss W' := by
  have hh : ∀ {k : Nat} {o : Obj}, W.heap[k]? = some o → W'.heap[k]? = some o := fun hk => (hx.block _ (Array.getElem?_eq_some_iff.1 hk).1 (fun h => h)).trans hk
  obtain ⟨v, hv, hr⟩ := h.box
  refine ⟨⟨v, hh hv, ?_⟩, hh h.L, hh h.K, ⟨hx.os.trans h.ext.os, hx.tape.trans h.ext.tape, hx.output.trans h.ext.output, Nat.le_trans h.ext.size hx.size, fun b hb hn => (hx.block b (Nat.lt_of_lt_of_le hb h.ext.size) hn).trans (h.ext.block b hb hn), Dr.trans h.ext.drawn hx.drawn⟩⟩
  refine ownsRow_frame hr fun b hb => ?_
  rcases hr.2 with ⟨rfl, _⟩ | ⟨g, cap, cur, rfl, _, hg, _⟩
  · cases hb
  · simp only [Value.ownBlock, Option.some.injEq] at hb
    subst hb
    rw [hh hg, hg]
set_option maxRecDepth 100000 in
set_option maxHeartbeats 2000000 in
theorem appendSeq_in {P : Program} {TS TE TF f : TypeId} {fc : Func} (T : TwoTy P TS TE) (hne : TS ≠ TE) (hf : P.funcs[f]? = some fc) (hb : fc.body = some (apCode q50 q51 q52 q54 TS TE TF)) (hnt : fc.ntmps = 13) (hres : fc.results = #[.tmp 4])
    (F : Fence) (n : Nat) (h11 : F.fn f) (hro : F.round = none) (hn : 2 ≤ n) (g : Nat) (lb : Array Value) (hFg : F.fn g) (eg : ∀ args w, (callFunc g args).run P w = .ok (.enter g args) w)
    (xs : List (Int × Int × Unit)) (hNb : xs.length * 16 ≤ 140737488355328) (w : World) (hseq : SeqIs F (n - 1) P g lb xs w) :
    CallsIn F n P f #[.slice none 0 0, .func (.func g) #[] lb] w fun e w' => ∃ v, e = .returned v ∧ w'.ownsRow w.heap.size TE 2 v xs.length (cells2 xs) ∧ Ext w w' (fun _ => False) := by
  have h1 : 1 ≤ n := by omega
  have hN : xs.length ≤ maxLen := Nat.le_trans (m := 140737488355328) (by omega) (by decide)
  have tS := T.tS; have aS := T.aS; have zS := T.zS; have aE := T.aE; have zE := T.zE; have vE := T.vE
  have uS := fun w => run_underlying (P := P) T.tS (w := w)
  refine callsIn_of_wp_marks hf hb h11 ?_ hro
  simp only [hnt, List.size_toArray, List.length_cons, List.length_nil, Nat.reduceAdd, Nat.reduceSub, Array.replicate_succ, Array.replicate_zero, List.push_toArray, List.append_toArray, List.nil_append, List.cons_append]
  unfold apCode
  gi_wp2
  refine wpIn_rangeFunc ?_
  intro fn hfn
  rw [hro]
  obtain ⟨W0, hW0⟩ : ∃ W0, w.alloc (.cells #[.slice none 0 0] TS) = W0 := ⟨_, rfl⟩
  have hs0 : W0.heap.size = w.heap.size + 1 := by rw [← hW0]; simp
  have hv0 : W0.heap[w.heap.size]? = some (.cells #[.slice none 0 0] TS (0, 0)) := by rw [← hW0]; exact World.alloc_heap_new w _
  have hb0 : Ext w W0 (fun _ => False) := by rw [← hW0]; exact ext_alloc (Ext.refl w _) _
  rw [hW0]
  obtain ⟨W1, hW1⟩ : ∃ W1, (W0.alloc (.deferred (some []))).alloc (.loop (apRec q51 q52 TS TE fn (.func (.func g) #[] lb) w.heap.size W0.heap.size .ready none)) = W1 := ⟨_, rfl⟩
  have hold : ∀ k, k < W0.heap.size → W1.heap[k]? = W0.heap[k]? := fun k hk => by
    rw [← hW1]; exact (Below.heap_alloc _ _ k (by simp; omega)).trans (Below.heap_alloc _ _ k hk)
  have hb1 : Ext w W1 (fun _ => False) := by rw [← hW1]; exact ext_alloc (ext_alloc hb0 _) _
  have hs1 : W1.heap.size = W0.heap.size + 2 := by rw [← hW1]; simp
  have hM : ApAt q51 q52 TS TE w fn (.func (.func g) #[] lb) w.heap.size (W0.heap.size + 1) W0.heap.size [] W1 :=
    ⟨⟨_, (hold w.heap.size (by omega)).trans hv0, ⟨rfl, .inl ⟨rfl, rfl⟩⟩⟩,
     by rw [← hW1]; have := World.alloc_heap_new (W0.alloc (.deferred (some []))) (.loop (apRec q51 q52 TS TE fn (.func (.func g) #[] lb) w.heap.size W0.heap.size .ready none)); rwa [World.size_alloc] at this,
     by rw [← hW1]; exact (Below.heap_alloc _ _ _ (by simp)).trans (World.alloc_heap_new W0 _), hb1⟩
  refine ⟨W0.heap.size + 1, [{ target := .collected W0.heap.size, args := #[] }], W1, { target := .fn (.func g) lb, args := #[.func (.yield (W0.heap.size + 1)) #[] #[]] }, W1, g,
    #[.func (.yield (W0.heap.size + 1)) #[] #[]] ++ lb, W1, ?_, ?_, ?_, ?_, fun _ => h1, ?_⟩
  · rw [← hW1]; exact run_enterLoop_outer _ _ _ _ _
  · simp [resolve, go_sem]
  · intro f' hf'; simp [Target.leads] at hf'; subst hf'; exact hFg
  · simp [invoke, go_sem, eg]
  · refine (hseq (W0.heap.size + 1) (ApAt q51 q52 TS TE w fn (.func (.func g) #[] lb) w.heap.size (W0.heap.size + 1) W0.heap.size) W1 (fun pre W W' h hx => h.ext' hx) (fun pre W h => h.ext)
      (fun pre x W hJ hl => apYield T hne F (n - 1 - 1) w fn hfn _ w.heap.size (W0.heap.size + 1) W0.heap.size (by omega) (by omega) (by omega) (Nat.le_refl _) (by omega) xs.length hN hNb pre x W hJ hl) hM).mono ?_
    rintro e W2 ⟨⟨v0, rfl⟩, h2⟩
    obtain ⟨v, hv, hrow⟩ := h2.box
    have hend := run_endLoop (P := P) h2.L (by simp [apRec])
    obtain ⟨W3, hW3⟩ : ∃ W3, W2.putObj (W0.heap.size + 1) (.loop { apRec q51 q52 TS TE fn (.func (.func g) #[] lb) w.heap.size W0.heap.size .ready none with state := .exhausted }) = W3 := ⟨_, rfl⟩
    rw [hW3] at hend
    have hg3 : W2.grownBy W3 (some (W0.heap.size + 1)) := by rw [← hW3]; exact grownBy_putObj _ _ _
    have hd3 : W2.drawn ≤ W3.drawn := by rw [← hW3]; exact Nat.le_refl _
    have hv3 : W3.heap[w.heap.size]? = some (.cells #[v] TS (0, 0)) := by rw [← hW3]; exact (World.putObj_heap_other (by omega)).trans hv
    have hK3 : W3.heap[W0.heap.size]? = some (.deferred (some [])) := by rw [← hW3]; exact (World.putObj_heap_other (by omega)).trans h2.K
    have hrow3 := hrow.kept hg3 (ownsRow_ne hrow h2.L (fun cur e => by cases e))
    have hb3 : Ext w W3 (fun _ => False) := ext_grown h2.ext hg3 hd3 (fun k e => by cases e; omega)
    obtain ⟨hc3, hf3⟩ := cell_of_box hv3
    clear hW3
    refine ⟨none, W3, hend, ?_⟩
    gi_wp2
    rw [← hs0]
    refine ⟨by simp, .inl ⟨_, _, rfl, run_takeDeferred hK3, ?_⟩⟩
    exact ⟨_, results_tmp hres _ _ _, v, rfl, hrow3.kept (grownBy_putObj _ _ _) (ownsRow_ne hrow3 hK3 (fun cur e => by cases e)), ext_grown hb3 (grownBy_putObj _ _ _) (Nat.le_refl _) (fun k e => by cases e; omega)⟩

def coCode (q59 q60 : String) (TS TF f : TypeId) : Code :=
  (Code.region 0 #[{ dst := some 2, op := Op.assign (Operand.const (Value.slice none 0 0)), type := TS, pos := q59, after := #[], guard := none }] false).seq
    ((Code.region 1 #[{ dst := some 3, op := Op.move (Operand.tmp 0), type := TF, pos := q60, after := #[], guard := none }, { dst := some 4, op := Op.call { callee := Callee.value (Operand.func f), args := #[Operand.const (Value.slice none 0 0), Operand.tmp 3], argTypes := #[TS, TF] }, type := TS, pos := q60, after := #[{ on := 0, ground := Ground.data }], guard := none }, { dst := some 2, op := Op.assign (Operand.tmp 4), type := TS, pos := q60, after := #[{ on := 1, ground := Ground.data }, { on := 1, ground := Ground.chain }, { on := 0, ground := Ground.phase }, { on := 1, ground := Ground.phase }], guard := none }] false).seq Code.ret)
set_option maxHeartbeats 1000000 in
theorem collect_in {P : Program} {TS TE TF TF' f fa : TypeId} {fc fca : Func} (T : TwoTy P TS TE) (hne : TS ≠ TE) (hf : P.funcs[f]? = some fc) (hb : fc.body = some (coCode q59 q60 TS TF fa)) (hnt : fc.ntmps = 5) (hres : fc.results = #[.tmp 2])
    (hfa : P.funcs[fa]? = some fca) (hba : fca.body = some (apCode q50 q51 q52 q54 TS TE TF')) (hna : (fca.name == "runtime.NumGoroutine") = false) (hnta : fca.ntmps = 13) (hresa : fca.results = #[.tmp 4])
    (F : Fence) (n : Nat) (h8 : F.fn f) (h11 : F.fn fa) (hro : F.round = none) (hn : 3 ≤ n) (g : Nat) (lb : Array Value) (hFg : F.fn g) (eg : ∀ args w, (callFunc g args).run P w = .ok (.enter g args) w)
    (xs : List (Int × Int × Unit)) (hNb : xs.length * 16 ≤ 140737488355328) (w : World) (hseq : SeqIs F (n - 1 - 1) P g lb xs w) :
    CallsIn F n P f #[.func (.func g) #[] lb] w fun e w' => ∃ v, e = .returned v ∧ w'.ownsRow w.heap.size TE 2 v xs.length (cells2 xs) ∧ Ext w w' (fun _ => False) := by
  have h1 : 1 ≤ n := by omega
  have efa : ∀ args w, (callFunc fa args).run P w = .ok (.enter fa args) w := enters_of hfa hna hba
  have key := fun W hs => appendSeq_in T hne hfa hba hnta hresa F (n - 1) h11 hro (by omega) g lb hFg eg xs hNb W hs
  refine callsIn_of_wp hf hb h8 ?_ hro
  simp only [hnt, List.size_toArray, List.length_cons, List.length_nil, Nat.reduceAdd, Nat.reduceSub, Array.replicate_succ, Array.replicate_zero, List.push_toArray, List.append_toArray, List.nil_append, List.cons_append]
  unfold coCode
  gi_wp2_with (refine (key _ hseq).mono ?_; rintro e w' ⟨v, rfl, hrow, hb⟩)
  (try simp only [Exit.inBlock, Exit.then]); refine bodyPost_ret (results_tmp hres _ _ _) rfl ?_
  exact ⟨v, rfl, hrow, hb⟩

def collectOf {α : Type} (xs : List α) : Option (List α) := bif decide (xs.length * 16 ≤ 140737488355328) then some xs else none
def collectS (TE f1 : Nat) : Spec := ⟨[.fn f1 [] [.v (.ptr (.sl TE Two)) .fr]], List Two.den, fun v => collectOf v.1.2.1, fun r => ([.v (.sl TE Two) (.own .fr) r], [])⟩
theorem ownsRow_base0 {W : World} {base : Nat} {e : TypeId} {size : Nat} {v : Value} {k : Nat} {xs : List Value} (h : W.ownsRow base e size v k xs) : W.ownsRow 0 e size v k xs := by
  refine ⟨h.1, ?_⟩
  rcases h.2 with hn | ⟨g, cap, cur, hv, hbg, rest⟩
  · exact .inl hn
  · exact .inr ⟨g, cap, cur, hv, Nat.zero_le _, rest⟩
theorem two_cells : ∀ xs : List Two.den, xs.flatMap (cellsOf Two) = cells2 xs := fun xs => rfl
theorem collect_main {P : Program} {TS TE TF TF' TF1 f fa f1 : TypeId} {fc fca fc1 : Func} (T : TwoTy P TS TE) (hne : TS ≠ TE) (u3 : P.underlying 3 = some (.int .i64)) (u4 : P.underlying 4 = some .bool)
    (hf : P.funcs[f]? = some fc) (hb : fc.body = some (coCode q59 q60 TS TF fa)) (hnt : fc.ntmps = 5) (hres : fc.results = #[.tmp 2])
    (hfa : P.funcs[fa]? = some fca) (hba : fca.body = some (apCode q50 q51 q52 q54 TS TE TF')) (hna : (fca.name == "runtime.NumGoroutine") = false) (hnta : fca.ntmps = 13) (hresa : fca.results = #[.tmp 4])
    (hf1 : P.funcs[f1]? = some fc1) (hb1 : fc1.body = some (v1Code q39 q40 TS TE TF1)) (hn1 : (fc1.name == "runtime.NumGoroutine") = false) (hnt1 : fc1.ntmps = 16) (hres1 : fc1.results = #[])
    {xs : List Two.den} (hlen : xs.length * 16 ≤ 140737488355328) {w : World} {Z Fo : BSet} {vs : List Value} (hA : ArgsRep w Z [.fn f1 [] [.v (.ptr (.sl TE Two)) .fr xs]] vs Fo) (hZ : ∀ b, Z b → b < w.heap.size) (hF : ∀ b, Fo b → ¬ Z b ∧ b < w.heap.size) :
    Calls P f vs.toArray w fun e' w' => match e' with
      | .returned v => CallPost w w' Z Fo [] [.v (.sl TE Two) (.own .fr) xs] [] v
      | _ => False := by
  obtain ⟨V, Vs', F1, F2, rfl, ⟨h1, hF1⟩, ⟨rfl, hF2⟩, j1⟩ := hA
  cases h1 with
  | fn h3f h3c =>
  cases h3f
  cases h3c with
  | cons h5 h6 =>
  cases h6
  cases h5 with
  | v h5 =>
  rename_i Vp
  obtain ⟨⟨ad, cells, hV, _, hsp, hzb, hca, A, c, cells', rfl, _, hnc, hcm, hA2, hE⟩, hag⟩ := h5
  have hVp := one_val hV hag
  subst hVp
  obtain ⟨b, o, sp⟩ := ad
  simp only at hsp hzb
  subst hsp
  obtain ⟨rfl, _⟩ := elems_plain (e := Two) rfl hE
  have hcell : w.cell? ⟨b, o, none⟩ = some (.slice A xs.length c) := by
    have := hca 0 _ rfl
    rw [add_mem] at this
    simpa using this
  have hsame : ∀ {W : World}, Ext w W (fun _ => False) → ∀ {k : Nat}, Z k → ∀ off, W.cell? ⟨k, off, none⟩ = w.cell? ⟨k, off, none⟩ := fun hx k hk off => cell_of_heap (hx.block k (hZ k hk) (fun h => h))
  have eg : ∀ args w, (callFunc f1 args).run P w = .ok (.enter f1 args) w := enters_of hf1 hn1 hb1
  have hseq : SeqIs Fence.wide (5 - 1 - 1) P f1 #[.pointer (some ⟨b, o, none⟩)] xs w := by
    intro l J W hJ hJx hY h0
    have hbW : ∀ pre W, J pre W → W.cell? ⟨b, o, none⟩ = some (.slice A xs.length c) := fun pre W h => (hsame (hJx pre W h) hzb o).trans hcell
    by_cases hx : xs = []
    · subst hx
      exact values1_nil_in T u3 u4 hf1 hb1 hnt1 hres1 Fence.wide _ trivial rfl l b o A c (J []) W (hbW _ _ h0) h0
    · obtain ⟨⟨b2, o2, sp2⟩, rfl, hsp2, hz2, hc2⟩ := hA2 hx
      simp only at hsp2 hz2
      subst hsp2
      refine values1_in T u3 u4 hf1 hb1 hnt1 hres1 Fence.wide _ trivial rfl (by omega) l b o b2 o2 c xs hlen J hJ (fun pre W h => ⟨hbW pre W h, fun k x hk => ?_⟩) hY W h0
      have := cells_at_two hc2 hk
      simp only [add_mem] at this
      rw [hsame (hJx pre W h) hz2, hsame (hJx pre W h) hz2, this.1, ← this.2]
      exact ⟨rfl, by rw [Nat.add_assoc]⟩
  refine (callsIn_wide.1 (collect_in T hne hf hb hnt hres hfa hba hna hnta hresa Fence.wide 5 trivial trivial rfl (by omega) f1 _ trivial eg xs hlen w hseq)).mono ?_
  rintro e' w' ⟨v, rfl, hrow, hx⟩
  have hlt : ∀ k, v.ownBlock = some k → w.heap.size ≤ k ∧ k < w'.heap.size := hrow.lt
  have hone : v.cells.toList = [v] ∧ ((Ty.sl TE Two).isAgg = true ↔ ∃ cs, v = .agg cs) := by
    rcases hrow.2 with ⟨rfl, _⟩ | ⟨g, cap, cur, rfl, _⟩ <;> simp [Value.cells, Ty.isAgg]
  refine ⟨Z, fun b => v.ownBlock = some b, fun _ => False, [v], ?_, fun b h => h, fun b h => ⟨Nat.lt_of_lt_of_le (hZ b h) hx.size, .inl h⟩, .inl ⟨rfl, rfl⟩, ?_, ⟨rfl, fun _ h => h⟩, ?_, fun b _ h => h⟩
  · exact ⟨hx.os, hx.tape, hx.output, hx.size, fun b hb _ => hx.block b hb (fun h => h), hx.drawn⟩
  · refine ⟨_, _, fun b => v.ownBlock = some b, fun _ => False, rfl, ⟨⟨v, cells2 xs, fun _ => False, hone.1, ownsRow_base0 hrow, plain_elems (e := Two) rfl, fun b => by simp, fun b _ h => h⟩, hone.2⟩, ⟨rfl, fun _ h => h⟩, fun b => by simp, fun b _ h => h⟩
  · rintro b (hb | hb)
    · obtain ⟨l1, l2⟩ := hlt b hb
      exact ⟨fun hz => by have := hZ b hz; omega, l2, .inr l1⟩
    · exact hb.elim
theorem collect_is {P : Program} {TS TE TF TF' TF1 f fa f1 : TypeId} {fc fca fc1 : Func} (T : TwoTy P TS TE) (hne : TS ≠ TE) (u3 : P.underlying 3 = some (.int .i64)) (u4 : P.underlying 4 = some .bool)
    (hf : P.funcs[f]? = some fc) (hb : fc.body = some (coCode q59 q60 TS TF fa)) (hn : (fc.name == "runtime.NumGoroutine") = false) (hnt : fc.ntmps = 5) (hres : fc.results = #[.tmp 2])
    (hfa : P.funcs[fa]? = some fca) (hba : fca.body = some (apCode q50 q51 q52 q54 TS TE TF')) (hna : (fca.name == "runtime.NumGoroutine") = false) (hnta : fca.ntmps = 13) (hresa : fca.results = #[.tmp 4])
    (hf1 : P.funcs[f1]? = some fc1) (hb1 : fc1.body = some (v1Code q39 q40 TS TE TF1)) (hn1 : (fc1.name == "runtime.NumGoroutine") = false) (hnt1 : fc1.ntmps = 16) (hres1 : fc1.results = #[]) :
    FnIs P f (modeOf []) (phi [collectS TE f1]) := by
  intro args res fin h
  refine ⟨⟨fc, hf, by rw [hb]; rfl, hn⟩, fun w Z Fo vs hA hZ hF => ?_⟩
  simp only [phi] at h
  split at h
  rotate_left
  · cases h
  rename_i v hv
  obtain ⟨⟨u, xs, u'⟩, u''⟩ := v
  have hargs := decL_ok hv
  subst hargs
  simp only [collectS, Out.run, collectOf] at h
  cases hd : decide (List.length xs * 16 ≤ 140737488355328) with
  | false => rw [hd] at h; cases h
  | true =>
  rw [hd] at h
  simp only [cond_true, Option.bind_some, Option.some.injEq, Prod.mk.injEq] at h
  obtain ⟨rfl, rfl⟩ := h
  rw [muts_nil]
  exact collect_main T hne u3 u4 hf hb hnt hres hfa hba hna hnta hresa hf1 hb1 hn1 hnt1 hres1 (of_decide_eq_true hd) hA hZ hF
end
end Go.K

/- K, part S3: slices.Clone at frozen slices, and slices.Grow at slices of no element. -/
set_option linter.unusedVariables false
set_option linter.unusedSimpArgs false
namespace Go.K
open Go.RowKit Go.Maps Go.Sort Go.Shelf Go.Proofs
variable [drI : Dr]
attribute [local go_sem] Oper.semAt_some
attribute [local go_sem] Oper.semAt_eq

section
variable {q55 q57 q58 q62 : String}
structure SlTy (P : Program) (TS TE : TypeId) (k bytes : Nat) : Prop where
  tS : P.underlying TS = some (.slice TE)
  iE : (P.info? TE).map (fun i => (i.zero.map (fun z => z.cells.size), i.size, i.bytes)) = some (some k, k, bytes)
  aS : ∀ w, (isAgg TS).run P w = .ok false w
  zS : ∀ w, (Go.sizeOf TS).run P w = .ok 1 w
  zE : ∀ w, (Go.sizeOf TE).run P w = .ok k w
  pos : 0 < k
  by1 : 0 < bytes
theorem SlTy.parts {P : Program} {TS TE : TypeId} {k bytes : Nat} (T : SlTy P TS TE k bytes) : ∃ i z, P.info? TE = some i ∧ i.zero = some z ∧ i.size = k ∧ i.bytes = bytes ∧ z.cells.size = k := by
  have h := T.iE
  cases hi : P.info? TE with
  | none => rw [hi] at h; cases h
  | some i =>
    rw [hi] at h
    simp only [Option.map_some, Option.some.injEq, Prod.mk.injEq] at h
    obtain ⟨h1, h2, h3⟩ := h
    cases hz : i.zero with
    | none => rw [hz] at h1; cases h1
    | some z =>
      rw [hz] at h1
      simp only [Option.map_some, Option.some.injEq] at h1
      exact ⟨i, z, rfl, hz, h2, h3, h1⟩
def clCode (q55 q57 q58 q62 : String) (TS : TypeId) : Code :=
  (Code.region 0 #[{ dst := some 2, op := Op.assign (Operand.const (Value.slice none 0 0)), type := TS, pos := q55, after := #[], guard := none }] false).seq
    (((Code.region 1 #[{ dst := some 3, op := Op.move (Operand.tmp 0), type := TS, pos := q57, after := #[], guard := none }, { dst := some 4, op := Op.binOp BinOp.eql TS (Operand.tmp 3) (Operand.const (Value.slice none 0 0)) TS, type := 4, pos := q57, after := #[{ on := 0, ground := Ground.data }], guard := none }] false).seq
      (Code.cond (Operand.tmp 4) ((Code.region 2 #[{ dst := some 2, op := Op.assign (Operand.const (Value.slice none 0 0)), type := TS, pos := q58, after := #[], guard := none }] false).seq Code.ret) Code.skip)).seq
    ((Code.region 3 #[{ dst := some 5, op := Op.buildSlice TS 0 #[], type := TS, pos := q62, after := #[], guard := none }, { dst := some 6, op := Op.move (Operand.tmp 0), type := TS, pos := q62, after := #[], guard := none }, { dst := some 7, op := Op.call { callee := Callee.builtin Builtin.append, args := #[Operand.tmp 5, Operand.tmp 6], argTypes := #[TS, TS] }, type := TS, pos := q62, after := #[{ on := 0, ground := Ground.data }, { on := 1, ground := Ground.data }], guard := none }, { dst := some 2, op := Op.assign (Operand.tmp 7), type := TS, pos := q62, after := #[{ on := 2, ground := Ground.data }, { on := 2, ground := Ground.chain }, { on := 0, ground := Ground.phase }, { on := 1, ground := Ground.phase }, { on := 2, ground := Ground.phase }], guard := none }] false).seq Code.ret))
set_option maxRecDepth 100000 in
set_option maxHeartbeats 2000000 in
theorem clone_in {P : Program} {TS TE f : TypeId} {k bytes : Nat} {fc : Func} (T : SlTy P TS TE k bytes) (hf : P.funcs[f]? = some fc) (hb : fc.body = some (clCode q55 q57 q58 q62 TS)) (hnt : fc.ntmps = 8) (hres : fc.results = #[.tmp 2])
    (F : Fence) (n : Nat) (h7 : F.fn f) (hro : F.round = none) (w : World) (ad : Addr) (m c : Nat) (cells : List Value) (hl : cells.length = m * k) (hA : Aside (∀ j u, cells[j]? = some u → w.cell? (ad.add j) = some u))
    (h1 : ∀ u ∈ cells, u.oneCell' = true) (hm : m ≤ maxLen) (hbig : m * bytes ≤ 140737488355328) (hlt : cells ≠ [] → ad.block < w.heap.size) :
    CallsIn F n P f #[.slice (some ad) m c] w fun e w' => ∃ v, e = .returned v ∧ w'.ownsRow w.heap.size TE k v m cells ∧ Ext w w' (fun _ => False) := by
  obtain ⟨i0, z, hi, hz0, hz1, hz2, hzc⟩ := T.parts
  have tS := T.tS; have aS := T.aS; have zS := T.zS; have zE := T.zE
  have uS := fun w => run_underlying (P := P) T.tS (w := w)
  have qS : ∀ (w : World) (a : Option Addr) (n c n' c' : Nat), (binOp .eql TS (.slice a n c) (.slice none n' c')).run P w = .ok (.bool a.isNone) w := fun w a n c n' c' => Lib.run_eql_slice_nil w _ _ a n c n' c' T.tS
  refine callsIn_of_wp hf hb h7 ?_ hro
  simp only [hnt, List.size_toArray, List.length_cons, List.length_nil, Nat.reduceAdd, Nat.reduceSub, Array.replicate_succ, Array.replicate_zero, List.push_toArray, List.append_toArray, List.nil_append, List.cons_append]
  unfold clCode
  gi_wp2_with (gi_at_builtin; refine wpListIn_append_d _ rfl _ _ TS rfl w.heap.size TE i0 z k bytes tS hi hz0 hz1 hz2 hzc T.pos _ _ _ rfl (World.ownsRow_made w #[] 0 (Nat.le_refl _) (Nat.zero_le _) (by simp)) ad m c cells rfl hl ?qc2 h1 ?qc4 ?qc5 ?qc6 ?_)
  case qc2 =>
    intro j u hj
    have h := hA.out j u hj
    exact (cell_of_heap (heap_alloc_old w _ (by rw [add_block]; exact hlt (fun e => by rw [e] at hj; cases hj)))).trans h
  case qc4 => simpa using hm
  case qc5 => simpa using hbig
  case qc6 => simp
  intro v' w1 hown hgrow hd
  gi_wp2
  (try simp only [Exit.inBlock, Exit.then]); refine bodyPost_ret (results_tmp hres _ _ _) rfl ?_
  refine ⟨v', rfl, by simpa using hown, ?_⟩
  exact ext_grown (ext_alloc (Ext.refl _ _) _) hgrow hd (fun k e => by simp [Value.ownBlock] at e; omega)
set_option maxRecDepth 100000 in
set_option maxHeartbeats 2000000 in
theorem clone_nil_in {P : Program} {TS TE f : TypeId} {k bytes : Nat} {fc : Func} (T : SlTy P TS TE k bytes) (hf : P.funcs[f]? = some fc) (hb : fc.body = some (clCode q55 q57 q58 q62 TS)) (hnt : fc.ntmps = 8) (hres : fc.results = #[.tmp 2])
    (F : Fence) (n : Nat) (h7 : F.fn f) (hro : F.round = none) (w : World) (m c : Nat) :
    CallsIn F n P f #[.slice none m c] w fun e w' => e = .returned (.slice none 0 0) ∧ w' = w := by
  have tS := T.tS; have aS := T.aS; have zS := T.zS; have zE := T.zE
  have uS := fun w => run_underlying (P := P) T.tS (w := w)
  have qS : ∀ (w : World) (a : Option Addr) (n c n' c' : Nat), (binOp .eql TS (.slice a n c) (.slice none n' c')).run P w = .ok (.bool a.isNone) w := fun w a n c n' c' => Lib.run_eql_slice_nil w _ _ a n c n' c' T.tS
  refine callsIn_of_wp hf hb h7 ?_ hro
  simp only [hnt, List.size_toArray, List.length_cons, List.length_nil, Nat.reduceAdd, Nat.reduceSub, Array.replicate_succ, Array.replicate_zero, List.push_toArray, List.append_toArray, List.nil_append, List.cons_append]
  unfold clCode
  gi_wp2
  (try simp only [Exit.inBlock, Exit.then]); refine bodyPost_ret (results_tmp hres _ _ _) rfl ?_
  exact ⟨rfl, rfl⟩
def cloneOf {α : Type} (bytes : Nat) (xs : List α) : Option (List α) := bif decide (xs.length * bytes ≤ 140737488355328) then some xs else none
def cloneS (TE : Nat) (e : Ty) (bytes : Nat) : Spec := ⟨[.v (.sl TE e) .fr], List e.den, fun v => cloneOf bytes v.1, fun r => ([.v (.sl TE e) (.own .fr) r], [])⟩
theorem clone_main {P : Program} {TS TE f : TypeId} {bytes : Nat} {fc : Func} {e : Ty} (T : SlTy P TS TE e.cells bytes) (hf : P.funcs[f]? = some fc) (hb : fc.body = some (clCode q55 q57 q58 q62 TS)) (hnt : fc.ntmps = 8) (hres : fc.results = #[.tmp 2])
    {xs : List e.den} (hlen : xs.length * bytes ≤ 140737488355328) {w : World} {Z Fo : BSet} {vs : List Value} (hA : ArgsRep w Z [.v (.sl TE e) .fr xs] vs Fo) (hZ : ∀ b, Z b → b < w.heap.size) (hF : ∀ b, Fo b → ¬ Z b ∧ b < w.heap.size) :
    Calls P f vs.toArray w fun e' w' => match e' with
      | .returned v => CallPost w w' Z Fo [] [.v (.sl TE e) (.own .fr) xs] [] v
      | _ => False := by
  obtain ⟨V, Vs', F1, F2, rfl, h1, ⟨rfl, hF2⟩, j1⟩ := hA
  obtain ⟨⟨A, c, cells, hV, _, hnc, hcm, hA2, hE⟩, hag⟩ := h1
  have hVp := one_val hV hag
  subst hVp
  have key : CallsIn Fence.wide 5 P f #[.slice A xs.length c] w fun e' w' => ∃ v, e' = .returned v ∧ w'.ownsRow w.heap.size TE e.cells v xs.length cells ∧ Ext w w' (fun _ => False) := by
    have hl : cells.length = xs.length * e.cells := hE.length (fun _ _ _ h => h.length)
    have h1 : ∀ u ∈ cells, u.oneCell' = true := hE.all (fun _ _ _ h => h.one)
    have hm : xs.length ≤ maxLen := Nat.le_trans hnc hcm
    cases A with
    | none =>
      have hx : xs = [] := by
        by_cases hx : xs = []
        · exact hx
        · obtain ⟨ad, h, _⟩ := hA2 hx; cases h
      subst hx
      have hc0 : cells = [] := List.length_eq_zero_iff.1 (by simpa using hl)
      subst hc0
      refine (clone_nil_in T hf hb hnt hres Fence.wide 5 trivial rfl w 0 c).mono ?_
      rintro e' w' ⟨rfl, rfl⟩
      exact ⟨_, rfl, ⟨by simp, .inl ⟨rfl, rfl⟩⟩, Ext.refl _ _⟩
    | some ad =>
      refine clone_in T hf hb hnt hres Fence.wide 5 trivial rfl w ad xs.length c cells hl ?_ h1 hm hlen ?_
      · intro j u hj
        have hx : xs ≠ [] := fun e' => by
          rw [e'] at hl
          have : cells = [] := List.length_eq_zero_iff.1 (by simpa using hl)
          rw [this] at hj; cases hj
        obtain ⟨ad', h, _, _, hc⟩ := hA2 hx
        cases h
        exact hc j u hj
      · intro hc0
        have hx : xs ≠ [] := fun e' => by
          rw [e'] at hl
          exact hc0 (List.length_eq_zero_iff.1 (by simpa using hl))
        obtain ⟨ad', h, _, hz, _⟩ := hA2 hx
        cases h
        exact hZ _ hz
  refine (callsIn_wide.1 key).mono ?_
  rintro e' w' ⟨v, rfl, hrow, hx⟩
  have hlt : ∀ k, v.ownBlock = some k → w.heap.size ≤ k ∧ k < w'.heap.size := hrow.lt
  have hone : v.cells.toList = [v] ∧ ((Ty.sl TE e).isAgg = true ↔ ∃ cs, v = .agg cs) := by
    rcases hrow.2 with ⟨rfl, _⟩ | ⟨g, cap, cur, rfl, _⟩ <;> simp [Value.cells, Ty.isAgg]
  have hE' : ElemsRep (fun y => Rep w' Z e .fr y) xs cells (fun _ => False) := hE.monoF (S := fun _ => False) (fun _ _ _ hs h => h.frame (fun b hz => ⟨hz, hx.block b (hZ b hz) (fun h => h)⟩) (fun b hb => (hs b hb).elim)) (fun _ h => h)
  refine ⟨Z, fun b => v.ownBlock = some b, fun _ => False, [v], ?_, fun b h => h, fun b h => ⟨Nat.lt_of_lt_of_le (hZ b h) hx.size, .inl h⟩, .inl ⟨rfl, rfl⟩, ?_, ⟨rfl, fun _ h => h⟩, ?_, fun b _ h => h⟩
  · exact ⟨hx.os, hx.tape, hx.output, hx.size, fun b hb _ => hx.block b hb (fun h => h), hx.drawn⟩
  · refine ⟨_, _, fun b => v.ownBlock = some b, fun _ => False, rfl, ⟨⟨v, cells, fun _ => False, hone.1, ownsRow_base0 hrow, hE', fun b => by simp, fun b _ h => h⟩, hone.2⟩, ⟨rfl, fun _ h => h⟩, fun b => by simp, fun b _ h => h⟩
  · rintro b (hb | hb)
    · obtain ⟨l1, l2⟩ := hlt b hb
      exact ⟨fun hz => by have := hZ b hz; omega, l2, .inr l1⟩
    · exact hb.elim
theorem clone_is {P : Program} {TS TE f : TypeId} {bytes : Nat} {fc : Func} {e : Ty} (T : SlTy P TS TE e.cells bytes) (hf : P.funcs[f]? = some fc) (hb : fc.body = some (clCode q55 q57 q58 q62 TS)) (hn : (fc.name == "runtime.NumGoroutine") = false) (hnt : fc.ntmps = 8) (hres : fc.results = #[.tmp 2]) :
    FnIs P f (modeOf []) (phi [cloneS TE e bytes]) := by
  intro args res fin h
  refine ⟨⟨fc, hf, by rw [hb]; rfl, hn⟩, fun w Z Fo vs hA hZ hF => ?_⟩
  simp only [phi] at h
  split at h
  rotate_left
  · cases h
  rename_i v hv
  obtain ⟨xs, u'⟩ := v
  have hargs := decL_ok hv
  subst hargs
  simp only [cloneS, Out.run, cloneOf] at h
  cases hd : decide (List.length xs * bytes ≤ 140737488355328) with
  | false => rw [hd] at h; cases h
  | true =>
  rw [hd] at h
  simp only [cond_true, Option.bind_some, Option.some.injEq, Prod.mk.injEq] at h
  obtain ⟨rfl, rfl⟩ := h
  have hm : ∀ l : List Value, mutsOf (modeOf []) 0 l = [] := by
    have : ∀ (l : List Value) (i : Nat), mutsOf (modeOf []) i l = [] := by
      intro l
      induction l with
      | nil => intro i; rfl
      | cons a l ih => intro i; exact ih (i + 1)
    exact fun l => this l 0
  rw [hm]
  exact clone_main T hf hb hnt hres (of_decide_eq_true hd) hA hZ hF
end
section
variable {P : Program}
theorem append_made (w : World) (t ti ty e : TypeId) (i : TypeInfo) (z : Value) (size bytes : Nat) (ht : P.underlying t = some (.slice e)) (hti : P.underlying ti = some (.int .i64)) (hi : P.info? e = some i) (hz : i.zero = some z)
    (hsize : i.size = size) (hby : i.bytes = bytes) (hzs : z.cells.size = size) (hsz : 0 < size) (hb1 : 0 < bytes)
    (A : Option Addr) (cap : Nat) (xs : List Value) (hown : w.ownsRow 0 e size (.slice A cap cap) cap xs) (n : Nat) (hn : 0 < n) (hbytes : (cap + n) * bytes ≤ 140737488355328) :
    ∃ c' cur, (Builtin.append_ #[t, ti] ty #[.slice A cap cap, .int .i64 n]).run P w = .ok (.slice (some ⟨w.heap.size, 0, none⟩) (cap + n) c') (w.drew.alloc (.cells cur e)) ∧ cap + n ≤ c' ∧ c' ≤ maxLen ∧ cur.size = c' * size := by
  subst hsize
  subst hby
  have hle : (cap + n) * 1 ≤ (cap + n) * i.bytes := Nat.mul_le_mul_left _ hb1
  have hnb : n * i.bytes ≤ (cap + n) * i.bytes := Nat.mul_le_mul_right _ (by omega)
  have hmax : cap + n ≤ maxLen := by simp only [maxLen]; omega
  have hw : IntKind.i64.wrap (n : Int) = n := by rw [IntKind.wrap_i64]; simp only [maxLen] at hmax; omega
  have h1 : ¬ ((n : Int) * (i.bytes : Int) > 2 ^ 48) := by
    have : ((n * i.bytes : Nat) : Int) = (n : Int) * (i.bytes : Int) := by push_cast; rfl
    omega
  have hfit := growslice_fits (need := cap + n) (old := cap) (bytes := i.bytes) (by omega) hbytes
  have hcc : ¬ (cap + n ≤ cap) := by omega
  have hge := grownCap_ge w (cap + n) cap e
  have hcm := grownCap_le_maxLen w (cap + n) cap e hmax
  have hn0 : n * i.size ≠ 0 := Nat.ne_of_gt (Nat.mul_pos hn hsz)
  have h2 : ¬ (((cap : Int) + n > IntKind.i64.max) ) := by
    have : IntKind.i64.max = 9223372036854775807 := by decide
    simp only [maxLen] at hmax; omega
  have h3 : ¬ (((cap + n : Nat) : Int) > IntKind.i64.max) := by
    have : IntKind.i64.max = 9223372036854775807 := by decide
    simp only [maxLen] at hmax; omega
  have h4 : ¬ (Builtin.nextslicecap (cap + n) cap * i.bytes > 2 ^ 48) := by omega
  have h5 : ¬ ((n : Int) < 0) := by omega
  have ha : (Go.asInt (.int .i64 (n : Int))).run P w = .ok (n : Int) w := by simp [Go.asInt, Go.asIntOf]
  have h1' : ¬ ((281474976710656 : Int) < (n : Int) * (i.bytes : Int)) := by omega
  have h2' : ¬ ((9223372036854775807 : Int) < (cap : Int) + (n : Int)) := by simp only [maxLen] at hmax; omega
  have h4' : ¬ (281474976710656 < Builtin.nextslicecap (cap + n) cap * i.bytes) := by omega
  have hn1 : n ≠ 0 := by omega
  have hs1 : i.size ≠ 0 := by omega
  have hm0 : max (n : Int) 0 = n := by omega
  have hfo : (Builtin.firstCells i.size cap (.slice A cap cap)).run P w.drew = .ok xs.toArray w.drew := by
    rcases hown.2 with ⟨h, rfl⟩ | ⟨g, cap', cur, h, _⟩
    · cases h
      have hx : xs = [] := List.eq_nil_of_length_eq_zero (by simpa using hown.1)
      subst hx
      simp [Builtin.firstCells]
    · have h' := h
      cases h
      exact run_firstCells_some (P := P) w.drew i.size cap ⟨g, 0, none⟩ cap cap xs hown.1 (by
        intro j v hj
        have := hown.cells (g := g) rfl j v hj
        simpa using this)
  refine ⟨grownCap w (cap + n) cap e, xs.toArray ++ Builtin.zeroCells z.cells n ++ Builtin.zeroCells z.cells (grownCap w (cap + n) cap e - (cap + n)), ?_, hge, hcm, ?_⟩
  · simp [Builtin.append_, run_underlying ht, run_underlying hti, sizeOf, typeInfo, zeroValue, ha, hi, hz, hw, h1', h2', h4', hn1, hs1, hm0, hcc, Question.forced, hfo, newRow, grownCap]
    rw [if_neg h5, if_neg hn0]
  · simp only [Array.size_append, List.size_toArray, size_zeroCells, hzs, hown.1, ← Nat.add_mul]
    congr 1
    omega
end
section
variable {q22 q23 q24 q26 q28 q30 : String}
def grCode (q22 q23 q24 q26 q28 q30 : String) (TS TStr TAny : TypeId) (msg : ByteArray) : Code :=
  (Code.region 0 #[{ dst := some 4, op := Op.assign (Operand.const (Value.slice none 0 0)), type := TS, pos := q22, after := #[], guard := none }] false).seq
    (((Code.region 1 #[{ dst := some 5, op := Op.move (Operand.tmp 1), type := 3, pos := q23, after := #[], guard := none }, { dst := some 6, op := Op.binOp BinOp.lss 3 (Operand.tmp 5) (Operand.const (Value.int IntKind.i64 0)) 3, type := 4, pos := q23, after := #[{ on := 0, ground := Ground.data }], guard := none }] false).seq
      (Code.cond (Operand.tmp 6) (Code.region 2 #[{ dst := some 7, op := Op.makeInterface TStr (Operand.const (Value.string msg)), type := TAny, pos := q24, after := #[], guard := none }, { dst := none, op := Op.panic (Operand.tmp 7), type := 0, pos := q24, after := #[{ on := 0, ground := Ground.data }], guard := none }] false) Code.skip)).seq
    (((Code.region 3 #[{ dst := some 8, op := Op.move (Operand.tmp 1), type := 3, pos := q26, after := #[], guard := none },
        { dst := some 9, op := Op.move (Operand.tmp 0), type := TS, pos := q26, after := #[], guard := none },
        { dst := some 10, op := Op.call { callee := Callee.builtin Builtin.cap, args := #[Operand.tmp 9], argTypes := #[TS] }, type := 3, pos := q26, after := #[{ on := 1, ground := Ground.data }], guard := none },
        { dst := some 11, op := Op.move (Operand.tmp 0), type := TS, pos := q26, after := #[], guard := none },
        { dst := some 12, op := Op.call { callee := Callee.builtin Builtin.len, args := #[Operand.tmp 11], argTypes := #[TS] }, type := 3, pos := q26, after := #[{ on := 3, ground := Ground.data }], guard := none },
        { dst := some 13, op := Op.binOp BinOp.sub 3 (Operand.tmp 10) (Operand.tmp 12) 3, type := 3, pos := q26, after := #[{ on := 2, ground := Ground.data }, { on := 4, ground := Ground.data }], guard := none },
        { dst := some 14, op := Op.binOp BinOp.sub 3 (Operand.tmp 8) (Operand.tmp 13) 3, type := 3, pos := q26, after := #[{ on := 0, ground := Ground.data }, { on := 5, ground := Ground.data }], guard := none },
        { dst := some 1, op := Op.assign (Operand.tmp 14), type := 3, pos := q26, after := #[{ on := 6, ground := Ground.data }, { on := 0, ground := Ground.phase }, { on := 1, ground := Ground.phase }, { on := 2, ground := Ground.phase }, { on := 3, ground := Ground.phase }, { on := 4, ground := Ground.phase }, { on := 5, ground := Ground.phase }, { on := 6, ground := Ground.phase }], guard := none }] false).seq
      ((Code.region 4 #[{ dst := some 15, op := Op.move (Operand.tmp 1), type := 3, pos := q26, after := #[], guard := none }, { dst := some 16, op := Op.binOp BinOp.gtr 3 (Operand.tmp 15) (Operand.const (Value.int IntKind.i64 0)) 3, type := 4, pos := q26, after := #[{ on := 0, ground := Ground.data }], guard := none }] false).seq
        (Code.cond (Operand.tmp 16)
          (Code.region 5 #[{ dst := some 17, op := Op.move (Operand.tmp 0), type := TS, pos := q28, after := #[], guard := none },
            { dst := some 18, op := Op.move (Operand.tmp 0), type := TS, pos := q28, after := #[], guard := none },
            { dst := some 19, op := Op.call { callee := Callee.builtin Builtin.cap, args := #[Operand.tmp 18], argTypes := #[TS] }, type := 3, pos := q28, after := #[{ on := 1, ground := Ground.data }], guard := none },
            { dst := some 20, op := Op.slice TS (Operand.tmp 17) none (some (Operand.tmp 19)) none, type := TS, pos := q28, after := #[{ on := 0, ground := Ground.data }, { on := 2, ground := Ground.data }], guard := none },
            { dst := some 21, op := Op.move (Operand.tmp 1), type := 3, pos := q28, after := #[], guard := none },
            { dst := some 22, op := Op.call { callee := Callee.builtin Builtin.append, args := #[Operand.tmp 20, Operand.tmp 21], argTypes := #[TS, 3] }, type := TS, pos := q28, after := #[{ on := 3, ground := Ground.data }, { on := 4, ground := Ground.data }], guard := none },
            { dst := some 23, op := Op.move (Operand.tmp 0), type := TS, pos := q28, after := #[], guard := none },
            { dst := some 24, op := Op.call { callee := Callee.builtin Builtin.len, args := #[Operand.tmp 23], argTypes := #[TS] }, type := 3, pos := q28, after := #[{ on := 6, ground := Ground.data }], guard := none },
            { dst := some 25, op := Op.slice TS (Operand.tmp 22) none (some (Operand.tmp 24)) none, type := TS, pos := q28, after := #[{ on := 5, ground := Ground.data }, { on := 7, ground := Ground.data }], guard := none },
            { dst := some 0, op := Op.assign (Operand.tmp 25), type := TS, pos := q28, after := #[{ on := 8, ground := Ground.data }, { on := 5, ground := Ground.chain }, { on := 0, ground := Ground.phase }, { on := 1, ground := Ground.phase }, { on := 2, ground := Ground.phase }, { on := 3, ground := Ground.phase }, { on := 4, ground := Ground.phase }, { on := 5, ground := Ground.phase }, { on := 6, ground := Ground.phase }, { on := 7, ground := Ground.phase }, { on := 8, ground := Ground.phase }], guard := none }] false)
          Code.skip))).seq
      ((Code.region 6 #[{ dst := some 26, op := Op.move (Operand.tmp 0), type := TS, pos := q30, after := #[], guard := none }, { dst := some 4, op := Op.assign (Operand.tmp 26), type := TS, pos := q30, after := #[{ on := 0, ground := Ground.data }, { on := 0, ground := Ground.phase }], guard := none }] false).seq Code.ret)))
theorem ext_made (w : World) (o : Obj) : Ext w (w.alloc o).drew (fun _ => False) := ext_grown (ext_alloc (Ext.refl _ _) o) (row := none) ⟨rfl, rfl, rfl, Nat.le_refl _, fun _ _ _ => rfl⟩ (Nat.le_succ _) (fun k e => by cases e)
theorem wpListIn_append_made {P : Program} {F : Fence} {m : Nat} (w : World) {ops : Array Oper} {rest : List Oper} {o : Oper} {a : Act} {Q : Exit → Act → World → Prop}
    (hg : o.guard = none) (s x : Operand) (t ti : TypeId) (hop : o.op = Op.call { callee := Callee.builtin Builtin.append, args := #[s, x], argTypes := #[t, ti] })
    (V X : Value) (hs : a.eval s = V) (hx : a.eval x = X) (v' : Value) (w' : World) (hr : (Builtin.append_ #[t, ti] o.type #[V, X]).run P w = .ok v' w')
    (hK : wpListIn F m P ops Q rest (a.put o.dst v') w') :
    wpListIn F m P ops Q (o :: rest) a w := by
  refine wpListIn_plain hg fun K hK' => ?_
  unfold Oper.wpIn
  refine ⟨?_, ?_⟩
  · simp [Oper.about, hop, resolve, Target.leads, Sem.run_pure]
  · rw [Oper.semAt_plain F _ _ (by rw [hop]; intro c hc'; cases hc')]
    simp [execOp, hop, resolve, invoke, builtin, hs, hx, hr, Result.andThen]
    exact hK' _ _ hK
set_option maxRecDepth 100000 in
set_option maxHeartbeats 2000000 in
theorem grow_nil_in {P : Program} {TS TE TStr TAny f : TypeId} {msg : ByteArray} {k bytes : Nat} {fc : Func} (T : SlTy P TS TE k bytes) (u3 : P.underlying 3 = some (.int .i64)) (hf : P.funcs[f]? = some fc) (hb : fc.body = some (grCode q22 q23 q24 q26 q28 q30 TS TStr TAny msg)) (hnt : fc.ntmps = 27) (hres : fc.results = #[.tmp 4])
    (F : Fence) (m : Nat) (h7 : F.fn f) (hro : F.round = none) (w : World) (n : Nat) (hn : 0 < n) (hbig : n * bytes ≤ 140737488355328) :
    CallsIn F m P f #[.slice none 0 0, .int .i64 n] w fun e w' => ∃ v, e = .returned v ∧ w'.ownsRow w.heap.size TE k v 0 [] ∧ Ext w w' (fun _ => False) := by
  obtain ⟨i0, z, hi, hz0, hz1, hz2, hzc⟩ := T.parts
  have tS := T.tS; have aS := T.aS; have zS := T.zS; have zE := T.zE
  have uS := fun w => run_underlying (P := P) T.tS (w := w)
  have hle : n * 1 ≤ n * bytes := Nat.mul_le_mul_left _ T.by1
  obtain ⟨c', cur, hr, hc1, hc2, hc3⟩ := append_made (P := P) w TS 3 TS TE i0 z k bytes tS u3 hi hz0 hz1 hz2 hzc T.pos T.by1 none 0 [] ⟨by simp, .inl ⟨rfl, rfl⟩⟩ n hn (by simpa using hbig)
  have b1 : ¬ ((n : Int) < 0) := by omega
  have b2 : (n : Int) > 0 := by omega
  refine callsIn_of_wp hf hb h7 ?_ hro
  simp only [hnt, List.size_toArray, List.length_cons, List.length_nil, Nat.reduceAdd, Nat.reduceSub, Array.replicate_succ, Array.replicate_zero, List.push_toArray, List.append_toArray, List.nil_append, List.cons_append]
  unfold grCode
  gi_wp2_with (gi_at_builtin; refine wpListIn_append_made _ rfl _ _ TS 3 rfl _ _ rfl rfl _ _ hr ?_)
  (try simp only [Exit.inBlock, Exit.then]); refine bodyPost_ret (results_tmp hres _ _ _) rfl ?_
  refine ⟨_, rfl, ⟨by simp, .inr ⟨w.heap.size, c', cur, rfl, Nat.le_refl _, heap_alloc_new w _, Nat.zero_le _, hc2, hc3, by simp⟩⟩, ?_⟩
  exact ext_made w _
set_option maxRecDepth 100000 in
set_option maxHeartbeats 2000000 in
theorem grow_same_in {P : Program} {TS TE TStr TAny f : TypeId} {msg : ByteArray} {k bytes : Nat} {fc : Func} (T : SlTy P TS TE k bytes) (u3 : P.underlying 3 = some (.int .i64)) (hf : P.funcs[f]? = some fc) (hb : fc.body = some (grCode q22 q23 q24 q26 q28 q30 TS TStr TAny msg)) (hnt : fc.ntmps = 27) (hres : fc.results = #[.tmp 4])
    (F : Fence) (m : Nat) (h7 : F.fn f) (hro : F.round = none) (w : World) (A : Option Addr) (cap n : Nat) (hA : A = none → cap = 0) (hn : n ≤ cap) (hcap : cap ≤ maxLen) :
    CallsIn F m P f #[.slice A 0 cap, .int .i64 n] w fun e w' => e = .returned (.slice A 0 cap) ∧ w' = w := by
  obtain ⟨i0, z, hi, hz0, hz1, hz2, hzc⟩ := T.parts
  have tS := T.tS; have aS := T.aS; have zS := T.zS; have zE := T.zE
  have uS := fun w => run_underlying (P := P) T.tS (w := w)
  have b1 : ¬ ((n : Int) < 0) := by omega
  have b3 : (cap : Int) ≤ 9223372036854775807 := by simp only [maxLen] at hcap; omega
  have b2 : ¬ ((n : Int) - cap > 0) := by omega
  refine callsIn_of_wp hf hb h7 ?_ hro
  simp only [hnt, List.size_toArray, List.length_cons, List.length_nil, Nat.reduceAdd, Nat.reduceSub, Array.replicate_succ, Array.replicate_zero, List.push_toArray, List.append_toArray, List.nil_append, List.cons_append]
  unfold grCode
  gi_wp2
  (try simp only [Exit.inBlock, Exit.then]); refine bodyPost_ret (results_tmp hres _ _ _) rfl ?_
  exact ⟨rfl, rfl⟩
set_option maxRecDepth 100000 in
set_option maxHeartbeats 2000000 in
theorem grow_more_in {P : Program} {TS TE TStr TAny f : TypeId} {msg : ByteArray} {k bytes : Nat} {fc : Func} (T : SlTy P TS TE k bytes) (u3 : P.underlying 3 = some (.int .i64)) (hf : P.funcs[f]? = some fc) (hb : fc.body = some (grCode q22 q23 q24 q26 q28 q30 TS TStr TAny msg)) (hnt : fc.ntmps = 27) (hres : fc.results = #[.tmp 4])
    (F : Fence) (m : Nat) (h7 : F.fn f) (hro : F.round = none) (w : World) (g cap n : Nat) (xs : List Value) (hown : w.ownsRow 0 TE k (.slice (some ⟨g, 0, none⟩) cap cap) cap xs) (hn : cap < n) (hbig : n * bytes ≤ 140737488355328) (hcap : cap ≤ maxLen) :
    CallsIn F m P f #[.slice (some ⟨g, 0, none⟩) 0 cap, .int .i64 n] w fun e w' => ∃ v, e = .returned v ∧ w'.ownsRow w.heap.size TE k v 0 [] ∧ Ext w w' (fun _ => False) := by
  obtain ⟨i0, z, hi, hz0, hz1, hz2, hzc⟩ := T.parts
  have tS := T.tS; have aS := T.aS; have zS := T.zS; have zE := T.zE
  have uS := fun w => run_underlying (P := P) T.tS (w := w)
  have hle : n * 1 ≤ n * bytes := Nat.mul_le_mul_left _ T.by1
  obtain ⟨c', cur, hr, hc1, hc2, hc3⟩ := append_made (P := P) w TS 3 TS TE i0 z k bytes tS u3 hi hz0 hz1 hz2 hzc T.pos T.by1 (some ⟨g, 0, none⟩) cap xs hown (n - cap) (by omega) (by rw [show cap + (n - cap) = n by omega]; exact hbig)
  rw [show (((n - cap : Nat) : Nat) : Int) = (n : Int) - cap by omega] at hr
  have b1 : ¬ ((n : Int) < 0) := by omega
  have b3 : (cap : Int) ≤ 9223372036854775807 := by simp only [maxLen] at hcap; omega
  have b2 : (n : Int) - cap > 0 := by omega
  refine callsIn_of_wp hf hb h7 ?_ hro
  simp only [hnt, List.size_toArray, List.length_cons, List.length_nil, Nat.reduceAdd, Nat.reduceSub, Array.replicate_succ, Array.replicate_zero, List.push_toArray, List.append_toArray, List.nil_append, List.cons_append]
  unfold grCode
  gi_wp2_with (gi_at_builtin; refine wpListIn_append_made _ rfl _ _ TS 3 rfl _ _ rfl rfl _ _ hr ?_)
  (try simp only [Exit.inBlock, Exit.then]); refine bodyPost_ret (results_tmp hres _ _ _) rfl ?_
  refine ⟨_, rfl, ⟨by simp, .inr ⟨w.heap.size, c', cur, rfl, Nat.le_refl _, heap_alloc_new w _, Nat.zero_le _, hc2, hc3, by simp⟩⟩, ?_⟩
  exact ext_made w _
def growOf {α : Type} (bytes : Nat) (xs : List α) (n : Int) : Option (List α) := bif xs.isEmpty && decide (0 ≤ n) && decide (n * bytes ≤ 140737488355328) then some [] else none
def growS (TE : Nat) (e : Ty) (q : Ow) (bytes : Nat) : Spec := ⟨[.v (.sl TE e) (.own q), .v (.int .i64) .fr], List e.den, fun v => growOf bytes v.1 v.2.1, fun r => ([.v (.sl TE e) (.own q) r], [])⟩
theorem grow_main {P : Program} {TS TE TStr TAny f : TypeId} {msg : ByteArray} {bytes : Nat} {fc : Func} {e : Ty} {q : Ow} (T : SlTy P TS TE e.cells bytes) (u3 : P.underlying 3 = some (.int .i64)) (hf : P.funcs[f]? = some fc) (hb : fc.body = some (grCode q22 q23 q24 q26 q28 q30 TS TStr TAny msg)) (hnt : fc.ntmps = 27) (hres : fc.results = #[.tmp 4])
    {n : Nat} (hlen : n * bytes ≤ 140737488355328) {w : World} {Z Fo : BSet} {vs : List Value} (hA : ArgsRep w Z [.v (.sl TE e) (.own q) [], .v (.int .i64) .fr (n : Int)] vs Fo) (hZ : ∀ b, Z b → b < w.heap.size) (hF : ∀ b, Fo b → ¬ Z b ∧ b < w.heap.size) :
    Calls P f vs.toArray w fun e' w' => match e' with
      | .returned v => CallPost w w' Z Fo [] [.v (.sl TE e) (.own q) []] [] v
      | _ => False := by
  obtain ⟨V, Vs', F1, F2, rfl, h1, ⟨V2, Vs2, F3, F4, rfl, h2, ⟨rfl, hF4⟩, j2⟩, j1⟩ := hA
  obtain ⟨⟨V0, cells, Fe, hV, hown, hE, hFF, hFd⟩, hag⟩ := h1
  have hVp := one_val hV hag
  subst hVp
  obtain ⟨rfl, hFe⟩ := hE
  have hV2 : V2 = .int .i64 (n : Int) := by
    rcases h2 with ⟨⟨_, h, _⟩ | ⟨h, _⟩, hag2⟩
    · exact one_val h hag2
    · cases h
  subst hV2
  have hle : n * 1 ≤ n * bytes := Nat.mul_le_mul_left _ T.by1
  have key : CallsIn Fence.wide 5 P f #[V, .int .i64 n] w fun e' w' => ∃ v, e' = .returned v ∧ w'.ownsRow 0 TE e.cells v 0 [] ∧ Ext w w' (fun _ => False) ∧ ∀ b, v.ownBlock = some b → V.ownBlock = some b ∨ w.heap.size ≤ b ∧ b < w'.heap.size := by
    rcases hown.2 with ⟨rfl, _⟩ | ⟨g, cap, cur, rfl, _, hg, _, hcm, hcs, _⟩
    · rcases Nat.eq_zero_or_pos n with rfl | hn
      · refine (grow_same_in T u3 hf hb hnt hres Fence.wide 5 trivial rfl w none 0 0 (fun _ => rfl) (Nat.le_refl _) (Nat.zero_le _)).mono ?_
        rintro e' w' ⟨rfl, rfl⟩
        exact ⟨_, rfl, hown, Ext.refl _ _, fun b h => .inl h⟩
      · refine (grow_nil_in T u3 hf hb hnt hres Fence.wide 5 trivial rfl w n hn hlen).mono ?_
        rintro e' w' ⟨v, rfl, hr, hx⟩
        exact ⟨_, rfl, ownsRow_base0 hr, hx, fun b h => .inr (hr.lt b h)⟩
    · by_cases hn : n ≤ cap
      · refine (grow_same_in T u3 hf hb hnt hres Fence.wide 5 trivial rfl w _ cap n (fun h => by cases h) hn hcm).mono ?_
        rintro e' w' ⟨rfl, rfl⟩
        exact ⟨_, rfl, hown, Ext.refl _ _, fun b h => .inl h⟩
      · refine (grow_more_in T u3 hf hb hnt hres Fence.wide 5 trivial rfl w g cap n cur.toList ⟨by simpa using hcs, .inr ⟨g, cap, cur, rfl, Nat.zero_le _, hg, Nat.le_refl _, hcm, hcs, List.take_of_length_le (by simp [hcs])⟩⟩ (by omega) hlen hcm).mono ?_
        rintro e' w' ⟨v, rfl, hr, hx⟩
        exact ⟨_, rfl, ownsRow_base0 hr, hx, fun b h => .inr (hr.lt b h)⟩
  refine (callsIn_wide.1 key).mono ?_
  rintro e' w' ⟨v, rfl, hrow, hx, hlt⟩
  have hone : v.cells.toList = [v] ∧ ((Ty.sl TE e).isAgg = true ↔ ∃ cs, v = .agg cs) := by
    rcases hrow.2 with ⟨rfl, _⟩ | ⟨g, cap, cur, rfl, _⟩ <;> simp [Value.cells, Ty.isAgg]
  refine ⟨Z, fun b => v.ownBlock = some b, fun _ => False, [v], ?_, fun b h => h, fun b h => ⟨Nat.lt_of_lt_of_le (hZ b h) hx.size, .inl h⟩, .inl ⟨rfl, rfl⟩, ?_, ⟨rfl, fun _ h => h⟩, ?_, fun b _ h => h⟩
  · exact ⟨hx.os, hx.tape, hx.output, hx.size, fun b hb _ => hx.block b hb (fun h => h), hx.drawn⟩
  · refine ⟨_, _, fun b => v.ownBlock = some b, fun _ => False, rfl, ⟨⟨v, [], fun _ => False, hone.1, hrow, ⟨rfl, fun _ h => h⟩, fun b => by simp, fun b _ h => h⟩, hone.2⟩, ⟨rfl, fun _ h => h⟩, fun b => by simp, fun b _ h => h⟩
  · rintro b (hb | hb)
    · rcases hlt b hb with h | ⟨l1, l2⟩
      · have hFo := j1.left ((hFF b).2 (.inl h))
        obtain ⟨hz, hs⟩ := hF b hFo
        exact ⟨hz, Nat.lt_of_lt_of_le hs hx.size, .inl hFo⟩
      · exact ⟨fun hz => by have := hZ b hz; omega, l2, .inr l1⟩
    · exact hb.elim
theorem muts_own : ∀ (l : List Value), mutsOf (modeOf [.own]) 0 l = [] := by
  have : ∀ (l : List Value) (i : Nat), mutsOf (modeOf [.own]) (i + 1) l = [] := by
    intro l
    induction l with
    | nil => intro i; rfl
    | cons a l ih => intro i; exact ih (i + 1)
  intro l
  cases l with
  | nil => rfl
  | cons a l => exact this l 0
theorem grow_is {P : Program} {TS TE TStr TAny f : TypeId} {msg : ByteArray} {bytes : Nat} {fc : Func} {e : Ty} {q : Ow} (T : SlTy P TS TE e.cells bytes) (u3 : P.underlying 3 = some (.int .i64)) (hf : P.funcs[f]? = some fc) (hb : fc.body = some (grCode q22 q23 q24 q26 q28 q30 TS TStr TAny msg)) (hn : (fc.name == "runtime.NumGoroutine") = false) (hnt : fc.ntmps = 27) (hres : fc.results = #[.tmp 4]) :
    FnIs P f (modeOf [.own]) (phi [growS TE e q bytes]) := by
  intro args res fin h
  refine ⟨⟨fc, hf, by rw [hb]; rfl, hn⟩, fun w Z Fo vs hA hZ hF => ?_⟩
  simp only [phi] at h
  split at h
  rotate_left
  · cases h
  rename_i v hv
  obtain ⟨xs, n, u'⟩ := v
  have hargs := decL_ok hv
  subst hargs
  change List e.den at xs
  change Int at n
  simp only [growS, Out.run, growOf] at h
  cases hd : (List.isEmpty xs && decide ((0 : Int) ≤ n) && decide (n * (bytes : Int) ≤ 140737488355328)) with
  | false => rw [hd] at h; cases h
  | true =>
  rw [hd] at h
  simp only [cond_true, Option.bind_some, Option.some.injEq, Prod.mk.injEq] at h
  obtain ⟨rfl, rfl⟩ := h
  simp only [Bool.and_eq_true, decide_eq_true_eq, List.isEmpty_iff] at hd
  obtain ⟨⟨rfl, h0⟩, hn'⟩ := hd
  obtain ⟨m, rfl⟩ := Int.eq_ofNat_of_zero_le h0
  rw [muts_own]
  exact grow_main T u3 hf hb hnt hres (n := m) (by have : ((m * bytes : Nat) : Int) = (m : Int) * (bytes : Int) := by push_cast; rfl
                                                   omega) hA hZ hF
end
end Go.K

/- K, part S5: functions of plain values by their contracts. -/
set_option linter.unusedVariables false
set_option linter.unusedSimpArgs false
namespace Go.K
open Go.Shelf Go.Proofs Go.RowKit

def Ty.scal : Ty → Bool | .int _ | .bool | .str => true | _ => false
def sval : (t : Ty) → t.den → Value
  | .int k, n => .int k n
  | .bool, b => .bool b
  | .str, s => .string ⟨s.toArray⟩
  | _, _ => .nilFunc
theorem sval_of {w : World} {Z : BSet} {t : Ty} {x : t.den} {V : Value} {F : BSet} (hs : t.scal = true) (h : VRep w Z t .fr x V F) : V = sval t x ∧ E0 F := by
  obtain ⟨h1, h2⟩ := h
  cases t with
  | int k => rcases h1 with ⟨_, h3, h4⟩ | ⟨h3, _⟩
             · exact ⟨one_val h3 (by simpa [Ty.isAgg] using h2), h4⟩
             · cases h3
  | bool => rcases h1 with ⟨_, h3, h4⟩ | ⟨h3, _⟩
            · exact ⟨one_val h3 (by simpa [Ty.isAgg] using h2), h4⟩
            · cases h3
  | str => rcases h1 with ⟨_, h3, h4⟩ | ⟨h3, _⟩
           · exact ⟨one_val h3 (by simpa [Ty.isAgg] using h2), h4⟩
           · cases h3
  | _ => cases hs
theorem sval_rep {w : World} {Z : BSet} {t : Ty} {x : t.den} (hs : t.scal = true) : VRep w Z t .fr x (sval t x) (fun _ => False) := by
  cases t with
  | int k => exact ⟨.inl ⟨by simp, rfl, fun _ h => h⟩, by simp [Ty.isAgg, sval]⟩
  | bool => exact ⟨.inl ⟨by simp, rfl, fun _ h => h⟩, by simp [Ty.isAgg, sval]⟩
  | str => exact ⟨.inl ⟨by simp, rfl, fun _ h => h⟩, by simp [Ty.isAgg, sval]⟩
  | _ => cases hs
def frs : List Ty → List ASh
  | [] => []
  | t :: ts => .v t .fr :: frs ts
def svals : (ts : List Ty) → denL (frs ts) → List Value
  | [], _ => []
  | t :: ts, x => sval t x.1 :: svals ts x.2
theorem svals_of {w : World} {Z : BSet} : ∀ {ts : List Ty} {x : denL (frs ts)} {vs : List Value} {F : BSet}, ts.all Ty.scal = true → ArgsRep w Z (encL (frs ts) x) vs F → vs = svals ts x ∧ E0 F
  | [], x, vs, F, _, h => h
  | t :: ts, x, vs, F, ht, h => by
    simp only [List.all_cons, Bool.and_eq_true] at ht
    obtain ⟨V, Vs, F1, F2, rfl, h1, h2, j⟩ := h
    obtain ⟨rfl, e1⟩ := sval_of ht.1 h1
    obtain ⟨rfl, e2⟩ := svals_of ht.2 h2
    refine ⟨rfl, fun b hb => ?_⟩
    rcases (j.1 b).1 hb with hb | hb
    · exact e1 b hb
    · exact e2 b hb
theorem svals_rep {w : World} {Z : BSet} : ∀ {ts : List Ty} {x : denL (frs ts)}, ts.all Ty.scal = true → ArgsRep w Z (encL (frs ts) x) (svals ts x) (fun _ => False)
  | [], x, _ => ⟨rfl, fun _ h => h⟩
  | t :: ts, x, ht => by
    simp only [List.all_cons, Bool.and_eq_true] at ht
    exact ⟨_, _, _, _, rfl, sval_rep ht.1, svals_rep ht.2, Join.none⟩
/-- One value, or a tuple of some. -/
def retVal (l : List Value) : Value := match l with | [v] => v | l => .tuple l.toArray
def flatS (ts rs : List Ty) (f : denL (frs ts) → Option (denL (frs rs))) : Spec := ⟨frs ts, denL (frs rs), f, fun r => (encL (frs rs) r, [])⟩
theorem modeOf_nil_muts : ∀ (l : List Value) (i : Nat), mutsOf (modeOf []) i l = []
  | [], _ => rfl
  | _ :: l, i => modeOf_nil_muts l (i + 1)
theorem lens_svals {rs : List Ty} : ∀ (y : denL (frs rs)), (encL (frs rs) y).length = (svals rs y).length := by
  induction rs with
  | nil => intro y; rfl
  | cons t rs ih => intro y; simp [frs, encL, svals, ih]
/-- What holds of draws is forgotten. -/
theorem weak_is {P : Program} {g : Nat} {m : Nat → Mode} {φ : List Arg → Out (List Arg × List Arg)} (h : @FnIs drA P g m φ) : @FnIs drZ P g m φ := by
  intro args res fin h1
  obtain ⟨h2, h3⟩ := h args res fin h1
  refine ⟨h2, fun w Z Fo vs hA hZ hF => (h3 w Z Fo vs hA hZ hF).mono ?_⟩
  intro e w' he
  cases e with
  | returned v =>
    obtain ⟨Z', Fr, Fb, vals, hx, r⟩ := he
    exact @CallPost.mk drZ _ _ _ _ _ _ _ _ ⟨Z', Fr, Fb, vals, @Ext.mk drZ _ _ _ hx.os hx.tape hx.output hx.size hx.block trivial, r⟩
  | _ => exact he
variable [drI : Dr]
theorem flatG_is {P : Program} {g : Nat} {ts : List Ty} {β : Type} {f : denL (frs ts) → Option β} {out : β → List Arg × List Arg} {ret : β → List Value} (hts : ts.all Ty.scal = true)
    (hout : ∀ y, ∃ (rs : List Ty) (x : denL (frs rs)), rs.all Ty.scal = true ∧ out y = (encL (frs rs) x, []) ∧ ret y = svals rs x)
    (hfn : ∃ fn, P.funcs[g]? = some fn ∧ fn.body.isSome = true ∧ (fn.name == "runtime.NumGoroutine") = false)
    (H : ∀ x y w, f x = some y → Calls P g (svals ts x).toArray w fun e w' => e = .returned (retVal (ret y)) ∧ Below w.heap.size w w' ∧ Dr.le w.drawn w'.drawn) :
    FnIs P g (modeOf []) (phi [⟨frs ts, β, f, out⟩]) := by
  intro args res fin h
  refine ⟨hfn, fun w Z Fo vs hA hZ hF => ?_⟩
  simp only [phi] at h
  split at h
  rotate_left
  · cases h
  rename_i x hx
  have hargs := decL_ok hx
  subst hargs
  simp only [Out.run] at h
  cases hf : f x with
  | none => rw [hf] at h; cases h
  | some y =>
  rw [hf] at h
  simp only [Option.bind_some, Out.run, Option.some.injEq] at h
  obtain ⟨rs, z, hrs, ho, hr⟩ := hout y
  rw [ho] at h
  simp only [Prod.mk.injEq] at h
  obtain ⟨rfl, rfl⟩ := h
  obtain ⟨rfl, hE⟩ := svals_of hts hA
  rw [modeOf_nil_muts]
  refine (H x y w hf).mono ?_
  rintro e w' ⟨rfl, hb, hd⟩
  rw [hr]
  refine ⟨Z, fun _ => False, fun _ => False, svals rs z, ⟨hb.os, hb.tape, hb.output, hb.size, fun b hb' _ => hb.block b hb', hd⟩, fun b h => h, fun b h => ⟨Nat.lt_of_lt_of_le (hZ b h) hb.size, .inl h⟩, ?_, svals_rep hrs, ⟨rfl, fun _ h => h⟩, ?_, fun b h _ => h⟩
  · rw [lens_svals]
    unfold unpack retVal
    split
    · rename_i v hv
      exact .inl ⟨by rw [hv]; rfl, hv⟩
    · rename_i hv
      refine .inr ⟨fun h1 => ?_, _, rfl, rfl⟩
      obtain ⟨v, hv1⟩ := List.length_eq_one_iff.1 h1
      exact hv v hv1
  · rintro b (hb' | hb') <;> exact hb'.elim
/-- A specification with one plain result. -/
theorem flat1_is {P : Program} {g : Nat} {ts : List Ty} {r : Ty} {f : denL (frs ts) → Option r.den} (hts : ts.all Ty.scal = true) (hr : r.scal = true)
    (hfn : ∃ fn, P.funcs[g]? = some fn ∧ fn.body.isSome = true ∧ (fn.name == "runtime.NumGoroutine") = false)
    (H : ∀ x y w, f x = some y → Calls P g (svals ts x).toArray w fun e w' => e = .returned (sval r y) ∧ Below w.heap.size w w' ∧ Dr.le w.drawn w'.drawn) :
    FnIs P g (modeOf []) (phi [⟨frs ts, r.den, f, fun y => ([.v r .fr y], [])⟩]) :=
  flatG_is (ret := fun y => [sval r y]) hts (fun y => ⟨[r], show denL (frs [r]) from (show r.den × Unit from (y, ())), by simp [hr], rfl, rfl⟩) hfn H

/-! strings.Repeat -/
def repeatOf (s : List UInt8) (n : Int) : Option (List UInt8) :=
  bif decide (0 ≤ n) && decide (n ≤ 9223372036854775807) && decide (s.length * n.toNat ≤ 140737488355328) then some (Lib.repeatL s n.toNat) else none
theorem repeat_calls {P : Program} {ρ : Ren} (L : Lays.n105 P ρ) (X : Builder.Extra P ρ) (s y : List UInt8) (n : Int) (w : World) (h : repeatOf s n = some y) :
    Calls P (ρ.f 105) #[.string ⟨s.toArray⟩, .int .i64 n] w fun e w' => e = .returned (.string ⟨y.toArray⟩) ∧ Below w.heap.size w w' := by
  unfold repeatOf at h
  cases hd : decide (0 ≤ n) && decide (n ≤ 9223372036854775807) && decide (s.length * n.toNat ≤ 140737488355328) with
  | false => rw [hd] at h; cases h
  | true =>
  rw [hd] at h
  simp only [cond_true, Option.some.injEq] at h
  subst h
  simp only [Bool.and_eq_true, decide_eq_true_eq] at hd
  obtain ⟨⟨h0, h1⟩, h2⟩ := hd
  obtain ⟨c, rfl⟩ := Int.eq_ofNat_of_zero_le h0
  exact Any.strings_Repeat L X ⟨s.toArray⟩ c w (by omega) (by simpa [ByteArray.size] using h2)
def repeatS : Spec := ⟨[.v .str .fr, .v (.int .i64) .fr], List UInt8, fun v => repeatOf v.1 v.2.1, fun r => ([.v .str .fr r], [])⟩
theorem repeat_is {P : Program} {ρ : Ren} (L : Lays.n105 P ρ) (X : Builder.Extra P ρ) (hfn : ∃ fn, P.funcs[ρ.f 105]? = some fn ∧ fn.body.isSome = true ∧ (fn.name == "runtime.NumGoroutine") = false)
    : @FnIs drZ P (ρ.f 105) (modeOf []) (phi [repeatS]) :=
  @flat1_is drZ P (ρ.f 105) [.str, .int .i64] .str (fun v => repeatOf v.1 v.2.1) rfl rfl hfn (by
    rintro ⟨s, n, _⟩ y w h
    refine (repeat_calls L X s y n w h).mono ?_
    rintro e w' ⟨rfl, hb⟩
    exact ⟨rfl, hb, trivial⟩)
/-! strings.Contains at one byte -/
def hasByte (s sub : List UInt8) : Option Bool := match sub with | [c] => some (decide (0 ≤ Lib.indexByte s c)) | _ => none
def containsS : Spec := ⟨[.v .str .fr, .v .str .fr], Bool, fun v => hasByte v.1 v.2.1, fun r => ([.v .bool .fr r], [])⟩
theorem contains_calls {P : Program} {ρ : Ren} (L : Lays.n144 P ρ) (s sub : List UInt8) (y : Bool) (w : World) (h : hasByte s sub = some y) :
    Calls P (ρ.f 144) #[.string ⟨s.toArray⟩, .string ⟨sub.toArray⟩] w fun e w' => e = .returned (.bool y) ∧ w' = w := by
  unfold hasByte at h
  split at h
  · simp only [Option.some.injEq] at h
    subst h
    exact Any.strings_Contains_one L ⟨s.toArray⟩ _ w
  · cases h
theorem contains_is {P : Program} {ρ : Ren} (L : Lays.n144 P ρ) (hfn : ∃ fn, P.funcs[ρ.f 144]? = some fn ∧ fn.body.isSome = true ∧ (fn.name == "runtime.NumGoroutine") = false)
    : FnIs P (ρ.f 144) (modeOf []) (phi [containsS]) :=
  flat1_is (ts := [.str, .str]) (r := .bool) (f := fun v => hasByte v.1 v.2.1) rfl rfl hfn (by
    rintro ⟨s, sub, _⟩ y w h
    refine (contains_calls L s sub y w h).mono ?_
    rintro e w' ⟨rfl, rfl⟩
    exact ⟨rfl, Below.refl _ _, Dr.refl _⟩)
end Go.K

/- K, part S11: strings.IndexByte, strings.Compare. -/
set_option linter.unusedVariables false
set_option linter.unusedSimpArgs false
namespace Go.K
open Go.Shelf Go.Proofs Go.RowKit
variable [drI : Dr]
/-! strings.IndexByte -/
def ixOf (s : List UInt8) (c : Int) : Option Int := some (Lib.indexByte s c.toNat.toUInt8)
def ixS : Spec := ⟨[.v .str .fr, .v (.int .u8) .fr], Int, fun v => ixOf v.1 v.2.1, fun r => ([.v (.int .i64) .fr r], [])⟩
theorem ix_calls {P : Program} {ρ : Ren} (L : Lays.n137 P ρ) (s : List UInt8) (c y : Int) (w : World) (h : ixOf s c = some y) :
    Calls P (ρ.f 137) #[.string ⟨s.toArray⟩, .int .u8 c] w fun e w' => e = .returned (.int .i64 y) ∧ w' = w := by
  unfold ixOf at h
  simp only [Option.some.injEq] at h
  subst h
  exact Any.strings_IndexByte L ⟨s.toArray⟩ c w
theorem ix_is {P : Program} {ρ : Ren} (L : Lays.n137 P ρ) (hfn : ∃ fn, P.funcs[ρ.f 137]? = some fn ∧ fn.body.isSome = true ∧ (fn.name == "runtime.NumGoroutine") = false)
    : FnIs P (ρ.f 137) (modeOf []) (phi [ixS]) :=
  @flat1_is drI P (ρ.f 137) [.str, .int .u8] (.int .i64) (fun v => ixOf v.1 v.2.1) rfl rfl hfn (by
    rintro ⟨s, c, _⟩ y w h
    refine (ix_calls L s c y w h).mono ?_
    rintro e w' ⟨rfl, rfl⟩
    exact ⟨rfl, Below.refl _ _, Dr.refl _⟩)
/-! strings.Compare -/
def cmpOf (a b : List UInt8) : Option Int := some (Lib.compareBytes a b)
def cmpS : Spec := ⟨[.v .str .fr, .v .str .fr], Int, fun v => cmpOf v.1 v.2.1, fun r => ([.v (.int .i64) .fr r], [])⟩
theorem cmp_calls {P : Program} {ρ : Ren} (L : Lays.n106 P ρ) (a b : List UInt8) (y : Int) (w : World) (h : cmpOf a b = some y) :
    Calls P (ρ.f 106) #[.string ⟨a.toArray⟩, .string ⟨b.toArray⟩] w fun e w' => e = .returned (.int .i64 y) ∧ w' = w := by
  unfold cmpOf at h
  simp only [Option.some.injEq] at h
  subst h
  exact Any.strings_Compare L ⟨a.toArray⟩ ⟨b.toArray⟩ w
theorem cmp_is {P : Program} {ρ : Ren} (L : Lays.n106 P ρ) (hfn : ∃ fn, P.funcs[ρ.f 106]? = some fn ∧ fn.body.isSome = true ∧ (fn.name == "runtime.NumGoroutine") = false)
    : FnIs P (ρ.f 106) (modeOf []) (phi [cmpS]) :=
  @flat1_is drI P (ρ.f 106) [.str, .str] (.int .i64) (fun v => cmpOf v.1 v.2.1) rfl rfl hfn (by
    rintro ⟨s, c, _⟩ y w h
    refine (cmp_calls L s c y w h).mono ?_
    rintro e w' ⟨rfl, rfl⟩
    exact ⟨rfl, Below.refl _ _, Dr.refl _⟩)
end Go.K

