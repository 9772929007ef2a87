/- Part 1 of an evaluator of the language's code on plain values, with the proof that what it gives is what the code does; no condition. -/
import Derived.Test.YtnciaembgnoolaaGreatK3
import Derived.Shelf.SlSortCmp.NoneTotal
import Derived.Sort.AssemblyPlain
import Derived.RangeFuncGives
import Derived.RangeFuncBox
import Derived.RangeFuncLeaves
import Derived.OwnWalkIn
import Derived.TacticsInMore
import Derived.LoopNIn
import Derived.LoopIn
import Derived.Maps.AppendAt
import Derived.Maps.RangeWalk
import Derived.Lib.SliceRun
import Derived.Shelf.Lays2
import Derived.Shelf.RegionOpenPlain
import Derived.WalkKit
import Derived.Lib.Walk
import Derived.Lib.AppendZeros
import Derived.Lib.AppendZerosOnto
import Derived.Lib.Overlaps
import Derived.Laws.Externs
import Derived.Laws.IdiomCopy
import Derived.Shelf.Spec.SlicesInsert
import Derived.Shelf.Strings.Repeat
import Derived.Shelf.Strings.Search3
import Derived.Shelf.Abstract
import Derived.Deep.LoopGhost
import Derived.Shelf.Strings.Cut
import Derived.Shelf.Strings.Prefix
import Derived.Shelf.Strings.Search2
import Derived.Lib.IndexBytes
import Derived.Shelf.Small.Strs
set_option linter.all false
/- K, part S1: slices.SortFunc at aggregates of scalars. -/
set_option linter.unusedVariables false
set_option linter.unusedSimpArgs false
namespace Go.K
open Go.Shelf Go.Proofs Go.Sort

def Ty.plain : Ty → Bool
  | .int _ | .bool | .str | .unit => true
  | .pair a b => a.plain && b.plain
  | _ => false
def cellsOf : (t : Ty) → t.den → List Value
  | .int k, n => [.int k n]
  | .bool, b => [.bool b]
  | .str, s => [.string ⟨s.toArray⟩]
  | .pair a b, x => cellsOf a x.1 ++ cellsOf b x.2
  | _, _ => []
theorem rep_plain {w : World} {Z : BSet} : ∀ {t : Ty} {x : t.den} {cs : List Value} {F : BSet}, t.plain = true → Rep w Z t .fr x cs F → cs = cellsOf t x
  | .int k, x, cs, F, hp, h => by
    rcases h with ⟨_, h, _⟩ | ⟨h, _⟩
    · exact h
    · cases h
  | .bool, x, cs, F, hp, h => by
    rcases h with ⟨_, h, _⟩ | ⟨h, _⟩
    · exact h
    · cases h
  | .str, x, cs, F, hp, h => by
    rcases h with ⟨_, h, _⟩ | ⟨h, _⟩
    · exact h
    · cases h
  | .unit, x, cs, F, hp, h => h.1
  | .pair a b, x, cs, F, hp, h => by
    simp only [Ty.plain, Bool.and_eq_true] at hp
    obtain ⟨c1, c2, F1, F2, rfl, h1, h2, _⟩ := h
    rw [rep_plain hp.1 h1, rep_plain hp.2 h2]; rfl
  | .sl .., x, cs, F, hp, h => by cases hp
  | .ptr _, x, cs, F, hp, h => by cases hp
  | .arr .., x, cs, F, hp, h => by cases hp
theorem plain_rep {w : World} {Z : BSet} : ∀ {t : Ty} {x : t.den}, t.plain = true → Rep w Z t .fr x (cellsOf t x) (fun _ => False)
  | .int k, x, hp => .inl ⟨by simp, rfl, fun _ h => h⟩
  | .bool, x, hp => .inl ⟨by simp, rfl, fun _ h => h⟩
  | .str, x, hp => .inl ⟨by simp, rfl, fun _ h => h⟩
  | .unit, x, hp => ⟨rfl, fun _ h => h⟩
  | .pair a b, x, hp => by
    simp only [Ty.plain, Bool.and_eq_true] at hp
    exact ⟨_, _, _, _, rfl, plain_rep hp.1, plain_rep hp.2, Join.none⟩
  | .sl .., x, hp => by cases hp
  | .ptr _, x, hp => by cases hp
  | .arr .., x, hp => by cases hp
theorem plain_cells {t : Ty} {x : t.den} (hp : t.plain = true) : (cellsOf t x).length = t.cells := (plain_rep (w := default) (Z := fun _ => False) (x := x) hp).length
theorem plain_one {t : Ty} {x : t.den} (hp : t.plain = true) : ∀ v ∈ cellsOf t x, v.oneCell' = true := (plain_rep (w := default) (Z := fun _ => False) (x := x) hp).one
theorem elems_plain {w : World} {Z : BSet} {e : Ty} (hp : e.plain = true) : ∀ {xs : List e.den} {cs : List Value} {F : BSet}, ElemsRep (fun y => Rep w Z e .fr y) xs cs F → cs = xs.flatMap (cellsOf e) ∧ E0 F
  | [], _, _, h => h
  | x :: xs, _, _, ⟨c1, c2, F1, F2, h0, h1, h2, j⟩ => by
    obtain ⟨i1, i2⟩ := elems_plain hp h2
    refine ⟨by rw [h0, rep_plain hp h1, i1]; rfl, fun b hb => ?_⟩
    rcases (j.1 b).1 hb with hb | hb
    · exact h1.e0 rfl b hb
    · exact i2 b hb
theorem plain_elems {w : World} {Z : BSet} {e : Ty} (hp : e.plain = true) : ∀ {xs : List e.den}, ElemsRep (fun y => Rep w Z e .fr y) xs (xs.flatMap (cellsOf e)) (fun _ => False)
  | [] => ⟨rfl, fun _ h => h⟩
  | x :: xs => ⟨_, _, _, _, by rw [List.flatMap_cons], plain_rep hp, plain_elems hp, Join.none⟩

/-- Less, by a comparison that may fail. -/
def ltO {α : Type} (cf : α → α → Option Int) (x y : α) : Bool := match cf x y with | some r => decide (r < 0) | none => false
/-- On these elements the comparison is a strict weak order. -/
structure Ordered {α : Type} (cf : α → α → Option Int) (xs : List α) : Prop where
  small : xs.length < 4611686018427387904
  tot : ∀ x ∈ xs, ∀ y ∈ xs, ∃ r, cf x y = some r
  irrefl : ∀ x ∈ xs, ltO cf x x = false
  trans : ∀ x ∈ xs, ∀ y ∈ xs, ∀ z ∈ xs, ltO cf x y = true → ltO cf y z = true → ltO cf x z = true
  ntrans : ∀ x ∈ xs, ∀ y ∈ xs, ∀ z ∈ xs, ltO cf x y = false → ltO cf y z = false → ltO cf x z = false
def cfm {α : Type} (cf : α → α → Option Int) (xs : List α) (x y : {x // x ∈ xs}) : Int := (cf x.1 y.1).getD 0
theorem ltm {α : Type} {cf : α → α → Option Int} {xs : List α} (h : Ordered cf xs) (x y : {x // x ∈ xs}) : ltOf (cfm cf xs) x y = ltO cf x.1 y.1 := by
  obtain ⟨r, hr⟩ := h.tot x.1 x.2 y.1 y.2
  simp only [ltOf, cfm, ltO, hr, Option.getD_some]
theorem swom {α : Type} {cf : α → α → Option Int} {xs : List α} (h : Ordered cf xs) : SWO (ltOf (cfm cf xs)) where
  irrefl x := by rw [ltm h]; exact h.irrefl x.1 x.2
  trans x y z := by rw [ltm h, ltm h, ltm h]; exact h.trans _ x.2 _ y.2 _ z.2
  ntrans x y z := by rw [ltm h, ltm h, ltm h]; exact h.ntrans _ x.2 _ y.2 _ z.2
open Classical in
/-- What slices.SortFunc leaves. -/
noncomputable def sortOf {α : Type} (cf : α → α → Option Int) (xs : List α) : Option (List α) :=
  if h : Ordered cf xs then
    if hx : xs = [] then some [] else
      haveI : Inhabited {x // x ∈ xs} := ⟨⟨xs.head hx, List.head_mem hx⟩⟩
      some ((pdq (ltOf (cfm cf xs)) xs.attach.toArray 0 xs.length (Lib.bitLen xs.length) true true).toList.map (·.1))
  else none
theorem sortOf_ok {α : Type} {cf : α → α → Option Int} {xs : List α} (h : Ordered cf xs) : ∃ ys, sortOf cf xs = some ys ∧ ys.Perm xs ∧ ys.Pairwise fun a b => ltO cf b a = false := by
  unfold sortOf
  rw [dif_pos h]
  by_cases hx : xs = []
  · subst hx
    exact ⟨[], by rw [dif_pos rfl], List.Perm.refl _, List.Pairwise.nil⟩
  · rw [dif_neg hx]
    letI : Inhabited {x // x ∈ xs} := ⟨⟨xs.head hx, List.head_mem hx⟩⟩
    have hsz : xs.attach.toArray.size = xs.length := by simp
    obtain ⟨⟨p1, p2, p3⟩, s⟩ := pdq_sorts (ltOf (cfm cf xs)) (swom h) xs.attach.toArray 0 xs.length (Lib.bitLen xs.length) true true (Nat.zero_le _) (by rw [hsz]; exact Nat.le_refl _) (Or.inl rfl)
    refine ⟨_, rfl, ?_, ?_⟩
    · generalize pdq (ltOf (cfm cf xs)) xs.attach.toArray 0 xs.length (Lib.bitLen xs.length) true true = d at p1 p3
      rw [hsz] at p1
      have e1 : d.extract 0 xs.length = d := by rw [← p1]; simp
      have e2 : xs.attach.toArray.extract 0 xs.length = xs.attach.toArray := by rw [← hsz, Array.extract_size]
      rw [e1, e2] at p3
      have := p3.map (·.1)
      simpa using this
    · generalize pdq (ltOf (cfm cf xs)) xs.attach.toArray 0 xs.length (Lib.bitLen xs.length) true true = d at p1 s
      rw [hsz] at p1
      rw [List.pairwise_map, List.pairwise_iff_getElem]
      intro i j hi hj hij
      have hj' : j < d.size := by simpa using hj
      have hi' : i < d.size := by simpa using hi
      have := s i j (Nat.zero_le _) hij (by omega)
      rw [ltm h, getElem!_pos d j hj', getElem!_pos d i hi'] at this
      simpa using this

theorem muts_nil : ∀ (i : Nat) (vs : List Value), mutsOf (modeOf []) i vs = []
  | _, [] => rfl
  | i, _ :: vs => by
    unfold mutsOf
    exact muts_nil (i + 1) vs
theorem grown_of {w w' : World} (h : @Ext drA w w' (fun _ => False)) : ∃ q os, w' = grow (w.drewN q) os := by
  refine ⟨w'.drawn - w.drawn, w'.heap.extract w.heap.size w'.heap.size, ?_⟩
  have hh : w'.heap = w.heap ++ w'.heap.extract w.heap.size w'.heap.size := by
    apply Array.ext_getElem?
    intro k
    rw [Array.getElem?_append]
    by_cases hk : k < w.heap.size
    · rw [if_pos hk, h.block k hk (fun h => h)]
    · rw [if_neg hk, Array.getElem?_extract]
      have := h.size
      by_cases h2 : k < w'.heap.size
      · rw [if_pos (by omega)]; congr 1; omega
      · rw [if_neg (by omega)]; simp; omega
  obtain ⟨h1, h2, h3, h4, h5, h6⟩ := h
  replace h6 : w.drawn ≤ w'.drawn := h6
  cases w; cases w'
  simp only [grow, World.drewN] at *
  subst h1; subst h2; subst h3
  congr 1
  omega
theorem flat_get {α : Type} {enc : α → List Value} {k : Nat} (hk : ∀ x, (enc x).length = k) : ∀ (d : List α) (t : Nat), t < d.length * k → ∃ x, d[t / k]? = some x ∧ (d.flatMap enc)[t]? = (enc x)[t % k]?
  | [], t, h => by simp at h
  | x :: d, t, h => by
    have k0 : 0 < k := by
      rcases Nat.eq_zero_or_pos k with h0 | h0
      · subst h0; simp at h
      · exact h0
    by_cases ht : t < k
    · refine ⟨x, by rw [Nat.div_eq_of_lt ht]; rfl, ?_⟩
      rw [List.flatMap_cons, List.getElem?_append_left (by rw [hk]; exact ht), Nat.mod_eq_of_lt ht]
    · have ht' : k ≤ t := by omega
      obtain ⟨y, h1, h2⟩ := flat_get hk d (t - k) (by simp only [List.length_cons, Nat.add_mul, Nat.one_mul] at h; omega)
      refine ⟨y, ?_, ?_⟩
      · rw [Nat.div_eq_sub_div k0 ht', List.getElem?_cons_succ]; exact h1
      · rw [List.flatMap_cons, List.getElem?_append_right (by rw [hk]; exact ht'), hk, Nat.mod_eq_sub_mod ht']; exact h2
theorem flat_len {α : Type} {enc : α → List Value} {k : Nat} (hk : ∀ x, (enc x).length = k) : ∀ (d : List α), (d.flatMap enc).length = d.length * k
  | [] => by simp
  | x :: d => by rw [List.flatMap_cons, List.length_append, hk, flat_len hk d, List.length_cons, Nat.add_mul, Nat.one_mul, Nat.add_comm]
theorem flatK_eq {α : Type} [Inhabited α] {enc : α → List Value} {k : Nat} (hk : ∀ x, (enc x).length = k) (d : Array α) : flatK enc k d = (d.toList.flatMap enc).toArray := by
  apply Array.ext_getElem?
  intro t
  by_cases ht : t < d.size * k
  · obtain ⟨x, h1, h2⟩ := flat_get hk d.toList t (by simpa using ht)
    have ht' : t < (flatK enc k d).size := by simpa using ht
    have := get_flatK enc k d t ht
    rw [getElem!_pos _ t ht'] at this
    rw [Array.getElem?_eq_getElem ht', this, List.getElem?_toArray, h2]
    have h3 : d[t / k]! = x := by
      have : d[t / k]? = some x := by simpa using h1
      simp [getElem!_def, this]
    rw [h3]
    have h4 : t % k < (enc x).length := by
      rw [hk]
      refine Nat.mod_lt _ ?_
      rcases Nat.eq_zero_or_pos k with h0 | h0
      · subst h0; simp at ht
      · exact h0
    rw [getElem!_pos (enc x) (t % k) h4, List.getElem?_eq_getElem h4]
  · rw [Array.getElem?_eq_none (by simpa using ht), Array.getElem?_eq_none]
    simpa [flat_len hk] using ht
theorem attach_flat {α : Type} (enc : α → List Value) (xs : List α) : xs.attach.flatMap (fun x => enc x.1) = xs.flatMap enc := by
  simp

noncomputable def sortS (T : Nat) (e : Ty) (cg : Nat) (cs : List ASh) (cf : denL cs → e.den → e.den → Option Int) : Spec :=
  ⟨[.v (.sl T e) (.own .fr), .fn cg [] cs], List e.den, fun v => sortOf (cf v.2.1.2) v.1, fun r => ([], [.v (.sl T e) (.own .fr) r])⟩
theorem one_val {V U : Value} (h : V.cells.toList = [U]) (ha : (false = true) ↔ ∃ cs, V = .agg cs) : V = U := by
  cases V <;> simp_all [Value.cells]
theorem Ordered.of_some {α : Type} {cf : α → α → Option Int} {xs ys : List α} (h : sortOf cf xs = some ys) : Ordered cf xs := by
  unfold sortOf at h
  split at h
  · assumption
  · cases h
variable [drI : Dr]
theorem sortFunc_main {P : Program} {ρ : Ren} (L : SlLaysF0.n6 P ρ) {T : Nat} {e : Ty} (hp : e.plain = true) (ha : e.isAgg = true)
    (aE : ∀ w, (isAgg (ρ.t 24)).run P w = .ok true w) (zE : ∀ w, (Go.sizeOf (ρ.t 24)).run P w = .ok e.cells w)
    {cg : Nat} {cs : List ASh} {φc : List Arg → Out (List Arg × List Arg)} (hc : @FnIs drA P cg (modeOf []) φc) {cf : denL cs → e.den → e.den → Option Int}
    (hφ : ∀ c x y r, cf c x y = some r → (φc (.v e .fr x :: .v e .fr y :: encL cs c)).run = some ([.v (.int .i64) .fr r], []))
    {c : denL cs} {xs ys : List e.den} (hs : sortOf (cf c) xs = some ys) {w : World} {Z Fo : BSet} {vs : List Value}
    (hA : ArgsRep w Z [.v (.sl T e) (.own .fr) xs, .fn cg [] (encL cs c)] vs Fo) (hZ : ∀ b, Z b → b < w.heap.size) (hF : ∀ b, Fo b → ¬ Z b ∧ b < w.heap.size) :
    Calls P (ρ.f 6) vs.toArray w fun e' w' => match e' with
      | .returned v => CallPost w w' Z Fo (mutsOf (modeOf [.mut]) 0 vs) [] [.v (.sl T e) (.own .fr) ys] v
      | _ => False := by
  obtain ⟨V, Vs', F1, F2, rfl, h1, ⟨V2, Vs2, F3, F4, rfl, h3, ⟨rfl, h4⟩, j2⟩, j1⟩ := hA
  obtain ⟨⟨V', cells, Fe, hV, ho, hE, hFb, hFd⟩, hag⟩ := h1
  have := one_val hV hag
  subst this
  obtain ⟨h3, _⟩ := h3
  have hord := Ordered.of_some hs
  obtain ⟨ys', hy1, hy2, _⟩ := sortOf_ok hord
  rw [hs] at hy1
  replace hy1 := Option.some.inj hy1
  subst hy1
  have hlen : ys.length = xs.length := hy2.length_eq
  obtain ⟨hcl, hFe⟩ := elems_plain hp hE
  have hag' : ∀ {V : Value}, (∃ A n c, V = .slice A n c) → ((Ty.sl T e).isAgg = true ↔ ∃ cs, V = .agg cs) := by
    rintro V ⟨A, n, c, rfl⟩
    simp [Ty.isAgg]
  cases h3 with
  | fn h3f h3c =>
  rename_i fs cb
  cases h3f
  by_cases hx : xs = []
  · subst hx
    have hy : ys = [] := by
      cases ys with
      | nil => rfl
      | cons a l => simp at hlen
    subst hy
    have key : ∀ A c, V = .slice A 0 c → Calls P (ρ.f 6) #[V, .func (.func cg) [].toArray cb.toArray] w fun e' w' => match e' with
      | .returned v => CallPost w w' Z Fo (mutsOf (modeOf [.mut]) 0 [V, .func (.func cg) [].toArray cb.toArray]) [] [.v (.sl T e) (.own .fr) []] v
      | _ => False := by
      rintro A c' rfl
      refine (AnyF.slices_SortFunc_none L A c' _ w).mono ?_
      rintro e' w' ⟨rfl, rfl⟩
      refine ⟨Z, fun _ => False, F1, [], Ext.refl _ _, fun b h => h, fun b h => ⟨hZ b h, .inl h⟩, .inr ⟨by simp, _, rfl, rfl⟩, ⟨rfl, fun _ h => h⟩, ?_, ?_, fun b h => h.elim⟩
      · exact ⟨_, _, F1, fun _ => False, rfl, ⟨⟨_, cells, Fe, rfl, ho, hE, hFb, hFd⟩, hag' ⟨_, _, _, rfl⟩⟩, ⟨rfl, fun _ h => h⟩, fun b => by simp, fun b _ h => h⟩
      · rintro b (hb | hb)
        · exact hb.elim
        · have hb' : Fo b := (j1.1 b).2 (.inl hb)
          exact ⟨(hF b hb').1, (hF b hb').2, .inl hb'⟩
    rcases ho.2 with ⟨hVe, _⟩ | ⟨g, cap, cur, hVe, _⟩
    · exact key _ _ hVe
    · exact key _ _ hVe
  · rcases ho.2 with ⟨_, h0⟩ | ⟨g, cap, cur, rfl, _, hg, hle, hcap, hcur, htake⟩
    · exact absurd (List.length_eq_zero_iff.1 h0) hx
    letI : Inhabited {x // x ∈ xs} := ⟨⟨xs.head hx, List.head_mem hx⟩⟩
    have hgF : F1 g := (hFb g).2 (.inl rfl)
    have hgFo : Fo g := (j1.1 g).2 (.inl hgF)
    obtain ⟨hgZ, hgs⟩ := hF g hgFo
    have hk : ∀ x : {x // x ∈ xs}, (cellsOf e x.1).length = e.cells := fun x => plain_cells hp
    have hone : ∀ x : {x // x ∈ xs}, ∀ v ∈ cellsOf e x.1, v.oneCell' = true := fun x => plain_one hp
    have hfl : flatK (fun x : {x // x ∈ xs} => cellsOf e x.1) e.cells xs.attach.toArray = cells.toArray := by
      rw [flatK_eq hk, hcl]
      congr 1
      exact attach_flat _ _
    have hHolds : HoldsK (fun x : {x // x ∈ xs} => cellsOf e x.1) e.cells w g 0 xs.attach.toArray := by
      unfold HoldsK
      rw [hfl]
      intro j hj
      have hj' : j < cells.length := by simpa using hj
      have hc1 := ho.cells rfl j cells[j] (List.getElem?_eq_getElem hj')
      rw [add_mem, Nat.zero_add] at hc1
      rw [Nat.zero_add]
      refine ⟨by rw [hc1]; simp [hj'], ?_⟩
      unfold World.frozen?
      simp only [hg]
      simp
    have hsz : xs.attach.toArray.size = xs.length := by simp
    have hcmp : CmpLays P cg cb.toArray (fun x : {x // x ∈ xs} => cellsOf e x.1) e.cells (cfm (cf c) xs) g 0 xs.attach.toArray.size w := by
      intro m os dk hdk x y
      obtain ⟨r, hr⟩ := hord.tot x.1 x.2 y.1 y.2
      have hblk : ∀ b, b < w.heap.size → b ≠ g → (sortWorldK (fun x : {x // x ∈ xs} => cellsOf e x.1) e.cells w g 0 m dk os).heap[b]? = w.heap[b]? := by
        intro b hb hbg
        simp only [sortWorldK, grow, putRowK, putRow, mapBlock, Sort.ahead]
        rw [Array.getElem?_append_left (by simpa using hb), Array.getElem?_modify, if_neg (Ne.symm hbg)]
      have hsz' : w.heap.size ≤ (sortWorldK (fun x : {x // x ∈ xs} => cellsOf e x.1) e.cells w g 0 m dk os).heap.size := by
        simp [sortWorldK, grow, putRowK, putRow, mapBlock, Sort.ahead]
      generalize sortWorldK (fun x : {x // x ∈ xs} => cellsOf e x.1) e.cells w g 0 m dk os = W at hblk hsz'
      have hZW : ∀ b, Z b → Z b ∧ W.heap[b]? = w.heap[b]? := fun b hb => ⟨hb, hblk b (hZ b hb) (fun h => hgZ (h ▸ hb))⟩
      have hag2 : ∀ z : e.den, (e.isAgg = true ↔ ∃ cs, Value.agg (cellsOf e z).toArray = .agg cs) := fun z => ⟨fun _ => ⟨_, rfl⟩, fun _ => ha⟩
      have hcall := (hc _ _ _ (hφ c x.1 y.1 r hr)).2 W Z (fun _ => False) (.agg (cellsOf e x.1).toArray :: .agg (cellsOf e y.1).toArray :: cb)
        ⟨_, _, fun _ => False, fun _ => False, rfl, ⟨by simpa [Value.cells] using plain_rep hp, hag2 _⟩, ⟨_, _, fun _ => False, fun _ => False, rfl, ⟨by simpa [Value.cells] using plain_rep hp, hag2 _⟩, (h3c.frame hZW).argsRep, Join.none⟩, Join.none⟩
        (fun b hb => Nat.lt_of_lt_of_le (hZ b hb) hsz') (fun b h => h.elim)
      have e1 : (#[Value.agg (cellsOf e x.1).toArray, .agg (cellsOf e y.1).toArray] ++ cb.toArray) = (Value.agg (cellsOf e x.1).toArray :: .agg (cellsOf e y.1).toArray :: cb).toArray := by simp
      rw [e1]
      refine hcall.mono ?_
      intro e' w' hpost
      cases e' with
      | returned v =>
        obtain ⟨Z', Fr, Fb, vals, p1, p2, p3, p4, p5, p6, p7, p8⟩ := hpost
        refine ⟨?_, grown_of p1⟩
        obtain ⟨V0, Vs0, G1, G2, rfl, q1, ⟨rfl, _⟩, _⟩ := p5
        rcases p4 with ⟨_, p4⟩ | ⟨p4, _⟩
        · simp only [List.cons.injEq, and_true] at p4
          subst p4
          obtain ⟨q2, q3⟩ := q1
          rcases q2 with ⟨_, q2, _⟩ | ⟨q2, _⟩
          · rw [one_val q2 q3]
            simp only [cfm, hr, Option.getD_some]
          · cases q2
        · simp at p4
      | _ => exact hpost.elim
    have eg : ∀ args w, (callFunc cg args).run P w = .ok (.enter cg args) w := by
      obtain ⟨x⟩ : Nonempty {x // x ∈ xs} := ⟨⟨xs.head hx, List.head_mem hx⟩⟩
      obtain ⟨r, hr⟩ := hord.tot x.1 x.2 x.1 x.2
      obtain ⟨⟨fn, f1, f2, f3⟩, _⟩ := hc _ _ _ (hφ c x.1 x.1 r hr)
      cases hb : fn.body with
      | none => rw [hb] at f2; cases f2
      | some code => exact enters_of f1 f3 hb
    have hsw : (if h : xs = [] then some [] else some ((pdq (ltOf (cfm (cf c) xs)) xs.attach.toArray 0 xs.length (Lib.bitLen xs.length) true true).toList.map (·.1))) = some ys := by
      rw [← hs]
      unfold sortOf
      rw [dif_pos hord]
    rw [dif_neg hx] at hsw
    replace hsw := Option.some.inj hsw
    have hmain := AnyQ.slices_SortFunc_eq L e.cells aE zE (fun x : {x // x ∈ xs} => cellsOf e x.1) hk hone (cfm (cf c) xs) (swom hord) cg cb.toArray g 0 cap xs.attach.toArray w eg hcmp hHolds hgs (by rw [hsz]; exact hord.small)
    rw [hsz] at hmain
    refine hmain.mono ?_
    rintro e' w' ⟨rfl, n, os, rfl⟩
    generalize pdq (ltOf (cfm (cf c) xs)) xs.attach.toArray 0 xs.length (Lib.bitLen xs.length) true true = d' at hsw
    have hd' : d'.size = xs.length := by rw [← hlen, ← hsw]; simp
    have hfl' : flatK (fun x : {x // x ∈ xs} => cellsOf e x.1) e.cells d' = (ys.flatMap (cellsOf e)).toArray := by
      rw [flatK_eq hk, ← hsw, List.flatMap_map]
    have hfs : (ys.flatMap (cellsOf e)).length = xs.length * e.cells := by rw [flat_len (fun x => plain_cells hp), hlen]
    have hheap : ∀ b, b < w.heap.size → (sortWorldK (fun x : {x // x ∈ xs} => cellsOf e x.1) e.cells w g 0 n d' os).heap[b]? = if g = b then some (.cells (putCells id 0 (ys.flatMap (cellsOf e)).toArray cur) T (0, 0)) else w.heap[b]? := by
      intro b hb
      simp only [sortWorldK, grow, putRowK, putRow, mapBlock, Sort.ahead, hfl']
      rw [Array.getElem?_append_left (by simpa using hb), Array.getElem?_modify]
      split
      · rename_i h; subst h; rw [hg]; rfl
      · rfl
    refine ⟨Z, fun _ => False, fun b => b = g, [], ⟨rfl, rfl, rfl, ?_, ?_, ?_⟩, fun b h => h, fun b h => ⟨?_, .inl h⟩, .inr ⟨by simp, _, rfl, rfl⟩, ⟨rfl, fun _ h => h⟩, ?_, ?_, fun b h => h.elim⟩
    · simp [sortWorldK, grow, putRowK, putRow, mapBlock, Sort.ahead]
    · intro b hb hn
      rw [hheap b hb, if_neg (fun (h : g = b) => hn (h ▸ hgFo))]
    · exact Dr.of_le (by simp [sortWorldK, grow, putRowK, putRow, mapBlock, Sort.ahead])
    · refine Nat.lt_of_lt_of_le (hZ b h) ?_
      simp [sortWorldK, grow, putRowK, putRow, mapBlock, Sort.ahead]
    · refine ⟨_, _, fun b => b = g, fun _ => False, rfl, ⟨⟨.slice (some ⟨g, 0, none⟩) xs.length cap, ys.flatMap (cellsOf e), fun _ => False, rfl, ⟨by rw [hfs, hlen], .inr ⟨g, cap, putCells id 0 (ys.flatMap (cellsOf e)).toArray cur, by rw [hlen], Nat.zero_le _, ?_, by rw [hlen]; exact hle, hcap, ?_, ?_⟩⟩, plain_elems hp, fun b => ?_, fun b _ h => h⟩, hag' ⟨_, _, _, rfl⟩⟩, ⟨rfl, fun _ h => h⟩, fun b => by simp, fun b _ h => h⟩
      · rw [hheap g hgs, if_pos rfl]
      · simp [putCells, hcur]
      · apply List.ext_getElem?
        intro t
        rw [hlen, List.getElem?_take]
        by_cases ht : t < xs.length * e.cells
        · have h5 : t < cur.size := by
            have := Nat.mul_le_mul_right e.cells hle
            omega
          have h6 : t < (ys.flatMap (cellsOf e)).length := by rw [hfs]; exact ht
          rw [if_pos ht]
          simp only [putCells, Array.getElem?_toList, Array.getElem?_mapIdx, Array.getElem?_eq_getElem h5, Option.map_some, List.getElem?_eq_getElem h6, Nat.zero_add, List.size_toArray, Nat.sub_zero]
          rw [if_pos ⟨Nat.zero_le _, h6⟩, getElem!_pos _ t (by simpa using h6)]
          rfl
        · rw [if_neg ht, List.getElem?_eq_none (by rw [hfs]; omega)]
      · simp [Value.ownBlock, eq_comm]
    · rintro b (hb | hb)
      · exact hb.elim
      · subst hb
        refine ⟨hgZ, Nat.lt_of_lt_of_le hgs ?_, .inl hgFo⟩
        simp [sortWorldK, grow, putRowK, putRow, mapBlock, Sort.ahead]
theorem sortFunc_is {P : Program} {ρ : Ren} (L : SlLaysF0.n6 P ρ) (hfn : ∃ fn, P.funcs[ρ.f 6]? = some fn ∧ fn.body.isSome = true ∧ (fn.name == "runtime.NumGoroutine") = false) {T : Nat} {e : Ty} (hp : e.plain = true) (ha : e.isAgg = true)
    (aE : ∀ w, (isAgg (ρ.t 24)).run P w = .ok true w) (zE : ∀ w, (Go.sizeOf (ρ.t 24)).run P w = .ok e.cells w)
    {cg : Nat} {cs : List ASh} {φc : List Arg → Out (List Arg × List Arg)} (hc : @FnIs drA P cg (modeOf []) φc) {cf : denL cs → e.den → e.den → Option Int}
    (hφ : ∀ c x y r, cf c x y = some r → (φc (.v e .fr x :: .v e .fr y :: encL cs c)).run = some ([.v (.int .i64) .fr r], []))
    : FnIs P (ρ.f 6) (modeOf [.mut]) (phi [sortS T e cg cs cf]) := by
  intro args res fin h
  refine ⟨hfn, fun w Z Fo vs hA hZ hF => ?_⟩
  simp only [phi] at h
  split at h
  rotate_left
  · cases h
  rename_i v hv
  obtain ⟨xs, ⟨u, c⟩, u'⟩ := v
  have hargs := decL_ok hv
  subst hargs
  simp only [sortS, Out.run] at h
  cases hs : sortOf (cf c) xs with
  | none => rw [hs] at h; cases h
  | some ys =>
  rw [hs] at h
  simp only [Option.bind_some, Option.some.injEq, Prod.mk.injEq] at h
  obtain ⟨rfl, rfl⟩ := h
  exact sortFunc_main L hp ha aE zE hc hφ hs hA hZ hF
end Go.K

/- K, part S2: slices.Collect of slices.Values, at aggregates of two ints. -/
set_option linter.unusedVariables false
set_option linter.unusedSimpArgs false
namespace Go.K
open Go.RowKit Go.Maps Go.Sort Go.Shelf Go.Proofs
variable [drI : Dr]
attribute [local go_sem] Oper.semAt_some
attribute [local go_sem] Oper.semAt_eq

section
variable {q39 q40 q50 q51 q52 q54 q59 q60 : String}
def apAssign (q51 : String) (TE : TypeId) : Code := Code.region 2 #[{ dst := some 5, op := Op.alloc TE, type := 0, pos := q51, after := #[], guard := none }, { dst := none, op := Op.store TE (Operand.tmp 5) (Operand.tmp 7), type := 0, pos := q51, after := #[{ on := 0, ground := Ground.data }, { on := 0, ground := Ground.phase }], guard := none }] false
def apBody (q52 : String) (TS TE : TypeId) : Code := Code.block 1 (Code.region 3 #[{ dst := some 8, op := Op.load TS (Operand.tmp 2), type := TS, pos := q52, after := #[], guard := none }, { dst := some 9, op := Op.load TE (Operand.tmp 5), type := TE, pos := q52, after := #[], guard := none }, { dst := some 10, op := Op.buildSlice TS 1 #[(0, Operand.tmp 9)], type := TS, pos := q52, after := #[{ on := 1, ground := Ground.data }], guard := none }, { dst := some 11, op := Op.call { callee := Callee.builtin Builtin.append, args := #[Operand.tmp 8, Operand.tmp 10], argTypes := #[TS, TS] }, type := TS, pos := q52, after := #[{ on := 0, ground := Ground.data }, { on := 2, ground := Ground.data }], guard := none }, { dst := none, op := Op.store TS (Operand.tmp 2) (Operand.tmp 11), type := 0, pos := q52, after := #[{ on := 3, ground := Ground.data }, { on := 3, ground := Ground.chain }, { on := 0, ground := Ground.phase }, { on := 1, ground := Ground.phase }, { on := 2, ground := Ground.phase }, { on := 3, ground := Ground.phase }], guard := none }] false)
def apCode (q50 q51 q52 q54 : String) (TS TE TF : TypeId) : Code :=
  (Code.region 0 #[{ dst := some 2, op := Op.box TS (Operand.tmp 0), type := 0, pos := q50, after := #[], guard := none }, { dst := some 4, op := Op.assign (Operand.const (Value.slice none 0 0)), type := TS, pos := q50, after := #[], guard := none }] false).seq
    (((Code.region 1 #[{ dst := some 6, op := Op.move (Operand.tmp 1), type := TF, pos := q51, after := #[], guard := none }] false).seq
      (Code.block 0 (Code.rangeFunc (Operand.tmp 6) #[7] (apAssign q51 TE) (apBody q52 TS TE)))).seq
    ((Code.region 4 #[{ dst := some 12, op := Op.load TS (Operand.tmp 2), type := TS, pos := q54, after := #[], guard := none }, { dst := some 4, op := Op.assign (Operand.tmp 12), type := TS, pos := q54, after := #[{ on := 0, ground := Ground.data }, { on := 0, ground := Ground.phase }], guard := none }] false).seq Code.ret))
def apRec (q51 q52 : String) (TS TE : TypeId) (fn : FuncId) (sv : Value) (Bs D : Nat) (st : LoopState) (pend : Option Code) : Loop :=
  { state := st, pending := pend, fn, tmps := #[.slice none 0 0, sv, .pointer (some ⟨Bs, 0, none⟩), undef, .slice none 0 0, undef, sv, undef, undef, undef, undef, undef, undef], params := #[7], assign := apAssign q51 TE, body := apBody q52 TS TE, defers := D }

abbrev Two := Ty.pair (.int .i64) (.pair (.int .i64) .unit)
def encTwo (x : Int × Int × Unit) : Value := .agg #[.int .i64 x.1, .int .i64 x.2.1]
def cells2 (xs : List (Int × Int × Unit)) : List Value := xs.flatMap fun x => [.int .i64 x.1, .int .i64 x.2.1]
structure ApAt (q51 q52 : String) (TS TE : TypeId) (w0 : World) (fn : FuncId) (sv : Value) (Bs l D : Nat) (ss : List (Int × Int × Unit)) (W : World) : Prop where
  box : ∃ v, W.heap[Bs]? = some (.cells #[v] TS (0, 0)) ∧ W.ownsRow w0.heap.size TE 2 v ss.length (cells2 ss)
  L : W.heap[l]? = some (.loop (apRec q51 q52 TS TE fn sv Bs D .ready none))
  K : W.heap[D]? = some (.deferred (some []))
  ext : Ext w0 W (fun _ => False)

theorem ext_alloc {w W : World} {S : BSet} (h : Ext w W S) (o : Obj) : Ext w (W.alloc o) S := by
  refine ⟨h.os, h.tape, h.output, by rw [World.size_alloc]; have := h.size; omega, fun b hb hn => ?_, h.drawn⟩
  rw [Below.heap_alloc _ _ b (Nat.lt_of_lt_of_le hb h.size)]
  exact h.block b hb hn

theorem wpListIn_append_d {F : Fence} {n : Nat} {P : Program} (w : World) {ops : Array Oper} {rest : List Oper} {o : Oper} {a : Act} {Q : Exit → Act → World → Prop}
    (hg : o.guard = none) (s x : Operand) (t : TypeId) (hop : o.op = Op.call { callee := Callee.builtin Builtin.append, args := #[s, x], argTypes := #[t, t] })
    (base : Nat) (e : TypeId) (i : TypeInfo) (z : Value) (size bytes : Nat) (h1 : P.underlying t = some (.slice e)) (h2 : P.info? e = some i) (h3 : i.zero = some z) (h4 : i.size = size) (h5 : i.bytes = bytes) (h6 : z.cells.size = size) (h7 : 0 < size)
    (v : Value) (k : Nat) (xs : List Value) (hs : a.eval s = v) (hown : w.ownsRow base e size v k xs) (ad : Addr) (m c : Nat) (news : List Value) (hx : a.eval x = .slice (some ad) m c) (hn : news.length = m * size)
    (hc : ∀ j u, news[j]? = some u → w.cell? (ad.add j) = some u) (h1c : ∀ u ∈ news, u.oneCell' = true) (b1 : k + m ≤ maxLen) (b2 : (k + m) * bytes ≤ 140737488355328) (b3 : base ≤ w.heap.size)
    (hK : ∀ v' w', w'.ownsRow base e size v' (k + m) (xs ++ news) → w.grownBy w' v.ownBlock → w.drawn ≤ w'.drawn → wpListIn F n P ops Q rest (a.put o.dst v') w') :
    wpListIn F n P ops Q (o :: rest) a w := by
  refine wpListIn_plain hg fun K hK' => ?_
  obtain ⟨v', w', hrun, r1, r2, r3⟩ := run_append_own (P := P) w base t o.type e i z size bytes h1 h2 h3 h4 h5 h6 h7 v k xs hown ad m c news hn hc h1c b1 b2 b3
  unfold Oper.wpIn
  refine ⟨?_, ?_⟩
  · simp [Oper.about, hop, resolve, Target.leads, Sem.run_pure]
  · rw [Oper.semAt_plain F _ _ (by rw [hop]; intro c hc'; cases hc')]
    simp [execOp, hop, resolve, invoke, builtin, hs, hx, hrun, Result.andThen]
    exact hK' _ _ (hK v' w' r1 r2 (run_drawn hrun))
theorem ext_grown {w W W' : World} {row : Option Nat} (h : Ext w W (fun _ => False)) (hg : W.grownBy W' row) (hd : W.drawn ≤ W'.drawn) (hr : ∀ k, row = some k → w.heap.size ≤ k) : Ext w W' (fun _ => False) := by
  refine ⟨hg.os.trans h.os, hg.tape.trans h.tape, hg.output.trans h.output, Nat.le_trans h.size hg.size, fun b hb hn => ?_, Dr.trans h.drawn (Dr.of_le hd)⟩
  exact (hg.block b (Nat.lt_of_lt_of_le hb h.size) (fun e => by have := hr b e.symm; omega)).trans (h.block b hb hn)
theorem ownsRow_ne {W : World} {base : Nat} {e : TypeId} {size : Nat} {v : Value} {k : Nat} {xs : List Value} (h : W.ownsRow base e size v k xs) {j : Nat} {o : Obj} (hj : W.heap[j]? = some o) (hno : ∀ cur, o ≠ .cells cur e (0, 0)) :
    v.ownBlock = none ∨ v.ownBlock ≠ some j := by
  rcases h.2 with ⟨rfl, _⟩ | ⟨g, cap, cur, rfl, _, hgb, _⟩
  · exact .inl rfl
  · refine .inr fun e' => ?_
    have : g = j := by simpa [Value.ownBlock] using e'
    subst this; rw [hgb] at hj; cases hj; exact hno cur rfl
theorem cell_of_box {W : World} {B : Nat} {v : Value} {t : TypeId} (h : W.heap[B]? = some (.cells #[v] t (0, 0))) : W.cell? ⟨B, 0, none⟩ = some v ∧ W.frozen? ⟨B, 0, none⟩ = false := by
  constructor <;> simp [World.cell?, World.frozen?, h]
theorem heap_setCell_box {W : World} {B : Nat} {v : Value} {t : TypeId} (v' : Value) (h : W.heap[B]? = some (.cells #[v] t (0, 0))) : (W.setCell ⟨B, 0, none⟩ v').heap[B]? = some (.cells #[v'] t (0, 0)) := by
  obtain ⟨hlt, hk⟩ := Array.getElem?_eq_some_iff.1 h
  show (W.heap.modify B _)[B]? = _
  rw [Array.getElem?_eq_getElem (by rw [Array.size_modify]; exact hlt), Array.getElem_modify_self, hk]
  rfl
theorem grownBy_putObj (W : World) (l : Nat) (o : Obj) : W.grownBy (W.putObj l o) (some l) :=
  ⟨rfl, rfl, rfl, by simp, fun k _ hk => World.putObj_heap_other (fun e => hk (by rw [e]))⟩
theorem grownBy_setCell0 (W : World) (b o : Nat) (v : Value) : W.grownBy (W.setCell ⟨b, o, none⟩ v) (some b) :=
  ⟨rfl, rfl, rfl, (KeepsWalks.setCell W _ v).size, fun k _ hk => Below.heap_setCell _ _ _ k (fun e => hk (by rw [e]))⟩

/-- What is told of the types. -/
structure TwoTy (P : Program) (TS TE : TypeId) : Prop where
  tS : P.underlying TS = some (.slice TE)
  iE : (P.info? TE).map (fun i => (i.zero, i.size, i.bytes)) = some (some (.agg #[.int .i64 0, .int .i64 0]), 2, 16)
  aS : ∀ w, (isAgg TS).run P w = .ok false w
  zS : ∀ w, (Go.sizeOf TS).run P w = .ok 1 w
  aE : ∀ w, (isAgg TE).run P w = .ok true w
  zE : ∀ w, (Go.sizeOf TE).run P w = .ok 2 w
  vE : ∀ w, (zeroValue TE).run P w = .ok (.agg #[.int .i64 0, .int .i64 0]) w
theorem two_new (W : World) (TE : TypeId) (a b : Value) : ∀ (j : Nat) (u : Value), [a, b][j]? = some u → (W.alloc (.cells #[a, b] TE)).cell? ((⟨W.heap.size, 0, none⟩ : Addr).add j) = some u := by
  intro j u h
  rw [add_mem]
  have e : (W.alloc (.cells #[a, b] TE)).heap[W.heap.size]? = some (.cells #[a, b] TE) := World.alloc_heap_new W _
  unfold World.cell?
  simp only [e]
  simpa using h
set_option maxRecDepth 100000 in
set_option maxHeartbeats 2000000 in
theorem apYield {P : Program} {TS TE : TypeId} (T : TwoTy P TS TE) (hne : TS ≠ TE) (F : Fence) (m : Nat) (w0 : World) (fn : FuncId) (hfn : F.fn fn) (sv : Value) (Bs l D : Nat) (hBl : Bs ≠ l) (hDl : D ≠ l) (hDB : D ≠ Bs) (h0B : w0.heap.size ≤ Bs) (h0l : w0.heap.size ≤ l)
    (N : Nat) (hN : N ≤ maxLen) (hNb : N * 16 ≤ 140737488355328) (ss : List (Int × Int × Unit)) (x : Int × Int × Unit) (W : World) (h : ApAt q51 q52 TS TE w0 fn sv Bs l D ss W) (hlen : ss.length < N) :
    YieldAt F m P l #[encTwo x] W fun e W' => e = .returned (.bool true) ∧ ApAt q51 q52 TS TE w0 fn sv Bs l D (ss ++ [x]) W' := by
  obtain ⟨i0, hi, hz0, hz1, hz2⟩ := info_parts T.iE
  have tS := T.tS; have aS := T.aS; have zS := T.zS; have aE := T.aE; have zE := T.zE; have vE := T.vE
  have uS := fun w => run_underlying (P := P) T.tS (w := w)
  obtain ⟨v, hv, hrow⟩ := h.box
  refine ⟨fn, #[.slice none 0 0, sv, .pointer (some ⟨Bs, 0, none⟩), undef, .slice none 0 0, undef, sv, encTwo x, undef, undef, undef, undef, undef], apAssign q51 TE, apBody q52 TS TE, by simpa [apRec] using run_yield (P := P) (args := #[encTwo x]) h.L rfl, roundIn_of_wpIn hfn ?_⟩
  have hl : l < W.heap.size := (Array.getElem?_eq_some_iff.1 h.L).1
  have hBW : Bs < W.heap.size := (Array.getElem?_eq_some_iff.1 hv).1
  have hDW : D < W.heap.size := (Array.getElem?_eq_some_iff.1 h.K).1
  obtain ⟨W1, hW1⟩ : ∃ W1, W.alloc (Obj.cells #[Value.int IntKind.i64 x.1, Value.int IntKind.i64 x.2.1] TE) = W1 := ⟨_, rfl⟩
  have hs1 : W1.heap.size = W.heap.size + 1 := by rw [← hW1]; simp
  have hold : ∀ k, k < W.heap.size → W1.heap[k]? = W.heap[k]? := fun k hk => by rw [← hW1]; exact Below.heap_alloc _ _ k hk
  have hL1 : W1.heap[l]? = some (.loop (apRec q51 q52 TS TE fn sv Bs D .ready none)) := (hold l hl).trans h.L
  have hx1 : W1.heap[W.heap.size]? = some (.cells #[Value.int IntKind.i64 x.1, Value.int IntKind.i64 x.2.1] TE (0, 0)) := by rw [← hW1]; exact World.alloc_heap_new W _
  have hext1 : Ext w0 W1 (fun _ => False) := by rw [← hW1]; exact ext_alloc h.ext _
  have hrow1 : W1.ownsRow w0.heap.size TE 2 v ss.length (cells2 ss) := by rw [← hW1]; exact hrow.alloc _
  have hbr := run_beginRound (P := P) hL1 rfl
  obtain ⟨W2, hW2⟩ : ∃ W2, W1.putObj l (.loop { apRec q51 q52 TS TE fn sv Bs D .ready none with state := .busy }) = W2 := ⟨_, rfl⟩
  rw [hW2] at hbr
  have hg2 : W1.grownBy W2 (some l) := by rw [← hW2]; exact grownBy_putObj _ _ _
  have hv2 : W2.heap[Bs]? = some (.cells #[v] TS (0, 0)) := by rw [← hW2]; exact (World.putObj_heap_other hBl).trans ((hold _ hBW).trans hv)
  have hK2 : W2.heap[D]? = some (.deferred (some [])) := by rw [← hW2]; exact (World.putObj_heap_other hDl).trans ((hold _ hDW).trans h.K)
  have hx2 : W2.heap[W.heap.size]? = some (.cells #[Value.int IntKind.i64 x.1, Value.int IntKind.i64 x.2.1] TE (0, 0)) := by rw [← hW2]; exact (World.putObj_heap_other (by omega)).trans hx1
  have hL2 : W2.heap[l]? = some (.loop { apRec q51 q52 TS TE fn sv Bs D .ready none with state := .busy }) := by rw [← hW2]; exact World.putObj_heap_same (by omega)
  have hrow2 : W2.ownsRow w0.heap.size TE 2 v ss.length (cells2 ss) := hrow1.kept hg2 (ownsRow_ne hrow1 hL1 (fun cur e => by cases e))
  have hb2 : Ext w0 W2 (fun _ => False) := ext_grown hext1 hg2 (by rw [← hW2]; exact Nat.le_refl _) (fun k e => by cases e; exact h0l)
  obtain ⟨hc2, hf2⟩ := cell_of_box hv2
  have hcx0 : W2.cell? ⟨W.heap.size, 0, none⟩ = some (Value.int IntKind.i64 x.1) := by simp [World.cell?, hx2]
  have hcx1 : W2.cell? ⟨W.heap.size, 1, none⟩ = some (Value.int IntKind.i64 x.2.1) := by simp [World.cell?, hx2]
  have hBlt : Bs < W2.heap.size := (Array.getElem?_eq_some_iff.1 hv2).1
  have hl2 : l < W2.heap.size := (Array.getElem?_eq_some_iff.1 hL2).1
  have hDlt : D < W2.heap.size := (Array.getElem?_eq_some_iff.1 hK2).1
  have ne_of : ∀ {j : Nat} {o : Obj}, W2.heap[j]? = some o → (∀ cur, o ≠ .cells cur TE (0, 0)) → some j ≠ v.ownBlock := fun hj hno => by
    rcases ownsRow_ne hrow2 hj hno with e | e
    · rw [e]; simp
    · exact fun e' => e e'.symm
  clear hW2
  unfold encTwo apAssign
  gi_wp2_with (rw [Oper.semAt_eq _ _ _ (fun c h => by cases h)]; go_simp; try go_bits)
  unfold apBody
  gi_wp2_with (first
    | (gi_at_builtin; refine wpListIn_append_d _ rfl _ _ TS rfl w0.heap.size TE i0 (.agg #[.int .i64 0, .int .i64 0]) 2 16 tS hi hz0 hz1 hz2 rfl (by decide) _ _ _ rfl (hrow2.alloc _) ⟨W2.heap.size, 0, none⟩ 1 1 [.int .i64 x.1, .int .i64 x.2.1] rfl rfl (two_new _ _ _ _) (by simp [Value.oneCell']) (by omega) (by omega) (by have := hb2.size; simp; omega) ?_
       intro v' w3 hown' hg3 hd3
       have hv3 : w3.heap[Bs]? = some (.cells #[v] TS (0, 0)) := (hg3.block Bs (by simp; omega) (ne_of hv2 (fun cur e => hne (by cases e; rfl)))).trans ((Below.heap_alloc _ _ Bs hBlt).trans hv2)
       obtain ⟨hc3, hf3⟩ := cell_of_box hv3
       obtain ⟨g', cap', cur', rfl, hbase', hgb', hr1, hr2, hr3, hr4⟩ : ∃ g' cap' cur', v' = .slice (some ⟨g', 0, none⟩) (ss.length + 1) cap' ∧ w0.heap.size ≤ g' ∧ w3.heap[g']? = some (.cells cur' TE (0, 0)) ∧ ss.length + 1 ≤ cap' ∧ cap' ≤ maxLen ∧ cur'.size = cap' * 2 ∧ cur'.toList.take ((ss.length + 1) * 2) = cells2 ss ++ [.int .i64 x.1, .int .i64 x.2.1] := by
         rcases hown'.2 with ⟨_, h0⟩ | h'
         · exact absurd h0 (by omega)
         · exact h'
       go_frame)
    | (rw [Oper.semAt_eq _ _ _ (fun c h => by cases h)]; go_simp; try go_bits))
  have hg3' : (W2.alloc (.cells #[.int .i64 x.1, .int .i64 x.2.1] TE)).grownBy w3 v.ownBlock := hg3
  have hL3 : w3.heap[l]? = some (.loop { apRec q51 q52 TS TE fn sv Bs D .ready none with state := .busy }) := (hg3'.block l (by simp; omega) (ne_of hL2 (fun cur e => by cases e))).trans ((Below.heap_alloc _ _ l hl2).trans hL2)
  have hK3 : w3.heap[D]? = some (.deferred (some [])) := (hg3'.block D (by simp; omega) (ne_of hK2 (fun cur e => by cases e))).trans ((Below.heap_alloc _ _ D hDlt).trans hK2)
  obtain ⟨w4, hw4⟩ : ∃ w4, w3.setCell ⟨Bs, 0, none⟩ (.slice (some ⟨g', 0, none⟩) (ss.length + 1) cap') = w4 := ⟨_, rfl⟩
  rw [hw4]
  have hg4 : w3.grownBy w4 (some Bs) := by rw [← hw4]; exact grownBy_setCell0 _ _ _ _
  have hd4 : w3.drawn ≤ w4.drawn := by rw [← hw4]; exact Nat.le_refl _
  have hv4 : w4.heap[Bs]? = some (.cells #[.slice (some ⟨g', 0, none⟩) (ss.length + 1) cap'] TS (0, 0)) := by rw [← hw4]; exact heap_setCell_box _ hv3
  have hL4 : w4.heap[l]? = some (.loop { apRec q51 q52 TS TE fn sv Bs D .ready none with state := .busy }) := (hg4.block l (Array.getElem?_eq_some_iff.1 hL3).1 (fun e => hBl (by cases e; rfl))).trans hL3
  have hK4 : w4.heap[D]? = some (.deferred (some [])) := (hg4.block D (Array.getElem?_eq_some_iff.1 hK3).1 (fun e => hDB (by cases e; rfl))).trans hK3
  have hrow4 := hown'.kept hg4 (ownsRow_ne hown' hv3 (fun cur e => hne (by cases e; rfl)))
  have hl4 : l < w4.heap.size := (Array.getElem?_eq_some_iff.1 hL4).1
  have hb3 : Ext w0 w3 (fun _ => False) := ext_grown (ext_alloc hb2 _) hg3' hd3 (fun k e => (hrow2.lt k e).1)
  have hb4 : Ext w0 w4 (fun _ => False) := ext_grown hb3 hg4 hd4 (fun k e => by cases e; exact h0B)
  clear hw4
  refine ⟨_, _, run_endRound none hL4, rfl, ⟨⟨_, (World.putObj_heap_other hBl).trans hv4, ?_⟩, World.putObj_heap_same hl4, (World.putObj_heap_other hDl).trans hK4, ext_grown hb4 (grownBy_putObj _ _ _) (Nat.le_refl _) (fun k e => by cases e; exact h0l)⟩⟩
  have := hrow4.kept (grownBy_putObj w4 l (.loop { { apRec q51 q52 TS TE fn sv Bs D .ready none with state := .busy } with state := if (none : Option Code).isNone then .ready else .done, pending := none })) (ownsRow_ne hrow4 hL4 (fun cur e => by cases e))
  simpa [cells2] using this

def v1Code (q39 q40 : String) (TS TE TF : TypeId) : Code :=
  (Code.region 0 #[{ dst := some 5, op := Op.load TS (Operand.tmp 1), type := TS, pos := q39, after := #[], guard := none }, { dst := some 6, op := Op.call { callee := Callee.builtin Builtin.len, args := #[Operand.tmp 5], argTypes := #[TS] }, type := 3, pos := q39, after := #[{ on := 0, ground := Ground.data }], guard := none }, { dst := some 7, op := Op.move (Operand.const (Value.int IntKind.i64 0)), type := 3, pos := q39, after := #[], guard := none }] false).seq
    (Code.block 0
      ((Code.region 1 #[{ dst := some 8, op := Op.binOp BinOp.lss 3 (Operand.tmp 7) (Operand.tmp 6) 3, type := 0, pos := q39, after := #[], guard := none }] false).seq
        ((Code.cond (Operand.tmp 8) Code.skip (Code.exit 0)).seq
          ((Code.block 1
            ((Code.region 2 #[{ dst := some 9, op := Op.indexAddr TS (Operand.tmp 5) (Operand.tmp 7), type := 0, pos := q39, after := #[], guard := none }, { dst := some 10, op := Op.load TE (Operand.tmp 9), type := TE, pos := q39, after := #[{ on := 0, ground := Ground.data }], guard := none }, { dst := some 4, op := Op.alloc TE, type := 0, pos := q39, after := #[], guard := none }, { dst := none, op := Op.store TE (Operand.tmp 4) (Operand.tmp 10), type := 0, pos := q39, after := #[{ on := 2, ground := Ground.data }, { on := 1, ground := Ground.data }, { on := 0, ground := Ground.phase }, { on := 1, ground := Ground.phase }, { on := 2, ground := Ground.phase }], guard := none }] false).seq
              ((Code.region 3 #[{ dst := some 11, op := Op.move (Operand.tmp 0), type := TF, pos := q40, after := #[], guard := none }, { dst := some 12, op := Op.load TE (Operand.tmp 4), type := TE, pos := q40, after := #[], guard := none }, { dst := some 13, op := Op.call { callee := Callee.value (Operand.tmp 11), args := #[Operand.tmp 12], argTypes := #[TE] }, type := 4, pos := q40, after := #[{ on := 0, ground := Ground.data }, { on := 1, ground := Ground.data }], guard := none }, { dst := some 14, op := Op.unOp UnOp.not 4 (Operand.tmp 13), type := 4, pos := q40, after := #[{ on := 2, ground := Ground.data }], guard := none }] false).seq
                (Code.cond (Operand.tmp 14) Code.ret Code.skip)))).seq
            (Code.region 4 #[{ dst := some 15, op := Op.binOp BinOp.add 3 (Operand.tmp 7) (Operand.const (Value.int IntKind.i64 1)) 3, type := 3, pos := q39, after := #[], guard := none }, { dst := some 7, op := Op.move (Operand.tmp 15), type := 3, pos := q39, after := #[{ on := 0, ground := Ground.data }], guard := none }] false)))).loop)
theorem cells_at_two {W : World} {ad : Addr} {xs : List (Int × Int × Unit)} (h : CellsAt W ad (cells2 xs)) : ∀ {k : Nat} {x : Int × Int × Unit}, xs[k]? = some x → W.cell? (ad.add (k * 2)) = some (.int .i64 x.1) ∧ W.cell? (ad.add (k * 2 + 1)) = some (.int .i64 x.2.1) := by
  have aux : ∀ (xs : List (Int × Int × Unit)) (k : Nat) (x : Int × Int × Unit), xs[k]? = some x → (cells2 xs)[k * 2]? = some (.int .i64 x.1) ∧ (cells2 xs)[k * 2 + 1]? = some (.int .i64 x.2.1) := by
    intro xs
    induction xs with
    | nil => intro k x h; simp at h
    | cons y ys ih =>
      intro k x h
      cases k with
      | zero => simp at h; subst h; exact ⟨rfl, rfl⟩
      | succ k =>
        have := ih k x (by simpa using h)
        have e : cells2 (y :: ys) = .int .i64 y.1 :: .int .i64 y.2.1 :: cells2 ys := rfl
        rw [e, show (k + 1) * 2 = k * 2 + 1 + 1 by omega]
        simpa using this
  intro k x hx
  obtain ⟨h1, h2⟩ := aux xs k x hx
  exact ⟨h _ _ h1, h _ _ h2⟩
set_option maxRecDepth 100000 in
set_option maxHeartbeats 2000000 in
theorem values1_in {P : Program} {TS TE TF f : TypeId} {fn : Func} (T : TwoTy P TS TE) (u3 : P.underlying 3 = some (.int .i64)) (u4 : P.underlying 4 = some .bool) (hf : P.funcs[f]? = some fn) (hb : fn.body = some (v1Code q39 q40 TS TE TF)) (hnt : fn.ntmps = 16) (hres : fn.results = #[])
    (F : Fence) (n : Nat) (h7 : F.fn f) (hro : F.round = none) (hn : 1 ≤ n) (l : Nat) (bB oB : Nat) (b off cap : Nat) (xs : List (Int × Int × Unit)) (hreach : xs.length * 16 ≤ 140737488355328) (J : List (Int × Int × Unit) → World → Prop)
    (hJ : ∀ pre W W', J pre W → Ext W W' (fun _ => False) → J pre W')
    (hS : ∀ pre W, J pre W → W.cell? ⟨bB, oB, none⟩ = some (.slice (some ⟨b, off, none⟩) xs.length cap) ∧ ∀ k x, xs[k]? = some x → W.cell? ⟨b, off + k * 2, none⟩ = some (.int .i64 x.1) ∧ W.cell? ⟨b, off + k * 2 + 1, none⟩ = some (.int .i64 x.2.1))
    (hY : ∀ pre x W, J pre W → pre.length < xs.length → YieldAt F (n - 1) P l #[encTwo x] W fun e W' => e = .returned (.bool true) ∧ J (pre ++ [x]) W')
    (W : World) (h0 : J [] W) :
    CallsIn F n P f #[.func (.yield l) #[] #[], .pointer (some ⟨bB, oB, none⟩)] W fun e W' => (∃ v, e = .returned v) ∧ J xs W' := by
  have tS := T.tS; have aS := T.aS; have zS := T.zS; have aE := T.aE; have zE := T.zE; have vE := T.vE
  have uS := fun w => run_underlying (P := P) T.tS (w := w)
  have uu3 := fun w => run_underlying (P := P) u3 (w := w)
  have uu4 := fun w => run_underlying (P := P) u4 (w := w)
  refine callsIn_of_wp hf hb h7 ?_ hro
  simp only [hnt, List.size_toArray, List.length_cons, List.length_nil, Nat.reduceAdd, Nat.reduceSub, Array.replicate_succ, Array.replicate_zero, List.push_toArray, List.append_toArray, List.nil_append, List.cons_append]
  unfold v1Code
  obtain ⟨hBs, _⟩ := hS _ _ h0
  gi_wp2
  gi_loopw [7] (fun i wr => ∃ k : Nat, k ≤ xs.length ∧ i = .int .i64 k ∧ J (xs.take k) wr)
    (fun i _ => xs.length - (RowKit.intOf i).toNat)
  case atStart => exact ⟨0, Nat.zero_le _, rfl, h0⟩
  case round =>
    obtain ⟨k, hk, rfl, hJs⟩ := hrel
    obtain ⟨hBs', hcs⟩ := hS _ _ hJs
    by_cases hlt : k < xs.length
    · obtain ⟨hcx, hcy⟩ := hcs k xs[k] (List.getElem?_eq_getElem hlt)
      have hJ1 : J (xs.take k) (wr.alloc (.cells #[.int .i64 xs[k].1, .int .i64 xs[k].2.1] TE)) := hJ _ _ _ hJs (ext_alloc (Ext.refl _ _) _)
      obtain ⟨fn', tmps, assign, body, hy, hR⟩ := hY _ xs[k] _ hJ1 (by rw [List.length_take]; omega)
      unfold encTwo at hy
      have htk : xs.take k ++ [xs[k]] = xs.take (k + 1) := (List.take_succ_eq_append_getElem hlt).symm
      rw [htk] at hR
      clear hcs
      generalize xs[k] = x at hcx hcy hJ1 hy hR
      gi_wp2
      refine hR.mono ?_
      rintro e W3 ⟨rfl, hJ3⟩
      gi_wp2
      go_roundw
      case rel => exact ⟨k + 1, by omega, by simp, hJ3⟩
      case measure => simp [RowKit.intOf]; omega
    · obtain rfl : k = xs.length := by omega
      rw [List.take_length] at hJs
      gi_wp2
      (try simp only [Exit.inBlock, Exit.then]); refine bodyPost_end (results_none hres _ _ _) rfl ?_
      exact ⟨⟨_, rfl⟩, hJs⟩

set_option maxRecDepth 100000 in
set_option maxHeartbeats 2000000 in
theorem values1_nil_in {P : Program} {TS TE TF f : TypeId} {fn : Func} (T : TwoTy P TS TE) (u3 : P.underlying 3 = some (.int .i64)) (u4 : P.underlying 4 = some .bool) (hf : P.funcs[f]? = some fn) (hb : fn.body = some (v1Code q39 q40 TS TE TF)) (hnt : fn.ntmps = 16) (hres : fn.results = #[])
    (F : Fence) (n : Nat) (h7 : F.fn f) (hro : F.round = none) (l : Nat) (bB oB : Nat) (A : Option Addr) (cap : Nat) (J : World → Prop)
    (W : World) (hBs : W.cell? ⟨bB, oB, none⟩ = some (.slice A 0 cap)) (h0 : J W) :
    CallsIn F n P f #[.func (.yield l) #[] #[], .pointer (some ⟨bB, oB, none⟩)] W fun e W' => (∃ v, e = .returned v) ∧ J W' := by
  have tS := T.tS; have aS := T.aS; have zS := T.zS; have aE := T.aE; have zE := T.zE; have vE := T.vE
  have uS := fun w => run_underlying (P := P) T.tS (w := w)
  have uu3 := fun w => run_underlying (P := P) u3 (w := w)
  have uu4 := fun w => run_underlying (P := P) u4 (w := w)
  refine callsIn_of_wp hf hb h7 ?_ hro
  simp only [hnt, List.size_toArray, List.length_cons, List.length_nil, Nat.reduceAdd, Nat.reduceSub, Array.replicate_succ, Array.replicate_zero, List.push_toArray, List.append_toArray, List.nil_append, List.cons_append]
  unfold v1Code
  gi_wp2
  gi_loopw [7] (fun i wr => i = .int .i64 0 ∧ J wr) (fun _ _ => 0)
  case atStart => exact ⟨rfl, h0⟩
  case round =>
    obtain ⟨rfl, hJs⟩ := hrel
    gi_wp2
    (try simp only [Exit.inBlock, Exit.then]); refine bodyPost_end (results_none hres _ _ _) rfl ?_
    exact ⟨⟨_, rfl⟩, hJs⟩

/-- An iterator's values, against whatever loop's invariant that new blocks do not mind. -/
def SeqIs (F : Fence) (n : Nat) (P : Program) (g : Nat) (lb : Array Value) (xs : List (Int × Int × Unit)) (w : World) : Prop :=
  ∀ (l : Nat) (J : List (Int × Int × Unit) → World → Prop) (W : World), (∀ pre W W', J pre W → Ext W W' (fun _ => False) → J pre W') → (∀ pre W, J pre W → Ext w W (fun _ => False)) →
    (∀ pre x W, J pre W → pre.length < xs.length → YieldAt F (n - 1) P l #[encTwo x] W fun e W' => e = .returned (.bool true) ∧ J (pre ++ [x]) W') →
    J [] W → CallsIn F n P g (#[.func (.yield l) #[] #[]] ++ lb) W fun e W' => (∃ v, e = .returned v) ∧ J xs W'
theorem ApAt.ext' {TS TE : TypeId} {w0 W W' : World} {fn : FuncId} {sv : Value} {Bs l D : Nat} {ss : List (Int × Int × Unit)} (h : ApAt q51 q52 TS TE w0 fn sv Bs l D ss W) (hx : Ext W W' (fun _ => False)) : ApAt q51 q52 TS TE w0 fn sv Bs l D ss W' := by
  have hh : ∀ {k : Nat} {o : Obj}, W.heap[k]? = some o → W'.heap[k]? = some o := fun hk => (hx.block _ (Array.getElem?_eq_some_iff.1 hk).1 (fun h => h)).trans hk
  obtain ⟨v, hv, hr⟩ := h.box
  refine ⟨⟨v, hh hv, ?_⟩, hh h.L, hh h.K, ⟨hx.os.trans h.ext.os, hx.tape.trans h.ext.tape, hx.output.trans h.ext.output, Nat.le_trans h.ext.size hx.size, fun b hb hn => (hx.block b (Nat.lt_of_lt_of_le hb h.ext.size) hn).trans (h.ext.block b hb hn), Dr.trans h.ext.drawn hx.drawn⟩⟩
  refine ownsRow_frame hr fun b hb => ?_
  rcases hr.2 with ⟨rfl, _⟩ | ⟨g, cap, cur, rfl, _, hg, _⟩
  · cases hb
  · simp only [Value.ownBlock, Option.some.injEq] at hb
    subst hb
    rw [hh hg, hg]
set_option maxRecDepth 100000 in
set_option maxHeartbeats 2000000 in
theorem appendSeq_in {P : Program} {TS TE TF f : TypeId} {fc : Func} (T : TwoTy P TS TE) (hne : TS ≠ TE) (hf : P.funcs[f]? = some fc) (hb : fc.body = some (apCode q50 q51 q52 q54 TS TE TF)) (hnt : fc.ntmps = 13) (hres : fc.results = #[.tmp 4])
    (F : Fence) (n : Nat) (h11 : F.fn f) (hro : F.round = none) (hn : 2 ≤ n) (g : Nat) (lb : Array Value) (hFg : F.fn g) (eg : ∀ args w, (callFunc g args).run P w = .ok (.enter g args) w)
    (xs : List (Int × Int × Unit)) (hNb : xs.length * 16 ≤ 140737488355328) (w : World) (hseq : SeqIs F (n - 1) P g lb xs w) :
    CallsIn F n P f #[.slice none 0 0, .func (.func g) #[] lb] w fun e w' => ∃ v, e = .returned v ∧ w'.ownsRow w.heap.size TE 2 v xs.length (cells2 xs) ∧ Ext w w' (fun _ => False) := by
  have h1 : 1 ≤ n := by omega
  have hN : xs.length ≤ maxLen := Nat.le_trans (m := 140737488355328) (by omega) (by decide)
  have tS := T.tS; have aS := T.aS; have zS := T.zS; have aE := T.aE; have zE := T.zE; have vE := T.vE
  have uS := fun w => run_underlying (P := P) T.tS (w := w)
  refine callsIn_of_wp_marks hf hb h11 ?_ hro
  simp only [hnt, List.size_toArray, List.length_cons, List.length_nil, Nat.reduceAdd, Nat.reduceSub, Array.replicate_succ, Array.replicate_zero, List.push_toArray, List.append_toArray, List.nil_append, List.cons_append]
  unfold apCode
  gi_wp2
  refine wpIn_rangeFunc ?_
  intro fn hfn
  rw [hro]
  obtain ⟨W0, hW0⟩ : ∃ W0, w.alloc (.cells #[.slice none 0 0] TS) = W0 := ⟨_, rfl⟩
  have hs0 : W0.heap.size = w.heap.size + 1 := by rw [← hW0]; simp
  have hv0 : W0.heap[w.heap.size]? = some (.cells #[.slice none 0 0] TS (0, 0)) := by rw [← hW0]; exact World.alloc_heap_new w _
  have hb0 : Ext w W0 (fun _ => False) := by rw [← hW0]; exact ext_alloc (Ext.refl w _) _
  rw [hW0]
  obtain ⟨W1, hW1⟩ : ∃ W1, (W0.alloc (.deferred (some []))).alloc (.loop (apRec q51 q52 TS TE fn (.func (.func g) #[] lb) w.heap.size W0.heap.size .ready none)) = W1 := ⟨_, rfl⟩
  have hold : ∀ k, k < W0.heap.size → W1.heap[k]? = W0.heap[k]? := fun k hk => by
    rw [← hW1]; exact (Below.heap_alloc _ _ k (by simp; omega)).trans (Below.heap_alloc _ _ k hk)
  have hb1 : Ext w W1 (fun _ => False) := by rw [← hW1]; exact ext_alloc (ext_alloc hb0 _) _
  have hs1 : W1.heap.size = W0.heap.size + 2 := by rw [← hW1]; simp
  have hM : ApAt q51 q52 TS TE w fn (.func (.func g) #[] lb) w.heap.size (W0.heap.size + 1) W0.heap.size [] W1 :=
    ⟨⟨_, (hold w.heap.size (by omega)).trans hv0, ⟨rfl, .inl ⟨rfl, rfl⟩⟩⟩,
     by rw [← hW1]; have := World.alloc_heap_new (W0.alloc (.deferred (some []))) (.loop (apRec q51 q52 TS TE fn (.func (.func g) #[] lb) w.heap.size W0.heap.size .ready none)); rwa [World.size_alloc] at this,
     by rw [← hW1]; exact (Below.heap_alloc _ _ _ (by simp)).trans (World.alloc_heap_new W0 _), hb1⟩
  refine ⟨W0.heap.size + 1, [{ target := .collected W0.heap.size, args := #[] }], W1, { target := .fn (.func g) lb, args := #[.func (.yield (W0.heap.size + 1)) #[] #[]] }, W1, g,
    #[.func (.yield (W0.heap.size + 1)) #[] #[]] ++ lb, W1, ?_, ?_, ?_, ?_, fun _ => h1, ?_⟩
  · rw [← hW1]; exact run_enterLoop_outer _ _ _ _ _
  · simp [resolve, go_sem]
  · intro f' hf'; simp [Target.leads] at hf'; subst hf'; exact hFg
  · simp [invoke, go_sem, eg]
  · refine (hseq (W0.heap.size + 1) (ApAt q51 q52 TS TE w fn (.func (.func g) #[] lb) w.heap.size (W0.heap.size + 1) W0.heap.size) W1 (fun pre W W' h hx => h.ext' hx) (fun pre W h => h.ext)
      (fun pre x W hJ hl => apYield T hne F (n - 1 - 1) w fn hfn _ w.heap.size (W0.heap.size + 1) W0.heap.size (by omega) (by omega) (by omega) (Nat.le_refl _) (by omega) xs.length hN hNb pre x W hJ hl) hM).mono ?_
    rintro e W2 ⟨⟨v0, rfl⟩, h2⟩
    obtain ⟨v, hv, hrow⟩ := h2.box
    have hend := run_endLoop (P := P) h2.L (by simp [apRec])
    obtain ⟨W3, hW3⟩ : ∃ W3, W2.putObj (W0.heap.size + 1) (.loop { apRec q51 q52 TS TE fn (.func (.func g) #[] lb) w.heap.size W0.heap.size .ready none with state := .exhausted }) = W3 := ⟨_, rfl⟩
    rw [hW3] at hend
    have hg3 : W2.grownBy W3 (some (W0.heap.size + 1)) := by rw [← hW3]; exact grownBy_putObj _ _ _
    have hd3 : W2.drawn ≤ W3.drawn := by rw [← hW3]; exact Nat.le_refl _
    have hv3 : W3.heap[w.heap.size]? = some (.cells #[v] TS (0, 0)) := by rw [← hW3]; exact (World.putObj_heap_other (by omega)).trans hv
    have hK3 : W3.heap[W0.heap.size]? = some (.deferred (some [])) := by rw [← hW3]; exact (World.putObj_heap_other (by omega)).trans h2.K
    have hrow3 := hrow.kept hg3 (ownsRow_ne hrow h2.L (fun cur e => by cases e))
    have hb3 : Ext w W3 (fun _ => False) := ext_grown h2.ext hg3 hd3 (fun k e => by cases e; omega)
    obtain ⟨hc3, hf3⟩ := cell_of_box hv3
    clear hW3
    refine ⟨none, W3, hend, ?_⟩
    gi_wp2
    rw [← hs0]
    refine ⟨by simp, .inl ⟨_, _, rfl, run_takeDeferred hK3, ?_⟩⟩
    exact ⟨_, results_tmp hres _ _ _, v, rfl, hrow3.kept (grownBy_putObj _ _ _) (ownsRow_ne hrow3 hK3 (fun cur e => by cases e)), ext_grown hb3 (grownBy_putObj _ _ _) (Nat.le_refl _) (fun k e => by cases e; omega)⟩

def coCode (q59 q60 : String) (TS TF f : TypeId) : Code :=
  (Code.region 0 #[{ dst := some 2, op := Op.assign (Operand.const (Value.slice none 0 0)), type := TS, pos := q59, after := #[], guard := none }] false).seq
    ((Code.region 1 #[{ dst := some 3, op := Op.move (Operand.tmp 0), type := TF, pos := q60, after := #[], guard := none }, { dst := some 4, op := Op.call { callee := Callee.value (Operand.func f), args := #[Operand.const (Value.slice none 0 0), Operand.tmp 3], argTypes := #[TS, TF] }, type := TS, pos := q60, after := #[{ on := 0, ground := Ground.data }], guard := none }, { dst := some 2, op := Op.assign (Operand.tmp 4), type := TS, pos := q60, after := #[{ on := 1, ground := Ground.data }, { on := 1, ground := Ground.chain }, { on := 0, ground := Ground.phase }, { on := 1, ground := Ground.phase }], guard := none }] false).seq Code.ret)
set_option maxHeartbeats 1000000 in
theorem collect_in {P : Program} {TS TE TF TF' f fa : TypeId} {fc fca : Func} (T : TwoTy P TS TE) (hne : TS ≠ TE) (hf : P.funcs[f]? = some fc) (hb : fc.body = some (coCode q59 q60 TS TF fa)) (hnt : fc.ntmps = 5) (hres : fc.results = #[.tmp 2])
    (hfa : P.funcs[fa]? = some fca) (hba : fca.body = some (apCode q50 q51 q52 q54 TS TE TF')) (hna : (fca.name == "runtime.NumGoroutine") = false) (hnta : fca.ntmps = 13) (hresa : fca.results = #[.tmp 4])
    (F : Fence) (n : Nat) (h8 : F.fn f) (h11 : F.fn fa) (hro : F.round = none) (hn : 3 ≤ n) (g : Nat) (lb : Array Value) (hFg : F.fn g) (eg : ∀ args w, (callFunc g args).run P w = .ok (.enter g args) w)
    (xs : List (Int × Int × Unit)) (hNb : xs.length * 16 ≤ 140737488355328) (w : World) (hseq : SeqIs F (n - 1 - 1) P g lb xs w) :
    CallsIn F n P f #[.func (.func g) #[] lb] w fun e w' => ∃ v, e = .returned v ∧ w'.ownsRow w.heap.size TE 2 v xs.length (cells2 xs) ∧ Ext w w' (fun _ => False) := by
  have h1 : 1 ≤ n := by omega
  have efa : ∀ args w, (callFunc fa args).run P w = .ok (.enter fa args) w := enters_of hfa hna hba
  have key := fun W hs => appendSeq_in T hne hfa hba hnta hresa F (n - 1) h11 hro (by omega) g lb hFg eg xs hNb W hs
  refine callsIn_of_wp hf hb h8 ?_ hro
  simp only [hnt, List.size_toArray, List.length_cons, List.length_nil, Nat.reduceAdd, Nat.reduceSub, Array.replicate_succ, Array.replicate_zero, List.push_toArray, List.append_toArray, List.nil_append, List.cons_append]
  unfold coCode
  gi_wp2_with (refine (key _ hseq).mono ?_; rintro e w' ⟨v, rfl, hrow, hb⟩)
  (try simp only [Exit.inBlock, Exit.then]); refine bodyPost_ret (results_tmp hres _ _ _) rfl ?_
  exact ⟨v, rfl, hrow, hb⟩

def collectOf {α : Type} (xs : List α) : Option (List α) := bif decide (xs.length * 16 ≤ 140737488355328) then some xs else none
def collectS (TE f1 : Nat) : Spec := ⟨[.fn f1 [] [.v (.ptr (.sl TE Two)) .fr]], List Two.den, fun v => collectOf v.1.2.1, fun r => ([.v (.sl TE Two) (.own .fr) r], [])⟩
theorem ownsRow_base0 {W : World} {base : Nat} {e : TypeId} {size : Nat} {v : Value} {k : Nat} {xs : List Value} (h : W.ownsRow base e size v k xs) : W.ownsRow 0 e size v k xs := by
  refine ⟨h.1, ?_⟩
  rcases h.2 with hn | ⟨g, cap, cur, hv, hbg, rest⟩
  · exact .inl hn
  · exact .inr ⟨g, cap, cur, hv, Nat.zero_le _, rest⟩
theorem two_cells : ∀ xs : List Two.den, xs.flatMap (cellsOf Two) = cells2 xs := fun xs => rfl
theorem collect_main {P : Program} {TS TE TF TF' TF1 f fa f1 : TypeId} {fc fca fc1 : Func} (T : TwoTy P TS TE) (hne : TS ≠ TE) (u3 : P.underlying 3 = some (.int .i64)) (u4 : P.underlying 4 = some .bool)
    (hf : P.funcs[f]? = some fc) (hb : fc.body = some (coCode q59 q60 TS TF fa)) (hnt : fc.ntmps = 5) (hres : fc.results = #[.tmp 2])
    (hfa : P.funcs[fa]? = some fca) (hba : fca.body = some (apCode q50 q51 q52 q54 TS TE TF')) (hna : (fca.name == "runtime.NumGoroutine") = false) (hnta : fca.ntmps = 13) (hresa : fca.results = #[.tmp 4])
    (hf1 : P.funcs[f1]? = some fc1) (hb1 : fc1.body = some (v1Code q39 q40 TS TE TF1)) (hn1 : (fc1.name == "runtime.NumGoroutine") = false) (hnt1 : fc1.ntmps = 16) (hres1 : fc1.results = #[])
    {xs : List Two.den} (hlen : xs.length * 16 ≤ 140737488355328) {w : World} {Z Fo : BSet} {vs : List Value} (hA : ArgsRep w Z [.fn f1 [] [.v (.ptr (.sl TE Two)) .fr xs]] vs Fo) (hZ : ∀ b, Z b → b < w.heap.size) (hF : ∀ b, Fo b → ¬ Z b ∧ b < w.heap.size) :
    Calls P f vs.toArray w fun e' w' => match e' with
      | .returned v => CallPost w w' Z Fo [] [.v (.sl TE Two) (.own .fr) xs] [] v
      | _ => False := by
  obtain ⟨V, Vs', F1, F2, rfl, ⟨h1, hF1⟩, ⟨rfl, hF2⟩, j1⟩ := hA
  cases h1 with
  | fn h3f h3c =>
  cases h3f
  cases h3c with
  | cons h5 h6 =>
  cases h6
  cases h5 with
  | v h5 =>
  rename_i Vp
  obtain ⟨⟨ad, cells, hV, _, hsp, hzb, hca, A, c, cells', rfl, _, hnc, hcm, hA2, hE⟩, hag⟩ := h5
  have hVp := one_val hV hag
  subst hVp
  obtain ⟨b, o, sp⟩ := ad
  simp only at hsp hzb
  subst hsp
  obtain ⟨rfl, _⟩ := elems_plain (e := Two) rfl hE
  have hcell : w.cell? ⟨b, o, none⟩ = some (.slice A xs.length c) := by
    have := hca 0 _ rfl
    rw [add_mem] at this
    simpa using this
  have hsame : ∀ {W : World}, Ext w W (fun _ => False) → ∀ {k : Nat}, Z k → ∀ off, W.cell? ⟨k, off, none⟩ = w.cell? ⟨k, off, none⟩ := fun hx k hk off => cell_of_heap (hx.block k (hZ k hk) (fun h => h))
  have eg : ∀ args w, (callFunc f1 args).run P w = .ok (.enter f1 args) w := enters_of hf1 hn1 hb1
  have hseq : SeqIs Fence.wide (5 - 1 - 1) P f1 #[.pointer (some ⟨b, o, none⟩)] xs w := by
    intro l J W hJ hJx hY h0
    have hbW : ∀ pre W, J pre W → W.cell? ⟨b, o, none⟩ = some (.slice A xs.length c) := fun pre W h => (hsame (hJx pre W h) hzb o).trans hcell
    by_cases hx : xs = []
    · subst hx
      exact values1_nil_in T u3 u4 hf1 hb1 hnt1 hres1 Fence.wide _ trivial rfl l b o A c (J []) W (hbW _ _ h0) h0
    · obtain ⟨⟨b2, o2, sp2⟩, rfl, hsp2, hz2, hc2⟩ := hA2 hx
      simp only at hsp2 hz2
      subst hsp2
      refine values1_in T u3 u4 hf1 hb1 hnt1 hres1 Fence.wide _ trivial rfl (by omega) l b o b2 o2 c xs hlen J hJ (fun pre W h => ⟨hbW pre W h, fun k x hk => ?_⟩) hY W h0
      have := cells_at_two hc2 hk
      simp only [add_mem] at this
      rw [hsame (hJx pre W h) hz2, hsame (hJx pre W h) hz2, this.1, ← this.2]
      exact ⟨rfl, by rw [Nat.add_assoc]⟩
  refine (callsIn_wide.1 (collect_in T hne hf hb hnt hres hfa hba hna hnta hresa Fence.wide 5 trivial trivial rfl (by omega) f1 _ trivial eg xs hlen w hseq)).mono ?_
  rintro e' w' ⟨v, rfl, hrow, hx⟩
  have hlt : ∀ k, v.ownBlock = some k → w.heap.size ≤ k ∧ k < w'.heap.size := hrow.lt
  have hone : v.cells.toList = [v] ∧ ((Ty.sl TE Two).isAgg = true ↔ ∃ cs, v = .agg cs) := by
    rcases hrow.2 with ⟨rfl, _⟩ | ⟨g, cap, cur, rfl, _⟩ <;> simp [Value.cells, Ty.isAgg]
  refine ⟨Z, fun b => v.ownBlock = some b, fun _ => False, [v], ?_, fun b h => h, fun b h => ⟨Nat.lt_of_lt_of_le (hZ b h) hx.size, .inl h⟩, .inl ⟨rfl, rfl⟩, ?_, ⟨rfl, fun _ h => h⟩, ?_, fun b _ h => h⟩
  · exact ⟨hx.os, hx.tape, hx.output, hx.size, fun b hb _ => hx.block b hb (fun h => h), hx.drawn⟩
  · refine ⟨_, _, fun b => v.ownBlock = some b, fun _ => False, rfl, ⟨⟨v, cells2 xs, fun _ => False, hone.1, ownsRow_base0 hrow, plain_elems (e := Two) rfl, fun b => by simp, fun b _ h => h⟩, hone.2⟩, ⟨rfl, fun _ h => h⟩, fun b => by simp, fun b _ h => h⟩
  · rintro b (hb | hb)
    · obtain ⟨l1, l2⟩ := hlt b hb
      exact ⟨fun hz => by have := hZ b hz; omega, l2, .inr l1⟩
    · exact hb.elim
theorem collect_is {P : Program} {TS TE TF TF' TF1 f fa f1 : TypeId} {fc fca fc1 : Func} (T : TwoTy P TS TE) (hne : TS ≠ TE) (u3 : P.underlying 3 = some (.int .i64)) (u4 : P.underlying 4 = some .bool)
    (hf : P.funcs[f]? = some fc) (hb : fc.body = some (coCode q59 q60 TS TF fa)) (hn : (fc.name == "runtime.NumGoroutine") = false) (hnt : fc.ntmps = 5) (hres : fc.results = #[.tmp 2])
    (hfa : P.funcs[fa]? = some fca) (hba : fca.body = some (apCode q50 q51 q52 q54 TS TE TF')) (hna : (fca.name == "runtime.NumGoroutine") = false) (hnta : fca.ntmps = 13) (hresa : fca.results = #[.tmp 4])
    (hf1 : P.funcs[f1]? = some fc1) (hb1 : fc1.body = some (v1Code q39 q40 TS TE TF1)) (hn1 : (fc1.name == "runtime.NumGoroutine") = false) (hnt1 : fc1.ntmps = 16) (hres1 : fc1.results = #[]) :
    FnIs P f (modeOf []) (phi [collectS TE f1]) := by
  intro args res fin h
  refine ⟨⟨fc, hf, by rw [hb]; rfl, hn⟩, fun w Z Fo vs hA hZ hF => ?_⟩
  simp only [phi] at h
  split at h
  rotate_left
  · cases h
  rename_i v hv
  obtain ⟨⟨u, xs, u'⟩, u''⟩ := v
  have hargs := decL_ok hv
  subst hargs
  simp only [collectS, Out.run, collectOf] at h
  cases hd : decide (List.length xs * 16 ≤ 140737488355328) with
  | false => rw [hd] at h; cases h
  | true =>
  rw [hd] at h
  simp only [cond_true, Option.bind_some, Option.some.injEq, Prod.mk.injEq] at h
  obtain ⟨rfl, rfl⟩ := h
  rw [muts_nil]
  exact collect_main T hne u3 u4 hf hb hnt hres hfa hba hna hnta hresa hf1 hb1 hn1 hnt1 hres1 (of_decide_eq_true hd) hA hZ hF
end
end Go.K

/- K, part S3: slices.Clone at frozen slices, and slices.Grow at slices of no element. -/
set_option linter.unusedVariables false
set_option linter.unusedSimpArgs false
namespace Go.K
open Go.RowKit Go.Maps Go.Sort Go.Shelf Go.Proofs
variable [drI : Dr]
attribute [local go_sem] Oper.semAt_some
attribute [local go_sem] Oper.semAt_eq

section
variable {q55 q57 q58 q62 : String}
structure SlTy (P : Program) (TS TE : TypeId) (k bytes : Nat) : Prop where
  tS : P.underlying TS = some (.slice TE)
  iE : (P.info? TE).map (fun i => (i.zero.map (fun z => z.cells.size), i.size, i.bytes)) = some (some k, k, bytes)
  aS : ∀ w, (isAgg TS).run P w = .ok false w
  zS : ∀ w, (Go.sizeOf TS).run P w = .ok 1 w
  zE : ∀ w, (Go.sizeOf TE).run P w = .ok k w
  pos : 0 < k
  by1 : 0 < bytes
theorem SlTy.parts {P : Program} {TS TE : TypeId} {k bytes : Nat} (T : SlTy P TS TE k bytes) : ∃ i z, P.info? TE = some i ∧ i.zero = some z ∧ i.size = k ∧ i.bytes = bytes ∧ z.cells.size = k := by
  have h := T.iE
  cases hi : P.info? TE with
  | none => rw [hi] at h; cases h
  | some i =>
    rw [hi] at h
    simp only [Option.map_some, Option.some.injEq, Prod.mk.injEq] at h
    obtain ⟨h1, h2, h3⟩ := h
    cases hz : i.zero with
    | none => rw [hz] at h1; cases h1
    | some z =>
      rw [hz] at h1
      simp only [Option.map_some, Option.some.injEq] at h1
      exact ⟨i, z, rfl, hz, h2, h3, h1⟩
def clCode (q55 q57 q58 q62 : String) (TS : TypeId) : Code :=
  (Code.region 0 #[{ dst := some 2, op := Op.assign (Operand.const (Value.slice none 0 0)), type := TS, pos := q55, after := #[], guard := none }] false).seq
    (((Code.region 1 #[{ dst := some 3, op := Op.move (Operand.tmp 0), type := TS, pos := q57, after := #[], guard := none }, { dst := some 4, op := Op.binOp BinOp.eql TS (Operand.tmp 3) (Operand.const (Value.slice none 0 0)) TS, type := 4, pos := q57, after := #[{ on := 0, ground := Ground.data }], guard := none }] false).seq
      (Code.cond (Operand.tmp 4) ((Code.region 2 #[{ dst := some 2, op := Op.assign (Operand.const (Value.slice none 0 0)), type := TS, pos := q58, after := #[], guard := none }] false).seq Code.ret) Code.skip)).seq
    ((Code.region 3 #[{ dst := some 5, op := Op.buildSlice TS 0 #[], type := TS, pos := q62, after := #[], guard := none }, { dst := some 6, op := Op.move (Operand.tmp 0), type := TS, pos := q62, after := #[], guard := none }, { dst := some 7, op := Op.call { callee := Callee.builtin Builtin.append, args := #[Operand.tmp 5, Operand.tmp 6], argTypes := #[TS, TS] }, type := TS, pos := q62, after := #[{ on := 0, ground := Ground.data }, { on := 1, ground := Ground.data }], guard := none }, { dst := some 2, op := Op.assign (Operand.tmp 7), type := TS, pos := q62, after := #[{ on := 2, ground := Ground.data }, { on := 2, ground := Ground.chain }, { on := 0, ground := Ground.phase }, { on := 1, ground := Ground.phase }, { on := 2, ground := Ground.phase }], guard := none }] false).seq Code.ret))
set_option maxRecDepth 100000 in
set_option maxHeartbeats 2000000 in
theorem clone_in {P : Program} {TS TE f : TypeId} {k bytes : Nat} {fc : Func} (T : SlTy P TS TE k bytes) (hf : P.funcs[f]? = some fc) (hb : fc.body = some (clCode q55 q57 q58 q62 TS)) (hnt : fc.ntmps = 8) (hres : fc.results = #[.tmp 2])
    (F : Fence) (n : Nat) (h7 : F.fn f) (hro : F.round = none) (w : World) (ad : Addr) (m c : Nat) (cells : List Value) (hl : cells.length = m * k) (hA : Aside (∀ j u, cells[j]? = some u → w.cell? (ad.add j) = some u))
    (h1 : ∀ u ∈ cells, u.oneCell' = true) (hm : m ≤ maxLen) (hbig : m * bytes ≤ 140737488355328) (hlt : cells ≠ [] → ad.block < w.heap.size) :
    CallsIn F n P f #[.slice (some ad) m c] w fun e w' => ∃ v, e = .returned v ∧ w'.ownsRow w.heap.size TE k v m cells ∧ Ext w w' (fun _ => False) := by
  obtain ⟨i0, z, hi, hz0, hz1, hz2, hzc⟩ := T.parts
  have tS := T.tS; have aS := T.aS; have zS := T.zS; have zE := T.zE
  have uS := fun w => run_underlying (P := P) T.tS (w := w)
  have qS : ∀ (w : World) (a : Option Addr) (n c n' c' : Nat), (binOp .eql TS (.slice a n c) (.slice none n' c')).run P w = .ok (.bool a.isNone) w := fun w a n c n' c' => Lib.run_eql_slice_nil w _ _ a n c n' c' T.tS
  refine callsIn_of_wp hf hb h7 ?_ hro
  simp only [hnt, List.size_toArray, List.length_cons, List.length_nil, Nat.reduceAdd, Nat.reduceSub, Array.replicate_succ, Array.replicate_zero, List.push_toArray, List.append_toArray, List.nil_append, List.cons_append]
  unfold clCode
  gi_wp2_with (gi_at_builtin; refine wpListIn_append_d _ rfl _ _ TS rfl w.heap.size TE i0 z k bytes tS hi hz0 hz1 hz2 hzc T.pos _ _ _ rfl (World.ownsRow_made w #[] 0 (Nat.le_refl _) (Nat.zero_le _) (by simp)) ad m c cells rfl hl ?qc2 h1 ?qc4 ?qc5 ?qc6 ?_)
  case qc2 =>
    intro j u hj
    have h := hA.out j u hj
    exact (cell_of_heap (heap_alloc_old w _ (by rw [add_block]; exact hlt (fun e => by rw [e] at hj; cases hj)))).trans h
  case qc4 => simpa using hm
  case qc5 => simpa using hbig
  case qc6 => simp
  intro v' w1 hown hgrow hd
  gi_wp2
  (try simp only [Exit.inBlock, Exit.then]); refine bodyPost_ret (results_tmp hres _ _ _) rfl ?_
  refine ⟨v', rfl, by simpa using hown, ?_⟩
  exact ext_grown (ext_alloc (Ext.refl _ _) _) hgrow hd (fun k e => by simp [Value.ownBlock] at e; omega)
set_option maxRecDepth 100000 in
set_option maxHeartbeats 2000000 in
theorem clone_nil_in {P : Program} {TS TE f : TypeId} {k bytes : Nat} {fc : Func} (T : SlTy P TS TE k bytes) (hf : P.funcs[f]? = some fc) (hb : fc.body = some (clCode q55 q57 q58 q62 TS)) (hnt : fc.ntmps = 8) (hres : fc.results = #[.tmp 2])
    (F : Fence) (n : Nat) (h7 : F.fn f) (hro : F.round = none) (w : World) (m c : Nat) :
    CallsIn F n P f #[.slice none m c] w fun e w' => e = .returned (.slice none 0 0) ∧ w' = w := by
  have tS := T.tS; have aS := T.aS; have zS := T.zS; have zE := T.zE
  have uS := fun w => run_underlying (P := P) T.tS (w := w)
  have qS : ∀ (w : World) (a : Option Addr) (n c n' c' : Nat), (binOp .eql TS (.slice a n c) (.slice none n' c')).run P w = .ok (.bool a.isNone) w := fun w a n c n' c' => Lib.run_eql_slice_nil w _ _ a n c n' c' T.tS
  refine callsIn_of_wp hf hb h7 ?_ hro
  simp only [hnt, List.size_toArray, List.length_cons, List.length_nil, Nat.reduceAdd, Nat.reduceSub, Array.replicate_succ, Array.replicate_zero, List.push_toArray, List.append_toArray, List.nil_append, List.cons_append]
  unfold clCode
  gi_wp2
  (try simp only [Exit.inBlock, Exit.then]); refine bodyPost_ret (results_tmp hres _ _ _) rfl ?_
  exact ⟨rfl, rfl⟩
def cloneOf {α : Type} (bytes : Nat) (xs : List α) : Option (List α) := bif decide (xs.length * bytes ≤ 140737488355328) then some xs else none
def cloneS (TE : Nat) (e : Ty) (bytes : Nat) : Spec := ⟨[.v (.sl TE e) .fr], List e.den, fun v => cloneOf bytes v.1, fun r => ([.v (.sl TE e) (.own .fr) r], [])⟩
theorem clone_main {P : Program} {TS TE f : TypeId} {bytes : Nat} {fc : Func} {e : Ty} (T : SlTy P TS TE e.cells bytes) (hf : P.funcs[f]? = some fc) (hb : fc.body = some (clCode q55 q57 q58 q62 TS)) (hnt : fc.ntmps = 8) (hres : fc.results = #[.tmp 2])
    {xs : List e.den} (hlen : xs.length * bytes ≤ 140737488355328) {w : World} {Z Fo : BSet} {vs : List Value} (hA : ArgsRep w Z [.v (.sl TE e) .fr xs] vs Fo) (hZ : ∀ b, Z b → b < w.heap.size) (hF : ∀ b, Fo b → ¬ Z b ∧ b < w.heap.size) :
    Calls P f vs.toArray w fun e' w' => match e' with
      | .returned v => CallPost w w' Z Fo [] [.v (.sl TE e) (.own .fr) xs] [] v
      | _ => False := by
  obtain ⟨V, Vs', F1, F2, rfl, h1, ⟨rfl, hF2⟩, j1⟩ := hA
  obtain ⟨⟨A, c, cells, hV, _, hnc, hcm, hA2, hE⟩, hag⟩ := h1
  have hVp := one_val hV hag
  subst hVp
  have key : CallsIn Fence.wide 5 P f #[.slice A xs.length c] w fun e' w' => ∃ v, e' = .returned v ∧ w'.ownsRow w.heap.size TE e.cells v xs.length cells ∧ Ext w w' (fun _ => False) := by
    have hl : cells.length = xs.length * e.cells := hE.length (fun _ _ _ h => h.length)
    have h1 : ∀ u ∈ cells, u.oneCell' = true := hE.all (fun _ _ _ h => h.one)
    have hm : xs.length ≤ maxLen := Nat.le_trans hnc hcm
    cases A with
    | none =>
      have hx : xs = [] := by
        by_cases hx : xs = []
        · exact hx
        · obtain ⟨ad, h, _⟩ := hA2 hx; cases h
      subst hx
      have hc0 : cells = [] := List.length_eq_zero_iff.1 (by simpa using hl)
      subst hc0
      refine (clone_nil_in T hf hb hnt hres Fence.wide 5 trivial rfl w 0 c).mono ?_
      rintro e' w' ⟨rfl, rfl⟩
      exact ⟨_, rfl, ⟨by simp, .inl ⟨rfl, rfl⟩⟩, Ext.refl _ _⟩
    | some ad =>
      refine clone_in T hf hb hnt hres Fence.wide 5 trivial rfl w ad xs.length c cells hl ?_ h1 hm hlen ?_
      · intro j u hj
        have hx : xs ≠ [] := fun e' => by
          rw [e'] at hl
          have : cells = [] := List.length_eq_zero_iff.1 (by simpa using hl)
          rw [this] at hj; cases hj
        obtain ⟨ad', h, _, _, hc⟩ := hA2 hx
        cases h
        exact hc j u hj
      · intro hc0
        have hx : xs ≠ [] := fun e' => by
          rw [e'] at hl
          exact hc0 (List.length_eq_zero_iff.1 (by simpa using hl))
        obtain ⟨ad', h, _, hz, _⟩ := hA2 hx
        cases h
        exact hZ _ hz
  refine (callsIn_wide.1 key).mono ?_
  rintro e' w' ⟨v, rfl, hrow, hx⟩
  have hlt : ∀ k, v.ownBlock = some k → w.heap.size ≤ k ∧ k < w'.heap.size := hrow.lt
  have hone : v.cells.toList = [v] ∧ ((Ty.sl TE e).isAgg = true ↔ ∃ cs, v = .agg cs) := by
    rcases hrow.2 with ⟨rfl, _⟩ | ⟨g, cap, cur, rfl, _⟩ <;> simp [Value.cells, Ty.isAgg]
  have hE' : ElemsRep (fun y => Rep w' Z e .fr y) xs cells (fun _ => False) := hE.monoF (S := fun _ => False) (fun _ _ _ hs h => h.frame (fun b hz => ⟨hz, hx.block b (hZ b hz) (fun h => h)⟩) (fun b hb => (hs b hb).elim)) (fun _ h => h)
  refine ⟨Z, fun b => v.ownBlock = some b, fun _ => False, [v], ?_, fun b h => h, fun b h => ⟨Nat.lt_of_lt_of_le (hZ b h) hx.size, .inl h⟩, .inl ⟨rfl, rfl⟩, ?_, ⟨rfl, fun _ h => h⟩, ?_, fun b _ h => h⟩
  · exact ⟨hx.os, hx.tape, hx.output, hx.size, fun b hb _ => hx.block b hb (fun h => h), hx.drawn⟩
  · refine ⟨_, _, fun b => v.ownBlock = some b, fun _ => False, rfl, ⟨⟨v, cells, fun _ => False, hone.1, ownsRow_base0 hrow, hE', fun b => by simp, fun b _ h => h⟩, hone.2⟩, ⟨rfl, fun _ h => h⟩, fun b => by simp, fun b _ h => h⟩
  · rintro b (hb | hb)
    · obtain ⟨l1, l2⟩ := hlt b hb
      exact ⟨fun hz => by have := hZ b hz; omega, l2, .inr l1⟩
    · exact hb.elim
theorem clone_is {P : Program} {TS TE f : TypeId} {bytes : Nat} {fc : Func} {e : Ty} (T : SlTy P TS TE e.cells bytes) (hf : P.funcs[f]? = some fc) (hb : fc.body = some (clCode q55 q57 q58 q62 TS)) (hn : (fc.name == "runtime.NumGoroutine") = false) (hnt : fc.ntmps = 8) (hres : fc.results = #[.tmp 2]) :
    FnIs P f (modeOf []) (phi [cloneS TE e bytes]) := by
  intro args res fin h
  refine ⟨⟨fc, hf, by rw [hb]; rfl, hn⟩, fun w Z Fo vs hA hZ hF => ?_⟩
  simp only [phi] at h
  split at h
  rotate_left
  · cases h
  rename_i v hv
  obtain ⟨xs, u'⟩ := v
  have hargs := decL_ok hv
  subst hargs
  simp only [cloneS, Out.run, cloneOf] at h
  cases hd : decide (List.length xs * bytes ≤ 140737488355328) with
  | false => rw [hd] at h; cases h
  | true =>
  rw [hd] at h
  simp only [cond_true, Option.bind_some, Option.some.injEq, Prod.mk.injEq] at h
  obtain ⟨rfl, rfl⟩ := h
  have hm : ∀ l : List Value, mutsOf (modeOf []) 0 l = [] := by
    have : ∀ (l : List Value) (i : Nat), mutsOf (modeOf []) i l = [] := by
      intro l
      induction l with
      | nil => intro i; rfl
      | cons a l ih => intro i; exact ih (i + 1)
    exact fun l => this l 0
  rw [hm]
  exact clone_main T hf hb hnt hres (of_decide_eq_true hd) hA hZ hF
end
section
variable {P : Program}
theorem append_made (w : World) (t ti ty e : TypeId) (i : TypeInfo) (z : Value) (size bytes : Nat) (ht : P.underlying t = some (.slice e)) (hti : P.underlying ti = some (.int .i64)) (hi : P.info? e = some i) (hz : i.zero = some z)
    (hsize : i.size = size) (hby : i.bytes = bytes) (hzs : z.cells.size = size) (hsz : 0 < size) (hb1 : 0 < bytes)
    (A : Option Addr) (cap : Nat) (xs : List Value) (hown : w.ownsRow 0 e size (.slice A cap cap) cap xs) (n : Nat) (hn : 0 < n) (hbytes : (cap + n) * bytes ≤ 140737488355328) :
    ∃ c' cur, (Builtin.append_ #[t, ti] ty #[.slice A cap cap, .int .i64 n]).run P w = .ok (.slice (some ⟨w.heap.size, 0, none⟩) (cap + n) c') (w.drew.alloc (.cells cur e)) ∧ cap + n ≤ c' ∧ c' ≤ maxLen ∧ cur.size = c' * size := by
  subst hsize
  subst hby
  have hle : (cap + n) * 1 ≤ (cap + n) * i.bytes := Nat.mul_le_mul_left _ hb1
  have hnb : n * i.bytes ≤ (cap + n) * i.bytes := Nat.mul_le_mul_right _ (by omega)
  have hmax : cap + n ≤ maxLen := by simp only [maxLen]; omega
  have hw : IntKind.i64.wrap (n : Int) = n := by rw [IntKind.wrap_i64]; simp only [maxLen] at hmax; omega
  have h1 : ¬ ((n : Int) * (i.bytes : Int) > 2 ^ 48) := by
    have : ((n * i.bytes : Nat) : Int) = (n : Int) * (i.bytes : Int) := by push_cast; rfl
    omega
  have hfit := growslice_fits (need := cap + n) (old := cap) (bytes := i.bytes) (by omega) hbytes
  have hcc : ¬ (cap + n ≤ cap) := by omega
  have hge := grownCap_ge w (cap + n) cap e
  have hcm := grownCap_le_maxLen w (cap + n) cap e hmax
  have hn0 : n * i.size ≠ 0 := Nat.ne_of_gt (Nat.mul_pos hn hsz)
  have h2 : ¬ (((cap : Int) + n > IntKind.i64.max) ) := by
    have : IntKind.i64.max = 9223372036854775807 := by decide
    simp only [maxLen] at hmax; omega
  have h3 : ¬ (((cap + n : Nat) : Int) > IntKind.i64.max) := by
    have : IntKind.i64.max = 9223372036854775807 := by decide
    simp only [maxLen] at hmax; omega
  have h4 : ¬ (Builtin.nextslicecap (cap + n) cap * i.bytes > 2 ^ 48) := by omega
  have h5 : ¬ ((n : Int) < 0) := by omega
  have ha : (Go.asInt (.int .i64 (n : Int))).run P w = .ok (n : Int) w := by simp [Go.asInt, Go.asIntOf]
  have h1' : ¬ ((281474976710656 : Int) < (n : Int) * (i.bytes : Int)) := by omega
  have h2' : ¬ ((9223372036854775807 : Int) < (cap : Int) + (n : Int)) := by simp only [maxLen] at hmax; omega
  have h4' : ¬ (281474976710656 < Builtin.nextslicecap (cap + n) cap * i.bytes) := by omega
  have hn1 : n ≠ 0 := by omega
  have hs1 : i.size ≠ 0 := by omega
  have hm0 : max (n : Int) 0 = n := by omega
  have hfo : (Builtin.firstCells i.size cap (.slice A cap cap)).run P w.drew = .ok xs.toArray w.drew := by
    rcases hown.2 with ⟨h, rfl⟩ | ⟨g, cap', cur, h, _⟩
    · cases h
      have hx : xs = [] := List.eq_nil_of_length_eq_zero (by simpa using hown.1)
      subst hx
      simp [Builtin.firstCells]
    · have h' := h
      cases h
      exact run_firstCells_some (P := P) w.drew i.size cap ⟨g, 0, none⟩ cap cap xs hown.1 (by
        intro j v hj
        have := hown.cells (g := g) rfl j v hj
        simpa using this)
  refine ⟨grownCap w (cap + n) cap e, xs.toArray ++ Builtin.zeroCells z.cells n ++ Builtin.zeroCells z.cells (grownCap w (cap + n) cap e - (cap + n)), ?_, hge, hcm, ?_⟩
  · simp [Builtin.append_, run_underlying ht, run_underlying hti, sizeOf, typeInfo, zeroValue, ha, hi, hz, hw, h1', h2', h4', hn1, hs1, hm0, hcc, Question.forced, hfo, newRow, grownCap]
    rw [if_neg h5, if_neg hn0]
  · simp only [Array.size_append, List.size_toArray, size_zeroCells, hzs, hown.1, ← Nat.add_mul]
    congr 1
    omega
end
section
variable {q22 q23 q24 q26 q28 q30 : String}
def grCode (q22 q23 q24 q26 q28 q30 : String) (TS TStr TAny : TypeId) (msg : ByteArray) : Code :=
  (Code.region 0 #[{ dst := some 4, op := Op.assign (Operand.const (Value.slice none 0 0)), type := TS, pos := q22, after := #[], guard := none }] false).seq
    (((Code.region 1 #[{ dst := some 5, op := Op.move (Operand.tmp 1), type := 3, pos := q23, after := #[], guard := none }, { dst := some 6, op := Op.binOp BinOp.lss 3 (Operand.tmp 5) (Operand.const (Value.int IntKind.i64 0)) 3, type := 4, pos := q23, after := #[{ on := 0, ground := Ground.data }], guard := none }] false).seq
      (Code.cond (Operand.tmp 6) (Code.region 2 #[{ dst := some 7, op := Op.makeInterface TStr (Operand.const (Value.string msg)), type := TAny, pos := q24, after := #[], guard := none }, { dst := none, op := Op.panic (Operand.tmp 7), type := 0, pos := q24, after := #[{ on := 0, ground := Ground.data }], guard := none }] false) Code.skip)).seq
    (((Code.region 3 #[{ dst := some 8, op := Op.move (Operand.tmp 1), type := 3, pos := q26, after := #[], guard := none },
        { dst := some 9, op := Op.move (Operand.tmp 0), type := TS, pos := q26, after := #[], guard := none },
        { dst := some 10, op := Op.call { callee := Callee.builtin Builtin.cap, args := #[Operand.tmp 9], argTypes := #[TS] }, type := 3, pos := q26, after := #[{ on := 1, ground := Ground.data }], guard := none },
        { dst := some 11, op := Op.move (Operand.tmp 0), type := TS, pos := q26, after := #[], guard := none },
        { dst := some 12, op := Op.call { callee := Callee.builtin Builtin.len, args := #[Operand.tmp 11], argTypes := #[TS] }, type := 3, pos := q26, after := #[{ on := 3, ground := Ground.data }], guard := none },
        { dst := some 13, op := Op.binOp BinOp.sub 3 (Operand.tmp 10) (Operand.tmp 12) 3, type := 3, pos := q26, after := #[{ on := 2, ground := Ground.data }, { on := 4, ground := Ground.data }], guard := none },
        { dst := some 14, op := Op.binOp BinOp.sub 3 (Operand.tmp 8) (Operand.tmp 13) 3, type := 3, pos := q26, after := #[{ on := 0, ground := Ground.data }, { on := 5, ground := Ground.data }], guard := none },
        { dst := some 1, op := Op.assign (Operand.tmp 14), type := 3, pos := q26, after := #[{ on := 6, ground := Ground.data }, { on := 0, ground := Ground.phase }, { on := 1, ground := Ground.phase }, { on := 2, ground := Ground.phase }, { on := 3, ground := Ground.phase }, { on := 4, ground := Ground.phase }, { on := 5, ground := Ground.phase }, { on := 6, ground := Ground.phase }], guard := none }] false).seq
      ((Code.region 4 #[{ dst := some 15, op := Op.move (Operand.tmp 1), type := 3, pos := q26, after := #[], guard := none }, { dst := some 16, op := Op.binOp BinOp.gtr 3 (Operand.tmp 15) (Operand.const (Value.int IntKind.i64 0)) 3, type := 4, pos := q26, after := #[{ on := 0, ground := Ground.data }], guard := none }] false).seq
        (Code.cond (Operand.tmp 16)
          (Code.region 5 #[{ dst := some 17, op := Op.move (Operand.tmp 0), type := TS, pos := q28, after := #[], guard := none },
            { dst := some 18, op := Op.move (Operand.tmp 0), type := TS, pos := q28, after := #[], guard := none },
            { dst := some 19, op := Op.call { callee := Callee.builtin Builtin.cap, args := #[Operand.tmp 18], argTypes := #[TS] }, type := 3, pos := q28, after := #[{ on := 1, ground := Ground.data }], guard := none },
            { dst := some 20, op := Op.slice TS (Operand.tmp 17) none (some (Operand.tmp 19)) none, type := TS, pos := q28, after := #[{ on := 0, ground := Ground.data }, { on := 2, ground := Ground.data }], guard := none },
            { dst := some 21, op := Op.move (Operand.tmp 1), type := 3, pos := q28, after := #[], guard := none },
            { dst := some 22, op := Op.call { callee := Callee.builtin Builtin.append, args := #[Operand.tmp 20, Operand.tmp 21], argTypes := #[TS, 3] }, type := TS, pos := q28, after := #[{ on := 3, ground := Ground.data }, { on := 4, ground := Ground.data }], guard := none },
            { dst := some 23, op := Op.move (Operand.tmp 0), type := TS, pos := q28, after := #[], guard := none },
            { dst := some 24, op := Op.call { callee := Callee.builtin Builtin.len, args := #[Operand.tmp 23], argTypes := #[TS] }, type := 3, pos := q28, after := #[{ on := 6, ground := Ground.data }], guard := none },
            { dst := some 25, op := Op.slice TS (Operand.tmp 22) none (some (Operand.tmp 24)) none, type := TS, pos := q28, after := #[{ on := 5, ground := Ground.data }, { on := 7, ground := Ground.data }], guard := none },
            { dst := some 0, op := Op.assign (Operand.tmp 25), type := TS, pos := q28, after := #[{ on := 8, ground := Ground.data }, { on := 5, ground := Ground.chain }, { on := 0, ground := Ground.phase }, { on := 1, ground := Ground.phase }, { on := 2, ground := Ground.phase }, { on := 3, ground := Ground.phase }, { on := 4, ground := Ground.phase }, { on := 5, ground := Ground.phase }, { on := 6, ground := Ground.phase }, { on := 7, ground := Ground.phase }, { on := 8, ground := Ground.phase }], guard := none }] false)
          Code.skip))).seq
      ((Code.region 6 #[{ dst := some 26, op := Op.move (Operand.tmp 0), type := TS, pos := q30, after := #[], guard := none }, { dst := some 4, op := Op.assign (Operand.tmp 26), type := TS, pos := q30, after := #[{ on := 0, ground := Ground.data }, { on := 0, ground := Ground.phase }], guard := none }] false).seq Code.ret)))
theorem ext_made (w : World) (o : Obj) : Ext w (w.alloc o).drew (fun _ => False) := ext_grown (ext_alloc (Ext.refl _ _) o) (row := none) ⟨rfl, rfl, rfl, Nat.le_refl _, fun _ _ _ => rfl⟩ (Nat.le_succ _) (fun k e => by cases e)
theorem wpListIn_append_made {P : Program} {F : Fence} {m : Nat} (w : World) {ops : Array Oper} {rest : List Oper} {o : Oper} {a : Act} {Q : Exit → Act → World → Prop}
    (hg : o.guard = none) (s x : Operand) (t ti : TypeId) (hop : o.op = Op.call { callee := Callee.builtin Builtin.append, args := #[s, x], argTypes := #[t, ti] })
    (V X : Value) (hs : a.eval s = V) (hx : a.eval x = X) (v' : Value) (w' : World) (hr : (Builtin.append_ #[t, ti] o.type #[V, X]).run P w = .ok v' w')
    (hK : wpListIn F m P ops Q rest (a.put o.dst v') w') :
    wpListIn F m P ops Q (o :: rest) a w := by
  refine wpListIn_plain hg fun K hK' => ?_
  unfold Oper.wpIn
  refine ⟨?_, ?_⟩
  · simp [Oper.about, hop, resolve, Target.leads, Sem.run_pure]
  · rw [Oper.semAt_plain F _ _ (by rw [hop]; intro c hc'; cases hc')]
    simp [execOp, hop, resolve, invoke, builtin, hs, hx, hr, Result.andThen]
    exact hK' _ _ hK
set_option maxRecDepth 100000 in
set_option maxHeartbeats 2000000 in
theorem grow_nil_in {P : Program} {TS TE TStr TAny f : TypeId} {msg : ByteArray} {k bytes : Nat} {fc : Func} (T : SlTy P TS TE k bytes) (u3 : P.underlying 3 = some (.int .i64)) (hf : P.funcs[f]? = some fc) (hb : fc.body = some (grCode q22 q23 q24 q26 q28 q30 TS TStr TAny msg)) (hnt : fc.ntmps = 27) (hres : fc.results = #[.tmp 4])
    (F : Fence) (m : Nat) (h7 : F.fn f) (hro : F.round = none) (w : World) (n : Nat) (hn : 0 < n) (hbig : n * bytes ≤ 140737488355328) :
    CallsIn F m P f #[.slice none 0 0, .int .i64 n] w fun e w' => ∃ v, e = .returned v ∧ w'.ownsRow w.heap.size TE k v 0 [] ∧ Ext w w' (fun _ => False) := by
  obtain ⟨i0, z, hi, hz0, hz1, hz2, hzc⟩ := T.parts
  have tS := T.tS; have aS := T.aS; have zS := T.zS; have zE := T.zE
  have uS := fun w => run_underlying (P := P) T.tS (w := w)
  have hle : n * 1 ≤ n * bytes := Nat.mul_le_mul_left _ T.by1
  obtain ⟨c', cur, hr, hc1, hc2, hc3⟩ := append_made (P := P) w TS 3 TS TE i0 z k bytes tS u3 hi hz0 hz1 hz2 hzc T.pos T.by1 none 0 [] ⟨by simp, .inl ⟨rfl, rfl⟩⟩ n hn (by simpa using hbig)
  have b1 : ¬ ((n : Int) < 0) := by omega
  have b2 : (n : Int) > 0 := by omega
  refine callsIn_of_wp hf hb h7 ?_ hro
  simp only [hnt, List.size_toArray, List.length_cons, List.length_nil, Nat.reduceAdd, Nat.reduceSub, Array.replicate_succ, Array.replicate_zero, List.push_toArray, List.append_toArray, List.nil_append, List.cons_append]
  unfold grCode
  gi_wp2_with (gi_at_builtin; refine wpListIn_append_made _ rfl _ _ TS 3 rfl _ _ rfl rfl _ _ hr ?_)
  (try simp only [Exit.inBlock, Exit.then]); refine bodyPost_ret (results_tmp hres _ _ _) rfl ?_
  refine ⟨_, rfl, ⟨by simp, .inr ⟨w.heap.size, c', cur, rfl, Nat.le_refl _, heap_alloc_new w _, Nat.zero_le _, hc2, hc3, by simp⟩⟩, ?_⟩
  exact ext_made w _
set_option maxRecDepth 100000 in
set_option maxHeartbeats 2000000 in
theorem grow_same_in {P : Program} {TS TE TStr TAny f : TypeId} {msg : ByteArray} {k bytes : Nat} {fc : Func} (T : SlTy P TS TE k bytes) (u3 : P.underlying 3 = some (.int .i64)) (hf : P.funcs[f]? = some fc) (hb : fc.body = some (grCode q22 q23 q24 q26 q28 q30 TS TStr TAny msg)) (hnt : fc.ntmps = 27) (hres : fc.results = #[.tmp 4])
    (F : Fence) (m : Nat) (h7 : F.fn f) (hro : F.round = none) (w : World) (A : Option Addr) (cap n : Nat) (hA : A = none → cap = 0) (hn : n ≤ cap) (hcap : cap ≤ maxLen) :
    CallsIn F m P f #[.slice A 0 cap, .int .i64 n] w fun e w' => e = .returned (.slice A 0 cap) ∧ w' = w := by
  obtain ⟨i0, z, hi, hz0, hz1, hz2, hzc⟩ := T.parts
  have tS := T.tS; have aS := T.aS; have zS := T.zS; have zE := T.zE
  have uS := fun w => run_underlying (P := P) T.tS (w := w)
  have b1 : ¬ ((n : Int) < 0) := by omega
  have b3 : (cap : Int) ≤ 9223372036854775807 := by simp only [maxLen] at hcap; omega
  have b2 : ¬ ((n : Int) - cap > 0) := by omega
  refine callsIn_of_wp hf hb h7 ?_ hro
  simp only [hnt, List.size_toArray, List.length_cons, List.length_nil, Nat.reduceAdd, Nat.reduceSub, Array.replicate_succ, Array.replicate_zero, List.push_toArray, List.append_toArray, List.nil_append, List.cons_append]
  unfold grCode
  gi_wp2
  (try simp only [Exit.inBlock, Exit.then]); refine bodyPost_ret (results_tmp hres _ _ _) rfl ?_
  exact ⟨rfl, rfl⟩
set_option maxRecDepth 100000 in
set_option maxHeartbeats 2000000 in
theorem grow_more_in {P : Program} {TS TE TStr TAny f : TypeId} {msg : ByteArray} {k bytes : Nat} {fc : Func} (T : SlTy P TS TE k bytes) (u3 : P.underlying 3 = some (.int .i64)) (hf : P.funcs[f]? = some fc) (hb : fc.body = some (grCode q22 q23 q24 q26 q28 q30 TS TStr TAny msg)) (hnt : fc.ntmps = 27) (hres : fc.results = #[.tmp 4])
    (F : Fence) (m : Nat) (h7 : F.fn f) (hro : F.round = none) (w : World) (g cap n : Nat) (xs : List Value) (hown : w.ownsRow 0 TE k (.slice (some ⟨g, 0, none⟩) cap cap) cap xs) (hn : cap < n) (hbig : n * bytes ≤ 140737488355328) (hcap : cap ≤ maxLen) :
    CallsIn F m P f #[.slice (some ⟨g, 0, none⟩) 0 cap, .int .i64 n] w fun e w' => ∃ v, e = .returned v ∧ w'.ownsRow w.heap.size TE k v 0 [] ∧ Ext w w' (fun _ => False) := by
  obtain ⟨i0, z, hi, hz0, hz1, hz2, hzc⟩ := T.parts
  have tS := T.tS; have aS := T.aS; have zS := T.zS; have zE := T.zE
  have uS := fun w => run_underlying (P := P) T.tS (w := w)
  have hle : n * 1 ≤ n * bytes := Nat.mul_le_mul_left _ T.by1
  obtain ⟨c', cur, hr, hc1, hc2, hc3⟩ := append_made (P := P) w TS 3 TS TE i0 z k bytes tS u3 hi hz0 hz1 hz2 hzc T.pos T.by1 (some ⟨g, 0, none⟩) cap xs hown (n - cap) (by omega) (by rw [show cap + (n - cap) = n by omega]; exact hbig)
  rw [show (((n - cap : Nat) : Nat) : Int) = (n : Int) - cap by omega] at hr
  have b1 : ¬ ((n : Int) < 0) := by omega
  have b3 : (cap : Int) ≤ 9223372036854775807 := by simp only [maxLen] at hcap; omega
  have b2 : (n : Int) - cap > 0 := by omega
  refine callsIn_of_wp hf hb h7 ?_ hro
  simp only [hnt, List.size_toArray, List.length_cons, List.length_nil, Nat.reduceAdd, Nat.reduceSub, Array.replicate_succ, Array.replicate_zero, List.push_toArray, List.append_toArray, List.nil_append, List.cons_append]
  unfold grCode
  gi_wp2_with (gi_at_builtin; refine wpListIn_append_made _ rfl _ _ TS 3 rfl _ _ rfl rfl _ _ hr ?_)
  (try simp only [Exit.inBlock, Exit.then]); refine bodyPost_ret (results_tmp hres _ _ _) rfl ?_
  refine ⟨_, rfl, ⟨by simp, .inr ⟨w.heap.size, c', cur, rfl, Nat.le_refl _, heap_alloc_new w _, Nat.zero_le _, hc2, hc3, by simp⟩⟩, ?_⟩
  exact ext_made w _
def growOf {α : Type} (bytes : Nat) (xs : List α) (n : Int) : Option (List α) := bif xs.isEmpty && decide (0 ≤ n) && decide (n * bytes ≤ 140737488355328) then some [] else none
def growS (TE : Nat) (e : Ty) (q : Ow) (bytes : Nat) : Spec := ⟨[.v (.sl TE e) (.own q), .v (.int .i64) .fr], List e.den, fun v => growOf bytes v.1 v.2.1, fun r => ([.v (.sl TE e) (.own q) r], [])⟩
theorem grow_main {P : Program} {TS TE TStr TAny f : TypeId} {msg : ByteArray} {bytes : Nat} {fc : Func} {e : Ty} {q : Ow} (T : SlTy P TS TE e.cells bytes) (u3 : P.underlying 3 = some (.int .i64)) (hf : P.funcs[f]? = some fc) (hb : fc.body = some (grCode q22 q23 q24 q26 q28 q30 TS TStr TAny msg)) (hnt : fc.ntmps = 27) (hres : fc.results = #[.tmp 4])
    {n : Nat} (hlen : n * bytes ≤ 140737488355328) {w : World} {Z Fo : BSet} {vs : List Value} (hA : ArgsRep w Z [.v (.sl TE e) (.own q) [], .v (.int .i64) .fr (n : Int)] vs Fo) (hZ : ∀ b, Z b → b < w.heap.size) (hF : ∀ b, Fo b → ¬ Z b ∧ b < w.heap.size) :
    Calls P f vs.toArray w fun e' w' => match e' with
      | .returned v => CallPost w w' Z Fo [] [.v (.sl TE e) (.own q) []] [] v
      | _ => False := by
  obtain ⟨V, Vs', F1, F2, rfl, h1, ⟨V2, Vs2, F3, F4, rfl, h2, ⟨rfl, hF4⟩, j2⟩, j1⟩ := hA
  obtain ⟨⟨V0, cells, Fe, hV, hown, hE, hFF, hFd⟩, hag⟩ := h1
  have hVp := one_val hV hag
  subst hVp
  obtain ⟨rfl, hFe⟩ := hE
  have hV2 : V2 = .int .i64 (n : Int) := by
    rcases h2 with ⟨⟨_, h, _⟩ | ⟨h, _⟩, hag2⟩
    · exact one_val h hag2
    · cases h
  subst hV2
  have hle : n * 1 ≤ n * bytes := Nat.mul_le_mul_left _ T.by1
  have key : CallsIn Fence.wide 5 P f #[V, .int .i64 n] w fun e' w' => ∃ v, e' = .returned v ∧ w'.ownsRow 0 TE e.cells v 0 [] ∧ Ext w w' (fun _ => False) ∧ ∀ b, v.ownBlock = some b → V.ownBlock = some b ∨ w.heap.size ≤ b ∧ b < w'.heap.size := by
    rcases hown.2 with ⟨rfl, _⟩ | ⟨g, cap, cur, rfl, _, hg, _, hcm, hcs, _⟩
    · rcases Nat.eq_zero_or_pos n with rfl | hn
      · refine (grow_same_in T u3 hf hb hnt hres Fence.wide 5 trivial rfl w none 0 0 (fun _ => rfl) (Nat.le_refl _) (Nat.zero_le _)).mono ?_
        rintro e' w' ⟨rfl, rfl⟩
        exact ⟨_, rfl, hown, Ext.refl _ _, fun b h => .inl h⟩
      · refine (grow_nil_in T u3 hf hb hnt hres Fence.wide 5 trivial rfl w n hn hlen).mono ?_
        rintro e' w' ⟨v, rfl, hr, hx⟩
        exact ⟨_, rfl, ownsRow_base0 hr, hx, fun b h => .inr (hr.lt b h)⟩
    · by_cases hn : n ≤ cap
      · refine (grow_same_in T u3 hf hb hnt hres Fence.wide 5 trivial rfl w _ cap n (fun h => by cases h) hn hcm).mono ?_
        rintro e' w' ⟨rfl, rfl⟩
        exact ⟨_, rfl, hown, Ext.refl _ _, fun b h => .inl h⟩
      · refine (grow_more_in T u3 hf hb hnt hres Fence.wide 5 trivial rfl w g cap n cur.toList ⟨by simpa using hcs, .inr ⟨g, cap, cur, rfl, Nat.zero_le _, hg, Nat.le_refl _, hcm, hcs, List.take_of_length_le (by simp [hcs])⟩⟩ (by omega) hlen hcm).mono ?_
        rintro e' w' ⟨v, rfl, hr, hx⟩
        exact ⟨_, rfl, ownsRow_base0 hr, hx, fun b h => .inr (hr.lt b h)⟩
  refine (callsIn_wide.1 key).mono ?_
  rintro e' w' ⟨v, rfl, hrow, hx, hlt⟩
  have hone : v.cells.toList = [v] ∧ ((Ty.sl TE e).isAgg = true ↔ ∃ cs, v = .agg cs) := by
    rcases hrow.2 with ⟨rfl, _⟩ | ⟨g, cap, cur, rfl, _⟩ <;> simp [Value.cells, Ty.isAgg]
  refine ⟨Z, fun b => v.ownBlock = some b, fun _ => False, [v], ?_, fun b h => h, fun b h => ⟨Nat.lt_of_lt_of_le (hZ b h) hx.size, .inl h⟩, .inl ⟨rfl, rfl⟩, ?_, ⟨rfl, fun _ h => h⟩, ?_, fun b _ h => h⟩
  · exact ⟨hx.os, hx.tape, hx.output, hx.size, fun b hb _ => hx.block b hb (fun h => h), hx.drawn⟩
  · refine ⟨_, _, fun b => v.ownBlock = some b, fun _ => False, rfl, ⟨⟨v, [], fun _ => False, hone.1, hrow, ⟨rfl, fun _ h => h⟩, fun b => by simp, fun b _ h => h⟩, hone.2⟩, ⟨rfl, fun _ h => h⟩, fun b => by simp, fun b _ h => h⟩
  · rintro b (hb | hb)
    · rcases hlt b hb with h | ⟨l1, l2⟩
      · have hFo := j1.left ((hFF b).2 (.inl h))
        obtain ⟨hz, hs⟩ := hF b hFo
        exact ⟨hz, Nat.lt_of_lt_of_le hs hx.size, .inl hFo⟩
      · exact ⟨fun hz => by have := hZ b hz; omega, l2, .inr l1⟩
    · exact hb.elim
theorem muts_own : ∀ (l : List Value), mutsOf (modeOf [.own]) 0 l = [] := by
  have : ∀ (l : List Value) (i : Nat), mutsOf (modeOf [.own]) (i + 1) l = [] := by
    intro l
    induction l with
    | nil => intro i; rfl
    | cons a l ih => intro i; exact ih (i + 1)
  intro l
  cases l with
  | nil => rfl
  | cons a l => exact this l 0
theorem grow_is {P : Program} {TS TE TStr TAny f : TypeId} {msg : ByteArray} {bytes : Nat} {fc : Func} {e : Ty} {q : Ow} (T : SlTy P TS TE e.cells bytes) (u3 : P.underlying 3 = some (.int .i64)) (hf : P.funcs[f]? = some fc) (hb : fc.body = some (grCode q22 q23 q24 q26 q28 q30 TS TStr TAny msg)) (hn : (fc.name == "runtime.NumGoroutine") = false) (hnt : fc.ntmps = 27) (hres : fc.results = #[.tmp 4]) :
    FnIs P f (modeOf [.own]) (phi [growS TE e q bytes]) := by
  intro args res fin h
  refine ⟨⟨fc, hf, by rw [hb]; rfl, hn⟩, fun w Z Fo vs hA hZ hF => ?_⟩
  simp only [phi] at h
  split at h
  rotate_left
  · cases h
  rename_i v hv
  obtain ⟨xs, n, u'⟩ := v
  have hargs := decL_ok hv
  subst hargs
  change List e.den at xs
  change Int at n
  simp only [growS, Out.run, growOf] at h
  cases hd : (List.isEmpty xs && decide ((0 : Int) ≤ n) && decide (n * (bytes : Int) ≤ 140737488355328)) with
  | false => rw [hd] at h; cases h
  | true =>
  rw [hd] at h
  simp only [cond_true, Option.bind_some, Option.some.injEq, Prod.mk.injEq] at h
  obtain ⟨rfl, rfl⟩ := h
  simp only [Bool.and_eq_true, decide_eq_true_eq, List.isEmpty_iff] at hd
  obtain ⟨⟨rfl, h0⟩, hn'⟩ := hd
  obtain ⟨m, rfl⟩ := Int.eq_ofNat_of_zero_le h0
  rw [muts_own]
  exact grow_main T u3 hf hb hnt hres (n := m) (by have : ((m * bytes : Nat) : Int) = (m : Int) * (bytes : Int) := by push_cast; rfl
                                                   omega) hA hZ hF
end
end Go.K

/- K, part S4: slices.Insert at own slices of plain elements, of at least one element that is handed over. -/
set_option linter.unusedVariables false
set_option linter.unusedSimpArgs false
namespace Go.K
open Go.RowKit Go.Shelf Go.Proofs
variable [drI : Dr]

theorem run_copy_many {P : Program} (w : World) (dT sT ty elem : TypeId) (k b o dLen dCap : Nat) (a : Addr) (sLen sCap : Nat) (cs : List Value)
    (hu : P.underlying dT = some (.slice elem)) (hs : (P.info? elem).map (·.size) = some k) (hn : cs.length = Nat.min sLen dLen * k) (hk : 0 < k) (m : Nat) (hm : m = Nat.min sLen dLen)
    (hsrc : ∀ j v, cs[j]? = some v → w.cell? (a.add j) = some v) (hc : ∀ j, j < cs.length → (w.cell? ⟨b, o + j, none⟩).isSome = true) (hf : ∀ j, j < cs.length → w.frozen? ⟨b, o + j, none⟩ = false) (h1 : ∀ v ∈ cs, v.oneCell' = true) :
    (Builtin.copy_ #[dT, sT] ty #[.slice (some ⟨b, o, none⟩) dLen dCap, .slice (some a) sLen sCap]).run P w = .ok (goInt m) (w.setCells b o cs) := by
  have hl := run_loadCells_list (P := P) w a cs hsrc
  have hst := run_storeCells_cells (P := P) b o cs 0 w (by simpa using hc) (by simpa using hf) h1
  subst hm
  cases hq : P.info? elem with
  | none => simp [hq] at hs
  | some i =>
    have hi : i.size = k := by simpa [hq] using hs
    simp [Builtin.copy_, run_underlying hu, Builtin.lenOf, Builtin.firstCells, sizeOf, typeInfo, hq, hi, ← hn, hl, hst]

/-- What writing a stretch of a block of cells does. -/
theorem setCells_row {b : Nat} {e : TypeId} : ∀ (vs : List Value) (o : Nat) (w : World) (cur : Array Value), w.heap[b]? = some (.cells cur e (0, 0)) → o + vs.length ≤ cur.size →
    ∃ cur', (w.setCells b o vs).heap[b]? = some (.cells cur' e (0, 0)) ∧ cur'.size = cur.size ∧ cur'.toList = cur.toList.take o ++ vs ++ cur.toList.drop (o + vs.length)
  | [], o, w, cur, h, hl => ⟨cur, h, rfl, by simp⟩
  | v :: r, o, w, cur, h, hl => by
    simp only [List.length_cons] at hl
    have h1 : (w.setCell ⟨b, o, none⟩ v).heap[b]? = some (.cells (cur.setIfInBounds o v) e (0, 0)) := by
      simp [World.setCell, Array.getElem?_modify, h]
    obtain ⟨cur', h2, h3, h4⟩ := setCells_row r (o + 1) _ _ h1 (by simp; omega)
    refine ⟨cur', h2, by simpa using h3, ?_⟩
    rw [h4]
    have ho : o < cur.toList.length := by simp; omega
    have e1 : (cur.setIfInBounds o v).toList = cur.toList.take o ++ v :: cur.toList.drop (o + 1) := by
      rw [Array.toList_setIfInBounds, List.set_eq_take_append_cons_drop, if_pos ho]
    have hto : (cur.toList.take o).length = o := by rw [List.length_take]; omega
    rw [e1]
    have t1 : (cur.toList.take o ++ v :: cur.toList.drop (o + 1)).take (o + 1) = cur.toList.take o ++ [v] := by
      rw [List.take_append, hto, show o + 1 - o = 1 by omega]
      rw [List.take_of_length_le (by omega)]; rfl
    have t2 : (cur.toList.take o ++ v :: cur.toList.drop (o + 1)).drop (o + 1 + r.length) = cur.toList.drop (o + (r.length + 1)) := by
      rw [List.drop_append, hto, show o + 1 + r.length - o = r.length + 1 by omega, List.drop_eq_nil_of_le (by omega), List.nil_append, List.drop_succ_cons, List.drop_drop]
      congr 1; omega
    rw [t1, t2]
    simp
theorem setCells_tape (b : Nat) : ∀ (vs : List Value) (o : Nat) (w : World), (w.setCells b o vs).tape = w.tape ∧ (w.setCells b o vs).drawn = w.drawn ∧ (w.setCells b o vs).heap.size = w.heap.size ∧ (∀ i, i ≠ b → (w.setCells b o vs).heap[i]? = w.heap[i]?) ∧ (w.setCells b o vs).os = w.os ∧ (w.setCells b o vs).output = w.output
  | [], _, _ => ⟨rfl, rfl, rfl, fun _ _ => rfl, rfl, rfl⟩
  | v :: r, o, w => by
    obtain ⟨h1, h2, h3, h4, h5, h6⟩ := setCells_tape b r (o + 1) (w.setCell ⟨b, o, none⟩ v)
    refine ⟨h1, h2, h3.trans (by simp [World.setCell]), fun i hi => (h4 i hi).trans ?_, h5, h6⟩
    simp only [World.setCell, Array.getElem?_modify]
    rw [if_neg (by omega)]

structure InsTy (P : Program) (ρ : Ren) (k bytes : Nat) : Prop where
  mixed : P.follows .mixedOrders = true
  T : SlTy P (ρ.t 24) (ρ.t 9) k bytes
  t3 : P.underlying (ρ.t 3) = some (TypeDesc.int IntKind.i64)
  t4 : P.underlying (ρ.t 4) = some TypeDesc.bool
  a3 : ∀ w, (isAgg (ρ.t 3)).run P w = .ok false w
  a4 : ∀ w, (isAgg (ρ.t 4)).run P w = .ok false w
  z3 : ∀ w, (Go.sizeOf (ρ.t 3)).run P w = .ok 1 w
  z4 : ∀ w, (Go.sizeOf (ρ.t 4)).run P w = .ok 1 w
  ov : ∃ fo, P.funcs[ρ.f 29]? = some fo ∧ (fo.name == "runtime.NumGoroutine") = false ∧ fo.body.isNone = true ∧ Extern.findNext fo = none ∧ Extern.find fo = some (Extern.SlicesOverlaps.overlaps #[(ρ.t 24), (ρ.t 24)] #[(ρ.t 4)])
section
variable {P : Program} {ρ : Ren} {k bytes f : Nat} {fc : Func}

set_option maxHeartbeats 4000000 in
set_option maxRecDepth 100000 in
/-- At the end: an append. -/
theorem insert_end (L : InsTy P ρ k bytes) (hf : P.funcs[f]? = some fc) (hb : fc.body = (Body2.n22 ρ).body) (hnt : fc.ntmps = 95) (hres : fc.results = #[.tmp 6])
    (w : World) (V : Value) (n : Nat) (cs : List Value) (hV : w.ownsRow 0 (ρ.t 9) k V n cs) (vb vc m : Nat) (vs : List Value) (hm : 0 < m) (hvl : vs.length = m * k)
    (hvs : ∀ j v, vs[j]? = some v → w.cell? ⟨vb, j, none⟩ = some v) (h1v : ∀ v ∈ vs, v.oneCell' = true) (hmax : n + m ≤ maxLen) (hbig : (n + m) * bytes ≤ 140737488355328) :
    Calls P f #[V, .int .i64 n, .slice (some ⟨vb, 0, none⟩) m vc] w fun e w' => ∃ v, e = .returned v ∧ w'.ownsRow 0 (ρ.t 9) k v (n + m) (cs ++ vs) ∧ w.grownBy w' V.ownBlock ∧ w.drawn ≤ w'.drawn ∧ (v.ownBlock = V.ownBlock ∨ v.ownBlock = some w.heap.size) := by
  obtain ⟨i0, z, hi, hz0, hz1, hz2, hzc⟩ := L.T.parts
  have tS := L.T.tS; have aS := L.T.aS; have zS := L.T.zS; have zE := L.T.zE
  have t3 := L.t3; have t4 := L.t4; have a3 := L.a3; have a4 := L.a4; have z3 := L.z3; have z4 := L.z4
  have uS := run_underlying L.T.tS; have u3 := run_underlying L.t3; have u4 := run_underlying L.t4
  have mixed := L.mixed
  have hz1' : ¬ ((m : Int) = 0) := by omega
  have happ : ∀ ty, ∃ v' w', (Builtin.append_ #[ρ.t 24, ρ.t 24] ty #[V, .slice (some ⟨vb, 0, none⟩) m vc]).run P w = .ok v' w' ∧ w'.ownsRow 0 (ρ.t 9) k v' (n + m) (cs ++ vs) ∧ w.grownBy w' V.ownBlock ∧ _ := fun ty =>
    Go.run_append_own_at (P := P) w 0 (ρ.t 24) ty (ρ.t 9) i0 z k bytes tS hi hz0 hz1 hz2 hzc L.T.pos V n cs hV ⟨vb, 0, none⟩ m vc vs hvl (fun j u h => by rw [Addr.add_lit, Nat.zero_add]; exact hvs j u h) h1v hmax hbig (Nat.zero_le _)
  obtain ⟨v', w', hrun, r1, r2, _, r3⟩ := happ (ρ.t 24)
  have hb' : fc.body = some _ := hb.trans rfl
  refine calls_of_wp hf hb' ?_
  simp only [hnt, List.size_toArray, List.length_cons, List.length_nil, Nat.reduceAdd, Nat.reduceSub, Array.replicate_succ, Array.replicate_zero, List.push_toArray, List.append_toArray, List.nil_append, List.cons_append]
  have hV' := hV.2
  rcases hV' with ⟨rfl, hxs⟩ | ⟨g, cap, cur, rfl, _, hg, hnc, hcm, hcs, hxs⟩
  · have hn0 : n = 0 := hxs
    subst hn0
    have hm2 : m ≤ maxLen := by omega
    go_wp2_with (at_builtin; refine Lib.wpList_append_run _ rfl _ _ _ _ rfl _ _ rfl rfl _ _ hrun ?_)
    (try simp only [Exit.inBlock, Exit.then]); refine bodyPost_ret (results_tmp hres _ _ _) rfl ?_
    exact ⟨_, rfl, by rw [Nat.zero_add] at r1; exact r1, r2, run_drawn hrun, r3⟩
  · go_wp2_with (at_builtin; refine Lib.wpList_append_run _ rfl _ _ _ _ rfl _ _ rfl rfl _ _ hrun ?_)
    all_goals ((try simp only [Exit.inBlock, Exit.then]); refine bodyPost_ret (results_tmp hres _ _ _) rfl ?_; exact ⟨_, rfl, r1, r2, run_drawn hrun, r3⟩)
set_option maxHeartbeats 4000000 in
set_option maxRecDepth 100000 in
/-- In the middle, with room. -/
theorem insert_room (L : InsTy P ρ k bytes) (hf : P.funcs[f]? = some fc) (hb : fc.body = (Body2.n22 ρ).body) (hnt : fc.ntmps = 95) (hres : fc.results = #[.tmp 6])
    (w : World) (b n c : Nat) (cs : List Value) (cur : Array Value) (hg : w.heap[b]? = some (.cells cur (ρ.t 9) (0, 0))) (hcs : cur.size = c * k) (hcl : cs.length = n * k) (htk : cur.toList.take (n * k) = cs) (i : Nat) (hi : i < n)
    (vb vc m : Nat) (vs : List Value) (vcur : Array Value) (hvg : w.heap[vb]? = some (.cells vcur (ρ.t 9) (0, 0))) (hvb : vb ≠ b) (hm : 0 < m) (hvl : vs.length = m * k)
    (hvs : ∀ j v, vs[j]? = some v → w.cell? ⟨vb, j, none⟩ = some v) (h1c : ∀ v ∈ cs, v.oneCell' = true) (h1v : ∀ v ∈ vs, v.oneCell' = true) (hroom : n + m ≤ c) (hc63 : c ≤ maxLen) :
    Calls P f #[.slice (some ⟨b, 0, none⟩) n c, .int .i64 i, .slice (some ⟨vb, 0, none⟩) m vc] w fun e w' =>
      e = .returned (.slice (some ⟨b, 0, none⟩) (n + m) c) ∧ w' = (w.drew.setCells b ((i + m) * k) (cs.drop (i * k))).setCells b (i * k) vs := by
  have tS := L.T.tS; have aS := L.T.aS; have zS := L.T.zS; have zE := L.T.zE
  have t3 := L.t3; have t4 := L.t4; have a3 := L.a3; have a4 := L.a4; have z3 := L.z3; have z4 := L.z4
  have uS := run_underlying L.T.tS; have u3 := run_underlying L.t3; have u4 := run_underlying L.t4
  have mixed := L.mixed
  have hkp := L.T.pos
  simp only [maxLen] at hc63
  have hz1 : ¬ ((m : Int) = 0) := by omega
  have hz2 : ¬ ((i : Int) = (n : Int)) := by omega
  have hsz : (P.info? (ρ.t 9)).map (·.size) = some k := by
    obtain ⟨i0, z, hi0, h0, h1, h2, h3⟩ := L.T.parts
    rw [hi0]; simp [h1]
  have hov : ∀ lb cb, (callFunc (ρ.f 29) #[.slice (some ⟨vb, 0, none⟩) m vc, .slice (some ⟨b, (i + m) * k, none⟩) lb cb]).run P w = .ok (.value (.bool false)) w := fun lb cb => by
    obtain ⟨fo, h1, h2, h3, h4, h5⟩ := L.ov
    rw [run_callFunc_extern h1 h2 h3 h4 h5,
      Lib.run_overlaps_apart w (ρ.t 24) (ρ.t 4) (ρ.t 9) tS k zE ⟨vb, 0, none⟩ ⟨b, (i + m) * k, none⟩ m vc lb cb hvb (ρ.t 9) (ρ.t 9) vcur.size cur.size (by simp [World.shape?, hvg]) (by simp [World.shape?, hg])
        (by rw [hcs]; exact Nat.ne_of_gt (Nat.mul_pos (by omega) hkp)) (by simp [World.frozen?, hvg]) (by simp [World.frozen?, hvg])]
    rfl
  have hmk : (i + m) * k = i * k + m * k := Nat.add_mul _ _ _
  have hnk : i * k + (n - i) * k = n * k := by rw [← Nat.add_mul]; congr 1; omega
  have hck : (n + m) * k ≤ c * k := Nat.mul_le_mul_right _ hroom
  have hnm : (n + m) * k = n * k + m * k := Nat.add_mul _ _ _
  have hdl : (cs.drop (i * k)).length = (n - i) * k := by rw [List.length_drop, hcl]; omega
  have hcell : ∀ j, j < cur.size → (w.cell? ⟨b, j, none⟩).isSome = true := fun j hj => by simp [World.cell?, hg, hj]
  have hcc : ∀ j v, cs[j]? = some v → w.cell? ⟨b, j, none⟩ = some v := fun j v h => by
    rw [← htk, List.getElem?_take] at h
    split at h
    · simp only [World.cell?, hg]; simpa using h
    · cases h
  have hfz : ∀ j, w.frozen? ⟨b, j, none⟩ = false := fun j => by simp [World.frozen?, hg]
  have hw1 : IntKind.i64.wrap ((i : Int) + (m : Int)) = (i : Int) + (m : Int) := by rw [IntKind.wrap_i64]; omega
  have hb1 : (0 : Int) ≤ (i : Int) + (m : Int) := by omega
  have hin : i ≤ n := by omega
  have htn : ((i : Int) + (m : Int)).toNat = i + m := by omega
  have hb2 : ¬ (c = i + m) := by omega
  have hb3 : (i : Int) ≤ (n : Int) + (m : Int) := by omega
  have hb4 : ¬ (c = i) := by omega
  have hcp1 : ∀ ty dc sc, (Builtin.copy_ #[(ρ.t 24), (ρ.t 24)] ty #[.slice (some ⟨b, (i + m) * k, none⟩) (n + m - (i + m)) dc, .slice (some ⟨b, i * k, none⟩) (n + m - i) sc]).run P w.drew = .ok (goInt ((n - i : Nat) : Int)) (w.drew.setCells b ((i + m) * k) (cs.drop (i * k))) := fun ty dc sc =>
    run_copy_many w.drew _ _ ty (ρ.t 9) k b ((i + m) * k) (n + m - (i + m)) dc ⟨b, i * k, none⟩ (n + m - i) sc (cs.drop (i * k)) tS hsz (by rw [hdl, show Nat.min (n + m - i) (n + m - (i + m)) = n - i by simp only [Nat.min_def]; split <;> omega]) hkp _ (by simp only [Nat.min_def]; split <;> omega)
      (fun j v hj => by rw [Addr.add_lit]; exact hcc (i * k + j) v (by rwa [List.getElem?_drop] at hj))
      (fun j hj => hcell _ (by rw [hdl] at hj; omega)) (fun j hj => hfz _) (fun v hv => h1c v (List.mem_of_mem_drop hv))
  obtain ⟨W1, hW1⟩ : ∃ W1, W1 = w.drew.setCells b ((i + m) * k) (cs.drop (i * k)) := ⟨_, rfl⟩
  have hsp1 : ∀ j, j < cur.size → (W1.cell? ⟨b, j, none⟩).isSome = true := fun j hk => by
    rw [hW1]
    exact Go.Proofs.isSome_setCells b (cs.drop (i * k)) ((i + m) * k) w.drew (fun j hj => hcell ((i + m) * k + j) (by rw [hdl] at hj; omega)) j (hcell j hk)
  have hcp2 : ∀ (W : World), (∀ x, W.cell? x = W1.cell? x) → (∀ x, W.frozen? x = W1.frozen? x) → ∀ ty dc, (Builtin.copy_ #[(ρ.t 24), (ρ.t 24)] ty #[.slice (some ⟨b, i * k, none⟩) (n + m - i) dc, .slice (some ⟨vb, 0, none⟩) m vc]).run P W = .ok (goInt (m : Int)) (W.setCells b (i * k) vs) := fun W hWc hWf ty dc =>
    run_copy_many W _ _ ty (ρ.t 9) k b (i * k) (n + m - i) dc ⟨vb, 0, none⟩ m vc vs tS hsz (by rw [hvl]; congr 1; simp only [Nat.min_def]; split <;> omega) hkp _ (by simp only [Nat.min_def]; split <;> omega)
      (fun j v hj => by
        rw [Addr.add_lit, Nat.zero_add, hWc, hW1, World.cell?_setCells_out b _ _ _ _ (fun h _ => absurd h hvb)]
        exact hvs j v hj)
      (fun j hj => by rw [hWc]; exact hsp1 _ (by omega)) (fun j hj => by rw [hWf, hW1, World.frozen?_setCells]; exact hfz _) h1v
  rw [← hW1] at hcp1
  clear hmk hnk hck hnm hdl hcell hfz hsp1
  have hb' : fc.body = some _ := hb.trans rfl
  refine calls_of_wp hf hb' ?_
  simp only [hnt, List.size_toArray, List.length_cons, List.length_nil, Nat.reduceAdd, Nat.reduceSub, Array.replicate_succ, Array.replicate_zero, List.push_toArray, List.append_toArray, List.nil_append, List.cons_append]
  clear hb hb'
  go_wp2_with (simp only [hov])
  go_region_law_o (refine step_copy_runI rfl _ _ (ρ.t 24) (ρ.t 24) rfl _ _ (by simp [Act.eval, Act.put]) (by simp [Act.eval, Act.put]) (hcp1 _ _ _) ?_)
  go_wp2_with (at_builtin; refine wpList_copy_runI _ rfl _ _ (ρ.t 24) (ρ.t 24) rfl _ _ rfl rfl (hcp2 _ (fun _ => rfl) (fun _ => rfl) _ _) ?_)
  (try simp only [Exit.inBlock, Exit.then]); refine bodyPost_ret (results_tmp hres _ _ _) rfl ?_
  first | exact ⟨rfl, rfl⟩ | exact ⟨rfl, by rw [hW1]⟩
set_option maxHeartbeats 4000000 in
set_option maxRecDepth 100000 in
/-- In the middle, without room: a new row. -/
theorem insert_grow (L : InsTy P ρ k bytes) (hf : P.funcs[f]? = some fc) (hb : fc.body = (Body2.n22 ρ).body) (hnt : fc.ntmps = 95) (hres : fc.results = #[.tmp 6])
    (w : World) (b n c : Nat) (cs : List Value) (hcl : cs.length = n * k) (hbw : b < w.heap.size) (hcc : ∀ j v, cs[j]? = some v → w.cell? ⟨b, j, none⟩ = some v) (i : Nat) (hi : i < n)
    (vb vc m : Nat) (vs : List Value) (hvw : vb < w.heap.size) (hm : 0 < m) (hvl : vs.length = m * k)
    (hvs : ∀ j v, vs[j]? = some v → w.cell? ⟨vb, j, none⟩ = some v) (h1c : ∀ v ∈ cs, v.oneCell' = true) (h1v : ∀ v ∈ vs, v.oneCell' = true) (hnc : n ≤ c) (hroom : c < n + m) (hmax : n + m ≤ maxLen) (hbig : (n + m) * bytes ≤ 140737488355328) :
    ∃ (G : Nat) (ROW : Array Value), n + m ≤ G ∧ G ≤ maxLen ∧ ROW.size = G * k ∧ ROW.toList.take (i * k) = cs.take (i * k) ∧
    Calls P f #[.slice (some ⟨b, 0, none⟩) n c, .int .i64 i, .slice (some ⟨vb, 0, none⟩) m vc] w fun e w' =>
      e = .returned (.slice (some ⟨w.heap.size, 0, none⟩) (n + m) G) ∧ w' = (((w.alloc (.cells ROW (ρ.t 9))).drew.setCells w.heap.size (i * k) vs).drew).setCells w.heap.size ((i + m) * k) (cs.drop (i * k)) := by
  obtain ⟨i0, z, hi0, hz0, hzs, hzb, hzc⟩ := L.T.parts
  have tS := L.T.tS; have aS := L.T.aS; have zS := L.T.zS; have zE := L.T.zE
  have t3 := L.t3; have t4 := L.t4; have a3 := L.a3; have a4 := L.a4; have z3 := L.z3; have z4 := L.z4
  have uS := run_underlying L.T.tS; have u3 := run_underlying L.t3; have u4 := run_underlying L.t4
  have mixed := L.mixed
  have hkp := L.T.pos
  have hby := L.T.by1
  simp only [maxLen] at hmax
  have hz1 : ¬ ((m : Int) = 0) := by omega
  have hz2 : ¬ ((i : Int) = (n : Int)) := by omega
  have hz3 : (c : Int) < (n : Int) + (m : Int) := by omega
  have hsz : (P.info? (ρ.t 9)).map (·.size) = some k := by rw [hi0]; simp [hzs]
  have hkk : (n : Int) + (m : Int) - (i : Int) = ((n + m - i : Nat) : Int) := by omega
  have hik : i + (n + m - i) = n + m := by omega
  have hmk : (i + m) * k = i * k + m * k := Nat.add_mul _ _ _
  have hnk : i * k + (n - i) * k = n * k := by rw [← Nat.add_mul]; congr 1; omega
  have hnm : (n + m) * k = n * k + m * k := Nat.add_mul _ _ _
  have hold : (Builtin.firstCells i0.size i (.slice (some ⟨b, 0, none⟩) i c)).run P w.drew = .ok (cs.take (i * k)).toArray w.drew := by
    rw [hzs]
    exact run_firstCells_some w.drew k i ⟨b, 0, none⟩ i c (cs.take (i * k)) (by rw [List.length_take]; omega) (fun j v hj => by
      rw [Addr.add_lit, Nat.zero_add]
      rw [List.getElem?_take] at hj
      split at hj
      · exact hcc j v hj
      · cases hj)
  have hle : (n + m - i) * bytes ≤ (n + m) * bytes := Nat.mul_le_mul_right _ (by omega)
  have hrz : ∀ ty, (Builtin.append_ #[(ρ.t 24), (ρ.t 3)] ty #[.slice (some ⟨b, 0, none⟩) i c, .int .i64 ((n : Int) + (m : Int) - (i : Int))]).run P w =
      .ok (.slice (some ⟨w.heap.size, 0, none⟩) (n + m) (grownCap w (n + m) c (ρ.t 9))) (w.drew.alloc (.cells ((cs.take (i * k)).toArray ++ Builtin.zeroCells z.cells (n + m - i) ++ Builtin.zeroCells z.cells (grownCap w (n + m) c (ρ.t 9) - (n + m))) (ρ.t 9))) := fun ty => by
    have h := Lib.run_append_grow_zeros w (ρ.t 24) (ρ.t 3) ty (ρ.t 9) i0 _ .i64 .i64 tS t3 hi0 hz0 (some ⟨b, 0, none⟩) i c (cs.take (i * k)) hold (n + m - i) (by omega) (by omega) (by omega) (by omega) (by rw [hzb]; omega) (by rw [hzb, hik]; exact growslice_fits hroom hbig)
    rw [hik] at h
    rw [hkk]
    exact h
  obtain ⟨G, hG⟩ : ∃ G, G = grownCap w (n + m) c (ρ.t 9) := ⟨_, rfl⟩
  obtain ⟨ROW, hROW⟩ : ∃ ROW : Array Value, ROW = (cs.take (i * k)).toArray ++ Builtin.zeroCells z.cells (n + m - i) ++ Builtin.zeroCells z.cells (G - (n + m)) := ⟨_, rfl⟩
  rw [← hG] at hrz
  rw [← hROW] at hrz
  have hGn : n + m ≤ G := by rw [hG]; exact grownCap_ge w _ _ _
  have hG63 : G ≤ 9223372036854775807 := by
    have := grownCap_le_maxLen w (n + m) c (ρ.t 9) (by unfold maxLen; omega)
    rw [← hG] at this
    unfold maxLen at this
    omega
  have htl : (cs.take (i * k)).length = i * k := by rw [List.length_take]; omega
  have hRl : ROW.size = G * k := by
    rw [hROW]
    simp only [Array.size_append, List.size_toArray, size_zeroCells, hzc, htl, ← Nat.add_mul]
    congr 1
    omega
  have hGk : (n + m) * k ≤ G * k := Nat.mul_le_mul_right _ hGn
  refine ⟨G, ROW, hGn, by unfold maxLen; omega, hRl, ?_, ?_⟩
  · rw [hROW, Array.append_assoc, Array.toList_append, List.toList_toArray, List.take_append, htl, List.take_of_length_le (by omega), Nat.sub_self, List.take_zero, List.append_nil]
  obtain ⟨W1, hW1⟩ : ∃ W1, W1 = w.drew.alloc (.cells ROW (ρ.t 9)) := ⟨_, rfl⟩
  rw [← hW1] at hrz
  have hN : ∀ j, j < ROW.size → (W1.cell? ⟨w.heap.size, j, none⟩).isSome = true := fun j hj => by
    rw [hW1, World.cell?_alloc_at (w := w.drew) ROW _ w.heap.size j rfl, Array.getElem?_eq_getElem hj]; rfl
  have hNf : ∀ j, W1.frozen? ⟨w.heap.size, j, none⟩ = false := fun j => by rw [hW1]; exact World.frozen?_alloc_at (w := w.drew) ROW _ w.heap.size j rfl
  have hOb : ∀ j v, w.cell? ⟨b, j, none⟩ = some v → W1.cell? ⟨b, j, none⟩ = some v := fun j v h => by rw [hW1, World.cell?_alloc_past (w := w.drew) _ b j hbw]; exact h
  have hOv : ∀ j v, w.cell? ⟨vb, j, none⟩ = some v → W1.cell? ⟨vb, j, none⟩ = some v := fun j v h => by rw [hW1, World.cell?_alloc_past (w := w.drew) _ vb j hvw]; exact h
  have hcpA : ∀ (W : World), (∀ x, W.cell? x = W1.cell? x) → (∀ x, W.frozen? x = W1.frozen? x) → ∀ ty dc, (Builtin.copy_ #[(ρ.t 24), (ρ.t 24)] ty #[.slice (some ⟨w.heap.size, i * k, none⟩) (n + m - i) dc, .slice (some ⟨vb, 0, none⟩) m vc]).run P W = .ok (goInt (m : Int)) (W.setCells w.heap.size (i * k) vs) := fun W hWc hWf ty dc =>
    run_copy_many W _ _ ty (ρ.t 9) k w.heap.size (i * k) (n + m - i) dc ⟨vb, 0, none⟩ m vc vs tS hsz (by rw [hvl]; congr 1; simp only [Nat.min_def]; split <;> omega) hkp _ (by simp only [Nat.min_def]; split <;> omega)
      (fun j v hj => by rw [Addr.add_lit, Nat.zero_add, hWc]; exact hOv _ v (hvs j v hj))
      (fun j hj => by rw [hWc]; exact hN _ (by omega)) (fun j hj => by rw [hWf]; exact hNf _) h1v
  have hGi : ¬ (G = i) := by omega
  have hGim : ¬ (G = i + m) := by omega
  have hci : ¬ (c = i) := by omega
  have hbN : b ≠ w.heap.size := by omega
  have hdl : (cs.drop (i * k)).length = (n - i) * k := by rw [List.length_drop, hcl]; omega
  have hcpB : ∀ (W : World), (∀ x, W.cell? x = (W1.setCells w.heap.size (i * k) vs).cell? x) → (∀ x, W.frozen? x = (W1.setCells w.heap.size (i * k) vs).frozen? x) → ∀ ty dc sc, (Builtin.copy_ #[(ρ.t 24), (ρ.t 24)] ty #[.slice (some ⟨w.heap.size, (i + m) * k, none⟩) (n + m - (i + m)) dc, .slice (some ⟨b, i * k, none⟩) (n - i) sc]).run P W = .ok (goInt ((n - i : Nat) : Int)) (W.setCells w.heap.size ((i + m) * k) (cs.drop (i * k))) := fun W hWc hWf ty dc sc =>
    run_copy_many W _ _ ty (ρ.t 9) k w.heap.size ((i + m) * k) (n + m - (i + m)) dc ⟨b, i * k, none⟩ (n - i) sc (cs.drop (i * k)) tS hsz (by rw [hdl, show Nat.min (n - i) (n + m - (i + m)) = n - i by simp only [Nat.min_def]; split <;> omega]) hkp _ (by simp only [Nat.min_def]; split <;> omega)
      (fun j v hj => by
        rw [Addr.add_lit, hWc, World.cell?_setCells_out _ _ _ _ _ (fun h _ => absurd h hbN)]
        exact hOb _ v (hcc (i * k + j) v (by rwa [List.getElem?_drop] at hj)))
      (fun j hj => by rw [hWc]; exact Go.Proofs.isSome_setCells w.heap.size vs (i * k) W1 (fun t ht => hN _ (by omega)) ((i + m) * k + j) (hN _ (by rw [hdl] at hj; omega)))
      (fun j hj => by rw [hWf, World.frozen?_setCells]; exact hNf _) (fun v hv => h1c v (List.mem_of_mem_drop hv))
  subst hW1
  have hE1 : ∀ x, ((w.alloc (.cells ROW (ρ.t 9))).drew).cell? x = (w.drew.alloc (.cells ROW (ρ.t 9))).cell? x := fun x => rfl
  have hE2 : ∀ x, ((w.alloc (.cells ROW (ρ.t 9))).drew).frozen? x = (w.drew.alloc (.cells ROW (ρ.t 9))).frozen? x := fun x => rfl
  have hF1 : ∀ x, (((w.alloc (.cells ROW (ρ.t 9))).drew.setCells w.heap.size (i * k) vs).drew).cell? x = ((w.drew.alloc (.cells ROW (ρ.t 9))).setCells w.heap.size (i * k) vs).cell? x := fun x => rfl
  have hF2 : ∀ x, (((w.alloc (.cells ROW (ρ.t 9))).drew.setCells w.heap.size (i * k) vs).drew).frozen? x = ((w.drew.alloc (.cells ROW (ρ.t 9))).setCells w.heap.size (i * k) vs).frozen? x := fun x => rfl
  have hw1 : IntKind.i64.wrap ((i : Int) + (m : Int)) = (i : Int) + (m : Int) := by rw [IntKind.wrap_i64]; omega
  have hw2 : IntKind.i64.wrap ((n : Int) + (m : Int)) = (n : Int) + (m : Int) := by rw [IntKind.wrap_i64]; omega
  have hw3 : IntKind.i64.wrap ((n : Int) + (m : Int) - (i : Int)) = (n : Int) + (m : Int) - (i : Int) := by rw [IntKind.wrap_i64]; omega
  have hb1 : (0 : Int) ≤ (i : Int) + (m : Int) := by omega
  have hin : i ≤ n := by omega
  have htn : ((i : Int) + (m : Int)).toNat = i + m := by omega
  have hb3 : (i : Int) ≤ (n : Int) := by omega
  clear hkk hik hold hROW hG hRl hmk hnk hnm hle htl hGk hN hNf hOb hOv hdl hcc
  have hb' : fc.body = some _ := hb.trans rfl
  refine calls_of_wp hf hb' ?_
  simp only [hnt, List.size_toArray, List.length_cons, List.length_nil, Nat.reduceAdd, Nat.reduceSub, Array.replicate_succ, Array.replicate_zero, List.push_toArray, List.append_toArray, List.nil_append, List.cons_append]
  clear hb hb'
  go_wp2_with (first
    | (at_builtin; refine Lib.wpList_append_run _ rfl _ _ _ _ rfl _ _ rfl rfl _ _ (hrz _) ?_)
    | (at_builtin; refine wpList_copy_runI _ rfl _ _ (ρ.t 24) (ρ.t 24) rfl _ _ rfl rfl (hcpA _ hE1 hE2 _ _) ?_)
    | (at_builtin; refine wpList_copy_runI _ rfl _ _ (ρ.t 24) (ρ.t 24) rfl _ _ rfl rfl (hcpB _ (fun _ => rfl) (fun _ => rfl) _ _ _) ?_))
  go_region_law_o (refine step_copy_runI rfl _ _ (ρ.t 24) (ρ.t 24) rfl (.slice (some ⟨w.heap.size, (i + m) * k, none⟩) (n + m - (i + m)) (G - (i + m))) (.slice (some ⟨b, i * k, none⟩) (n - i) (c - i)) (by simp [Act.eval, Act.put]) (by simp [Act.eval, Act.put]) (hcpB _ hF1 hF2 (ρ.t 3) (G - (i + m)) (c - i)) ?_)
  go_wp2
  (try simp only [Exit.inBlock, Exit.then]); refine bodyPost_ret (results_tmp hres _ _ _) rfl ?_
  exact ⟨rfl, rfl⟩
def insertOf {α : Type} (bytes : Nat) (xs : List α) (i : Int) (ys : List α) : Option (List α) :=
  bif decide (0 ≤ i) && decide (i ≤ (xs.length : Int)) && !ys.isEmpty && decide ((xs.length + ys.length) * bytes ≤ 140737488355328) then some (xs.take i.toNat ++ ys ++ xs.drop i.toNat) else none
def insertS (TE : Nat) (e : Ty) (bytes : Nat) : Spec := ⟨[.v (.sl TE e) (.own .fr), .v (.int .i64) .fr, .v (.sl TE e) (.own .fr)], List e.den, fun v => insertOf bytes v.1 v.2.1 v.2.2.1, fun r => ([.v (.sl TE e) (.own .fr) r], [])⟩
theorem cells_of_cur {w : World} {g : Nat} {e : TypeId} {cur : Array Value} (hg : w.heap[g]? = some (.cells cur e (0, 0))) {N : Nat} {cs : List Value} (h : cur.toList.take N = cs) : ∀ j v, cs[j]? = some v → w.cell? ⟨g, j, none⟩ = some v := fun j v hj => by
  rw [← h, List.getElem?_take] at hj
  split at hj
  · simp only [World.cell?, hg]; simpa using hj
  · cases hj
theorem insert_key (L : InsTy P ρ k bytes) (hf : P.funcs[f]? = some fc) (hb : fc.body = (Body2.n22 ρ).body) (hnt : fc.ntmps = 95) (hres : fc.results = #[.tmp 6])
    (w : World) (V U : Value) (n m : Nat) (cs vs : List Value) (hV : w.ownsRow 0 (ρ.t 9) k V n cs) (hU : w.ownsRow 0 (ρ.t 9) k U m vs) (hUV : ∀ b, V.ownBlock = some b → U.ownBlock = some b → False) (i : Nat) (hi : i ≤ n) (hm : 0 < m)
    (h1c : ∀ v ∈ cs, v.oneCell' = true) (h1v : ∀ v ∈ vs, v.oneCell' = true) (hbig : (n + m) * bytes ≤ 140737488355328) :
    Calls P f #[V, .int .i64 i, U] w fun e w' => ∃ v, e = .returned v ∧ w'.ownsRow 0 (ρ.t 9) k v (n + m) (cs.take (i * k) ++ vs ++ cs.drop (i * k)) ∧ Ext w w' (fun b => V.ownBlock = some b) ∧ ∀ b, v.ownBlock = some b → V.ownBlock = some b ∨ w.heap.size ≤ b ∧ b < w'.heap.size := by
  have hkp := L.T.pos
  have hby := L.T.by1
  have hmax : n + m ≤ maxLen := by
    have : (n + m) * 1 ≤ (n + m) * bytes := Nat.mul_le_mul_left _ hby
    simp only [maxLen]; omega
  obtain ⟨hcl, hV2⟩ := id hV
  obtain ⟨hvl, hU2⟩ := id hU
  rcases hU2 with ⟨_, h0⟩ | ⟨vb, vc, vcur, rfl, _, hvg, hmc, hvcm, hvcs, hvt⟩
  · omega
  have hvs := cells_of_cur hvg hvt
  have hvw : vb < w.heap.size := by
    by_cases h : vb < w.heap.size
    · exact h
    · rw [Array.getElem?_eq_none (Nat.le_of_not_lt h)] at hvg; cases hvg
  by_cases hin : i = n
  · subst hin
    refine (insert_end L hf hb hnt hres w V i cs hV vb vc m vs hm hvl hvs h1v hmax hbig).mono ?_
    rintro e w' ⟨v, rfl, h1, h2, h3, h4⟩
    refine ⟨v, rfl, by rw [List.take_of_length_le (Nat.le_of_eq hcl), List.drop_of_length_le (Nat.le_of_eq hcl), List.append_nil]; exact h1, ⟨h2.os, h2.tape, h2.output, h2.size, fun b hb hn => h2.block b hb (fun e => hn e.symm), Dr.of_le h3⟩, fun b hb => ?_⟩
    rcases h4 with h4 | h4
    · exact .inl (h4 ▸ hb)
    · rw [h4] at hb
      simp only [Option.some.injEq] at hb
      exact .inr ⟨Nat.le_of_eq hb, (h1.lt b (by rw [h4, hb])).2⟩
  · have hin' : i < n := by omega
    rcases hV2 with ⟨_, h0⟩ | ⟨b, c, cur, rfl, _, hg, hnc, hcm, hcs, htk⟩
    · omega
    have hcc := cells_of_cur hg htk
    have hbw : b < w.heap.size := by
      by_cases h : b < w.heap.size
      · exact h
      · rw [Array.getElem?_eq_none (Nat.le_of_not_lt h)] at hg; cases hg
    have hmk : (i + m) * k = i * k + m * k := Nat.add_mul _ _ _
    have hnk : i * k + (n - i) * k = n * k := by rw [← Nat.add_mul]; congr 1; omega
    have hnm : (n + m) * k = n * k + m * k := Nat.add_mul _ _ _
    have hdl : (cs.drop (i * k)).length = (n - i) * k := by rw [List.length_drop, hcl]; omega
    have htl : (cs.take (i * k)).length = i * k := by rw [List.length_take]; omega
    have htot : (cs.take (i * k) ++ vs ++ cs.drop (i * k)).length = (n + m) * k := by simp only [List.length_append, htl, hdl, hvl]; omega
    by_cases hroom : n + m ≤ c
    · refine (insert_room L hf hb hnt hres w b n c cs cur hg hcs hcl htk i hin' vb vc m vs vcur hvg (fun h => hUV b rfl (by rw [← h]; rfl)) hm hvl hvs h1c h1v hroom hcm).mono ?_
      rintro e w' ⟨rfl, rfl⟩
      have hck : (n + m) * k ≤ c * k := Nat.mul_le_mul_right _ hroom
      obtain ⟨cur1, g1, s1, t1⟩ := setCells_row (cs.drop (i * k)) ((i + m) * k) w.drew cur hg (by rw [hdl]; omega)
      obtain ⟨cur2, g2, s2, t2⟩ := setCells_row vs (i * k) _ cur1 g1 (by rw [s1]; omega)
      obtain ⟨p1, p2, p3, p4, p5, p6⟩ := setCells_tape b (cs.drop (i * k)) ((i + m) * k) w.drew
      obtain ⟨q1, q2, q3, q4, q5, q6⟩ := setCells_tape b vs (i * k) (w.drew.setCells b ((i + m) * k) (cs.drop (i * k)))
      have hA : (cur.toList.take ((i + m) * k)).length = (i + m) * k := by rw [List.length_take]; simp; omega
      have e1 : cur1.toList.take (i * k) = cs.take (i * k) := by
        rw [t1, List.append_assoc, List.take_append_of_le_length (by rw [hA]; omega), List.take_take, Nat.min_eq_left (by omega), ← htk, List.take_take, Nat.min_eq_left (by omega)]
      have e2 : cur1.toList.drop (i * k + vs.length) = cs.drop (i * k) ++ cur.toList.drop ((i + m) * k + (cs.drop (i * k)).length) := by
        rw [t1, List.append_assoc, hvl, ← hmk]
        exact List.drop_left' hA
      refine ⟨_, rfl, ⟨htot, .inr ⟨b, c, cur2, rfl, Nat.zero_le _, g2, hroom, hcm, by rw [s2, s1, hcs], ?_⟩⟩, ⟨q5.trans p5, q1.trans p1, q6.trans p6, by rw [q3, p3]; exact Nat.le_refl _, fun j hj hn => ?_, ?_⟩, fun b' hb' => .inl hb'⟩
      · rw [t2, e1, e2, ← List.append_assoc, ← htot]
        exact List.take_left' rfl
      · have hjb : j ≠ b := fun h => hn (by rw [h]; rfl)
        exact (q4 j hjb).trans (p4 j hjb)
      · rw [q2, p2]; exact Dr.of_le (Nat.le_succ _)
    · obtain ⟨G, ROW, h1, h2, h3, h4, hc⟩ := insert_grow L hf hb hnt hres w b n c cs hcl hbw hcc i hin' vb vc m vs hvw hm hvl hvs h1c h1v hnc (by omega) hmax hbig
      refine hc.mono ?_
      rintro e w' ⟨rfl, rfl⟩
      have hGk : (n + m) * k ≤ G * k := Nat.mul_le_mul_right _ h1
      have hg0 : (w.alloc (.cells ROW (ρ.t 9))).drew.heap[w.heap.size]? = some (.cells ROW (ρ.t 9) (0, 0)) := heap_alloc_new w _
      obtain ⟨cur1, g1, s1, t1⟩ := setCells_row vs (i * k) _ ROW hg0 (by omega)
      have g1' : ((w.alloc (.cells ROW (ρ.t 9))).drew.setCells w.heap.size (i * k) vs).drew.heap[w.heap.size]? = some (.cells cur1 (ρ.t 9) (0, 0)) := g1
      obtain ⟨cur2, g2, s2, t2⟩ := setCells_row (cs.drop (i * k)) ((i + m) * k) _ cur1 g1' (by rw [hdl, s1]; omega)
      obtain ⟨p1, p2, p3, p4, p5, p6⟩ := setCells_tape w.heap.size vs (i * k) (w.alloc (.cells ROW (ρ.t 9))).drew
      obtain ⟨q1, q2, q3, q4, q5, q6⟩ := setCells_tape w.heap.size (cs.drop (i * k)) ((i + m) * k) ((w.alloc (.cells ROW (ρ.t 9))).drew.setCells w.heap.size (i * k) vs).drew
      have hsz : ((w.alloc (.cells ROW (ρ.t 9))).drew.setCells w.heap.size (i * k) vs).heap.size = w.heap.size + 1 := by rw [p3]; exact World.size_alloc _ _
      have e1 : cur1.toList.take ((i + m) * k) = cs.take (i * k) ++ vs := by
        rw [t1, ← h4]
        exact List.take_left' (by rw [List.length_append, List.length_take, hvl]; simp; omega)
      refine ⟨_, rfl, ⟨htot, .inr ⟨w.heap.size, G, cur2, rfl, Nat.zero_le _, g2, h1, h2, by rw [s2, s1, h3], ?_⟩⟩, ⟨q5.trans p5, q1.trans p1, q6.trans p6, ?_, fun j hj hn => ?_, ?_⟩, fun b' hb' => ?_⟩
      · rw [t2, e1, ← htot]
        exact List.take_left' rfl
      · rw [q3]; show w.heap.size ≤ ((w.alloc (.cells ROW (ρ.t 9))).drew.setCells w.heap.size (i * k) vs).heap.size
        rw [hsz]; exact Nat.le_succ _
      · have hjb : j ≠ w.heap.size := by omega
        exact (q4 j hjb).trans ((p4 j hjb).trans (heap_alloc_old w _ hj))
      · rw [q2]
        refine Dr.of_le ?_
        show w.drawn ≤ ((w.alloc (.cells ROW (ρ.t 9))).drew.setCells w.heap.size (i * k) vs).drawn + 1
        rw [p2]
        show w.drawn ≤ w.drawn + 1 + 1
        omega
      · simp only [Value.ownBlock, Option.some.injEq] at hb'
        refine .inr ⟨Nat.le_of_eq hb', ?_⟩
        rw [q3]
        show b' < ((w.alloc (.cells ROW (ρ.t 9))).drew.setCells w.heap.size (i * k) vs).heap.size
        rw [hsz]; omega
theorem flatMap_take {α : Type} {g : α → List Value} {k : Nat} (hk : ∀ x, (g x).length = k) : ∀ (xs : List α) (i : Nat), (xs.flatMap g).take (i * k) = (xs.take i).flatMap g
  | [], i => by simp
  | x :: xs, 0 => by simp
  | x :: xs, i + 1 => by
    rw [List.flatMap_cons, List.take_succ_cons, List.flatMap_cons, List.take_append, hk, show (i + 1) * k - k = i * k by rw [Nat.add_mul]; omega, flatMap_take hk xs i, List.take_of_length_le (by rw [hk, Nat.add_mul]; omega)]
theorem flatMap_drop {α : Type} {g : α → List Value} {k : Nat} (hk : ∀ x, (g x).length = k) : ∀ (xs : List α) (i : Nat), (xs.flatMap g).drop (i * k) = (xs.drop i).flatMap g
  | [], i => by simp
  | x :: xs, 0 => by simp
  | x :: xs, i + 1 => by
    rw [List.flatMap_cons, List.drop_succ_cons, List.drop_append, hk, show (i + 1) * k - k = i * k by rw [Nat.add_mul]; omega, flatMap_drop hk xs i, List.drop_of_length_le (by rw [hk, Nat.add_mul]; omega), List.nil_append]
theorem insert_is {e : Ty} (L : InsTy P ρ e.cells bytes) (hp : e.plain = true) (hf : P.funcs[f]? = some fc) (hb : fc.body = (Body2.n22 ρ).body) (hn : (fc.name == "runtime.NumGoroutine") = false) (hnt : fc.ntmps = 95) (hres : fc.results = #[.tmp 6]) :
    FnIs P f (modeOf [.own, .rd, .own]) (phi [insertS (ρ.t 9) e bytes]) := by
  intro args res fin h
  refine ⟨⟨fc, hf, by rw [hb]; rfl, hn⟩, fun w Z Fo vs0 hA hZ hF => ?_⟩
  simp only [phi] at h
  split at h
  rotate_left
  · cases h
  rename_i v hv
  obtain ⟨xs, n, ys, u'⟩ := v
  have hargs := decL_ok hv
  subst hargs
  change List e.den at xs
  change List e.den at ys
  change Int at n
  simp only [insertS, Out.run, insertOf] at h
  cases hd : (decide ((0 : Int) ≤ n) && decide (n ≤ (List.length xs : Int)) && !(List.isEmpty ys) && decide ((List.length xs + List.length ys) * bytes ≤ 140737488355328)) with
  | false => rw [hd] at h; cases h
  | true =>
  rw [hd] at h
  simp only [cond_true, Option.bind_some, Option.some.injEq, Prod.mk.injEq] at h
  obtain ⟨rfl, rfl⟩ := h
  simp only [Bool.and_eq_true, decide_eq_true_eq, Bool.not_eq_true', List.isEmpty_eq_false_iff] at hd
  obtain ⟨⟨⟨h0, hnx⟩, hye⟩, hbig⟩ := hd
  obtain ⟨i, rfl⟩ := Int.eq_ofNat_of_zero_le h0
  obtain ⟨V, Vs', F1, F2, rfl, a1, ⟨V2, Vs2, F3, F4, rfl, a2, ⟨V3, Vs3, F5, F6, rfl, a3, ⟨rfl, hF6⟩, j3⟩, j2⟩, j1⟩ := hA
  obtain ⟨⟨V0, cells, Fe, hV, hown, hE, hFF, hFd⟩, hag⟩ := a1
  have hVp := one_val hV hag
  subst hVp
  have hV2 : V2 = .int .i64 (i : Int) := by
    rcases a2 with ⟨⟨_, h, _⟩ | ⟨h, _⟩, hag2⟩
    · exact one_val h hag2
    · cases h
  subst hV2
  obtain ⟨⟨U0, ucells, Ue, hU, huown, hUE, hUF, hUd⟩, hag3⟩ := a3
  have hUp := one_val hU hag3
  subst hUp
  obtain ⟨hcl, hFe⟩ := elems_plain hp hE
  obtain ⟨hul, hUe⟩ := elems_plain hp hUE
  have key := insert_key L hf hb hnt hres w V V3 xs.length ys.length cells ucells hown huown
    (fun b hb1 hb2 => j1.2 b ((hFF b).2 (.inl hb1)) (j2.right (j3.left ((hUF b).2 (.inl hb2))))) i (by omega) (List.length_pos_iff.2 hye)
    (by rw [hcl]; intro v hv; obtain ⟨x, _, hx⟩ := List.mem_flatMap.1 hv; exact plain_one hp v hx) (by rw [hul]; intro v hv; obtain ⟨x, _, hx⟩ := List.mem_flatMap.1 hv; exact plain_one hp v hx) hbig
  have hm : mutsOf (modeOf [.own, .rd, .own]) 0 [V, .int .i64 (i : Int), V3] = [] := rfl
  rw [hm]
  refine key.mono ?_
  rintro e' w' ⟨v, rfl, hrow, hx, hlt⟩
  have hcat : cells.take (i * e.cells) ++ ucells ++ cells.drop (i * e.cells) = (xs.take i ++ ys ++ xs.drop i).flatMap (cellsOf e) := by
    rw [hcl, hul, flatMap_take (fun x => plain_cells hp), flatMap_drop (fun x => plain_cells hp), List.flatMap_append, List.flatMap_append]
  rw [hcat] at hrow
  have hll : (xs.take i ++ ys ++ xs.drop i).length = xs.length + ys.length := by simp only [List.length_append, List.length_take, List.length_drop]; omega
  have hVo : ∀ b, V.ownBlock = some b → Fo b := fun b hb => j1.left ((hFF b).2 (.inl hb))
  have hone : v.cells.toList = [v] ∧ ((Ty.sl (ρ.t 9) e).isAgg = true ↔ ∃ cs, v = .agg cs) := by
    rcases hrow.2 with ⟨rfl, _⟩ | ⟨g, cap, cur, rfl, _⟩ <;> simp [Value.cells, Ty.isAgg]
  refine ⟨Z, fun b => v.ownBlock = some b, fun _ => False, [v], ⟨hx.os, hx.tape, hx.output, hx.size, fun b hb hn => hx.block b hb (fun h => hn (hVo b h)), hx.drawn⟩, fun b h => h, fun b h => ⟨Nat.lt_of_lt_of_le (hZ b h) hx.size, .inl h⟩, .inl ⟨rfl, rfl⟩, ?_, ⟨rfl, fun _ h => h⟩, ?_, fun b _ h => h⟩
  · refine ⟨_, _, fun b => v.ownBlock = some b, fun _ => False, rfl, ⟨⟨v, _, fun _ => False, hone.1, ?_, plain_elems hp, fun b => by simp, fun b _ h => h⟩, hone.2⟩, ⟨rfl, fun _ h => h⟩, fun b => by simp, fun b _ h => h⟩
    show w'.ownsRow 0 (ρ.t 9) e.cells v (xs.take i ++ ys ++ xs.drop i).length ((xs.take i ++ ys ++ xs.drop i).flatMap (cellsOf e))
    rw [hll]; exact hrow
  · rintro b (hb | hb)
    · rcases hlt b hb with h | ⟨l1, l2⟩
      · obtain ⟨hz, hs⟩ := hF b (hVo b h)
        exact ⟨hz, Nat.lt_of_lt_of_le hs hx.size, .inl (hVo b h)⟩
      · exact ⟨fun hz => by have := hZ b hz; omega, l2, .inr l1⟩
    · exact hb.elim
end
end Go.K

/- K, part S5: functions of plain values by their contracts. -/
set_option linter.unusedVariables false
set_option linter.unusedSimpArgs false
namespace Go.K
open Go.Shelf Go.Proofs Go.RowKit

def Ty.scal : Ty → Bool | .int _ | .bool | .str => true | _ => false
def sval : (t : Ty) → t.den → Value
  | .int k, n => .int k n
  | .bool, b => .bool b
  | .str, s => .string ⟨s.toArray⟩
  | _, _ => .nilFunc
theorem sval_of {w : World} {Z : BSet} {t : Ty} {x : t.den} {V : Value} {F : BSet} (hs : t.scal = true) (h : VRep w Z t .fr x V F) : V = sval t x ∧ E0 F := by
  obtain ⟨h1, h2⟩ := h
  cases t with
  | int k => rcases h1 with ⟨_, h3, h4⟩ | ⟨h3, _⟩
             · exact ⟨one_val h3 (by simpa [Ty.isAgg] using h2), h4⟩
             · cases h3
  | bool => rcases h1 with ⟨_, h3, h4⟩ | ⟨h3, _⟩
            · exact ⟨one_val h3 (by simpa [Ty.isAgg] using h2), h4⟩
            · cases h3
  | str => rcases h1 with ⟨_, h3, h4⟩ | ⟨h3, _⟩
           · exact ⟨one_val h3 (by simpa [Ty.isAgg] using h2), h4⟩
           · cases h3
  | _ => cases hs
theorem sval_rep {w : World} {Z : BSet} {t : Ty} {x : t.den} (hs : t.scal = true) : VRep w Z t .fr x (sval t x) (fun _ => False) := by
  cases t with
  | int k => exact ⟨.inl ⟨by simp, rfl, fun _ h => h⟩, by simp [Ty.isAgg, sval]⟩
  | bool => exact ⟨.inl ⟨by simp, rfl, fun _ h => h⟩, by simp [Ty.isAgg, sval]⟩
  | str => exact ⟨.inl ⟨by simp, rfl, fun _ h => h⟩, by simp [Ty.isAgg, sval]⟩
  | _ => cases hs
def frs : List Ty → List ASh
  | [] => []
  | t :: ts => .v t .fr :: frs ts
def svals : (ts : List Ty) → denL (frs ts) → List Value
  | [], _ => []
  | t :: ts, x => sval t x.1 :: svals ts x.2
theorem svals_of {w : World} {Z : BSet} : ∀ {ts : List Ty} {x : denL (frs ts)} {vs : List Value} {F : BSet}, ts.all Ty.scal = true → ArgsRep w Z (encL (frs ts) x) vs F → vs = svals ts x ∧ E0 F
  | [], x, vs, F, _, h => h
  | t :: ts, x, vs, F, ht, h => by
    simp only [List.all_cons, Bool.and_eq_true] at ht
    obtain ⟨V, Vs, F1, F2, rfl, h1, h2, j⟩ := h
    obtain ⟨rfl, e1⟩ := sval_of ht.1 h1
    obtain ⟨rfl, e2⟩ := svals_of ht.2 h2
    refine ⟨rfl, fun b hb => ?_⟩
    rcases (j.1 b).1 hb with hb | hb
    · exact e1 b hb
    · exact e2 b hb
theorem svals_rep {w : World} {Z : BSet} : ∀ {ts : List Ty} {x : denL (frs ts)}, ts.all Ty.scal = true → ArgsRep w Z (encL (frs ts) x) (svals ts x) (fun _ => False)
  | [], x, _ => ⟨rfl, fun _ h => h⟩
  | t :: ts, x, ht => by
    simp only [List.all_cons, Bool.and_eq_true] at ht
    exact ⟨_, _, _, _, rfl, sval_rep ht.1, svals_rep ht.2, Join.none⟩
/-- One value, or a tuple of some. -/
def retVal (l : List Value) : Value := match l with | [v] => v | l => .tuple l.toArray
def flatS (ts rs : List Ty) (f : denL (frs ts) → Option (denL (frs rs))) : Spec := ⟨frs ts, denL (frs rs), f, fun r => (encL (frs rs) r, [])⟩
theorem modeOf_nil_muts : ∀ (l : List Value) (i : Nat), mutsOf (modeOf []) i l = []
  | [], _ => rfl
  | _ :: l, i => modeOf_nil_muts l (i + 1)
theorem lens_svals {rs : List Ty} : ∀ (y : denL (frs rs)), (encL (frs rs) y).length = (svals rs y).length := by
  induction rs with
  | nil => intro y; rfl
  | cons t rs ih => intro y; simp [frs, encL, svals, ih]
/-- What holds of draws is forgotten. -/
theorem weak_is {P : Program} {g : Nat} {m : Nat → Mode} {φ : List Arg → Out (List Arg × List Arg)} (h : @FnIs drA P g m φ) : @FnIs drZ P g m φ := by
  intro args res fin h1
  obtain ⟨h2, h3⟩ := h args res fin h1
  refine ⟨h2, fun w Z Fo vs hA hZ hF => (h3 w Z Fo vs hA hZ hF).mono ?_⟩
  intro e w' he
  cases e with
  | returned v =>
    obtain ⟨Z', Fr, Fb, vals, hx, r⟩ := he
    exact @CallPost.mk drZ _ _ _ _ _ _ _ _ ⟨Z', Fr, Fb, vals, @Ext.mk drZ _ _ _ hx.os hx.tape hx.output hx.size hx.block trivial, r⟩
  | _ => exact he
variable [drI : Dr]
theorem flatG_is {P : Program} {g : Nat} {ts : List Ty} {β : Type} {f : denL (frs ts) → Option β} {out : β → List Arg × List Arg} {ret : β → List Value} (hts : ts.all Ty.scal = true)
    (hout : ∀ y, ∃ (rs : List Ty) (x : denL (frs rs)), rs.all Ty.scal = true ∧ out y = (encL (frs rs) x, []) ∧ ret y = svals rs x)
    (hfn : ∃ fn, P.funcs[g]? = some fn ∧ fn.body.isSome = true ∧ (fn.name == "runtime.NumGoroutine") = false)
    (H : ∀ x y w, f x = some y → Calls P g (svals ts x).toArray w fun e w' => e = .returned (retVal (ret y)) ∧ Below w.heap.size w w' ∧ Dr.le w.drawn w'.drawn) :
    FnIs P g (modeOf []) (phi [⟨frs ts, β, f, out⟩]) := by
  intro args res fin h
  refine ⟨hfn, fun w Z Fo vs hA hZ hF => ?_⟩
  simp only [phi] at h
  split at h
  rotate_left
  · cases h
  rename_i x hx
  have hargs := decL_ok hx
  subst hargs
  simp only [Out.run] at h
  cases hf : f x with
  | none => rw [hf] at h; cases h
  | some y =>
  rw [hf] at h
  simp only [Option.bind_some, Out.run, Option.some.injEq] at h
  obtain ⟨rs, z, hrs, ho, hr⟩ := hout y
  rw [ho] at h
  simp only [Prod.mk.injEq] at h
  obtain ⟨rfl, rfl⟩ := h
  obtain ⟨rfl, hE⟩ := svals_of hts hA
  rw [modeOf_nil_muts]
  refine (H x y w hf).mono ?_
  rintro e w' ⟨rfl, hb, hd⟩
  rw [hr]
  refine ⟨Z, fun _ => False, fun _ => False, svals rs z, ⟨hb.os, hb.tape, hb.output, hb.size, fun b hb' _ => hb.block b hb', hd⟩, fun b h => h, fun b h => ⟨Nat.lt_of_lt_of_le (hZ b h) hb.size, .inl h⟩, ?_, svals_rep hrs, ⟨rfl, fun _ h => h⟩, ?_, fun b h _ => h⟩
  · rw [lens_svals]
    unfold unpack retVal
    split
    · rename_i v hv
      exact .inl ⟨by rw [hv]; rfl, hv⟩
    · rename_i hv
      refine .inr ⟨fun h1 => ?_, _, rfl, rfl⟩
      obtain ⟨v, hv1⟩ := List.length_eq_one_iff.1 h1
      exact hv v hv1
  · rintro b (hb' | hb') <;> exact hb'.elim
/-- A specification with one plain result. -/
theorem flat1_is {P : Program} {g : Nat} {ts : List Ty} {r : Ty} {f : denL (frs ts) → Option r.den} (hts : ts.all Ty.scal = true) (hr : r.scal = true)
    (hfn : ∃ fn, P.funcs[g]? = some fn ∧ fn.body.isSome = true ∧ (fn.name == "runtime.NumGoroutine") = false)
    (H : ∀ x y w, f x = some y → Calls P g (svals ts x).toArray w fun e w' => e = .returned (sval r y) ∧ Below w.heap.size w w' ∧ Dr.le w.drawn w'.drawn) :
    FnIs P g (modeOf []) (phi [⟨frs ts, r.den, f, fun y => ([.v r .fr y], [])⟩]) :=
  flatG_is (ret := fun y => [sval r y]) hts (fun y => ⟨[r], show denL (frs [r]) from (show r.den × Unit from (y, ())), by simp [hr], rfl, rfl⟩) hfn H

/-! strings.Repeat -/
def repeatOf (s : List UInt8) (n : Int) : Option (List UInt8) :=
  bif decide (0 ≤ n) && decide (n ≤ 9223372036854775807) && decide (s.length * n.toNat ≤ 140737488355328) then some (Lib.repeatL s n.toNat) else none
theorem repeat_calls {P : Program} {ρ : Ren} (L : Lays.n105 P ρ) (X : Builder.Extra P ρ) (s y : List UInt8) (n : Int) (w : World) (h : repeatOf s n = some y) :
    Calls P (ρ.f 105) #[.string ⟨s.toArray⟩, .int .i64 n] w fun e w' => e = .returned (.string ⟨y.toArray⟩) ∧ Below w.heap.size w w' := by
  unfold repeatOf at h
  cases hd : decide (0 ≤ n) && decide (n ≤ 9223372036854775807) && decide (s.length * n.toNat ≤ 140737488355328) with
  | false => rw [hd] at h; cases h
  | true =>
  rw [hd] at h
  simp only [cond_true, Option.some.injEq] at h
  subst h
  simp only [Bool.and_eq_true, decide_eq_true_eq] at hd
  obtain ⟨⟨h0, h1⟩, h2⟩ := hd
  obtain ⟨c, rfl⟩ := Int.eq_ofNat_of_zero_le h0
  exact Any.strings_Repeat L X ⟨s.toArray⟩ c w (by omega) (by simpa [ByteArray.size] using h2)
def repeatS : Spec := ⟨[.v .str .fr, .v (.int .i64) .fr], List UInt8, fun v => repeatOf v.1 v.2.1, fun r => ([.v .str .fr r], [])⟩
theorem repeat_is {P : Program} {ρ : Ren} (L : Lays.n105 P ρ) (X : Builder.Extra P ρ) (hfn : ∃ fn, P.funcs[ρ.f 105]? = some fn ∧ fn.body.isSome = true ∧ (fn.name == "runtime.NumGoroutine") = false)
    : @FnIs drZ P (ρ.f 105) (modeOf []) (phi [repeatS]) :=
  @flat1_is drZ P (ρ.f 105) [.str, .int .i64] .str (fun v => repeatOf v.1 v.2.1) rfl rfl hfn (by
    rintro ⟨s, n, _⟩ y w h
    refine (repeat_calls L X s y n w h).mono ?_
    rintro e w' ⟨rfl, hb⟩
    exact ⟨rfl, hb, trivial⟩)
/-! strings.Contains at one byte -/
def hasByte (s sub : List UInt8) : Option Bool := match sub with | [c] => some (decide (0 ≤ Lib.indexByte s c)) | _ => none
def containsS : Spec := ⟨[.v .str .fr, .v .str .fr], Bool, fun v => hasByte v.1 v.2.1, fun r => ([.v .bool .fr r], [])⟩
theorem contains_calls {P : Program} {ρ : Ren} (L : Lays.n144 P ρ) (s sub : List UInt8) (y : Bool) (w : World) (h : hasByte s sub = some y) :
    Calls P (ρ.f 144) #[.string ⟨s.toArray⟩, .string ⟨sub.toArray⟩] w fun e w' => e = .returned (.bool y) ∧ w' = w := by
  unfold hasByte at h
  split at h
  · simp only [Option.some.injEq] at h
    subst h
    exact Any.strings_Contains_one L ⟨s.toArray⟩ _ w
  · cases h
theorem contains_is {P : Program} {ρ : Ren} (L : Lays.n144 P ρ) (hfn : ∃ fn, P.funcs[ρ.f 144]? = some fn ∧ fn.body.isSome = true ∧ (fn.name == "runtime.NumGoroutine") = false)
    : FnIs P (ρ.f 144) (modeOf []) (phi [containsS]) :=
  flat1_is (ts := [.str, .str]) (r := .bool) (f := fun v => hasByte v.1 v.2.1) rfl rfl hfn (by
    rintro ⟨s, sub, _⟩ y w h
    refine (contains_calls L s sub y w h).mono ?_
    rintro e w' ⟨rfl, rfl⟩
    exact ⟨rfl, Below.refl _ _, Dr.refl _⟩)
end Go.K

/- K, part S6: slices.Delete of one element, in place. -/
set_option linter.unusedVariables false
set_option linter.unusedSimpArgs false
namespace Go.K
open Go.RowKit Go.Shelf Go.Proofs
def dlCode (s224 s225 s227 s228 s231 s232 s233 s234 : String) (TS T3 T4 : TypeId) : Code :=
  ((Code.region 0 #[{ dst := some 6, op := Op.assign (Operand.const (Value.slice none 0 0)), type := TS, pos := s224, after := #[], guard := none }] false).seq ((Code.region 1 #[{ dst := some 8, op := Op.move (Operand.tmp 0), type := TS, pos := s225, after := #[], guard := none }, { dst := some 9, op := Op.move (Operand.tmp 1), type := T3, pos := s225, after := #[], guard := none }, { dst := some 10, op := Op.move (Operand.tmp 2), type := T3, pos := s225, after := #[], guard := none }, { dst := some 11, op := Op.move (Operand.tmp 0), type := TS, pos := s225, after := #[], guard := none }, { dst := some 12, op := Op.call { callee := Callee.builtin Builtin.len, args := #[Operand.tmp 11], argTypes := #[TS] }, type := T3, pos := s225, after := #[{ on := 3, ground := Ground.data }], guard := none }, { dst := some 13, op := Op.slice TS (Operand.tmp 8) (some (Operand.tmp 9)) (some (Operand.tmp 10)) (some (Operand.tmp 12)), type := TS, pos := s225, after := #[{ on := 0, ground := Ground.data }, { on := 1, ground := Ground.data }, { on := 2, ground := Ground.data }, { on := 4, ground := Ground.data }], guard := none }] false).seq (((Code.region 2 #[{ dst := some 14, op := Op.move (Operand.tmp 1), type := T3, pos := s227, after := #[], guard := none }, { dst := some 15, op := Op.move (Operand.tmp 2), type := T3, pos := s227, after := #[], guard := none }, { dst := some 16, op := Op.binOp BinOp.eql T3 (Operand.tmp 14) (Operand.tmp 15) T3, type := T4, pos := s227, after := #[{ on := 0, ground := Ground.data }, { on := 1, ground := Ground.data }], guard := none }] false).seq (Code.cond (Operand.tmp 16) ((Code.region 3 #[{ dst := some 17, op := Op.move (Operand.tmp 0), type := TS, pos := s228, after := #[], guard := none }, { dst := some 6, op := Op.assign (Operand.tmp 17), type := TS, pos := s228, after := #[{ on := 0, ground := Ground.data }, { on := 0, ground := Ground.phase }], guard := none }] false).seq Code.ret) Code.skip)).seq ((Code.region 4 #[{ dst := some 18, op := Op.move (Operand.tmp 0), type := TS, pos := s231, after := #[], guard := none }, { dst := some 19, op := Op.call { callee := Callee.builtin Builtin.len, args := #[Operand.tmp 18], argTypes := #[TS] }, type := T3, pos := s231, after := #[{ on := 0, ground := Ground.data }], guard := none }, { dst := some 7, op := Op.assign (Operand.tmp 19), type := T3, pos := s231, after := #[{ on := 1, ground := Ground.data }, { on := 0, ground := Ground.phase }, { on := 1, ground := Ground.phase }], guard := none }] false).seq ((Code.region 5 #[{ dst := some 20, op := Op.move (Operand.tmp 0), type := TS, pos := s232, after := #[], guard := none }, { dst := some 21, op := Op.move (Operand.tmp 1), type := T3, pos := s232, after := #[], guard := none }, { dst := some 22, op := Op.slice TS (Operand.tmp 20) none (some (Operand.tmp 21)) none, type := TS, pos := s232, after := #[{ on := 0, ground := Ground.data }, { on := 1, ground := Ground.data }], guard := none }, { dst := some 23, op := Op.move (Operand.tmp 0), type := TS, pos := s232, after := #[], guard := none }, { dst := some 24, op := Op.move (Operand.tmp 2), type := T3, pos := s232, after := #[], guard := none }, { dst := some 25, op := Op.slice TS (Operand.tmp 23) (some (Operand.tmp 24)) none none, type := TS, pos := s232, after := #[{ on := 3, ground := Ground.data }, { on := 4, ground := Ground.data }], guard := none }, { dst := some 26, op := Op.call { callee := Callee.builtin Builtin.append, args := #[Operand.tmp 22, Operand.tmp 25], argTypes := #[TS, TS] }, type := TS, pos := s232, after := #[{ on := 2, ground := Ground.data }, { on := 5, ground := Ground.data }], guard := none }, { dst := some 0, op := Op.assign (Operand.tmp 26), type := TS, pos := s232, after := #[{ on := 6, ground := Ground.data }, { on := 6, ground := Ground.chain }, { on := 0, ground := Ground.phase }, { on := 1, ground := Ground.phase }, { on := 2, ground := Ground.phase }, { on := 3, ground := Ground.phase }, { on := 4, ground := Ground.phase }, { on := 5, ground := Ground.phase }, { on := 6, ground := Ground.phase }], guard := none }] true).seq ((Code.region 6 #[{ dst := some 27, op := Op.move (Operand.tmp 0), type := TS, pos := s233, after := #[], guard := none }, { dst := some 28, op := Op.move (Operand.tmp 0), type := TS, pos := s233, after := #[], guard := none }, { dst := some 29, op := Op.call { callee := Callee.builtin Builtin.len, args := #[Operand.tmp 28], argTypes := #[TS] }, type := T3, pos := s233, after := #[{ on := 1, ground := Ground.data }], guard := none }, { dst := some 30, op := Op.move (Operand.tmp 7), type := T3, pos := s233, after := #[], guard := none }, { dst := some 31, op := Op.slice TS (Operand.tmp 27) (some (Operand.tmp 29)) (some (Operand.tmp 30)) none, type := TS, pos := s233, after := #[{ on := 0, ground := Ground.data }, { on := 2, ground := Ground.data }, { on := 3, ground := Ground.data }], guard := none }, { dst := none, op := Op.call { callee := Callee.builtin Builtin.clear, args := #[Operand.tmp 31], argTypes := #[TS] }, type := 0, pos := s233, after := #[{ on := 4, ground := Ground.data }], guard := none }] false).seq ((Code.region 7 #[{ dst := some 32, op := Op.move (Operand.tmp 0), type := TS, pos := s234, after := #[], guard := none }, { dst := some 6, op := Op.assign (Operand.tmp 32), type := TS, pos := s234, after := #[{ on := 0, ground := Ground.data }, { on := 0, ground := Ground.phase }], guard := none }] false).seq Code.ret)))))))
structure DelTy (P : Program) (TS TE T3 T4 : TypeId) (k bytes : Nat) (z : Value) : Prop where
  mixed : P.follows .mixedOrders = true
  T : SlTy P TS TE k bytes
  t3 : P.underlying T3 = some (TypeDesc.int IntKind.i64)
  t4 : P.underlying T4 = some TypeDesc.bool
  a3 : ∀ w, (isAgg T3).run P w = .ok false w
  a4 : ∀ w, (isAgg T4).run P w = .ok false w
  z3 : ∀ w, (Go.sizeOf T3).run P w = .ok 1 w
  z4 : ∀ w, (Go.sizeOf T4).run P w = .ok 1 w
  vE : ∀ w, (zeroValue TE).run P w = .ok z w
  vz : z.cells.size = k
  v1 : ∀ u ∈ z.cells.toList, u.oneCell' = true
section
variable {P : Program} {TS TE T3 T4 f : TypeId} {k bytes : Nat} {z : Value} {fc : Func} {s224 s225 s227 s228 s231 s232 s233 s234 : String}
theorem run_append_at (w : World) (ty : TypeId) (hT : P.underlying TS = some (.slice TE)) (hz : ∀ w, (Go.sizeOf TE).run P w = .ok k w)
    (g o sLen sCap : Nat) (cur : Array Value) (hg : w.heap[g]? = some (.cells cur TE (0, 0))) (a : Addr) (m c : Nat) (news : List Value) (hl : news.length = m * k) (hnews : ∀ j u, news[j]? = some u → w.cell? (a.add j) = some u) (h1 : ∀ u ∈ news, u.oneCell' = true)
    (hroom : sLen + m ≤ sCap) (hfit : o + sLen * k + news.length ≤ cur.size) :
    (Builtin.append_ #[TS, TS] ty #[.slice (some ⟨g, o, none⟩) sLen sCap, .slice (some a) m c]).run P w =
      .ok (.slice (some ⟨g, o, none⟩) (sLen + m) sCap) (w.setRow g (cur.toList.take (o + sLen * k) ++ news ++ cur.toList.drop (o + sLen * k + news.length)).toArray) := by
  have hf := run_firstCells_some (P := P) w k m a m c news hl hnews
  have hst := run_storeCells_at P g (o + sLen * k) TE news 0 cur w hg (by simpa using hfit) h1
  simp only [Nat.add_zero] at hst
  have had : ((⟨g, o, none⟩ : Addr).add (sLen * k)) = ⟨g, o + sLen * k, none⟩ := add_mem g o _
  simp [Builtin.append_, run_underlying hT, hz, Builtin.lenOf, hroom, hf, had, hst]
theorem run_clear_at (w : World) (ty : TypeId) (hT : P.underlying TS = some (.slice TE)) (vE : ∀ w, (zeroValue TE).run P w = .ok z w) (vz : z.cells.size = k) (v1 : ∀ u ∈ z.cells.toList, u.oneCell' = true)
    (g o c : Nat) (cur : Array Value) (hg : w.heap[g]? = some (.cells cur TE (0, 0))) (hfit : o + k ≤ cur.size) :
    (Builtin.clear_ #[TS] ty #[.slice (some ⟨g, o, none⟩) 1 c]).run P w = .ok (.tuple #[]) (w.setRow g (cur.toList.take o ++ z.cells.toList ++ cur.toList.drop (o + k)).toArray) := by
  have hzz : (Builtin.zeroCells z.cells 1).toList = z.cells.toList := by
    simp only [Builtin.zeroCells, Nat.one_mul]
    apply List.ext_getElem
    · simp
    · intro i h1 h2
      simp at h1 h2
      simp [Nat.mod_eq_of_lt h2, getElem!_pos, h2]
  have hst := run_storeCells_at P g o TE z.cells.toList 0 cur w hg (by simpa [vz] using hfit) v1
  simp only [Nat.add_zero, Array.length_toList, vz] at hst
  unfold Builtin.clear_
  simp only [List.getElem?_toArray, List.getElem?_cons_zero]
  rw [Sem.run_bind, run_underlying hT]
  simp only [Result.andThen]
  rw [Sem.run_bind, vE]
  simp only [Result.andThen]
  rw [hzz, Sem.run_bind, hst]
  rfl
theorem step_append_run {ops : Array Oper} {o : Oper} {a : Act} {w : World} {K : Act → World → Prop} {Q : Exit → Act → World → Prop} {E : Prop}
    (hg : o.guard = none) (d x : Operand) (dT sT : TypeId) (hop : o.op = Op.call { callee := Callee.builtin Builtin.append, args := #[d, x], argTypes := #[dT, sT] })
    (v u : Value) (hd : a.eval d = v) (hx : a.eval x = u) {v' : Value} {w' : World} (hr : (Builtin.append_ #[dT, sT] o.type #[v, u]).run P w = .ok v' w') (hK : K (a.put o.dst v') w') :
    if Region.wanted o (yielded ops a.tmps) = true then Oper.wp P o a w K Q else E := by
  have hw : Region.wanted o (yielded ops a.tmps) = true := by simp [Region.wanted, hg]
  rw [if_pos hw]
  unfold Oper.wp
  simp [execOp, hop, resolve, invoke, builtin, hd, hx, hr, Result.andThen]
  exact hK
set_option maxHeartbeats 4000000 in
set_option maxRecDepth 100000 in
theorem delete_calls (L : DelTy P TS TE T3 T4 k bytes z) (hf : P.funcs[f]? = some fc) (hb : fc.body = some (dlCode s224 s225 s227 s228 s231 s232 s233 s234 TS T3 T4)) (hnt : fc.ntmps = 33) (hres : fc.results = #[.tmp 6])
    (w : World) (b o n c : Nat) (cur A : Array Value) (news : List Value) (hg : w.heap[b]? = some (.cells cur TE (0, 0))) (hsz : o + c * k ≤ cur.size) (hnc : n ≤ c) (hcm : c ≤ maxLen) (i : Nat) (hi : i < n) (hone : ∀ v ∈ news, v.oneCell' = true)
    (hnews : (cur.toList.drop (o + (i + 1) * k)).take ((n - (i + 1)) * k) = news) (hA : (cur.toList.take (o + i * k) ++ news ++ cur.toList.drop (o + i * k + news.length)).toArray = A) :
    Calls P f #[.slice (some ⟨b, o, none⟩) n c, .int .i64 i, .int .i64 ((i + 1 : Nat) : Int)] w fun e w' =>
      e = .returned (.slice (some ⟨b, o, none⟩) (n - 1) c) ∧ w' = (w.drew.setRow b A).setRow b (A.toList.take (o + (n - 1) * k) ++ z.cells.toList ++ A.toList.drop (o + (n - 1) * k + k)).toArray := by
  have tS := L.T.tS; have aS := L.T.aS; have zS := L.T.zS; have zE := L.T.zE
  have t3 := L.t3; have t4 := L.t4; have a3 := L.a3; have a4 := L.a4; have z3 := L.z3; have z4 := L.z4
  have uS := run_underlying L.T.tS; have u3 := run_underlying L.t3; have u4 := run_underlying L.t4
  have mixed := L.mixed
  have hkp := L.T.pos
  simp only [maxLen] at hcm
  have hck : n * k ≤ c * k := Nat.mul_le_mul_right _ hnc
  have e1 : (i + 1) * k + (n - (i + 1)) * k = n * k := by rw [← Nat.add_mul]; congr 1; omega
  have e2 : (i + 1) * k = i * k + k := by rw [Nat.add_mul, Nat.one_mul]
  have e3 : (n - 1) * k + k = n * k := by rw [← Nat.succ_mul]; congr 1; omega
  have hnl : news.length = (n - (i + 1)) * k := by rw [← hnews, List.length_take, List.length_drop, Array.length_toList]; omega
  have hAs : A.size = cur.size := by rw [← hA]; simp only [List.size_toArray, List.length_append, List.length_take, List.length_drop, Array.length_toList]; omega
  have happ : ∀ (W : World), W.heap[b]? = some (.cells cur TE (0, 0)) → ∀ ty src c2, (n = i + 1 ∨ src = ⟨b, o + (i * k + k), none⟩) → (Builtin.append_ #[TS, TS] ty #[.slice (some ⟨b, o, none⟩) i c, .slice (some src) (n - (i + 1)) c2]).run P W = .ok (.slice (some ⟨b, o, none⟩) (n - 1) c) (W.setRow b A) := fun W hW ty src c2 hsrc => by
    rw [run_append_at W ty tS zE b o i c cur hW src (n - (i + 1)) c2 news hnl (fun j u hj => by
      rcases hsrc with rfl | rfl
      · have : news = [] := List.length_eq_zero_iff.1 (by rw [hnl, Nat.sub_self, Nat.zero_mul])
        rw [this] at hj; cases hj
      rw [add_mem, ← e2]
      rw [← hnews, List.getElem?_take] at hj
      split at hj
      · simp only [World.cell?, hW]
        rw [List.getElem?_drop] at hj
        simpa using hj
      · cases hj) hone (by omega) (by omega), hA]
    rw [show i + (n - (i + 1)) = n - 1 by omega]
  have happD := happ w.drew hg
  obtain ⟨zc, hzc⟩ : ∃ zc, z.cells = zc := ⟨_, rfl⟩
  rw [hzc]
  have hclr : ∀ ty c2, (Builtin.clear_ #[TS] ty #[.slice (some ⟨b, o + (n - 1) * k, none⟩) (n - (n - 1)) c2]).run P (w.drew.setRow b A) = .ok (.tuple #[]) ((w.drew.setRow b A).setRow b (A.toList.take (o + (n - 1) * k) ++ zc.toList ++ A.toList.drop (o + (n - 1) * k + k)).toArray) := fun ty c2 =>
    by rw [show n - (n - 1) = 1 by omega]; exact hzc ▸ run_clear_at _ ty tS L.vE L.vz L.v1 b _ c2 A (setRow_heap w.drew b cur A TE (0, 0) hg) (by rw [hAs]; omega)
  have hw1 : ¬ ((i : Int) = (i : Int) + 1) := by omega
  have hw2 : (i : Int) ≤ (i : Int) + 1 := by omega
  have hw3 : (i : Int) + 1 ≤ (n : Int) := by omega
  have h5 : i ≤ c := by omega
  have h6 : i + 1 ≤ n := hi
  have h7 : i + 1 ≤ c := by omega
  have h8 : i ≤ n := by omega
  have h9 : (0 : Int) ≤ (i : Int) + 1 := by omega
  have h10 : ((i : Int) + 1).toNat = i + 1 := by omega
  have hb' : fc.body = some _ := hb.trans rfl
  refine calls_of_wp hf hb' ?_
  simp only [hnt, List.size_toArray, List.length_cons, List.length_nil, Nat.reduceAdd, Nat.reduceSub, Array.replicate_succ, Array.replicate_zero, List.push_toArray, List.append_toArray, List.nil_append, List.cons_append]
  unfold dlCode
  have hA' : Aside (_ = A) := hA
  clear hb hb' hnews hA happ
  go_wp2
  by_cases hce : c = i + 1
  · have hn1 : n = i + 1 := by omega
    subst hce
    subst hn1
    have hAc : A = cur := by
      rw [← hA'.out]
      have hn0 : news = [] := List.length_eq_zero_iff.1 (by rw [hnl, Nat.sub_self, Nat.zero_mul])
      rw [hn0]; simp
    subst hAc
    have hself : w.drew.setRow b A = w.drew := setRow_self w.drew b A TE (0, 0) hg
    have hclr1 : ∀ ty, (Builtin.clear_ #[TS] ty #[.slice (some ⟨b, o + i * k, none⟩) 1 1]).run P w.drew = .ok (.tuple #[]) (w.drew.setRow b (A.toList.take (o + i * k) ++ zc.toList ++ A.toList.drop (o + i * k + k)).toArray) := fun ty =>
      hzc ▸ run_clear_at _ ty tS L.vE L.vz L.v1 b _ 1 A hg (by omega)
    go_region_law_o (refine step_append_run rfl _ _ TS TS rfl _ _ (by simp [Act.eval, Act.put]) (by simp [Act.eval, Act.put]) (happD _ ⟨b, o, none⟩ 0 (.inl rfl)) ?_)
    clear hclr happD
    (try rw [hself])
    have hself' : Aside (w.drew.setRow b A = w.drew) := hself
    clear hself
    go_wp2_with (simp only [hclr1])
    (try simp only [Exit.inBlock, Exit.then]); refine bodyPost_ret (results_tmp hres _ _ _) rfl ?_
    refine ⟨rfl, ?_⟩
    rw [hself'.out]

  · go_region_law_o (refine step_append_run rfl _ _ TS TS rfl (.slice (some ⟨b, o, none⟩) i c) (.slice (some ⟨b, o + (i * k + k), none⟩) (n - (i + 1)) (c - (i + 1))) (by simp [Act.eval, Act.put]) (by simp [Act.eval, Act.put]) (happD _ _ _ (.inr rfl)) ?_)
    go_wp2_with (simp only [hclr])
    (try simp only [Exit.inBlock, Exit.then]); refine bodyPost_ret (results_tmp hres _ _ _) rfl ?_
    exact ⟨rfl, by simp only [List.append_assoc]⟩
end
end Go.K

/- K, part S7: pairsUpTo: the pairs of angles, whose left angles are taken out of a slice in place. -/
set_option linter.unusedVariables false
set_option linter.unusedSimpArgs false
namespace Go.K
open Go.RowKit Go.Shelf Go.Proofs
structure PN where
  T2 : Nat
  T3 : Nat
  T4 : Nat
  TA : Nat
  TAe : Nat
  TP : Nat
  TPe : Nat
  TF : Nat
  fA : Nat
  fI : Nat
  fC : Nat
  fD : Nat
def prCode (q52 q53 q54 q55 q56 q57 q61 q62 q65 : String) (n : PN) : Code :=
  ((Code.region 0 #[{ dst := some 2, op := Op.assign (Operand.const (Value.slice none 0 0)), type := n.TP, pos := q52, after := #[], guard := none }] false).seq ((Code.region 1 #[{ dst := some 3, op := Op.alloc n.TP, type := 0, pos := q53, after := #[], guard := none }] false).seq (((Code.region 2 #[{ dst := some 4, op := Op.assign (Operand.const (Value.int IntKind.i64 2)), type := n.T2, pos := q54, after := #[], guard := none }] false).seq (Code.block 0 (((Code.region 3 #[{ dst := some 7, op := Op.move (Operand.tmp 4), type := n.T2, pos := q54, after := #[], guard := none }, { dst := some 8, op := Op.move (Operand.tmp 0), type := n.T2, pos := q54, after := #[], guard := none }, { dst := some 9, op := Op.binOp BinOp.leq n.T2 (Operand.tmp 7) (Operand.tmp 8) n.T2, type := n.T4, pos := q54, after := #[{ on := 0, ground := Ground.data }, { on := 1, ground := Ground.data }], guard := none }] false).seq (Code.cond (Operand.tmp 9) Code.skip (Code.exit 0))).seq ((Code.block 1 ((Code.region 5 #[{ dst := some 12, op := Op.move (Operand.tmp 4), type := n.T2, pos := q55, after := #[], guard := none }, { dst := some 13, op := Op.call { callee := Callee.value (Operand.func n.fA), args := #[Operand.tmp 12], argTypes := #[n.T2] }, type := n.TA, pos := q55, after := #[{ on := 0, ground := Ground.data }], guard := none }, { dst := some 5, op := Op.alloc n.TA, type := 0, pos := q55, after := #[], guard := none }, { dst := none, op := Op.store n.TA (Operand.tmp 5) (Operand.tmp 13), type := 0, pos := q55, after := #[{ on := 2, ground := Ground.data }, { on := 1, ground := Ground.data }, { on := 1, ground := Ground.chain }, { on := 0, ground := Ground.phase }, { on := 1, ground := Ground.phase }, { on := 2, ground := Ground.phase }], guard := none }] false).seq (Code.block 2 (((Code.region 6 #[{ dst := some 14, op := Op.load n.TA (Operand.tmp 5), type := n.TA, pos := q56, after := #[], guard := none }, { dst := some 15, op := Op.call { callee := Callee.builtin Builtin.len, args := #[Operand.tmp 14], argTypes := #[n.TA] }, type := n.T3, pos := q56, after := #[{ on := 0, ground := Ground.data }], guard := none }, { dst := some 16, op := Op.binOp BinOp.gtr n.T3 (Operand.tmp 15) (Operand.const (Value.int IntKind.i64 0)) n.T3, type := n.T4, pos := q56, after := #[{ on := 1, ground := Ground.data }], guard := none }] false).seq (Code.cond (Operand.tmp 16) Code.skip (Code.exit 2))).seq (Code.block 3 ((Code.region 7 #[{ dst := some 17, op := Op.load n.TA (Operand.tmp 5), type := n.TA, pos := q57, after := #[], guard := none }, { dst := some 18, op := Op.slice n.TA (Operand.tmp 17) (some (Operand.const (Value.int IntKind.i64 1))) none none, type := n.TA, pos := q57, after := #[{ on := 0, ground := Ground.data }], guard := none }, { dst := some 19, op := Op.makeFunc (Fn.func n.fC) #[] #[Operand.tmp 5, Operand.tmp 3], type := n.TF, pos := q57, after := #[], guard := none }, { dst := some 20, op := Op.call { callee := Callee.value (Operand.func n.fI), args := #[Operand.tmp 18, Operand.tmp 19], argTypes := #[n.TA, n.TF] }, type := n.T3, pos := q57, after := #[{ on := 1, ground := Ground.data }, { on := 2, ground := Ground.data }], guard := none }, { dst := some 21, op := Op.binOp BinOp.add n.T3 (Operand.const (Value.int IntKind.i64 1)) (Operand.tmp 20) n.T3, type := n.T3, pos := q57, after := #[{ on := 3, ground := Ground.data }], guard := none }, { dst := some 6, op := Op.assign (Operand.tmp 21), type := n.T3, pos := q57, after := #[{ on := 4, ground := Ground.data }, { on := 3, ground := Ground.chain }, { on := 0, ground := Ground.phase }, { on := 1, ground := Ground.phase }, { on := 2, ground := Ground.phase }, { on := 3, ground := Ground.phase }, { on := 4, ground := Ground.phase }], guard := none }] false).seq ((Code.region 8 #[{ dst := some 22, op := Op.load n.TP (Operand.tmp 3), type := n.TP, pos := q61, after := #[], guard := none }, { dst := some 23, op := Op.load n.TA (Operand.tmp 5), type := n.TA, pos := q61, after := #[], guard := none }, { dst := some 24, op := Op.indexAddr n.TA (Operand.tmp 23) (Operand.const (Value.int IntKind.i64 0)), type := 0, pos := q61, after := #[{ on := 1, ground := Ground.data }], guard := none }, { dst := some 25, op := Op.load n.TAe (Operand.tmp 24), type := n.TAe, pos := q61, after := #[{ on := 2, ground := Ground.data }], guard := none }, { dst := some 26, op := Op.load n.TA (Operand.tmp 5), type := n.TA, pos := q61, after := #[], guard := none }, { dst := some 27, op := Op.move (Operand.tmp 6), type := n.T3, pos := q61, after := #[], guard := none }, { dst := some 28, op := Op.indexAddr n.TA (Operand.tmp 26) (Operand.tmp 27), type := 0, pos := q61, after := #[{ on := 4, ground := Ground.data }, { on := 5, ground := Ground.data }], guard := none }, { dst := some 29, op := Op.load n.TAe (Operand.tmp 28), type := n.TAe, pos := q61, after := #[{ on := 6, ground := Ground.data }], guard := none }, { dst := some 30, op := Op.build n.TPe #[(0, Operand.tmp 25), (1, Operand.tmp 29)], type := n.TPe, pos := q61, after := #[{ on := 3, ground := Ground.data }, { on := 7, ground := Ground.data }], guard := none }, { dst := some 31, op := Op.buildSlice n.TP 1 #[(0, Operand.tmp 30)], type := n.TP, pos := q61, after := #[{ on := 8, ground := Ground.data }], guard := none }, { dst := some 32, op := Op.call { callee := Callee.builtin Builtin.append, args := #[Operand.tmp 22, Operand.tmp 31], argTypes := #[n.TP, n.TP] }, type := n.TP, pos := q61, after := #[{ on := 0, ground := Ground.data }, { on := 9, ground := Ground.data }], guard := none }, { dst := none, op := Op.store n.TP (Operand.tmp 3) (Operand.tmp 32), type := 0, pos := q61, after := #[{ on := 10, ground := Ground.data }, { on := 10, ground := Ground.chain }, { on := 0, ground := Ground.phase }, { on := 1, ground := Ground.phase }, { on := 2, ground := Ground.phase }, { on := 3, ground := Ground.phase }, { on := 4, ground := Ground.phase }, { on := 5, ground := Ground.phase }, { on := 6, ground := Ground.phase }, { on := 7, ground := Ground.phase }, { on := 8, ground := Ground.phase }, { on := 9, ground := Ground.phase }, { on := 10, ground := Ground.phase }], guard := none }] true).seq (Code.region 9 #[{ dst := some 33, op := Op.load n.TA (Operand.tmp 5), type := n.TA, pos := q62, after := #[], guard := none }, { dst := some 34, op := Op.move (Operand.tmp 6), type := n.T3, pos := q62, after := #[], guard := none }, { dst := some 35, op := Op.move (Operand.tmp 6), type := n.T3, pos := q62, after := #[], guard := none }, { dst := some 36, op := Op.binOp BinOp.add n.T3 (Operand.tmp 35) (Operand.const (Value.int IntKind.i64 1)) n.T3, type := n.T3, pos := q62, after := #[{ on := 2, ground := Ground.data }], guard := none }, { dst := some 37, op := Op.call { callee := Callee.value (Operand.func n.fD), args := #[Operand.tmp 33, Operand.tmp 34, Operand.tmp 36], argTypes := #[n.TA, n.T3, n.T3] }, type := n.TA, pos := q62, after := #[{ on := 0, ground := Ground.data }, { on := 1, ground := Ground.data }, { on := 3, ground := Ground.data }], guard := none }, { dst := some 38, op := Op.slice n.TA (Operand.tmp 37) (some (Operand.const (Value.int IntKind.i64 1))) none none, type := n.TA, pos := q62, after := #[{ on := 4, ground := Ground.data }], guard := none }, { dst := none, op := Op.store n.TA (Operand.tmp 5) (Operand.tmp 38), type := 0, pos := q62, after := #[{ on := 5, ground := Ground.data }, { on := 4, ground := Ground.chain }, { on := 0, ground := Ground.phase }, { on := 1, ground := Ground.phase }, { on := 2, ground := Ground.phase }, { on := 3, ground := Ground.phase }, { on := 4, ground := Ground.phase }, { on := 5, ground := Ground.phase }], guard := none }] false))))).loop))).seq (Code.region 4 #[{ dst := some 10, op := Op.move (Operand.tmp 4), type := n.T2, pos := q54, after := #[], guard := none }, { dst := some 11, op := Op.binOp BinOp.add n.T2 (Operand.tmp 10) (Operand.const (Value.int IntKind.i64 1)) n.T2, type := n.T2, pos := q54, after := #[{ on := 0, ground := Ground.data }], guard := none }, { dst := some 4, op := Op.assign (Operand.tmp 11), type := n.T2, pos := q54, after := #[{ on := 1, ground := Ground.data }, { on := 0, ground := Ground.phase }, { on := 1, ground := Ground.phase }], guard := none }] false))).loop)).seq ((Code.region 10 #[{ dst := some 39, op := Op.load n.TP (Operand.tmp 3), type := n.TP, pos := q65, after := #[], guard := none }, { dst := some 2, op := Op.assign (Operand.tmp 39), type := n.TP, pos := q65, after := #[{ on := 0, ground := Ground.data }, { on := 0, ground := Ground.phase }], guard := none }] false).seq Code.ret))))
abbrev PAng := Int × Int × Unit
abbrev PPr := PAng × PAng × Unit
def wr64 (n : Int) : Int := IntKind.wrap .i64 n
def pairsIn (I : List PAng → List PAng → List PPr → Option Int) : List PPr × List PAng → Option (Ctl (List PPr × List PAng) (List PPr))
  | (out, left) => bif decide (0 < left.length) then
      (bif decide (2 ≤ left.length) && decide ((out.length + 1) * 32 ≤ 140737488355328) then
        ((I (left.drop 1) left out).bind fun r =>
          bif decide (0 ≤ 1 + r) && decide (1 + r < (left.length : Int)) then
            some (.next (out ++ [(left.getD 0 (0, 0, ()), left.getD (1 + r).toNat (0, 0, ()), ())], (left.eraseIdx (1 + r).toNat).drop 1))
          else none)
      else none)
    else some (.stop out)
noncomputable def pairsOut (A : Int → Option (List PAng)) (I : List PAng → List PAng → List PPr → Option Int) (n : Int) : List PPr × Int → Option (Ctl (List PPr × Int) (List PPr))
  | (out, p) => bif decide (p ≤ n) then
      ((A p).bind fun left => (loop (pairsIn I) (out, left)).bind fun out' => some (.next (out', wr64 (p + 1))))
    else some (.stop out)
noncomputable def pairsOf (A : Int → Option (List PAng)) (I : List PAng → List PAng → List PPr → Option Int) (n : Int) : Option (List PPr) := loop (pairsOut A I n) ([], 2)
structure PrTy (P : Program) (n : PN) : Prop where
  A : DelTy P n.TA n.TAe n.T3 n.T4 2 16 (.agg #[.int .i64 0, .int .i64 0])
  Pr : SlTy P n.TP n.TPe 4 32
  t2 : P.underlying n.T2 = some (TypeDesc.int IntKind.i64)
  a2 : ∀ w, (isAgg n.T2).run P w = .ok false w
  z2 : ∀ w, (Go.sizeOf n.T2).run P w = .ok 1 w
  aAe : ∀ w, (isAgg n.TAe).run P w = .ok true w
  vTA : ∀ w, (zeroValue n.TA).run P w = .ok (.slice none 0 0) w
  vTP : ∀ w, (zeroValue n.TP).run P w = .ok (.slice none 0 0) w
  aPe : ∀ w, (isAgg n.TPe).run P w = .ok true w
  zPe : ∀ w, (Go.sizeOf n.TPe).run P w = .ok 4 w
  vPe : ∀ w, (zeroValue n.TPe).run P w = .ok (.agg #[.int .i64 0, .int .i64 0, .int .i64 0, .int .i64 0]) w
  uPe : ∃ f1 f2 : Field, P.underlying n.TPe = some (.struct #[f1, f2]) ∧ f1.type = n.TAe ∧ f1.offset = 0 ∧ f2.type = n.TAe ∧ f2.offset = 2
section
variable [drI : Dr]
abbrev AngT : Ty := .pair (.int .i64) (.pair (.int .i64) .unit)
abbrev PrT : Ty := .pair AngT (.pair AngT .unit)
theorem elems_of_plain {w : World} {Z : BSet} {e : Ty} (hp : e.plain = true) : ∀ (xs : List e.den), ElemsRep (fun y => Rep w Z e .fr y) xs (xs.flatMap (cellsOf e)) (fun _ => False)
  | [] => ⟨rfl, fun _ h => h⟩
  | x :: xs => ⟨_, _, _, _, rfl, plain_rep hp, elems_of_plain hp xs, Join.none⟩
/-- A slice's header, and what it shows. -/
def ShowsAt (W : World) (V : Value) (m : Nat) (cs : List Value) : Prop := ∃ A c, V = .slice A m c ∧ m ≤ c ∧ c ≤ maxLen ∧ (0 < m → ∃ ad, A = some ad ∧ ad.spot = none ∧ ad.block < W.heap.size ∧ CellsAt W ad cs)
theorem shows_rep {W : World} {Z : BSet} {V : Value} {T : Nat} {e : Ty} (hp : e.plain = true) {xs : List e.den} (h : ShowsAt W V xs.length (xs.flatMap (cellsOf e))) (hZ : ∀ b, b < W.heap.size → Z b) : Rep W Z (.sl T e) .fr xs [V] (fun _ => False) := by
  obtain ⟨A, c, rfl, h1, h2, h3⟩ := h
  refine ⟨A, c, _, rfl, fun _ h => h, h1, h2, fun hx => ?_, elems_of_plain hp xs⟩
  obtain ⟨ad, h4, h5, h6, h7⟩ := h3 (List.length_pos_iff.2 hx)
  exact ⟨ad, h4, h5, hZ _ h6, h7⟩
theorem shows_agg {W : World} {V : Value} {T : Nat} {e : Ty} {m : Nat} {cs : List Value} (h : ShowsAt W V m cs) : V.cells.toList = [V] ∧ ((Ty.sl T e).isAgg = true ↔ ∃ cs, V = .agg cs) := by
  obtain ⟨A, c, rfl, _⟩ := h
  simp [Value.cells, Ty.isAgg]
/-- What IndexFunc gives at a part of the left angles, with the closure over both boxes. -/
theorem index_calls {P : Program} {n : PN} {φI : List Arg → Out (List Arg × List Arg)} {I : List PAng → List PAng → List PPr → Option Int} (hI : FnIs P n.fI (modeOf []) φI)
    (hφ : ∀ xs ys ps r, I xs ys ps = some r → (φI [.v (.sl n.TAe AngT) .fr xs, .fn n.fC [] [.v (.ptr (.sl n.TAe AngT)) .fr ys, .v (.ptr (.sl n.TPe PrT)) .fr ps]]).run = some ([.v (.int .i64) .fr r], []))
    (xs ys : List PAng) (ps : List PPr) (r : Int) (hr : I xs ys ps = some r) (W : World) (V1 V2 V3 : Value) (Bl Bo : Nat) (h1 : ShowsAt W V1 xs.length (xs.flatMap (cellsOf AngT)))
    (hl : W.cell? ⟨Bl, 0, none⟩ = some V2) (h2 : ShowsAt W V2 ys.length (ys.flatMap (cellsOf AngT))) (ho : W.cell? ⟨Bo, 0, none⟩ = some V3) (h3 : ShowsAt W V3 ps.length (ps.flatMap (cellsOf PrT))) (hBl : Bl < W.heap.size) (hBo : Bo < W.heap.size) :
    Calls P n.fI #[V1, .func (.func n.fC) #[] #[.pointer (some ⟨Bl, 0, none⟩), .pointer (some ⟨Bo, 0, none⟩)]] W fun e W' => e = .returned (.int .i64 r) ∧ Ext W W' (fun _ => False) := by
  have hp : ∀ (B : Nat) (V : Value) (T : Nat) (e : Ty) (zs : List e.den), e.plain = true → B < W.heap.size → W.cell? ⟨B, 0, none⟩ = some V → ShowsAt W V zs.length (zs.flatMap (cellsOf e)) → VRep W (fun b => b < W.heap.size) (.ptr (.sl T e)) .fr zs (.pointer (some ⟨B, 0, none⟩)) (fun _ => False) := fun B V T e zs he hB hc hs =>
    ⟨⟨⟨B, 0, none⟩, [V], rfl, fun _ h => h, rfl, hB, (fun j u hj => by
      cases j with
      | zero => simp at hj; subst hj; rw [add_mem]; exact hc
      | succ j => simp at hj), shows_rep he hs (fun b hb => hb)⟩, by simp [Ty.isAgg]⟩
  have hA : ArgsRep W (fun b => b < W.heap.size) [.v (.sl n.TAe AngT) .fr xs, .fn n.fC [] [.v (.ptr (.sl n.TAe AngT)) .fr ys, .v (.ptr (.sl n.TPe PrT)) .fr ps]] [V1, .func (.func n.fC) #[] #[.pointer (some ⟨Bl, 0, none⟩), .pointer (some ⟨Bo, 0, none⟩)]] (fun _ => False) := by
    obtain ⟨g1, g2⟩ := shows_agg (T := n.TAe) (e := AngT) h1
    refine ⟨_, _, fun _ => False, fun _ => False, rfl, ⟨by rw [g1]; exact shows_rep rfl h1 (fun b hb => hb), g2⟩, ⟨_, _, fun _ => False, fun _ => False, rfl, ⟨.fn (fs := []) (cs := [_, _]) .nil (.cons (.v (hp Bl V2 n.TAe AngT ys rfl hBl hl h2)) (.cons (.v (hp Bo V3 n.TPe PrT ps rfl hBo ho h3)) .nil)), fun _ h => h⟩, ⟨rfl, fun _ h => h⟩, Join.none⟩, Join.none⟩
  obtain ⟨_, h4⟩ := hI _ _ _ (hφ xs ys ps r hr)
  refine (h4 W _ _ _ hA (fun b h => h) (fun b h => h.elim)).mono ?_
  rintro e W' he
  cases e with
  | returned v =>
    obtain ⟨Z', Fr, Fb, vals, hx, _, _, hu, hr1, _⟩ := he
    obtain ⟨V, Vs, F1, F2, rfl, q1, ⟨rfl, _⟩, _⟩ := hr1
    have hv : v = V := by
      rcases hu with ⟨_, h⟩ | ⟨h, _⟩
      · simpa using h.symm
      · exact absurd rfl h
    subst hv
    exact ⟨by rw [(VRep.int (by simp) q1)], hx⟩
  | _ => exact he.elim
theorem angles_calls {P : Program} {n : PN} {φA : List Arg → Out (List Arg × List Arg)} {A : Int → Option (List PAng)} (hA : FnIs P n.fA (modeOf []) φA)
    (hφ : ∀ p xs, A p = some xs → (φA [.v (.int .i64) .fr p]).run = some ([.v (.sl n.TAe AngT) (.own .fr) xs], []))
    (p : Int) (xs : List PAng) (hr : A p = some xs) (W : World) :
    Calls P n.fA #[.int .i64 p] W fun e W' => ∃ v, e = .returned v ∧ W'.ownsRow W.heap.size n.TAe 2 v xs.length (xs.flatMap (cellsOf AngT)) ∧ Ext W W' (fun _ => False) := by
  obtain ⟨_, h4⟩ := hA _ _ _ (hφ p xs hr)
  have h0 : ArgsRep W (fun _ => False) [.v (.int .i64) .fr p] [.int .i64 p] (fun _ => False) :=
    ⟨_, _, fun _ => False, fun _ => False, rfl, ⟨.inl ⟨by simp, rfl, fun _ h => h⟩, by simp [Ty.isAgg]⟩, ⟨rfl, fun _ h => h⟩, Join.none⟩
  refine (h4 W _ _ _ h0 (fun b h => h.elim) (fun b h => h.elim)).mono ?_
  rintro e W' he
  cases e with
  | returned v =>
    obtain ⟨Z', Fr, Fb, vals, hx, _, _, hu, hr1, _, hF, _⟩ := he
    obtain ⟨V, Vs, F1, F2, rfl, q1, ⟨rfl, _⟩, j⟩ := hr1
    have hv : v = V := by
      rcases hu with ⟨_, h⟩ | ⟨h, _⟩
      · simpa using h.symm
      · exact absurd rfl h
    subst hv
    obtain ⟨⟨V', cells, Fe, hV, ho, hE, hFb, _⟩, hag⟩ := q1
    have := one_val hV hag
    subst this
    obtain ⟨hcl, _⟩ := elems_plain rfl hE
    subst hcl
    refine ⟨_, rfl, ⟨ho.1, ?_⟩, hx⟩
    rcases ho.2 with h | ⟨g, cap, cur, rfl, _, r⟩
    · exact .inl h
    · refine .inr ⟨g, cap, cur, rfl, ?_, r⟩
      have := (hF g (.inl ((j.1 g).2 (.inl ((hFb g).2 (.inl rfl)))))).2.2
      exact this.elim (fun h => h.elim) id
  | _ => exact he.elim
theorem bif_pos' {α : Type} {p : Prop} [Decidable p] (h : p) {x y : α} : (bif decide p then x else y) = x := by simp [h]
theorem bif_neg' {α : Type} {p : Prop} [Decidable p] (h : ¬ p) {x y : α} : (bif decide p then x else y) = y := by simp [h]
structure PvAt (n : PN) (w W : World) (Bo : Nat) (vo : Value) (ps : List PPr) : Prop where
  ext : Ext w W (fun _ => False)
  hBo : w.heap.size ≤ Bo
  box : W.heap[Bo]? = some (.cells #[vo] n.TP (0, 0))
  own : W.ownsRow w.heap.size n.TPe 4 vo ps.length (ps.flatMap (cellsOf PrT))
  ne : vo.ownBlock ≠ some Bo
structure LfAt (n : PN) (w W : World) (Bo Bl : Nat) (vo vl : Value) (ys : List PAng) : Prop where
  hBl : w.heap.size ≤ Bl
  nBl : Bl ≠ Bo
  vBl : vo.ownBlock ≠ some Bl
  box : W.heap[Bl]? = some (.cells #[vl] n.TA (0, 0))
  row : (vl = .slice none 0 0 ∧ ys = []) ∨ ∃ g off c cur, vl = .slice (some ⟨g, off, none⟩) ys.length c ∧ w.heap.size ≤ g ∧ g ≠ Bo ∧ g ≠ Bl ∧ vo.ownBlock ≠ some g ∧ W.heap[g]? = some (.cells cur n.TAe (0, 0)) ∧ ys.length ≤ c ∧ c ≤ maxLen ∧ off + c * 2 ≤ cur.size ∧ (cur.toList.drop off).take (ys.length * 2) = ys.flatMap (cellsOf AngT)
theorem lt_of_heap {W : World} {b : Nat} {o : Obj} (h : W.heap[b]? = some o) : b < W.heap.size := (Array.getElem?_eq_some_iff.1 h).1
theorem PvAt.frame {n : PN} {w W W' : World} {Bo : Nat} {vo : Value} {ps : List PPr} (h : PvAt n w W Bo vo ps) (hx : Ext W W' (fun _ => False)) : PvAt n w W' Bo vo ps := by
  have hb : ∀ b, b < W.heap.size → W'.heap[b]? = W.heap[b]? := fun b hb => hx.block b hb (fun h => h)
  refine ⟨⟨hx.os.trans h.ext.os, hx.tape.trans h.ext.tape, hx.output.trans h.ext.output, Nat.le_trans h.ext.size hx.size, fun b hb' _ => (hb b (Nat.lt_of_lt_of_le hb' h.ext.size)).trans (h.ext.block b hb' (fun h => h)), Dr.trans h.ext.drawn hx.drawn⟩, h.hBo, (hb _ (lt_of_heap h.box)).trans h.box, ⟨h.own.1, ?_⟩, h.ne⟩
  rcases h.own.2 with h1 | ⟨g, cap, cur, h1, h2, h3, r⟩
  · exact .inl h1
  · exact .inr ⟨g, cap, cur, h1, h2, (hb _ (lt_of_heap h3)).trans h3, r⟩
theorem LfAt.frame {n : PN} {w W W' : World} {Bo Bl : Nat} {vo vl : Value} {ys : List PAng} (h : LfAt n w W Bo Bl vo vl ys) (hx : Ext W W' (fun _ => False)) : LfAt n w W' Bo Bl vo vl ys := by
  have hb : ∀ b, b < W.heap.size → W'.heap[b]? = W.heap[b]? := fun b hb => hx.block b hb (fun h => h)
  refine ⟨h.hBl, h.nBl, h.vBl, (hb _ (lt_of_heap h.box)).trans h.box, ?_⟩
  rcases h.row with h1 | ⟨g, off, c, cur, h1, h2, h3, h4, h5, h6, r⟩
  · exact .inl h1
  · exact .inr ⟨g, off, c, cur, h1, h2, h3, h4, h5, (hb _ (lt_of_heap h6)).trans h6, r⟩
theorem box_cell {W : World} {b : Nat} {v : Value} {T : TypeId} (h : W.heap[b]? = some (.cells #[v] T (0, 0))) : W.cell? ⟨b, 0, none⟩ = some v ∧ W.frozen? ⟨b, 0, none⟩ = false := by
  constructor
  · simp [World.cell?, h]
  · simp [World.frozen?, h]
theorem row_slice {W : World} {base : Nat} {e : TypeId} {k : Nat} {v : Value} {m : Nat} {cs : List Value} (h : W.ownsRow base e k v m cs) : ∃ A c, v = .slice A m c := by
  rcases h.2 with ⟨rfl, rfl⟩ | ⟨g, cap, cur, rfl, _⟩
  · exact ⟨_, _, rfl⟩
  · exact ⟨_, _, rfl⟩
theorem row_shows {W : World} {g off c : Nat} {cur : Array Value} {T : TypeId} {ys : List PAng} (h1 : W.heap[g]? = some (.cells cur T (0, 0))) (h2 : ys.length ≤ c) (h3 : c ≤ maxLen) (h4 : (cur.toList.drop off).take (ys.length * 2) = ys.flatMap (cellsOf AngT)) :
    ShowsAt W (.slice (some ⟨g, off, none⟩) ys.length c) ys.length (ys.flatMap (cellsOf AngT)) := by
  refine ⟨_, _, rfl, h2, h3, fun _ => ⟨_, rfl, rfl, lt_of_heap h1, fun j u hj => ?_⟩⟩
  rw [add_mem]
  rw [← h4, List.getElem?_take] at hj
  split at hj
  · rw [List.getElem?_drop] at hj
    simp only [World.cell?, h1]
    simpa using hj
  · cases hj
theorem own_shows {W : World} {base : Nat} {e : TypeId} {k : Nat} {v : Value} {m : Nat} {cs : List Value} (h : W.ownsRow base e k v m cs) : ShowsAt W v m cs := by
  rcases h.2 with ⟨rfl, rfl⟩ | ⟨g, cap, cur, rfl, _, h3, h4, h5, h6, h7⟩
  · exact ⟨_, _, rfl, Nat.le_refl _, Nat.zero_le _, fun h => absurd h (Nat.lt_irrefl _)⟩
  · refine ⟨_, _, rfl, h4, h5, fun _ => ⟨_, rfl, rfl, lt_of_heap h3, fun j u hj => ?_⟩⟩
    rw [add_mem]
    rw [← h7, List.getElem?_take] at hj
    split at hj
    · simp only [World.cell?, h3]
      simpa using hj
    · cases hj
theorem cells_drop (ys : List PAng) : ∀ i, (ys.drop i).flatMap (cellsOf AngT) = (ys.flatMap (cellsOf AngT)).drop (i * 2) := fun i => (flatMap_drop (k := 2) (g := cellsOf AngT) (fun x => rfl) ys i).symm
theorem ang_at {ys : List PAng} {i : Nat} (h : i < ys.length) : (ys.flatMap (cellsOf AngT))[i * 2]? = some (.int .i64 (ys.getD i (0, 0, ())).1) ∧ (ys.flatMap (cellsOf AngT))[i * 2 + 1]? = some (.int .i64 (ys.getD i (0, 0, ())).2.1) := by
  induction ys generalizing i with
  | nil => simp at h
  | cons y ys ih =>
    have e : (y :: ys).flatMap (cellsOf AngT) = .int .i64 y.1 :: .int .i64 y.2.1 :: ys.flatMap (cellsOf AngT) := rfl
    rw [e]
    cases i with
    | zero => exact ⟨rfl, rfl⟩
    | succ i =>
      obtain ⟨h1, h2⟩ := ih (i := i) (by simpa using h)
      rw [show (i + 1) * 2 = i * 2 + 1 + 1 by omega]
      simpa using ⟨h1, h2⟩
theorem del_row (cur C news A B z : List Value) (off L K : Nat) (hK : K < L) (hlen : off + L * 2 ≤ cur.length) (hC : (cur.drop off).take (L * 2) = C) (hz : z.length = 2) (hn : (cur.drop (off + (K + 1) * 2)).take ((L - (K + 1)) * 2) = news)
    (hA : cur.take (off + K * 2) ++ news ++ cur.drop (off + K * 2 + news.length) = A) (hB : A.take (off + (L - 1) * 2) ++ z ++ A.drop (off + (L - 1) * 2 + 2) = B) : (B.drop off).take ((L - 1) * 2) = C.take (K * 2) ++ C.drop ((K + 1) * 2) ∧ B.length = cur.length := by
  have hnl : news.length = (L - (K + 1)) * 2 := by rw [← hn, List.length_take, List.length_drop]; omega
  have hAl : A.length = cur.length := by rw [← hA]; simp only [List.length_append, List.length_take, List.length_drop]; omega
  have hBl : B.length = cur.length := by rw [← hB]; simp only [List.length_append, List.length_take, List.length_drop]; omega
  have hCl : C.length = L * 2 := by rw [← hC, List.length_take, List.length_drop]; omega
  refine ⟨?_, hBl⟩
  have hB1 : (B.drop off).take ((L - 1) * 2) = (A.drop off).take ((L - 1) * 2) := by
    rw [← hB, List.append_assoc, List.drop_append_of_le_length (by rw [List.length_take]; omega), List.take_append_of_le_length (by rw [List.length_drop, List.length_take]; omega), List.drop_take, List.take_take]
    congr 1; omega
  have hn2 : news = C.drop ((K + 1) * 2) := by
    rw [← hn, ← hC, List.drop_take, List.drop_drop]; congr 1; omega
  rw [hB1, ← hA, List.append_assoc, List.drop_append_of_le_length (by rw [List.length_take]; omega), List.take_append]
  have e1 : (List.drop off (List.take (off + K * 2) cur)).length = K * 2 := by rw [List.length_drop, List.length_take]; omega
  have e2 : List.take ((L - 1) * 2) (List.drop off (List.take (off + K * 2) cur)) = C.take (K * 2) := by
    rw [List.take_of_length_le (by rw [e1]; omega), List.drop_take, ← hC, List.take_take]; congr 1; omega
  have e3 : ∀ D : List Value, List.take ((L - 1) * 2 - K * 2) (news ++ D) = news := fun D => by
    rw [List.take_append_of_le_length (by rw [hnl]; omega), List.take_of_length_le (by rw [hnl]; omega)]
  rw [e2, e1, e3, hn2]
theorem erase_cells (ys : List PAng) (K : Nat) : (ys.eraseIdx K).flatMap (cellsOf AngT) = (ys.flatMap (cellsOf AngT)).take (K * 2) ++ (ys.flatMap (cellsOf AngT)).drop ((K + 1) * 2) := by
  rw [List.eraseIdx_eq_take_drop_succ, List.flatMap_append, flatMap_take (k := 2) (g := cellsOf AngT) (fun x => rfl) ys K, flatMap_drop (k := 2) (g := cellsOf AngT) (fun x => rfl) ys (K + 1)]
theorem setCell_other {W : World} {a : Addr} {v : Value} {b : Nat} (h : b ≠ a.block) : (W.setCell a v).heap[b]? = W.heap[b]? := Below.heap_setCell W a v b h
theorem setCell_box {W : World} {b : Nat} {v v' : Value} {T : TypeId} (h : W.heap[b]? = some (.cells #[v] T (0, 0))) : (W.setCell ⟨b, 0, none⟩ v').heap[b]? = some (.cells #[v'] T (0, 0)) := by
  simp [World.setCell, Array.getElem?_modify, h]
/-- A pair more: the list has grown, and its box holds it. -/
theorem pv_step {n : PN} {w W W5 : World} {Bo : Nat} {vo v5 : Value} {ps : List PPr} {pr : PPr} (h : PvAt n w W Bo vo ps) (r1 : W5.ownsRow w.heap.size n.TPe 4 v5 (ps.length + 1) (ps.flatMap (cellsOf PrT) ++ cellsOf PrT pr)) (r2 : W.grownBy W5 vo.ownBlock)
    (r3 : v5.ownBlock = vo.ownBlock ∨ v5.ownBlock = some W.heap.size) (hd : W.drawn ≤ W5.drawn) : PvAt n w (W5.setCell ⟨Bo, 0, none⟩ v5) Bo v5 (ps ++ [pr]) := by
  have hBlt := lt_of_heap h.box
  have hne : some Bo ≠ vo.ownBlock := fun e => h.ne e.symm
  have hne5 : v5.ownBlock ≠ some Bo := by
    rcases r3 with r3 | r3
    · rw [r3]; exact h.ne
    · rw [r3]; intro e; simp only [Option.some.injEq] at e; omega
  have hown : ∀ g, vo.ownBlock = some g → w.heap.size ≤ g := fun g hg => (h.own.lt g hg).1
  have hbox5 : W5.heap[Bo]? = some (.cells #[vo] n.TP (0, 0)) := (r2.block Bo hBlt hne).trans h.box
  have hold : ∀ b, b < w.heap.size → (W5.setCell ⟨Bo, 0, none⟩ v5).heap[b]? = w.heap[b]? := fun b hb => by
    have h0 := h.hBo
    rw [setCell_other (by show b ≠ Bo; omega), r2.block b (Nat.lt_of_lt_of_le hb h.ext.size) (fun e => by have := hown b e.symm; omega)]
    exact h.ext.block b hb (fun h => h)
  refine ⟨⟨r2.os.trans h.ext.os, r2.tape.trans h.ext.tape, r2.output.trans h.ext.output, ?_, fun b hb _ => hold b hb, Dr.trans h.ext.drawn (Dr.of_le hd)⟩, h.hBo, setCell_box hbox5, ?_, hne5⟩
  · have : (W5.setCell ⟨Bo, 0, none⟩ v5).heap.size = W5.heap.size := by simp [World.setCell]
    rw [this]; exact Nat.le_trans h.ext.size r2.size
  · have e : (ps ++ [pr]).flatMap (cellsOf PrT) = ps.flatMap (cellsOf PrT) ++ cellsOf PrT pr := by simp
    rw [e, List.length_append, List.length_singleton]
    refine ⟨r1.1, ?_⟩
    rcases r1.2 with h1 | ⟨g, cap, cur, h1, h2, h3, rr⟩
    · exact .inl h1
    · refine .inr ⟨g, cap, cur, h1, h2, ?_, rr⟩
      rw [setCell_other (fun e => hne5 (by rw [h1, show g = Bo from e]; rfl))]
      exact h3
theorem wp_two {P : Program} {c : Code} {Q : Exit → Act → World → Prop} {a : Act} {w : World} (R : Act → World → Prop) (h1 : c.wp P (Exit.then R (fun _ _ _ => False)) a w) (h2 : ∀ a w, R a w → Q .normal a w) : c.wp P Q a w :=
  wp_mono h1 (fun e a w h => by cases e <;> first | exact h2 _ _ h | exact h.elim)
/-- A new box for what was given. -/
theorem lf_new {n : PN} {w W : World} {Bo : Nat} {vo va : Value} {ps : List PPr} {ys : List PAng} (hP : PvAt n w W Bo vo ps) {B0 : Nat} (hB0 : w.heap.size ≤ B0) (hBo : Bo < B0) (hvo : ∀ g, vo.ownBlock = some g → g < B0) (h : W.ownsRow B0 n.TAe 2 va ys.length (ys.flatMap (cellsOf AngT))) :
    PvAt n w (W.alloc (.cells #[va] n.TA)) Bo vo ps ∧ LfAt n w (W.alloc (.cells #[va] n.TA)) Bo W.heap.size vo va ys := by
  have hx : Ext W (W.alloc (.cells #[va] n.TA)) (fun _ => False) := Ext.alloc W _
  have hlt := lt_of_heap hP.box
  have hs := hP.ext.size
  refine ⟨hP.frame hx, ⟨hs, by omega, fun e => ?_, World.alloc_heap_new W _, ?_⟩⟩
  · rcases hP.own.2 with ⟨h1, _⟩ | ⟨g, cap, cur, h1, _, h3, _⟩
    · rw [h1] at e; cases e
    · rw [h1] at e
      simp only [Value.ownBlock, Option.some.injEq] at e
      have := lt_of_heap h3; omega
  · rcases h.2 with ⟨h1, h2⟩ | ⟨g, cap, cur, h1, h2, h3, h4, h5, h6, h7⟩
    · exact .inl ⟨h1, List.length_eq_zero_iff.1 h2⟩
    · refine .inr ⟨g, 0, cap, cur, h1, by omega, by omega, by have := lt_of_heap h3; omega, fun e => ?_, (heap_alloc_old W _ (lt_of_heap h3)).trans h3, h4, h5, by omega, by simpa using h7⟩
      have := hvo g e
      omega
set_option maxHeartbeats 4000000 in
set_option maxRecDepth 100000 in
theorem region8 {P : Program} {n : PN} {q61 : String} (mixed : P.follows .mixedOrders = true) (tA : P.underlying n.TA = some (.slice n.TAe)) (aA : ∀ w, (isAgg n.TA).run P w = .ok false w) (zA : ∀ w, (Go.sizeOf n.TA).run P w = .ok 1 w) (zAe : ∀ w, (Go.sizeOf n.TAe).run P w = .ok 2 w)
    (tP : P.underlying n.TP = some (.slice n.TPe)) (aP : ∀ w, (isAgg n.TP).run P w = .ok false w) (zP : ∀ w, (Go.sizeOf n.TP).run P w = .ok 1 w) (aAe : ∀ w, (isAgg n.TAe).run P w = .ok true w) (vAe : ∀ w, (zeroValue n.TAe).run P w = .ok (.agg #[.int .i64 0, .int .i64 0]) w)
    (aPe : ∀ w, (isAgg n.TPe).run P w = .ok true w) (zPe : ∀ w, (Go.sizeOf n.TPe).run P w = .ok 4 w) (vPe : ∀ w, (zeroValue n.TPe).run P w = .ok (.agg #[.int .i64 0, .int .i64 0, .int .i64 0, .int .i64 0]) w)
    (f1 f2 : Field) (uPe : ∀ w, (underlying n.TPe).run P w = .ok (.struct #[f1, f2]) w) (hf1 : f1.type = n.TAe) (hf2 : f1.offset = 0) (hf3 : f2.type = n.TAe) (hf4 : f2.offset = 2)
    {J : Act → World → Prop} {W3 W4 W5 : World} {Bo Bl K g off L c m c3 c5 : Nat} {A3 A5 : Option Addr} {a b : PAng} {x0 x1 x2 x4 x7 x8 x9 x10 x11 x12 x13 x14 x15 x16 x17 x18 x19 x20 x21 x22 x23 x24 x25 x26 x27 x28 x29 x30 x31 x32 x33 x34 x35 x36 x37 x38 x39 : Value}
    (k5 : (0 : Int) < (L : Int)) (hKn : (K : Int) < (L : Int)) (hy : 0 < L) (hKn' : K < L)
    (hco : W3.cell? ⟨Bo, 0, none⟩ = some (.slice A3 m c3)) (hcl : W3.cell? ⟨Bl, 0, none⟩ = some (.slice (some ⟨g, off, none⟩) L c))
    (c00 : W3.cell? ⟨g, off, none⟩ = some (.int .i64 a.1)) (c01 : W3.cell? ⟨g, off + 1, none⟩ = some (.int .i64 a.2.1)) (ck0 : W3.cell? ⟨g, off + K * 2, none⟩ = some (.int .i64 b.1)) (ck1 : W3.cell? ⟨g, off + K * 2 + 1, none⟩ = some (.int .i64 b.2.1))
    (hW4 : (W3.alloc (.cells #[.int .i64 a.1, .int .i64 a.2.1, .int .i64 b.1, .int .i64 b.2.1] n.TPe)).drew = W4) (hco4 : W4.cell? ⟨Bo, 0, none⟩ = some (.slice A3 m c3))
    (hrun : (Builtin.append_ #[n.TP, n.TP] n.TP #[.slice A3 m c3, .slice (some ⟨W3.heap.size, 0, none⟩) 1 1]).run P W4 = .ok (.slice A5 (m + 1) c5) W5) (hco5 : W5.cell? ⟨Bo, 0, none⟩ = some (.slice A3 m c3)) (hfo5 : W5.frozen? ⟨Bo, 0, none⟩ = false)
    (hK : ∀ y22 y23 y24 y25 y26 y27 y28 y29 y30 y31 y32 : Value, J { tmps := (x0 :: x1 :: x2 :: (.pointer (some ⟨Bo, 0, none⟩)) :: x4 :: (.pointer (some ⟨Bl, 0, none⟩)) :: (.int .i64 K) :: x7 :: x8 :: x9 :: x10 :: x11 :: x12 :: x13 :: x14 :: x15 :: x16 :: x17 :: x18 :: x19 :: x20 :: x21 :: y22 :: y23 :: y24 :: y25 :: y26 :: y27 :: y28 :: y29 :: y30 :: y31 :: y32 :: x33 :: x34 :: x35 :: x36 :: x37 :: x38 :: x39 :: []).toArray, defers := [] } (W5.setCell ⟨Bo, 0, none⟩ (.slice A5 (m + 1) c5))) :
    (Code.region 8 #[{ dst := some 22, op := Op.load n.TP (Operand.tmp 3), type := n.TP, pos := q61, after := #[], guard := none }, { dst := some 23, op := Op.load n.TA (Operand.tmp 5), type := n.TA, pos := q61, after := #[], guard := none }, { dst := some 24, op := Op.indexAddr n.TA (Operand.tmp 23) (Operand.const (Value.int IntKind.i64 0)), type := 0, pos := q61, after := #[{ on := 1, ground := Ground.data }], guard := none }, { dst := some 25, op := Op.load n.TAe (Operand.tmp 24), type := n.TAe, pos := q61, after := #[{ on := 2, ground := Ground.data }], guard := none }, { dst := some 26, op := Op.load n.TA (Operand.tmp 5), type := n.TA, pos := q61, after := #[], guard := none }, { dst := some 27, op := Op.move (Operand.tmp 6), type := n.T3, pos := q61, after := #[], guard := none }, { dst := some 28, op := Op.indexAddr n.TA (Operand.tmp 26) (Operand.tmp 27), type := 0, pos := q61, after := #[{ on := 4, ground := Ground.data }, { on := 5, ground := Ground.data }], guard := none }, { dst := some 29, op := Op.load n.TAe (Operand.tmp 28), type := n.TAe, pos := q61, after := #[{ on := 6, ground := Ground.data }], guard := none }, { dst := some 30, op := Op.build n.TPe #[(0, Operand.tmp 25), (1, Operand.tmp 29)], type := n.TPe, pos := q61, after := #[{ on := 3, ground := Ground.data }, { on := 7, ground := Ground.data }], guard := none }, { dst := some 31, op := Op.buildSlice n.TP 1 #[(0, Operand.tmp 30)], type := n.TP, pos := q61, after := #[{ on := 8, ground := Ground.data }], guard := none }, { dst := some 32, op := Op.call { callee := Callee.builtin Builtin.append, args := #[Operand.tmp 22, Operand.tmp 31], argTypes := #[n.TP, n.TP] }, type := n.TP, pos := q61, after := #[{ on := 0, ground := Ground.data }, { on := 9, ground := Ground.data }], guard := none }, { dst := none, op := Op.store n.TP (Operand.tmp 3) (Operand.tmp 32), type := 0, pos := q61, after := #[{ on := 10, ground := Ground.data }, { on := 10, ground := Ground.chain }, { on := 0, ground := Ground.phase }, { on := 1, ground := Ground.phase }, { on := 2, ground := Ground.phase }, { on := 3, ground := Ground.phase }, { on := 4, ground := Ground.phase }, { on := 5, ground := Ground.phase }, { on := 6, ground := Ground.phase }, { on := 7, ground := Ground.phase }, { on := 8, ground := Ground.phase }, { on := 9, ground := Ground.phase }, { on := 10, ground := Ground.phase }], guard := none }] true).wp P (Exit.then J (fun _ _ _ => False)) { tmps := (x0 :: x1 :: x2 :: (.pointer (some ⟨Bo, 0, none⟩)) :: x4 :: (.pointer (some ⟨Bl, 0, none⟩)) :: (.int .i64 K) :: x7 :: x8 :: x9 :: x10 :: x11 :: x12 :: x13 :: x14 :: x15 :: x16 :: x17 :: x18 :: x19 :: x20 :: x21 :: x22 :: x23 :: x24 :: x25 :: x26 :: x27 :: x28 :: x29 :: x30 :: x31 :: x32 :: x33 :: x34 :: x35 :: x36 :: x37 :: x38 :: x39 :: []).toArray, defers := [] } W3 := by
  have uA := run_underlying tA; have uP := run_underlying tP
  go_region_law_o (refine step_append_run rfl (.tmp 22) (.tmp 31) n.TP n.TP rfl (.slice A3 m c3) (.slice (some ⟨W3.heap.size, 0, none⟩) 1 1) (by simp [Act.eval, Act.put]) (by simp [Act.eval, Act.put]) hrun ?_)
  all_goals exact hK _ _ _ _ _ _ _ _ _ _ _
end
end Go.K

/- K, part S8: pairsUpTo: what it gives. -/
set_option linter.unusedVariables false
set_option linter.unusedSimpArgs false
namespace Go.K
open Go.RowKit Go.Shelf Go.Proofs
section
variable [drI : Dr]
theorem PvAt.other {n : PN} {w W W' : World} {Bo : Nat} {vo : Value} {ps : List PPr} (h : PvAt n w W Bo vo ps) {g Bl : Nat} (hg : w.heap.size ≤ g) (hl : w.heap.size ≤ Bl) (g1 : g ≠ Bo) (l1 : Bl ≠ Bo) (g2 : vo.ownBlock ≠ some g) (l2 : vo.ownBlock ≠ some Bl)
    (os : W'.os = W.os) (tp : W'.tape = W.tape) (op : W'.output = W.output) (sz : W.heap.size ≤ W'.heap.size) (blk : ∀ b, b ≠ g → b ≠ Bl → W'.heap[b]? = W.heap[b]?) (dr : W.drawn ≤ W'.drawn) : PvAt n w W' Bo vo ps := by
  refine ⟨⟨os.trans h.ext.os, tp.trans h.ext.tape, op.trans h.ext.output, Nat.le_trans h.ext.size sz, fun b hb _ => (blk b (by omega) (by omega)).trans (h.ext.block b hb (fun h => h)), Dr.trans h.ext.drawn (Dr.of_le dr)⟩, h.hBo, (blk _ (Ne.symm g1) (Ne.symm l1)).trans h.box, ⟨h.own.1, ?_⟩, h.ne⟩
  rcases h.own.2 with h1 | ⟨k, cap, cur, h1, h2, h3, r⟩
  · exact .inl h1
  · exact .inr ⟨k, cap, cur, h1, h2, (blk k (fun e => g2 (by rw [h1, e]; rfl)) (fun e => l2 (by rw [h1, e]; rfl))).trans h3, r⟩
theorem wrap_small {k m c : Nat} (h : k < m) (h1 : m ≤ c) (h2 : c ≤ maxLen) : wrap64 (k : Int) = (k : Int) ∧ wrap64 ((k : Int) + 1) = (k : Int) + 1 := by
  have h3 : (k : Int) + 1 < 9223372036854775808 := by simp only [maxLen] at h2; omega
  clear h h1 h2
  unfold wrap64
  constructor <;> omega
set_option maxHeartbeats 4000000 in
set_option maxRecDepth 100000 in
theorem pairs_calls {P : Program} {n : PN} {f : Nat} {fc : Func} {q52 q53 q54 q55 q56 q57 q61 q62 q65 : String} (L : PrTy P n) (hf : P.funcs[f]? = some fc) (hb : fc.body = some (prCode q52 q53 q54 q55 q56 q57 q61 q62 q65 n)) (hnt : fc.ntmps = 40) (hres : fc.results = #[.tmp 2])
    {A : Int → Option (List PAng)} {I : List PAng → List PAng → List PPr → Option Int}
    (eA : ∀ args w, (callFunc n.fA args).run P w = .ok (.enter n.fA args) w) (eI : ∀ args w, (callFunc n.fI args).run P w = .ok (.enter n.fI args) w) (eD : ∀ args w, (callFunc n.fD args).run P w = .ok (.enter n.fD args) w)
    (cA : ∀ p xs, A p = some xs → ∀ W, Calls P n.fA #[.int .i64 p] W fun e W' => ∃ v, e = .returned v ∧ W'.ownsRow W.heap.size n.TAe 2 v xs.length (xs.flatMap (cellsOf AngT)) ∧ Ext W W' (fun _ => False))
    (cI : ∀ xs ys ps r, I xs ys ps = some r → ∀ W V1 V2 V3 Bl Bo, ShowsAt W V1 xs.length (xs.flatMap (cellsOf AngT)) → W.cell? ⟨Bl, 0, none⟩ = some V2 → ShowsAt W V2 ys.length (ys.flatMap (cellsOf AngT)) → W.cell? ⟨Bo, 0, none⟩ = some V3 → ShowsAt W V3 ps.length (ps.flatMap (cellsOf PrT)) → Bl < W.heap.size → Bo < W.heap.size →
      Calls P n.fI #[V1, .func (.func n.fC) #[] #[.pointer (some ⟨Bl, 0, none⟩), .pointer (some ⟨Bo, 0, none⟩)]] W fun e W' => e = .returned (.int .i64 r) ∧ Ext W W' (fun _ => False))
    (cD0 : ∀ (w : World) (b o m c : Nat) (cur A : Array Value) (news : List Value), w.heap[b]? = some (.cells cur n.TAe (0, 0)) → o + c * 2 ≤ cur.size → m ≤ c → c ≤ maxLen → ∀ i, i < m → (∀ v ∈ news, v.oneCell' = true) →
      (cur.toList.drop (o + (i + 1) * 2)).take ((m - (i + 1)) * 2) = news → (cur.toList.take (o + i * 2) ++ news ++ cur.toList.drop (o + i * 2 + news.length)).toArray = A →
      Calls P n.fD #[.slice (some ⟨b, o, none⟩) m c, .int .i64 i, .int .i64 ((i : Int) + 1)] w fun e w' =>
        e = .returned (.slice (some ⟨b, o, none⟩) (m - 1) c) ∧ w' = (w.drew.setRow b A).setRow b (A.toList.take (o + (m - 1) * 2) ++ [Value.int .i64 0, Value.int .i64 0] ++ A.toList.drop (o + (m - 1) * 2 + 2)).toArray)
    (N : Int) (r : List PPr) (hr : pairsOf A I N = some r) (w : World) :
    Calls P f #[.int .i64 N] w fun e w' => ∃ v, e = .returned v ∧ w'.ownsRow w.heap.size n.TPe 4 v r.length (r.flatMap (cellsOf PrT)) ∧ Ext w w' (fun _ => False) := by
  have tA := L.A.T.tS; have aA := L.A.T.aS; have zA := L.A.T.zS; have zAe := L.A.T.zE
  have tP := L.Pr.tS; have aP := L.Pr.aS; have zP := L.Pr.zS
  have aAe := L.aAe; have vAe := L.A.vE; have vTA := L.vTA; have vTP := L.vTP; have aPe := L.aPe; have zPe := L.zPe; have vPe := L.vPe
  have t2 := L.t2; have a2 := L.a2; have z2 := L.z2
  have t3 := L.A.t3; have t4 := L.A.t4; have a3 := L.A.a3; have a4 := L.A.a4; have z3 := L.A.z3; have z4 := L.A.z4
  have uA := run_underlying L.A.T.tS; have uP := run_underlying L.Pr.tS; have u2 := run_underlying L.t2; have u3 := run_underlying L.A.t3; have u4 := run_underlying L.A.t4
  have mixed := L.A.mixed
  obtain ⟨f1, f2, uPe0, hf1, hf2, hf3, hf4⟩ := L.uPe
  have uPe := run_underlying uPe0
  obtain ⟨iP, zP', hiP, hzP0, hzP1, hzP2, hzPc⟩ := L.Pr.parts
  obtain ⟨m0, hm0⟩ := loop_iter.1 hr
  have hb' : fc.body = some _ := hb.trans rfl
  refine calls_of_wp hf hb' ?_
  simp only [hnt, List.size_toArray, List.length_cons, List.length_nil, Nat.reduceAdd, Nat.reduceSub, Array.replicate_succ, Array.replicate_zero, List.push_toArray, List.append_toArray, List.nil_append, List.cons_append]
  unfold prCode
  clear hb hb'
  have hP0 : PvAt n w (w.alloc (.cells #[.slice none 0 0] n.TP)) w.heap.size (.slice none 0 0) [] :=
    ⟨Ext.alloc w _, Nat.le_refl _, World.alloc_heap_new w _, ⟨by simp, .inl ⟨rfl, rfl⟩⟩, by simp [Value.ownBlock]⟩
  go_wp2
  go_loopg [4] m0 (fun k i wr => ∃ p ps vo, i = .int .i64 p ∧ PvAt n w wr w.heap.size vo ps ∧ iter (pairsOut A I N) k (ps, p) = some r)
  case atStart => exact ⟨2, [], _, rfl, hP0, hm0⟩
  case round =>
    obtain ⟨p, ps, vo, rfl, hP, hit⟩ := hrel
    clear hP0
    cases gk with
    | zero => cases hit
    | succ gk' =>
    simp only [iter, pairsOut] at hit
    by_cases hpN : p ≤ N
    · rw [bif_pos' hpN] at hit
      cases hAp : A p with
      | none => rw [hAp] at hit; cases hit
      | some left =>
      rw [hAp] at hit
      simp only [Option.bind_some] at hit
      cases hlp : loop (pairsIn I) (ps, left) with
      | none => rw [hlp] at hit; cases hit
      | some ps' =>
      rw [hlp] at hit
      simp only [Option.bind_some] at hit
      go_wp2_with (go_at_fn n.fA; refine (cA p left hAp _).mono ?_; rintro e W1 ⟨va, rfl, hrow, hx1⟩; obtain ⟨A0, c0, rfl⟩ := row_slice hrow)
      obtain ⟨m1, hm1⟩ := loop_iter.1 hlp
      have hP1 := hP.frame hx1
      obtain ⟨hP2, hL2⟩ := lf_new hP1 (B0 := wr.heap.size) hP.ext.size (lt_of_heap hP.box) (fun g hg => by
        rcases hP.own.2 with ⟨h1, _⟩ | ⟨g', cap, cur, h1, _, h3, _⟩
        · rw [h1] at hg; cases hg
        · rw [h1] at hg
          simp only [Value.ownBlock, Option.some.injEq] at hg
          rw [← hg]; exact lt_of_heap h3) hrow
      clear hrow hx1 hP1 hP
      go_wp2
      obtain ⟨W2, hW2⟩ : ∃ W2, W1.alloc (.cells #[.slice A0 left.length c0] n.TA) = W2 := ⟨_, rfl⟩
      obtain ⟨Bl, hBl⟩ : ∃ Bl, W1.heap.size = Bl := ⟨_, rfl⟩
      rw [hW2] at hP2 hL2 ⊢
      rw [hBl] at hL2 ⊢
      clear hW2 hBl
      go_loopg [] m1 (fun k wr2 => ∃ ps2 ys vo2 vl2, PvAt n w wr2 w.heap.size vo2 ps2 ∧ LfAt n w wr2 w.heap.size Bl vo2 vl2 ys ∧ iter (pairsIn I) k (ps2, ys) = some ps')
      case atStart => exact ⟨ps, left, _, _, hP2, hL2, hm1⟩
      case round =>
        clear hP2 hL2
        obtain ⟨ps2, ys, vo2, vl2, hP, hL, hit2⟩ := hrel
        cases gk with
        | zero => cases hit2
        | succ gk2 =>
        simp only [iter, pairsIn] at hit2
        by_cases hy : 0 < ys.length
        · rw [bif_pos' hy] at hit2
          cases hb2 : decide (2 ≤ ys.length) && decide ((ps2.length + 1) * 32 ≤ 140737488355328) with
          | false => rw [hb2] at hit2; cases hit2
          | true =>
          rw [hb2] at hit2
          simp only [Bool.and_eq_true, decide_eq_true_eq] at hb2
          obtain ⟨hy2, hsz⟩ := hb2
          simp only [cond_true] at hit2
          cases hI1 : I (ys.drop 1) ys ps2 with
          | none => rw [hI1] at hit2; cases hit2
          | some r1 =>
          rw [hI1] at hit2
          simp only [Option.bind_some] at hit2
          cases hb3 : decide (0 ≤ 1 + r1) && decide (1 + r1 < (ys.length : Int)) with
          | false => rw [hb3] at hit2; cases hit2
          | true =>
          rw [hb3] at hit2
          simp only [Bool.and_eq_true, decide_eq_true_eq] at hb3
          obtain ⟨h0k, hkl⟩ := hb3
          simp only [cond_true] at hit2
          obtain ⟨K, hK⟩ := Int.eq_ofNat_of_zero_le h0k
          rw [hK] at hit2 hkl
          have hKn : K < ys.length := Int.ofNat_lt.1 hkl
          rcases hL.row with ⟨_, h⟩ | ⟨g, off, c, cur, rfl, hg1, hg2, hg3, hg4, hg5, hg6, hg7, hg8, hg9⟩
          · rw [h] at hy; simp at hy
          obtain ⟨A3, c3, rfl⟩ := row_slice hP.own
          obtain ⟨hcl, hfl⟩ := box_cell hL.box
          obtain ⟨hco, hfo⟩ := box_cell hP.box
          have k1 : 1 ≤ ys.length := hy
          have k2 : (1 : Int) ≤ (ys.length : Int) := by omega
          have k3 : 1 ≤ c := by omega
          have k4 : ¬ (c = 1) := by omega
          have k5 : (0 : Int) < (ys.length : Int) := by omega
          obtain ⟨hwK, hwK1⟩ := wrap_small hKn hg6 hg7
          have hlt1 := lt_of_heap hL.box
          have hlt2 := lt_of_heap hP.box
          have hs2 := row_shows hg5 hg6 hg7 hg9
          have hs1 : ShowsAt wr (.slice (some ⟨g, off + 2, none⟩) (ys.length - 1) (c - 1)) (ys.drop 1).length ((ys.drop 1).flatMap (cellsOf AngT)) := by
            have := row_shows (off := off + 2) (c := c - 1) (ys := ys.drop 1) hg5 (by rw [List.length_drop]; omega) (by omega) (by
              rw [cells_drop, ← hg9, List.drop_take, List.drop_drop, List.length_drop, Nat.sub_mul])
            rw [List.length_drop] at this ⊢
            exact this
          have cI1 := cI (ys.drop 1) ys ps2 r1 hI1 wr _ _ _ Bl w.heap.size hs1 hcl hs2 hco (own_shows hP.own) hlt1 hlt2
          clear cI cA
          go_wp2_with (go_at_fn n.fI; refine cI1.mono ?_; rintro e W3 ⟨rfl, hx3⟩)
          have hP3 := hP.frame hx3
          have hL3 := hL.frame hx3
          have hg53 : W3.heap[g]? = some (.cells cur n.TAe (0, 0)) := (hx3.block g (lt_of_heap hg5) (fun h => h)).trans hg5
          clear hP hL hx3 hs1 hs2 cI1 hcl hfl hco hfo hg5
          obtain ⟨hcl, hfl⟩ := box_cell hL3.box
          obtain ⟨hco, hfo⟩ := box_cell hP3.box
          have hcell : ∀ i, i < ys.length → W3.cell? ⟨g, off + i * 2, none⟩ = some (.int .i64 (ys.getD i (0, 0, ())).1) ∧ W3.cell? ⟨g, off + i * 2 + 1, none⟩ = some (.int .i64 (ys.getD i (0, 0, ())).2.1) := by
            intro i hi
            obtain ⟨q1, q2⟩ := ang_at hi
            rw [← hg9, List.getElem?_take] at q1 q2
            rw [if_pos (by omega), List.getElem?_drop] at q1 q2
            simp only [World.cell?, hg53]
            exact ⟨by simpa using q1, by simpa [Nat.add_assoc] using q2⟩
          obtain ⟨c00, c01⟩ := hcell 0 hy
          obtain ⟨ck0, ck1⟩ := hcell K hKn
          simp only [Nat.zero_mul, Nat.add_zero] at c00 c01
          clear hcell
          obtain ⟨a, hya⟩ : ∃ a, ys.getD 0 (0, 0, ()) = a := ⟨_, rfl⟩
          obtain ⟨b, hyb⟩ : ∃ b, ys.getD K (0, 0, ()) = b := ⟨_, rfl⟩
          rw [hya] at c00 c01
          rw [hyb] at ck0 ck1
          obtain ⟨W4, hW4⟩ : ∃ W4, (W3.alloc (.cells #[.int .i64 a.1, .int .i64 a.2.1, .int .i64 b.1, .int .i64 b.2.1] n.TPe)).drew = W4 := ⟨_, rfl⟩
          have hx4 : Ext W3 W4 (fun _ => False) := hW4 ▸ Ext.drewAlloc W3 _
          have hP4 := hP3.frame hx4
          have hL4 := hL3.frame hx4
          have hs4 : W3.heap.size < W4.heap.size := by rw [← hW4]; simp
          obtain ⟨hco4, hfo4⟩ := box_cell hP4.box
          have hNB : W4.heap[W3.heap.size]? = some (.cells #[.int .i64 a.1, .int .i64 a.2.1, .int .i64 b.1, .int .i64 b.2.1] n.TPe) := by rw [← hW4]; exact World.alloc_heap_new W3 _
          have hmx : ps2.length + 1 ≤ maxLen := by simp only [maxLen]; omega
          obtain ⟨v5, W5, hrun, r1o, r2o, _, r3o⟩ := Go.run_append_own_at (P := P) W4 w.heap.size n.TP n.TP n.TPe iP zP' 4 32 tP hiP hzP0 hzP1 hzP2 hzPc (by omega) _ ps2.length _ hP4.own ⟨W3.heap.size, 0, none⟩ 1 1 [.int .i64 a.1, .int .i64 a.2.1, .int .i64 b.1, .int .i64 b.2.1] rfl (fun j u hj => by
            rw [add_mem]
            simp only [World.cell?, hNB]
            simpa using hj) (by simp [Value.oneCell']) hmx hsz hP4.ext.size
          obtain ⟨A5, c5, rfl⟩ := row_slice r1o
          have hP6 := pv_step (pr := (a, b, ())) hP4 r1o r2o r3o (run_drawn hrun)
          have hblk : ∀ x, x < W4.heap.size → (Value.slice A3 ps2.length c3).ownBlock ≠ some x → W5.heap[x]? = W4.heap[x]? := fun x hx hne => r2o.block x hx (fun e => hne e.symm)
          have hne5 : ∀ x, x < W4.heap.size → (Value.slice A3 ps2.length c3).ownBlock ≠ some x → (Value.slice A5 (ps2.length + 1) c5).ownBlock ≠ some x := fun x hx hne e => by
            rcases r3o with r3 | r3
            · exact hne (r3 ▸ e)
            · rw [r3] at e; simp only [Option.some.injEq] at e; omega
          have hbo5 := (hblk w.heap.size (lt_of_heap hP4.box) hP4.ne).trans hP4.box
          obtain ⟨hco5, hfo5⟩ := box_cell hbo5
          have hBl5 := (hblk Bl (lt_of_heap hL4.box) hL4.vBl).trans hL4.box
          have hg54 : W4.heap[g]? = some (.cells cur n.TAe (0, 0)) := (hx4.block g (lt_of_heap hg53) (fun h => h)).trans hg53
          have hg55 := (hblk g (lt_of_heap hg54) hg4).trans hg54
          have hco3 := hco; have hcl3 := hcl
          obtain ⟨hcl4, hfl4⟩ := box_cell hL4.box
          have cc : ∀ x, g = g → W4.cell? ⟨g, x, none⟩ = W3.cell? ⟨g, x, none⟩ := fun x _ => by simp only [World.cell?, hg54, hg53]
          have c400 := (cc off rfl).trans c00
          have c401 := (cc (off + 1) rfl).trans c01
          have c4k0 := (cc (off + K * 2) rfl).trans ck0
          have c4k1 := (cc (off + K * 2 + 1) rfl).trans ck1
          clear cc
          rw [hwK]
          refine wp_two (fun a' w' => ∃ x14 x15 x16 x17 x18 x19 x20 x21 x22 x23 x24 x25 x26 x27 x28 x29 x30 x31 x32 x33 x34 x35 x36 x37 x38 : Value, a' = { tmps := ((.int .i64 N) :: (undef) :: (.slice none 0 0) :: (.pointer (some ⟨w.heap.size, 0, none⟩)) :: (.int .i64 p) :: (.pointer (some ⟨Bl, 0, none⟩)) :: (.int .i64 K) :: (.int .i64 p) :: (.int .i64 N) :: (.bool true) :: (u10) :: (u11) :: (.int .i64 p) :: (.slice A0 left.length c0) :: x14 :: x15 :: x16 :: x17 :: x18 :: x19 :: x20 :: x21 :: x22 :: x23 :: x24 :: x25 :: x26 :: x27 :: x28 :: x29 :: x30 :: x31 :: x32 :: x33 :: x34 :: x35 :: x36 :: x37 :: x38 :: (undef) :: []).toArray, defers := [] } ∧ w' = W5.setCell ⟨w.heap.size, 0, none⟩ (.slice A5 (ps2.length + 1) c5)) ?_ ?_
          · refine region8 mixed tA aA zA zAe tP aP zP aAe vAe aPe zPe vPe f1 f2 uPe hf1 hf2 hf3 hf4 k5 hkl hy hKn hco hcl c00 c01 ck0 ck1 hW4 hco4 hrun hco5 hfo5 ?_
            intro y22 y23 y24 y25 y26 y27 y28 y29 y30 y31 y32
            exact ⟨_, _, _, _, _, _, _, _, _, _, _, _, _, _, _, _, _, _, _, _, _, _, _, _, _, rfl, rfl⟩
          rintro _ _ ⟨x14, x15, x16, x17, x18, x19, x20, x21, x22, x23, x24, x25, x26, x27, x28, x29, x30, x31, x32, x33, x34, x35, x36, x37, x38, rfl, rfl⟩
          obtain ⟨W6, hW6⟩ : ∃ W6, W5.setCell ⟨w.heap.size, 0, none⟩ (.slice A5 (ps2.length + 1) c5) = W6 := ⟨_, rfl⟩
          have hBl6 : W6.heap[Bl]? = some (.cells #[.slice (some ⟨g, off, none⟩) ys.length c] n.TA (0, 0)) := by rw [← hW6, setCell_other (by exact hL4.nBl)]; exact hBl5
          have hg6' : W6.heap[g]? = some (.cells cur n.TAe (0, 0)) := by rw [← hW6, setCell_other (by exact hg2)]; exact hg55
          rw [hW6] at hP6 ⊢
          obtain ⟨hcl6, hfl6⟩ := box_cell hBl6
          obtain ⟨news, hnews⟩ : ∃ news, (cur.toList.drop (off + (K + 1) * 2)).take ((ys.length - (K + 1)) * 2) = news := ⟨_, rfl⟩
          obtain ⟨RA, hRA⟩ : ∃ RA, (cur.toList.take (off + K * 2) ++ news ++ cur.toList.drop (off + K * 2 + news.length)).toArray = RA := ⟨_, rfl⟩
          have hone : ∀ u ∈ news, u.oneCell' = true := by
            intro u hu
            have h1 : u ∈ ys.flatMap (cellsOf AngT) := by
              rw [← hg9]
              rw [← hnews] at hu
              have : u ∈ List.drop ((K + 1) * 2) (List.take (ys.length * 2) (List.drop off cur.toList)) := by
                rw [List.drop_take, List.drop_drop, ← Nat.sub_mul]
                exact hu
              exact List.mem_of_mem_drop this
            obtain ⟨y, _, h2⟩ := List.mem_flatMap.1 h1
            exact plain_one rfl u h2
          have cD : Calls P n.fD #[.slice (some ⟨g, off, none⟩) ys.length c, .int .i64 K, .int .i64 ((K : Int) + 1)] W6 _ := cD0 W6 g off ys.length c cur RA news hg6' (by omega) hg6 hg7 K hKn hone hnews hRA
          obtain ⟨RB, hRB⟩ : ∃ RB, (RA.toList.take (off + (ys.length - 1) * 2) ++ [Value.int .i64 0, Value.int .i64 0] ++ RA.toList.drop (off + (ys.length - 1) * 2 + 2)).toArray = RB := ⟨_, rfl⟩
          have h7 : ∀ W7, W7 = (W6.drew.setRow g RA).setRow g (RA.toList.take (off + (ys.length - 1) * 2) ++ [Value.int .i64 0, Value.int .i64 0] ++ RA.toList.drop (off + (ys.length - 1) * 2 + 2)).toArray →
              (∀ b, b ≠ g → W7.heap[b]? = W6.heap[b]?) ∧ W7.heap[g]? = some (.cells RB n.TAe (0, 0)) ∧ W7.os = W6.os ∧ W7.tape = W6.tape ∧ W7.output = W6.output ∧ W7.heap.size = W6.heap.size ∧ W6.drawn ≤ W7.drawn := by
            rintro W7 rfl
            rw [hRB]
            refine ⟨fun b hb => ?_, setRow_heap _ g RA _ n.TAe (0, 0) (setRow_heap W6.drew g cur _ n.TAe (0, 0) hg6'), rfl, rfl, rfl, ?_, Nat.le_succ _⟩
            · rw [setRow_other _ g b _ hb, setRow_other _ g b _ hb]; rfl
            · rw [setRow_size, setRow_size]; rfl
          have hlenC : off + ys.length * 2 ≤ cur.toList.length := by rw [Array.length_toList]; exact Nat.le_trans (Nat.add_le_add_left (Nat.mul_le_mul_right 2 hg6) off) hg8
          have hdel := del_row cur.toList (ys.flatMap (cellsOf AngT)) news RA.toList RB.toList [Value.int .i64 0, Value.int .i64 0] off ys.length K hKn hlenC hg9 rfl hnews (by rw [← hRA]) (by rw [← hRB])
          have m1 : 1 ≤ ys.length - 1 := by omega
          have m2 : (1 : Int) ≤ ((ys.length - 1 : Nat) : Int) := by omega
          clear hone hnews hRA
          (try simp only [Exit.then])
          go_wp2_with (go_at_fn n.fD; rw [hwK1]; refine cD.mono ?_; rintro e W7 ⟨rfl, hW7⟩; obtain ⟨w1, w2, w3, w4, w5, w6, w7⟩ := h7 W7 hW7; clear hW7 h7 cD; have hBl7 := (w1 Bl (Ne.symm hg3)).trans hBl6; obtain ⟨hcl7, hfl7⟩ := box_cell hBl7)
          go_roundg gk2
          case measure => omega
          case rel =>
            have hsz8 : ∀ v, (W7.setCell ⟨Bl, 0, none⟩ v).heap.size = W7.heap.size := fun v => by simp [World.setCell]
            have hb8 : ∀ v b, b ≠ g → b ≠ Bl → (W7.setCell ⟨Bl, 0, none⟩ v).heap[b]? = W6.heap[b]? := fun v b h1 h2 => by rw [setCell_other (by exact h2)]; exact w1 b h1
            have hvg : (Value.slice A5 (ps2.length + 1) c5).ownBlock ≠ some g := hne5 g (lt_of_heap hg54) hg4
            have hvl : (Value.slice A5 (ps2.length + 1) c5).ownBlock ≠ some Bl := hne5 Bl (lt_of_heap hL4.box) hL4.vBl
            have hP8 := hP6.other (W' := W7.setCell ⟨Bl, 0, none⟩ (.slice (some ⟨g, off + 2, none⟩) (ys.length - 1 - 1) (c - 1))) hg1 hL4.hBl hg2 hL4.nBl hvg hvl w3 w4 w5 (by rw [hsz8, w6]; exact Nat.le_refl _) (hb8 _) w7
            have hl8 : ((ys.eraseIdx K).drop 1).length = ys.length - 1 - 1 := by rw [List.length_drop, List.length_eraseIdx, if_pos hKn]
            have hit3 : iter (pairsIn I) gk2 (ps2 ++ [(a, b, ())], (ys.eraseIdx K).drop 1) = some ps' := by
              have e := hit2
              rw [Int.toNat_natCast, hya, hyb] at e
              exact e
            refine ⟨_, _, _, _, hP8, ⟨hL4.hBl, hL4.nBl, hvl, setCell_box hBl7, .inr ⟨g, off + 2, c - 1, RB, by rw [hl8], hg1, hg2, hg3, hvg, ?_, by rw [hl8]; omega, by omega, ?_, ?_⟩⟩, hit3⟩
            · rw [setCell_other (by exact hg3)]; exact w2
            · have := hdel.2
              rw [Array.length_toList, Array.length_toList] at this
              rw [this]; omega
            · rw [hl8, ← List.drop_drop, cells_drop, erase_cells, ← hdel.1, List.drop_take]
              congr 1; omega
        · rw [bif_neg' hy] at hit2
          simp only [Option.some.injEq] at hit2
          subst hit2
          have hy0 : ys = [] := List.length_eq_zero_iff.1 (by omega)
          subst hy0
          obtain ⟨A2, c2, rfl⟩ : ∃ A c, vl2 = .slice A 0 c := by
            rcases hL.row with ⟨h, _⟩ | ⟨g, off, c, cur, h, _⟩
            · exact ⟨_, _, h⟩
            · exact ⟨_, _, h⟩
          obtain ⟨hcl, hfl⟩ := box_cell hL.box
          go_wp2
          go_roundg gk'
          case measure => omega
          case rel => exact ⟨wr64 (p + 1), ps2, vo2, by unfold wr64 wrap64; rw [IntKind.wrap_i64], hP, hit⟩
    · rw [bif_neg' hpN] at hit
      simp only [Option.some.injEq] at hit
      subst hit
      obtain ⟨hc, hfz⟩ := box_cell hP.box
      go_wp2
      (try simp only [Exit.inBlock, Exit.then]); refine bodyPost_ret (results_tmp hres _ _ _) rfl ?_
      exact ⟨vo, rfl, hP.own, hP.ext⟩
theorem pairs_is {P : Program} {n : PN} {f : Nat} {fc fD : Func} {q52 q53 q54 q55 q56 q57 q61 q62 q65 s224 s225 s227 s228 s231 s232 s233 s234 : String} (L : PrTy P n) (hf : P.funcs[f]? = some fc) (hb : fc.body = some (prCode q52 q53 q54 q55 q56 q57 q61 q62 q65 n)) (hname : (fc.name == "runtime.NumGoroutine") = false) (hnt : fc.ntmps = 40) (hres : fc.results = #[.tmp 2])
    (hfD : P.funcs[n.fD]? = some fD) (hbD : fD.body = some (dlCode s224 s225 s227 s228 s231 s232 s233 s234 n.TA n.T3 n.T4)) (hnameD : (fD.name == "runtime.NumGoroutine") = false) (hntD : fD.ntmps = 33) (hresD : fD.results = #[.tmp 6])
    (hfA : ∃ fn, P.funcs[n.fA]? = some fn ∧ fn.body.isSome = true ∧ (fn.name == "runtime.NumGoroutine") = false) (hfI : ∃ fn, P.funcs[n.fI]? = some fn ∧ fn.body.isSome = true ∧ (fn.name == "runtime.NumGoroutine") = false)
    {A : Int → Option (List PAng)} {I : List PAng → List PAng → List PPr → Option Int} {φA φI : List Arg → Out (List Arg × List Arg)}
    (hA : FnIs P n.fA (modeOf []) φA) (hφA : ∀ p xs, A p = some xs → (φA [.v (.int .i64) .fr p]).run = some ([.v (.sl n.TAe AngT) (.own .fr) xs], []))
    (hI : FnIs P n.fI (modeOf []) φI) (hφI : ∀ xs ys ps r, I xs ys ps = some r → (φI [.v (.sl n.TAe AngT) .fr xs, .fn n.fC [] [.v (.ptr (.sl n.TAe AngT)) .fr ys, .v (.ptr (.sl n.TPe PrT)) .fr ps]]).run = some ([.v (.int .i64) .fr r], [])) :
    FnIs P f (modeOf []) (phi [⟨[.v (.int .i64) .fr], List PPr, fun v => pairsOf A I v.1, fun r => ([.v (.sl n.TPe PrT) (.own .fr) r], [])⟩]) := by
  have en : ∀ g, (∃ fn, P.funcs[g]? = some fn ∧ fn.body.isSome = true ∧ (fn.name == "runtime.NumGoroutine") = false) → ∀ args w, (callFunc g args).run P w = .ok (.enter g args) w := by
    rintro g ⟨fn, h1, h2, h3⟩ args w
    obtain ⟨c, hc⟩ := Option.isSome_iff_exists.1 h2
    exact callFunc_enter h1 h3 hc args w
  intro args res fin h
  refine ⟨⟨fc, hf, by rw [hb]; rfl, hname⟩, fun w Z Fo vs hAr hZ hF => ?_⟩
  simp only [phi] at h
  split at h
  rotate_left
  · cases h
  rename_i v hv
  obtain ⟨N, u⟩ := v
  have hargs := decL_ok hv
  subst hargs
  simp only [Out.run] at h
  cases hp : pairsOf A I N with
  | none => rw [hp] at h; cases h
  | some r =>
  rw [hp] at h
  simp only [Option.bind_some, Out.run, Option.some.injEq, Prod.mk.injEq] at h
  obtain ⟨rfl, rfl⟩ := h
  obtain ⟨V, Vs, F1, F2, rfl, q1, ⟨rfl, hF2⟩, j⟩ := hAr
  have hV := VRep.int (by simp) q1
  subst hV
  have key := pairs_calls L hf hb hnt hres (en _ hfA) (en _ hfI) (en _ ⟨fD, hfD, by rw [hbD]; rfl, hnameD⟩) (fun p xs h W => angles_calls hA hφA p xs h W) (fun xs ys ps r h W V1 V2 V3 Bl Bo h1 h2 h3 h4 h5 h6 h7 => index_calls hI hφI xs ys ps r h W V1 V2 V3 Bl Bo h1 h2 h3 h4 h5 h6 h7)
    (fun w b o m c cur A news h1 h2 h3 h4 i h5 h6 h7 h8 => delete_calls L.A hfD hbD hntD hresD w b o m c cur A news h1 h2 h3 h4 i h5 h6 h7 h8) N r hp w
  rw [muts_nil]
  refine key.mono ?_
  rintro e w' ⟨v, rfl, hrow, hx⟩
  have hlt := hrow.lt
  obtain ⟨A0, c0, rfl⟩ := row_slice hrow
  refine ⟨Z, fun b => (Value.slice A0 r.length c0).ownBlock = some b, fun _ => False, [.slice A0 r.length c0], ⟨hx.os, hx.tape, hx.output, hx.size, fun b hb _ => hx.block b hb (fun h => h), hx.drawn⟩, fun b h => h, fun b h => ⟨Nat.lt_of_lt_of_le (hZ b h) hx.size, .inl h⟩, .inl ⟨rfl, rfl⟩, ?_, ⟨rfl, fun _ h => h⟩, ?_, fun b _ h => h⟩
  · refine ⟨_, _, fun b => (Value.slice A0 r.length c0).ownBlock = some b, fun _ => False, rfl, ⟨⟨_, _, fun _ => False, by simp [Value.cells], ownsRow_base0 hrow, elems_of_plain (e := PrT) rfl r, fun b => by simp, fun b _ h => h⟩, by simp [Ty.isAgg]⟩, ⟨rfl, fun _ h => h⟩, fun b => by simp, fun b _ h => h⟩
  · rintro b (hb | hb)
    · obtain ⟨l1, l2⟩ := hlt b hb
      exact ⟨fun hz => by have := hZ b hz; omega, l2, .inr l1⟩
    · exact hb.elim
end
end Go.K

/- K, part S9: strings.Cut at one byte, strings.TrimSuffix. -/
set_option linter.unusedVariables false
set_option linter.unusedSimpArgs false
namespace Go.K
open Go.Shelf Go.Proofs Go.RowKit
set_option maxHeartbeats 2000000 in
set_option maxRecDepth 100000 in
theorem liteCut_one {P : Program} {ρ : Ren} (L : Lays.n220 P ρ) (s : ByteArray) (c : UInt8) (w : World) (hs : s.size < 4294967281) :
    Calls P (ρ.f 220) #[.string s, .string ⟨#[c]⟩] w fun e w' => e = .returned (.tuple #[.string ⟨(Lib.cut s.data.toList [c]).1.toArray⟩, .string ⟨(Lib.cut s.data.toList [c]).2.1.toArray⟩, .bool (Lib.cut s.data.toList [c]).2.2]) ∧ ∃ n, w' = w.drewN n := by
  have hone : Lib.index s.data.toList [c] = Lib.indexByte s.data.toList c := Lib.index_one _ _
  rcases Lib.indexB_cases s ⟨#[c]⟩ with hix | ⟨i, hix, hroom⟩
  · obtain ⟨e1, e2, e3⟩ := Lib.cutB_miss s ⟨#[c]⟩ hix
    show Calls P (ρ.f 220) #[.string s, .string ⟨#[c]⟩] w fun e w' => e = .returned (.tuple #[.string ⟨(Lib.cut s.data.toList (⟨#[c]⟩ : ByteArray).data.toList).1.toArray⟩, .string ⟨(Lib.cut s.data.toList (⟨#[c]⟩ : ByteArray).data.toList).2.1.toArray⟩, .bool (Lib.cut s.data.toList (⟨#[c]⟩ : ByteArray).data.toList).2.2]) ∧ ∃ n, w' = w.drewN n
    rw [e1, e2, e3]
    have t3 := L.t3; have t4 := L.t4; have t9 := L.t9
    have a3 : ∀ w, (isAgg (ρ.t 3)).run P w = .ok false w := run_isAgg_plain L.t3 rfl; have a4 : ∀ w, (isAgg (ρ.t 4)).run P w = .ok false w := run_isAgg_plain L.t4 rfl; have a9 : ∀ w, (isAgg (ρ.t 9)).run P w = .ok false w := run_isAgg_plain L.t9 rfl
    have e219 : ∀ args w, (callFunc (ρ.f 219) args).run P w = .ok (.enter (ρ.f 219) args) w := enters_of L.f219 (by kernel_rfl) rfl
    have mixed := L.mixed; have z3 := L.z3; have v3 := L.v3; have z4 := L.z4; have v4 := L.v4; have z9 := L.z9; have v9 := L.v9
    go_enter L.f220, Body.n220_ntmps ρ
    go_wp2_with (go_at_fn (ρ.f 219); refine (Any.stringslite_Index_one { L with } _ _ _).mono ?_; rintro e w' ⟨rfl, rfl⟩; rw [← hone, show Lib.index s.data.toList [c] = _ from hix])
    go_ret3
    exact ⟨rfl, 0, rfl⟩
  · obtain ⟨e1, e2, e3⟩ := Lib.cutB_hit s ⟨#[c]⟩ i hix
    show Calls P (ρ.f 220) #[.string s, .string ⟨#[c]⟩] w fun e w' => e = .returned (.tuple #[.string ⟨(Lib.cut s.data.toList (⟨#[c]⟩ : ByteArray).data.toList).1.toArray⟩, .string ⟨(Lib.cut s.data.toList (⟨#[c]⟩ : ByteArray).data.toList).2.1.toArray⟩, .bool (Lib.cut s.data.toList (⟨#[c]⟩ : ByteArray).data.toList).2.2]) ∧ ∃ n, w' = w.drewN n
    rw [e1, e2, e3]
    have c1 : (0 : Int) ≤ ↑i := by omega
    have c2 : (↑i : Int) ≤ ↑s.size := by omega
    have hz : (⟨#[c]⟩ : ByteArray).size = 1 := rfl
    rw [hz] at hroom
    rw [hz]
    have c3 : (0 : Int) ≤ ↑i + 1 := by omega
    have c4 : (↑i + 1 : Int) ≤ ↑s.size := by omega
    have t3 := L.t3; have t4 := L.t4; have t9 := L.t9
    have a3 : ∀ w, (isAgg (ρ.t 3)).run P w = .ok false w := run_isAgg_plain L.t3 rfl; have a4 : ∀ w, (isAgg (ρ.t 4)).run P w = .ok false w := run_isAgg_plain L.t4 rfl; have a9 : ∀ w, (isAgg (ρ.t 9)).run P w = .ok false w := run_isAgg_plain L.t9 rfl
    have e219 : ∀ args w, (callFunc (ρ.f 219) args).run P w = .ok (.enter (ρ.f 219) args) w := enters_of L.f219 (by kernel_rfl) rfl
    have mixed := L.mixed; have z3 := L.z3; have v3 := L.v3; have z4 := L.z4; have v4 := L.v4; have z9 := L.z9; have v9 := L.v9
    go_enter L.f220, Body.n220_ntmps ρ
    go_wp2_with (go_at_fn (ρ.f 219); refine (Any.stringslite_Index_one { L with } _ _ _).mono ?_; rintro e w' ⟨rfl, rfl⟩; rw [← hone, show Lib.index s.data.toList [c] = _ from hix])
    go_region_o
    go_wp2
    go_ret3
    exact ⟨rfl, 1, rfl⟩
set_option maxHeartbeats 1000000 in
theorem cut_one {P : Program} {ρ : Ren} (L : Lays.n145 P ρ) (s : ByteArray) (c : UInt8) (w : World) (hs : s.size < 4294967281) :
    Calls P (ρ.f 145) #[.string s, .string ⟨#[c]⟩] w fun e w' => e = .returned (.tuple #[.string ⟨(Lib.cut s.data.toList [c]).1.toArray⟩, .string ⟨(Lib.cut s.data.toList [c]).2.1.toArray⟩, .bool (Lib.cut s.data.toList [c]).2.2]) ∧ ∃ n, w' = w.drewN n := by
  have t4 := L.t4; have t9 := L.t9; have t59 := L.t59
  have a4 : ∀ w, (isAgg (ρ.t 4)).run P w = .ok false w := run_isAgg_plain L.t4 rfl; have a9 : ∀ w, (isAgg (ρ.t 9)).run P w = .ok false w := run_isAgg_plain L.t9 rfl; have a59 : ∀ w, (isAgg (ρ.t 59)).run P w = .ok false w := run_isAgg_plain L.t59 rfl
  have e220 : ∀ args w, (callFunc (ρ.f 220) args).run P w = .ok (.enter (ρ.f 220) args) w := enters_of L.f220 (by kernel_rfl) rfl
  have mixed := L.mixed; have z4 := L.z4; have v4 := L.v4; have z9 := L.z9; have v9 := L.v9; have z59 := L.z59; have v59 := L.v59
  go_enter L.f145, Body.n145_ntmps ρ
  go_wp2_with (go_at_fn (ρ.f 220); refine (liteCut_one { L with } _ _ _ hs).mono ?_; rintro e w' ⟨rfl, n, rfl⟩)
  go_ret3
  exact ⟨rfl, n, rfl⟩
theorem drewN_below (w : World) (n : Nat) : Below w.heap.size w (w.drewN n) := ⟨rfl, rfl, rfl, Nat.le_refl _, fun _ _ => rfl⟩
/-- strings.Cut at one byte. -/
def cutOf (s sub : List UInt8) : Option (List UInt8 × List UInt8 × Bool) := match sub with | [c] => (bif decide (s.length < 4294967281) then some (Lib.cut s [c]) else none) | _ => none
def cutS : Spec := ⟨[.v .str .fr, .v .str .fr], List UInt8 × List UInt8 × Bool, fun v => cutOf v.1 v.2.1, fun r => ([.v .str .fr r.1, .v .str .fr r.2.1, .v .bool .fr r.2.2], [])⟩
theorem cut_calls {P : Program} {ρ : Ren} (L : Lays.n145 P ρ) (s sub : List UInt8) (y : List UInt8 × List UInt8 × Bool) (w : World) (h : cutOf s sub = some y) :
    Calls P (ρ.f 145) #[.string ⟨s.toArray⟩, .string ⟨sub.toArray⟩] w fun e w' => e = .returned (.tuple #[.string ⟨y.1.toArray⟩, .string ⟨y.2.1.toArray⟩, .bool y.2.2]) ∧ Below w.heap.size w w' := by
  unfold cutOf at h
  split at h
  · rename_i c
    cases hd : decide (s.length < 4294967281) with
    | false => rw [hd] at h; cases h
    | true =>
      rw [hd] at h
      simp only [cond_true, Option.some.injEq] at h
      subst h
      refine (cut_one L ⟨s.toArray⟩ c w (by simpa [ByteArray.size] using hd)).mono ?_
      rintro e w' ⟨rfl, n, rfl⟩
      exact ⟨rfl, drewN_below w n⟩
  · cases h
theorem cut_is {P : Program} {ρ : Ren} (L : Lays.n145 P ρ) (hfn : ∃ fn, P.funcs[ρ.f 145]? = some fn ∧ fn.body.isSome = true ∧ (fn.name == "runtime.NumGoroutine") = false)
    : @FnIs drZ P (ρ.f 145) (modeOf []) (phi [cutS]) :=
  @flatG_is drZ P (ρ.f 145) [.str, .str] (List UInt8 × List UInt8 × Bool) (fun v => cutOf v.1 v.2.1) (fun r => ([.v .str .fr r.1, .v .str .fr r.2.1, .v .bool .fr r.2.2], [])) (fun r => [sval .str r.1, sval .str r.2.1, sval .bool r.2.2]) rfl
    (fun y => ⟨[.str, .str, .bool], show denL (frs [.str, .str, .bool]) from (show List UInt8 × List UInt8 × Bool × Unit from (y.1, y.2.1, y.2.2, ())), rfl, rfl, rfl⟩) hfn (by
    rintro ⟨s, sub, _⟩ y w h
    refine (cut_calls L s sub y w h).mono ?_
    rintro e w' ⟨rfl, hb⟩
    exact ⟨rfl, hb, trivial⟩)
/-! strings.TrimSuffix -/
def trimOf (s p : List UInt8) : Option (List UInt8) := bif decide (s.length ≤ 4294967281) then some (Lib.trimSuffix s p) else none
def trimS : Spec := ⟨[.v .str .fr, .v .str .fr], List UInt8, fun v => trimOf v.1 v.2.1, fun r => ([.v .str .fr r], [])⟩
theorem trim_calls {P : Program} {ρ : Ren} (L : Lays.n102 P ρ) (s p y : List UInt8) (w : World) (h : trimOf s p = some y) :
    Calls P (ρ.f 102) #[.string ⟨s.toArray⟩, .string ⟨p.toArray⟩] w fun e w' => e = .returned (.string ⟨y.toArray⟩) ∧ w' = w := by
  unfold trimOf at h
  cases hd : decide (s.length ≤ 4294967281) with
  | false => rw [hd] at h; cases h
  | true =>
    rw [hd] at h
    simp only [cond_true, Option.some.injEq] at h
    subst h
    have hd' : s.length ≤ 4294967281 := of_decide_eq_true hd
    exact Any.strings_TrimSuffix L ⟨s.toArray⟩ ⟨p.toArray⟩ w (by
      show s.toArray.size ≤ _
      rw [List.size_toArray]; omega)
theorem trim_is {P : Program} {ρ : Ren} (L : Lays.n102 P ρ) (hfn : ∃ fn, P.funcs[ρ.f 102]? = some fn ∧ fn.body.isSome = true ∧ (fn.name == "runtime.NumGoroutine") = false)
    : @FnIs drZ P (ρ.f 102) (modeOf []) (phi [trimS]) :=
  @flat1_is drZ P (ρ.f 102) [.str, .str] .str (fun v => trimOf v.1 v.2.1) rfl rfl hfn (by
    rintro ⟨s, sub, _⟩ y w h
    refine (trim_calls L s sub y w h).mono ?_
    rintro e w' ⟨rfl, rfl⟩
    exact ⟨rfl, Below.refl _ _, trivial⟩)
/-! strings.IndexByte -/
def ixOf (s : List UInt8) (c : Int) : Option Int := some (Lib.indexByte s c.toNat.toUInt8)
def ixS : Spec := ⟨[.v .str .fr, .v (.int .u8) .fr], Int, fun v => ixOf v.1 v.2.1, fun r => ([.v (.int .i64) .fr r], [])⟩
theorem ix_calls {P : Program} {ρ : Ren} (L : Lays.n137 P ρ) (s : List UInt8) (c y : Int) (w : World) (h : ixOf s c = some y) :
    Calls P (ρ.f 137) #[.string ⟨s.toArray⟩, .int .u8 c] w fun e w' => e = .returned (.int .i64 y) ∧ w' = w := by
  unfold ixOf at h
  simp only [Option.some.injEq] at h
  subst h
  exact Any.strings_IndexByte L ⟨s.toArray⟩ c w
theorem ix_is {P : Program} {ρ : Ren} (L : Lays.n137 P ρ) (hfn : ∃ fn, P.funcs[ρ.f 137]? = some fn ∧ fn.body.isSome = true ∧ (fn.name == "runtime.NumGoroutine") = false)
    : @FnIs drZ P (ρ.f 137) (modeOf []) (phi [ixS]) :=
  @flat1_is drZ P (ρ.f 137) [.str, .int .u8] (.int .i64) (fun v => ixOf v.1 v.2.1) rfl rfl hfn (by
    rintro ⟨s, c, _⟩ y w h
    refine (ix_calls L s c y w h).mono ?_
    rintro e w' ⟨rfl, rfl⟩
    exact ⟨rfl, Below.refl _ _, trivial⟩)
end Go.K

