/- Part 3 of an evaluator of the language's code on plain values, with the proof that what it gives is what the code does; no condition. -/
import Derived.Test.YtnknjfjbihogoaaGreatK2
import Derived.MapKept
import Derived.WideKeyRuns
import Derived.ProofKit
set_option linter.all false
/- K, part Z: the call. -/
set_option linter.unusedVariables false
set_option linter.unusedSimpArgs false
namespace Go.K
variable [drI : Dr]
section
variable {P : Program} {X : FC} {B : Nat} {M Z0 : BSet} {w0 : World} {σ : St} {a : Act} {w : World} {Z : BSet} {F : Nat → BSet}

theorem distinct_nodup : ∀ {l : List Nat}, distinct l = true ↔ l.Nodup
  | [] => by simp [distinct]
  | a :: l => by simp [distinct, distinct_nodup (l := l)]
theorem freezeAll_ok : ∀ {rs : List Nat} {uf : Upd}, (freezeAll rs).val σ = some (some uf) → uf.map (·.1) = rs ∧ ∀ r s, (r, s) ∈ uf → (σ.at r).ver < s.ver ∧ ∃ t q x, (σ.at r).e = .val t (.own q) x ∧ q.whole = true ∧ s.e = .val t .fr x
  | [], uf, h => by
    simp only [freezeAll, Rd.val, Option.some.injEq] at h
    subst h
    exact ⟨rfl, by simp⟩
  | r :: rs, uf, h => by
    simp only [freezeAll, Rd.val] at h
    obtain ⟨u, h1, h2⟩ := Rd.bind_some h
    simp only [Rd.val, Option.some.injEq] at h2
    split at h2
    · rename_i u' t q x he
      split at h2
      · rename_i hq
        simp only [Option.some.injEq] at h2
        subst h2
        obtain ⟨h3, h4⟩ := freezeAll_ok h1
        refine ⟨by simp [h3], fun r' s hr => ?_⟩
        rcases List.mem_cons.1 hr with h5 | h5
        · cases h5
          exact ⟨Nat.lt_succ_self _, t, q, x, he, hq, rfl⟩
        · exact h4 r' s h5
      · cases h2
    · cases h2
/-- The borrows of what a pointer owns live on, where nothing is owned inside. -/
theorem ptr_refs {w w' : World} {t : Ty} {q q' : Ow} {x x' : t.den} {V : Value} (hq : q.clean = true) (hq' : q'.clean = true) (hV : ∃ g z, rootLoc V = .mem g z) :
    (∀ p win U, SRefOK w (.val (.ptr t) (.own q) x) V p win U → SRefOK w' (.val (.ptr t) (.own q') x') V p win U) ∧ (∀ p U, PRefOK w (.val (.ptr t) (.own q) x) V p U → PRefOK w' (.val (.ptr t) (.own q') x') V p U) := by
  obtain ⟨g, z, hroot⟩ := hV
  constructor
  · intro p win U h c2 hc2
    simp only [Ent.content, Option.some.injEq] at hc2
    subst hc2
    obtain ⟨h1, T, te, q2, xs, l, H, h2, _⟩ := h _ rfl
    obtain ⟨u', _, _, h3, _⟩ := clean_path (w := w) (w' := w') p (v := ⟨t, q, x⟩) (v' := ⟨t, q', x'⟩) rfl hq hq' h2
    simp [Ow.clean] at h3
  · intro p U h
    refine ⟨fun c2 hc2 => ?_, fun g f c2 hf => by cases hf⟩
    simp only [Ent.content, Option.some.injEq] at hc2
    subst hc2
    obtain ⟨h1, ⟨u, h2⟩, b', o', h3, h4⟩ := h.1 _ rfl
    obtain ⟨u', g1, _, _, _, g5, g6⟩ := clean_path (w := w) (w' := w') p (v := ⟨t, q, x⟩) (v' := ⟨t, q', x'⟩) rfl hq hq' h2
    rw [hroot] at h3
    exact ⟨g5 h1, ⟨u', g1⟩, b', o', by rw [hroot]; exact g6 _ _ _ h3, h4⟩
/-- An entry that comes back: its version is greater, or its borrows live on. -/
def BackOK (σ : St) (r : Nat) (s : Slot) : Prop := (σ.at r).ver < s.ver ∨ s.ver = (σ.at r).ver ∧ ∃ (t : Ty) (q0 q : Ow) (x0 x : t.den), (σ.at r).e = .val (.ptr t) (.own q0) x0 ∧ q0.clean = true ∧ s.e = .val (.ptr t) (.own q) x ∧ q.clean = true
theorem backVer_ok {r : Nat} {t : Ty} {q : Ow} {x : t.den} : BackOK σ r ⟨backVer (σ.at r).ver (σ.at r).e.flatPtr t q, .val t (.own q) x⟩ := by
  unfold BackOK backVer
  cases hf : (σ.at r).e.flatPtr with
  | none => exact .inl (Nat.lt_succ_self _)
  | some t0 =>
    simp only
    split
    · rename_i h
      obtain ⟨rfl, hq⟩ := h
      right
      refine ⟨rfl, ?_⟩
      unfold Ent.flatPtr at hf
      split at hf
      · rename_i t1 q0 x0 he
        split at hf
        · rename_i hq0
          simp only [Option.some.injEq] at hf
          subst hf
          exact ⟨t1, q0, q, x0, x, he, hq0, rfl, hq⟩
        · cases hf
      · cases hf
    · exact .inl (Nat.lt_succ_self _)
theorem rdRoots_ok : ∀ {bs : List Nat} {ss : List (Nat × Option Ty)}, (rdRoots bs).val σ = some ss → ss = bs.map fun r => ((σ.at r).ver, (σ.at r).e.flatPtr)
  | [], ss, h => by simp only [rdRoots, Rd.val, Option.some.injEq] at h; exact h.symm
  | r :: bs, ss, h => by
    simp only [rdRoots, Rd.val] at h
    obtain ⟨ss', h1, h2⟩ := Rd.bind_some h
    simp only [Rd.val, Option.some.injEq] at h2
    rw [← h2, rdRoots_ok h1]; rfl
theorem putBack_ok {w' : World} {Z' : BSet} : ∀ {bs : List Nat} {fin : List Arg} {ub : Upd} {Fb : BSet}, putBack bs (bs.map fun r => ((σ.at r).ver, (σ.at r).e.flatPtr)) fin = some ub → bs.Nodup → ArgsRep w' Z' fin (bs.map (tm a)) Fb →
    ub.map (·.1) = bs ∧ ∃ G : Nat → BSet, (∀ r s, (r, s) ∈ ub → BackOK σ r s ∧ ∃ t q x, s.e = .val t (.own q) x ∧ VRep w' Z' t (.own q) x (tm a r) (G r)) ∧ (∀ r b, r ∈ bs → G r b → Fb b) ∧ ∀ r r' b, r ∈ bs → r' ∈ bs → G r b → G r' b → r = r'
  | [], [], ub, Fb, h, _, hr => by
    simp only [List.map_nil, putBack, Option.some.injEq] at h
    subst h
    exact ⟨rfl, fun _ _ => False, by simp, by simp, by simp⟩
  | [], _ :: _, ub, Fb, h, _, hr => by simp [putBack] at h
  | r :: bs, [], ub, Fb, h, _, hr => by simp [putBack] at h
  | r :: bs, x :: fin, ub, Fb, h, hn, hr => by
    simp only [List.map_cons] at h hr
    unfold putBack at h
    split at h
    · cases ‹_ :: _ = []›
    · rename_i r1 bs1 v1 ss1 t q y as e1 e2 e3
      simp only [List.cons.injEq] at e1 e2 e3
      obtain ⟨rfl, rfl⟩ := e1
      obtain ⟨rfl, rfl⟩ := e2
      obtain ⟨rfl, rfl⟩ := e3
      split at h
      · split at h
        · cases h
        · rename_i u hu
          simp only [Option.some.injEq] at h
          subst h
          obtain ⟨V, Vs, F1, F2, hV, h1, h2, j⟩ := hr
          simp only [List.cons.injEq] at hV
          obtain ⟨rfl, rfl⟩ := hV
          obtain ⟨hn1, hn2⟩ := List.nodup_cons.1 hn
          obtain ⟨g1, G, g2, g3, g4⟩ := putBack_ok hu hn2 h2
          refine ⟨by simp [g1], fun r' => if r' = r then F1 else G r', ?_, ?_, ?_⟩
          · intro r' s hr'
            rcases List.mem_cons.1 hr' with h5 | h5
            · cases h5
              refine ⟨backVer_ok, t, q, y, rfl, ?_⟩
              simp only [if_true]
              exact h1
            · have hm : r' ∈ bs := by rw [← g1]; exact List.mem_map.2 ⟨_, h5, rfl⟩
              have hne : r' ≠ r := fun e => hn1 (e ▸ hm)
              simp only [hne, if_false]
              exact g2 r' s h5
          · intro r' b hr' hb
            by_cases hne : r' = r
            · simp only [hne, if_true] at hb; exact j.left hb
            · simp only [hne, if_false] at hb
              exact j.right (g3 r' b ((List.mem_cons.1 hr').resolve_left hne) hb)
          · intro r1 r2 b hr1 hr2 hb1 hb2
            by_cases h1' : r1 = r <;> by_cases h2' : r2 = r
            · rw [h1', h2']
            · simp only [h1', if_true] at hb1
              simp only [h2', if_false] at hb2
              exact (j.2 b hb1 (g3 r2 b ((List.mem_cons.1 hr2).resolve_left h2') hb2)).elim
            · simp only [h2', if_true] at hb2
              simp only [h1', if_false] at hb1
              exact (j.2 b hb2 (g3 r1 b ((List.mem_cons.1 hr1).resolve_left h1') hb1)).elim
            · simp only [h1', if_false] at hb1
              simp only [h2', if_false] at hb2
              exact g4 r1 r2 b ((List.mem_cons.1 hr1).resolve_left h1') ((List.mem_cons.1 hr2).resolve_left h2') hb1 hb2
      · cases h
    · cases h
theorem Rep.flatZ {w : World} {Z Z2 : BSet} : ∀ {t : Ty} {q : Ow} {x : t.den} {cs : List Value} {Fo : BSet}, t.flat = true → Rep w Z t q x cs Fo → Rep w Z2 t q x cs Fo
  | .int k, q, x, cs, Fo, _, h => h
  | .bool, q, x, cs, Fo, _, h => h
  | .str, q, x, cs, Fo, _, h => h
  | .unit, q, x, cs, Fo, _, h => h
  | .pair t1 t2, q, x, cs, Fo, hf, h => by
    simp only [Ty.flat, Bool.and_eq_true] at hf
    obtain ⟨c1, c2, F1, F2, rfl, h1, h2, j⟩ := h
    exact ⟨c1, c2, F1, F2, rfl, h1.flatZ hf.1, h2.flatZ hf.2, j⟩
  | .arr n e, q, x, cs, Fo, hf, h => by
    rcases h with ⟨h1, h2, h3, h4⟩ | h
    · exact .inl ⟨h1, h2, h3.mono (fun _ _ _ h => h.flatZ hf), h4⟩
    · exact .inr h
  | .sl T e, q, x, cs, Fo, hf, h => by simp [Ty.flat] at hf
  | .ptr t, q, x, cs, Fo, hf, h => by simp [Ty.flat] at hf
  | .mp k v, q, x, cs, Fo, hf, h => by simp [Ty.flat] at hf
theorem Rep.ownZ {w : World} {Z Z2 : BSet} : ∀ {t : Ty} {q : Ow} {x : t.den} {cs : List Value} {Fo : BSet}, selfOwned t q = true → Rep w Z t q x cs Fo → Rep w Z2 t q x cs Fo
  | .int k, q, x, cs, Fo, _, h => h
  | .bool, q, x, cs, Fo, _, h => h
  | .str, q, x, cs, Fo, _, h => h
  | .unit, q, x, cs, Fo, _, h => h
  | .pair t1 t2, q, x, cs, Fo, hf, h => by
    simp only [selfOwned, Bool.and_eq_true] at hf
    obtain ⟨c1, c2, F1, F2, rfl, h1, h2, j⟩ := h
    exact ⟨c1, c2, F1, F2, rfl, h1.ownZ hf.1, h2.ownZ hf.2, j⟩
  | .arr n e, q, x, cs, Fo, hf, h => Rep.flatZ (t := .arr n e) (by simpa [selfOwned, Ty.flat] using hf) h
  | .sl T e, .own q, x, cs, Fo, hf, h => by
    obtain ⟨V', cells, Fe, h1, h2, h3, h4, h5⟩ := h
    exact ⟨V', cells, Fe, h1, h2, h3.mono (fun _ _ _ h => h.ownZ (by simpa [selfOwned] using hf)), h4, h5⟩
  | .ptr t, .own q, x, cs, Fo, hf, h => by
    obtain ⟨g, cur, T, Fe, h1, h2, h3, h4, h5⟩ := h
    exact ⟨g, cur, T, Fe, h1, h2, h3.ownZ (by simpa [selfOwned] using hf), h4, h5⟩
  | .sl T e, .fr, x, cs, Fo, hf, h => by simp [selfOwned] at hf
  | .sl T e, .pr _ _, x, cs, Fo, hf, h => by simp [selfOwned] at hf
  | .sl T e, .hole, x, cs, Fo, hf, h => by simp [selfOwned] at hf
  | .ptr t, .fr, x, cs, Fo, hf, h => by simp [selfOwned] at hf
  | .ptr t, .pr _ _, x, cs, Fo, hf, h => by simp [selfOwned] at hf
  | .ptr t, .hole, x, cs, Fo, hf, h => by simp [selfOwned] at hf
  | .mp k v, .own q, x, cs, Fo, hf, h => by
    obtain ⟨g, es, ck, h1, h2, h3, h4⟩ := h
    simp only [selfOwned, Bool.and_eq_true] at hf
    exact ⟨g, es, ck, h1, h2, h3.mono (fun _ _ h => h.flatZ hf.1) (fun _ _ h => h.flatZ hf.2), h4⟩
  | .mp k v, .fr, x, cs, Fo, hf, h => by simp [selfOwned] at hf
  | .mp k v, .pr _ _, x, cs, Fo, hf, h => by simp [selfOwned] at hf
  | .mp k v, .hole, x, cs, Fo, hf, h => by simp [selfOwned] at hf
theorem ArgRep.flatZ {w : World} {Z Z2 : BSet} {x : Arg} {V : Value} {Fo : BSet} (hf : x.isFlat = true) (h : ArgRep w Z x V Fo) : ArgRep w Z2 x V Fo := by
  unfold Arg.isFlat at hf
  split at hf
  · exact ⟨h.1.ownZ hf, h.2⟩
  · cases hf
theorem ArgsRep.flatZ {w : World} {Z Z2 : BSet} : ∀ {xs : List Arg} {Vs : List Value} {Fo : BSet}, xs.all Arg.isFlat = true → ArgsRep w Z xs Vs Fo → ArgsRep w Z2 xs Vs Fo
  | [], _, _, _, h => h
  | x :: xs, _, _, hf, ⟨V, Vs, F1, F2, e, h1, h2, j⟩ => by
    simp only [List.all_cons, Bool.and_eq_true] at hf
    exact ⟨V, Vs, F1, F2, e, h1.flatZ hf.1, h2.flatZ hf.2, j⟩
theorem resEnt_ok {w : World} {Z : BSet} {res : List Arg} {v : Value} {vals : List Value} {Fr : BSet} (hu : unpack res.length v vals) (h : ArgsRep w Z res vals Fr) : EntOK w Z (resEnt res) v Fr := by
  unfold resEnt
  split
  · rename_i x
    rcases hu with ⟨_, rfl⟩ | ⟨hn, _⟩
    · obtain ⟨V, Vs, F1, F2, e, h1, ⟨e2, h2⟩, j⟩ := h
      simp only [List.cons.injEq] at e
      obtain ⟨rfl, rfl⟩ := e
      have hF : Fr = F1 := funext fun b => propext ⟨fun h => ((j.1 b).1 h).elim id (fun h => (h2 b h).elim), fun h => j.left h⟩
      subst hF
      cases x with
      | v t q y => exact h1
      | fn g f c =>
        obtain ⟨h3, h4⟩ := h1
        cases h3 with
        | fn h5 h6 => exact ⟨h4, _, _, rfl, h5, capOf_args h6⟩
      | pfn g f c => exact h1
      | gone => exact h1
    · simp at hn
  · rename_i hne
    rcases hu with ⟨hn, rfl⟩ | ⟨hn, arr, rfl, rfl⟩
    · exfalso
      match res, hn with
      | [x], _ => exact hne x rfl
    · exact ⟨arr, rfl, h⟩

theorem resEnt_cases (res : List Arg) : (resEnt res).plain = true ∨ ∃ (g : Nat) (f c : List Arg), resEnt res = .fnl g f (c.map .arg) := by
  unfold resEnt
  split
  · rename_i x
    cases x with
    | fn g f c => exact .inr ⟨g, f, c, rfl⟩
    | _ => exact .inl rfl
  · exact .inl rfl
theorem Nodup.drop2 {A Bl C D : List Nat} (h : (A ++ Bl ++ C ++ D).Nodup) : (A ++ C ++ D).Nodup := by
  refine List.Sublist.nodup ?_ h
  exact List.Sublist.append_right (List.Sublist.append_right (List.sublist_append_left A Bl) C) D
/-- What a call leaves behind. -/
theorem call_post (I : Inv B M Z0 w0 σ a w Z F) {d : Option Nat} {z : Args} {fz : Option Upd} {res fin : List Arg} {u : Upd} {w' : World} {Fo : BSet} {v : Value} {old : Nat}
    (hold : ∀ d', d = some d' → old = (σ.at d').ver)
    (hn : (z.upd.map (·.1) ++ z.borrowed.eraseDups ++ z.back ++ d.toList).Nodup) (hfz : (freezeAll z.borrowed.eraseDups).val σ = some fz)
    (hFo : ∀ b, Fo b → Freed z.upd F b ∨ ∃ r, r ∈ z.back ∧ F r b) (hea : Eaten σ z.upd) (hrange : ∀ t, t ∈ z.upd.map (·.1) → t < σ.length) (hun : ∀ p, p ∈ z.upd → p.2.e = .un)
    (hback : ∀ r, r ∈ z.back → ∃ t q y, (σ.at r).e = .val t (.own q) y ∧ isRef t = true ∧ q.whole = true)
    (hout : (callOut d old z fz (z.back.map fun r => ((σ.at r).ver, (σ.at r).e.flatPtr)) (res, fin)).run = some u)
    (hpost : CallPost w w' (ZB Z F z.borrowed) Fo (z.back.map (tm a)) res fin v) :
    Good B M Z0 w0 (σ.upd u) (a.put d v) w' := by
  obtain ⟨Z', Fr, Fb, vals, hext, hZZ, hZ', hunp, hres, hfin, hFF, hFd⟩ := hpost.post
  unfold callOut at hout
  simp only at hout
  split at hout
  · cases hout
  rename_i ub hub
  split at hout
  · cases hout
  rename_i uf huf
  simp only [Out.run, Option.some.injEq] at hout
  subst hout
  -- what is borrowed is not written
  have hborrow : ∀ r b, r ∈ z.borrowed → F r b → ¬ Fo b := by
    intro r b hr hb hfo
    have hr' : r ∈ z.borrowed.eraseDups := by simpa using hr
    rcases hFo b hfo with ⟨r2, s2, h1, _, h2⟩ | ⟨r2, h1, h2⟩
    · have := I.disj r r2 b hb h2
      subst this
      have h3 : (z.upd.map (·.1) ++ z.borrowed.eraseDups).Nodup := (List.nodup_append.1 (List.nodup_append.1 hn).1).1
      exact (List.nodup_append.1 h3).2.2 r (List.mem_map.2 ⟨_, h1, rfl⟩) r hr' rfl
    · have := I.disj r r2 b hb h2
      subst this
      have h3 := (List.nodup_append.1 (List.nodup_append.1 hn).1).2.2
      exact h3 r (List.mem_append_right _ hr') r h1 rfl
  have hZsame : ∀ b, Z b → w'.heap[b]? = w.heap[b]? := fun b hb => hext.block b (I.z b hb).2 (fun h => by
    rcases hFo b h with ⟨r2, s2, _, _, h2⟩ | ⟨r2, _, h2⟩
    · exact (I.own r2 b h2).1 hb
    · exact (I.own r2 b h2).1 hb)
  -- the frozen blocks behind the call, by whether something frozen comes back
  have hZn : ∃ Zn : BSet, ArgsRep w' Zn res vals Fr ∧ ArgsRep w' Zn fin (z.back.map (tm a)) Fb ∧ (∀ b, Z b → Zn b) ∧
      (∀ b, Zn b → b < w'.heap.size ∧ (Z b ∨ Fo b ∨ (∃ r, r ∈ uf.map (·.1) ∧ F r b) ∨ w.heap.size ≤ b)) ∧
      (∀ r s, (r, s) ∈ uf → (σ.at r).ver < s.ver ∧ s.e.plain = true ∧ EntOK w' Zn s.e (tm a r) (fun _ => False)) ∧ (∀ b, (Fr b ∨ Fb b) → ¬ Zn b) ∧
      (z.upd.map (·.1) ++ uf.map (·.1) ++ z.back ++ d.toList).Nodup ∧ (∀ r, r ∈ uf.map (·.1) → r < σ.length) := by
    split at huf
    · rename_i hflat
      simp only [Option.some.injEq] at huf
      subst huf
      simp only [Bool.and_eq_true] at hflat
      refine ⟨Z, hres.flatZ hflat.1, hfin.flatZ hflat.2, fun b h => h, fun b h => ⟨Nat.lt_of_lt_of_le (I.z b h).2 hext.size, .inl h⟩, by simp, fun b hb hz => (hFF b hb).1 (hZZ b (.inl hz)), ?_, by simp⟩
      simp only [List.map_nil, List.append_nil]
      exact Nodup.drop2 hn
    · subst huf
      obtain ⟨h1, h2⟩ := freezeAll_ok hfz
      refine ⟨Z', hres, hfin, fun b h => hZZ b (.inl h), fun b h => ?_, fun r s hr => ?_, fun b hb => (hFF b hb).1, by rw [h1]; exact hn, fun r hr => ?_⟩
      · obtain ⟨h3, h4⟩ := hZ' b h
        refine ⟨h3, ?_⟩
        rcases h4 with (h4 | ⟨r, h5, h6⟩) | h4 | h4
        · exact .inl h4
        · exact .inr (.inr (.inl ⟨r, by rw [h1]; simpa using h5, h6⟩))
        · exact .inr (.inl h4)
        · exact .inr (.inr (.inr h4))
      · obtain ⟨h3, t, q, y, h4, h5, h6⟩ := h2 r s hr
        have hrb : r ∈ z.borrowed := by
          have : r ∈ uf.map (·.1) := List.mem_map.2 ⟨_, hr, rfl⟩
          rw [h1] at this
          simpa using this
        refine ⟨h3, by rw [h6]; rfl, ?_⟩
        rw [h6]
        have hI := I.ent r
        rw [h4] at hI
        have h7 : VRep w (ZB Z F z.borrowed) t .fr y (tm a r) (fun _ => False) := VRep.freeze (fun b h => .inl h) (by simpa [Ow.whole] using h5) (fun b hb => .inr ⟨r, hrb, hb⟩) hI
        refine VRep.frame (fun b hb => ⟨hZZ b hb, ?_⟩) (fun _ h => h.elim) h7
        rcases hb with hb | ⟨r2, h8, h9⟩
        · exact hZsame b hb
        · exact hext.block b (I.lt_size h9) (hborrow r2 b h8 h9)
      · obtain ⟨⟨r', s⟩, h3, rfl⟩ := List.mem_map.1 hr
        obtain ⟨_, t, q, y, h4, _⟩ := h2 r' s h3
        exact in_range (by rw [h4]; simp)
  obtain ⟨Zn, k1, k2, k3, k4, k5, k6, k7, k8⟩ := hZn
  have hbn : z.back.Nodup := (List.nodup_append.1 (List.nodup_append.1 k7).1).2.1
  obtain ⟨g1, G, g2, g3, g4⟩ := putBack_ok hub hbn k2
  have hbl : ∀ r, r ∈ z.back → r < σ.length := fun r hr => by
    obtain ⟨t, q, y, h, _⟩ := hback r hr
    exact in_range (by rw [h]; simp)
  -- the keys
  have hkeys : ((z.upd ++ uf ++ ub ++ resUpd d old res).map (·.1)) = z.upd.map (·.1) ++ uf.map (·.1) ++ z.back ++ d.toList := by
    simp only [List.map_append, g1]
    congr 1
    cases d <;> rfl
  have hdist : distinct ((z.upd ++ uf ++ ub ++ resUpd d old res).map (·.1)) = true := by rw [hkeys]; exact distinct_nodup.2 k7
  let C : Nat → Prop := fun t => t ∈ z.upd.map (·.1) ++ uf.map (·.1) ++ z.back ++ d.toList ∧ t < σ.length
  have hdk : ∀ d', d = some d' → d' ∉ z.upd.map (·.1) ++ uf.map (·.1) ++ z.back := by
    rintro d' rfl hm
    exact (List.nodup_append.1 k7).2.2 d' hm d' (by simp) rfl
  have hbk : ∀ r, r ∈ z.back → r ∉ z.upd.map (·.1) ++ uf.map (·.1) := fun r hr hm => (List.nodup_append.1 (List.nodup_append.1 k7).1).2.2 r hm r hr rfl
  let F'' : Nat → BSet := fun t => if d = some t ∧ t < σ.length then Fr else if t ∈ z.back then G t else if t ∈ z.upd.map (·.1) ++ uf.map (·.1) then (fun _ => False) else F t
  have hFoC : ∀ b, Fo b → ∃ c, C c ∧ F c b := by
    intro b hb
    rcases hFo b hb with ⟨r, s, h1, _, h2⟩ | ⟨r, h1, h2⟩
    · exact ⟨r, ⟨by simp only [List.mem_append]; exact .inl (.inl (.inl (List.mem_map.2 ⟨_, h1, rfl⟩))), I.lt_len h2⟩, h2⟩
    · exact ⟨r, ⟨by simp only [List.mem_append]; exact .inl (.inr h1), I.lt_len h2⟩, h2⟩
  -- each entry that turned
  have hslot : ∀ t, C t → ∃ s, (σ.upd (z.upd ++ uf ++ ub ++ resUpd d old res)).at t = s ∧ (BackOK σ t s ∧ tm (a.put d v) t = tm a t ∨ (σ.at t).ver < s.ver) ∧ EntOK w' Zn s.e (tm (a.put d v) t) (F'' t) ∧ RefOK (σ.upd (z.upd ++ uf ++ ub ++ resUpd d old res)) (a.put d v) w' t := by
    intro t ht
    obtain ⟨s, h1, h2⟩ := at_upd_mem _ σ t hdist (by rw [hkeys]; exact ht.1) ht.2
    refine ⟨s, h2, ?_⟩
    have hplain : s.e.plain = true → RefOK (σ.upd (z.upd ++ uf ++ ub ++ resUpd d old res)) (a.put d v) w' t := fun h => RefOK.ofPlain (by rw [h2]; exact h)
    have hnd : t ∈ z.upd.map (·.1) ++ uf.map (·.1) ++ z.back → tm (a.put d v) t = tm a t ∧ ¬ (d = some t ∧ t < σ.length) := by
      intro hm
      have hne : d ≠ some t := fun e => hdk t e hm
      refine ⟨?_, fun h => hne h.1⟩
      cases d with
      | none => rfl
      | some d' => rw [tm_put]; have : ¬ t = d' := fun e => hne (by rw [e]); simp [this]
    rcases List.mem_append.1 h1 with h3 | h3
    · rcases List.mem_append.1 h3 with h4 | h4
      · rcases List.mem_append.1 h4 with h5 | h5
        · have hm : t ∈ z.upd.map (·.1) := List.mem_map.2 ⟨_, h5, rfl⟩
          obtain ⟨e1, e2⟩ := hnd (by simp only [List.mem_append]; exact .inl (.inl hm))
          have hnb : t ∉ z.back := fun h => hbk t h (List.mem_append_left _ hm)
          have hs := hun _ h5
          refine ⟨.inr (hea t s h5).1, ?_, hplain (by rw [hs]; rfl)⟩
          have hF : F'' t = fun _ => False := by simp only [F'', e2, hnb, if_false, List.mem_append_left _ hm, if_true]
          rw [hF, hs]; exact EntOK.un
        · have hm : t ∈ uf.map (·.1) := List.mem_map.2 ⟨_, h5, rfl⟩
          obtain ⟨e1, e2⟩ := hnd (by simp only [List.mem_append]; exact .inl (.inr hm))
          have hnb : t ∉ z.back := fun h => hbk t h (List.mem_append_right _ hm)
          obtain ⟨e3, e4, e5⟩ := k5 t s h5
          refine ⟨.inr e3, ?_, hplain e4⟩
          have hF : F'' t = fun _ => False := by simp only [F'', e2, hnb, if_false, List.mem_append_right _ hm, if_true]
          rw [hF, e1]; exact e5
      · have hm : t ∈ z.back := by rw [← g1]; exact List.mem_map.2 ⟨_, h4, rfl⟩
        obtain ⟨e1, e2⟩ := hnd (by simp only [List.mem_append]; exact .inr hm)
        obtain ⟨e3, ty, q, y, e4, e5⟩ := g2 t s h4
        refine ⟨.inl ⟨e3, e1⟩, ?_, hplain (by rw [e4]; rfl)⟩
        have hF : F'' t = G t := by simp only [F'', e2, if_false, hm, if_true]
        rw [hF, e1, e4]; exact e5
    · cases hd : d with
      | none => rw [hd] at h3; cases h3
      | some d' =>
        rw [hd] at h3
        simp only [resUpd, List.mem_singleton, Prod.mk.injEq] at h3
        obtain ⟨rfl, rfl⟩ := h3
        have htl : t < σ.length := ht.2
        have htm : tm (a.put (some t) v) t = v := by rw [tm_put, I.len]; simp [htl]
        have hF : F'' t = Fr := by simp only [F'', hd, htl, and_self, if_true]
        have hent := resEnt_ok hunp k1
        refine ⟨.inr (by rw [hold t hd]; exact Nat.lt_succ_self _), by rw [hF, htm]; exact hent, ?_⟩
        rcases resEnt_cases res with h6 | ⟨g, f, c, h6⟩
        · exact hd ▸ hplain h6
        · have h2' := h2
          rw [hd] at h2'
          rw [hd] at h2 hplain
          unfold RefOK
          rw [h2', h6]
          intro i r v' hi
          simp only [List.getElem?_map, Option.map_eq_some_iff] at hi
          obtain ⟨_, _, ha⟩ := hi
          cases ha
  have hnotC : ∀ t, ¬ C t → (t ∉ z.upd.map (·.1) ++ uf.map (·.1) ++ z.back ++ d.toList) ∨ σ.length ≤ t := by
    intro t ht
    rcases Nat.lt_or_ge t σ.length with h | h
    · exact .inl fun hm => ht ⟨hm, h⟩
    · exact .inr h
  have hFsub : ∀ t b, C t → F'' t b → Fr b ∨ Fb b ∧ t ∈ z.back ∧ G t b := by
    intro t b ht hb
    simp only [F''] at hb
    split at hb
    · exact .inl hb
    · split at hb
      · rename_i hm; exact .inr ⟨g3 t b hm hb, hm, hb⟩
      · split at hb
        · exact hb.elim
        · rename_i h1 h2 h3
          exfalso
          rcases List.mem_append.1 ht.1 with h4 | h4
          · rcases List.mem_append.1 h4 with h5 | h5
            · exact h3 h5
            · exact h2 h5
          · cases hd : d with
            | none => rw [hd] at h4; simp at h4
            | some d' =>
              rw [hd] at h4
              simp only [Option.toList_some, List.mem_singleton] at h4
              exact h1 ⟨by rw [hd, h4], ht.2⟩
  have hσ : ∀ t, ¬ C t → (σ.upd (z.upd ++ uf ++ ub ++ resUpd d old res)).at t = σ.at t ∧ tm (a.put d v) t = tm a t ∧ F'' t = F t := by
    intro t ht
    rcases hnotC t ht with h1 | h1
    · have h2 : t ∉ (z.upd ++ uf ++ ub ++ resUpd d old res).map (·.1) := by rw [hkeys]; exact h1
      simp only [List.mem_append, not_or] at h1
      have hne : d ≠ some t := by rintro rfl; simp at h1
      refine ⟨at_upd_not _ _ _ h2, ?_, ?_⟩
      · cases d with
        | none => rfl
        | some d' => rw [tm_put]; have : ¬ t = d' := fun e => hne (by rw [e]); simp [this]
      · have e1 : ¬ (d = some t ∧ t < σ.length) := fun h => hne h.1
        have e2 : t ∉ z.upd.map (·.1) ++ uf.map (·.1) := by simp only [List.mem_append, not_or]; exact h1.1.1
        simp only [F'', e1, h1.1.2, e2, if_false]
    · refine ⟨by rw [at_ge h1, at_ge (by rw [length_upd]; exact h1)], ?_, ?_⟩
      · cases d with
        | none => rfl
        | some d' => rw [tm_put, I.len]; have : ¬ (t = d' ∧ d' < σ.length) := by rintro ⟨rfl, h⟩; omega
                     simp only [this, if_false]
      · have e1 : ¬ (d = some t ∧ t < σ.length) := by rintro ⟨_, h⟩; omega
        have e2 : t ∉ z.back := fun h => by have := hbl t h; omega
        have e3 : t ∉ z.upd.map (·.1) ++ uf.map (·.1) := by
          intro h
          rcases List.mem_append.1 h with h | h
          · have := hrange t h; omega
          · have := k8 t h; omega
        simp only [F'', e1, e2, e3, if_false]
  refine ⟨Zn, F'', I.change C (by rw [put_size, I.len, length_upd]) (by rw [put_defers]; exact I.defers) hσ ⟨hext.os, hext.tape, hext.output, hext.size, fun b h1 h2 => hext.block b h1 (fun h3 => h2 (hFoC b h3)), hext.drawn⟩ k3 ?_ ?_ ?_ ?_ ?_ ?_⟩
  · intro b hb
    obtain ⟨h1, h2⟩ := k4 b hb
    refine ⟨h1, ?_⟩
    rcases h2 with h2 | h2 | ⟨r, h3, h4⟩ | h2
    · exact .inl h2
    · exact .inr (.inl (hFoC b h2))
    · exact .inr (.inl ⟨r, ⟨by simp only [List.mem_append]; exact .inl (.inl (.inr h3)), k8 r h3⟩, h4⟩)
    · exact .inr (.inr h2)
  · intro t ht
    obtain ⟨s, h1, _, h3, _⟩ := hslot t ht
    rw [h1]; exact h3
  · intro t ht
    obtain ⟨s, _, _, _, h4⟩ := hslot t ht
    exact h4
  · intro t ht b hb
    have h1 : Fr b ∨ Fb b := (hFsub t b ht hb).imp id (·.1)
    obtain ⟨_, h2, h3⟩ := hFF b h1
    exact ⟨k6 b h1, h2, h3.imp (hFoC b) id⟩
  · intro t t' ht ht' b h1 h2
    have key : ∀ t, C t → F'' t b → (d = some t ∧ Fr b) ∨ (t ∈ z.back ∧ Fb b ∧ G t b) := by
      intro t ht hb
      by_cases hdt : d = some t ∧ t < σ.length
      · simp only [F'', hdt, and_self, if_true] at hb
        exact .inl ⟨hdt.1, hb⟩
      · rcases hFsub t b ht hb with h | h
        · simp only [F'', hdt, if_false] at hb
          split at hb
          · rename_i hm; exact .inr ⟨hm, g3 t b hm hb, hb⟩
          · split at hb
            · exact hb.elim
            · rename_i e1 e2
              exfalso
              rcases List.mem_append.1 ht.1 with h4 | h4
              · rcases List.mem_append.1 h4 with h5 | h5
                · exact e2 h5
                · exact e1 h5
              · cases hd : d with
                | none => rw [hd] at h4; simp at h4
                | some d' =>
                  rw [hd] at h4
                  simp only [Option.toList_some, List.mem_singleton] at h4
                  exact hdt ⟨by rw [hd, h4], ht.2⟩
        · exact .inr ⟨h.2.1, h.1, h.2.2⟩
    rcases key t ht h1 with ⟨e1, e2⟩ | ⟨e1, e2, e3⟩ <;> rcases key t' ht' h2 with ⟨e4, e5⟩ | ⟨e4, e5, e6⟩
    · rw [e1] at e4; exact Option.some.inj e4
    · exact (hFd b e2 e5).elim
    · exact (hFd b e5 e2).elim
    · exact g4 t t' b e1 e4 e3 e6
  · intro r hr
    right
    intro t ht
    obtain ⟨e1, e2, _⟩ := hσ t ht
    refine (I.ref t).frame2 e1 e2 fun r0 => ?_
    by_cases hr0 : C r0
    · obtain ⟨s, h1, h2, h3, _⟩ := hslot r0 hr0
      rw [h1]
      rcases h2 with ⟨h4 | ⟨h4, t0, q0, q1, x0, x1, h5, h6, h7, h8⟩, h9⟩ | h4
      · exact .inl h4
      · right
        refine ⟨h4, h9, ?_⟩
        rw [h5, h7]
        refine ptr_refs h6 h8 ?_
        have hI := I.ent r0
        rw [h5] at hI
        obtain ⟨g, cur, T, Fe, hV, _⟩ := hI.1
        rw [hI.scalar rfl] at hV
        simp only [List.cons.injEq, and_true] at hV
        exact ⟨g, 0, by rw [hV]; rfl⟩
      · exact .inl h4
    · obtain ⟨e4, e5, _⟩ := hσ r0 hr0
      right
      rw [e4]
      refine ⟨rfl, e5, ?_⟩
      exact I.srefs (fun b hb => hext.block b (I.lt_size hb) (fun h => by
        obtain ⟨c, hc, h'⟩ := hFoC b h
        exact hr0 (I.disj r0 c b hb h' ▸ hc)))

theorem mutsOf_none {α : Type} {m : Nat → Mode} : ∀ {vs : List α} {i : Nat}, noMut m i vs.length = true → mutsOf m i vs = []
  | [], i, h => rfl
  | v :: vs, i, h => by
    simp only [List.length_cons, noMut, Bool.and_eq_true, bne_iff_ne, ne_eq] at h
    unfold mutsOf
    cases hm : m i with
    | «mut» => exact absurd hm h.1
    | rd => exact mutsOf_none h.2
    | own => exact mutsOf_none h.2
theorem mutsOf_append {α : Type} {m : Nat → Mode} : ∀ {us vs : List α} {i : Nat}, mutsOf m i (us ++ vs) = mutsOf m i us ++ mutsOf m (i + us.length) vs
  | [], vs, i => by simp [mutsOf]
  | u :: us, vs, i => by
    simp only [List.cons_append, mutsOf, List.length_cons]
    have : i + (us.length + 1) = i + 1 + us.length := by omega
    rw [this]
    cases m i <;> simp [mutsOf_append (us := us)]
theorem FReps.length {w : World} {Z : BSet} : ∀ {as : List Arg} {vs : List Value}, FReps w Z as vs → as.length = vs.length
  | _, _, .nil => rfl
  | _, _, .cons h1 h2 => by simp [h2.length]
theorem callFunc_enter {g : FuncId} {fn : Func} {c : Code} (hf : P.funcs[g]? = some fn) (hname : (fn.name == "runtime.NumGoroutine") = false) (hb : fn.body = some c) (args : Array Value) (w : World) :
    (callFunc g args).run P w = .ok (.enter g args) w := by
  have h1 : fn.name ≠ "runtime.NumGoroutine" := by simpa using hname
  simp [callFunc, hf, h1, hb]
theorem run_bind_eq {α β : Type} {f : α → Out β} : ∀ {o : Out α}, (o.bind f).run = o.run.bind fun a => (f a).run
  | .done a => rfl
  | .br true t e => run_bind_eq (o := t)
  | .br false t e => run_bind_eq (o := e)
  | .bad => rfl
  | .opt none k => rfl
  | .opt (some y) k => run_bind_eq (o := k y)
  | .alt (.inl y) k l => run_bind_eq (o := k y)
  | .alt (.inr y) k l => run_bind_eq (o := l y)
theorem run_bind' {α β : Type} {f : α → Out β} {u : β} {o : Out α} (h : (o.bind f).run = some u) : ∃ x, o.run = some x ∧ (f x).run = some u := by
  rw [run_bind_eq] at h
  cases ho : o.run with
  | none => rw [ho] at h; cases h
  | some x => rw [ho] at h; exact ⟨x, rfl, h⟩
theorem call_ok (hΦ : ∀ g, FnOK P X.C g) (I : Inv B M Z0 w0 σ a w Z F) {o : Oper} {c : Call} {f : Operand} (ho : o.op = .call c) (hc : c.callee = .value f) (hlen : c.args.size = c.argTypes.size) :
    OpOK P B M Z0 w0 σ a w o (opCall X.C o.dst f (c.args.toList.zip c.argTypes.toList)) := by
  intro out hv u hu Q
  obtain ⟨e, he, hv1⟩ := Rd.bind_some hv
  replace hv := hv1
  clear hv1
  obtain ⟨Fo, h3, h4⟩ := opd_ref I he
  split at hv
  · rename_i g first caps
    obtain ⟨⟨cs', rs⟩, h5, hv1⟩ := Rd.bind_some hv
    obtain ⟨z, h6, hv2⟩ := Rd.bind_some hv1
    clear hv hv1
    split at hv2
    · rename_i hm
      simp only [Bool.and_eq_true] at hm
      unfold callWith at hv2
      split at hv2
      · rename_i hd
        simp only at hd
        obtain ⟨old, h7, hv3⟩ := Rd.bind_some hv2
        obtain ⟨fz, h8, hv4⟩ := Rd.bind_some hv3
        obtain ⟨ss, h9, hv5⟩ := Rd.bind_some hv4
        simp only [Rd.val, Option.some.injEq] at hv5
        subst hv5
        have hss := rdRoots_ok h9
        simp only at hss
        subst hss
        obtain ⟨h0, fs, vs, hV, hf1, hf2⟩ := h3
        have hcaps := capsRd_ok I hf2 (fun i r v hi hv => by
          obtain ⟨_, h10⟩ := h4 i r v hi
          obtain ⟨fs', cs2, e1, e2⟩ := h10 hv
          rw [hV] at e1
          simp only [Value.func.injEq] at e1
          rw [← e1.2.2] at e2
          simpa using e2) h5
        have hnod := distinct_nodup.1 hd
        have hd2 : distinct (z.upd.map (·.1) ++ z.back) = true := by
          refine distinct_nodup.2 ?_
          have := Nodup.drop2 (A := z.upd.map (·.1)) (Bl := (rs ++ z.borrowed).eraseDups) (C := z.back) (D := o.dst.toList) hnod
          exact (List.nodup_append.1 this).1
        obtain ⟨Fz, r1, r2, r3, r4, r5, r6, r7, r8⟩ := argsOf_ok I h6 hd2
        -- the table's answer
        obtain ⟨⟨res, fin⟩, hphi, hco⟩ := run_bind' hu
        obtain ⟨⟨fn, hfn, hbody, hname⟩, hcall⟩ := hΦ g _ _ _ hphi
        have hold : ∀ d', o.dst = some d' → old = (σ.at d').ver := by
          intro d' hd'
          rw [hd'] at h7
          simp only [getVer, Rd.val, Option.some.injEq] at h7
          exact h7.symm
        obtain ⟨body, hb⟩ := Option.isSome_iff_exists.1 hbody
        -- the arguments
        have hfst : FReps w (ZB Z F (rs ++ z.borrowed)) first fs := hf1.mono fun b hb => .inl hb
        have hcp : FReps w (ZB Z F (rs ++ z.borrowed)) cs' vs := hcaps.mono (ZB.mono fun r hr => List.mem_append_left _ hr)
        have har : ArgsRep w (ZB Z F (rs ++ z.borrowed)) z.args ((c.args.toList.zip c.argTypes.toList).map fun x => a.eval x.1) Fz := r1.monoZ (ZB.mono fun r hr => List.mem_append_right _ hr)
        have hall := (hfst.argsRep.append har (fun b h _ => h.elim)).append hcp.argsRep (fun b _ h => h)
        have hsz : ∀ b, ZB Z F (rs ++ z.borrowed) b → b < w.heap.size := by
          rintro b (h | ⟨r, _, h⟩)
          · exact (I.z b h).2
          · exact I.lt_size h
        have hFoz : ∀ b, (((False ∨ Fz b) ∨ False)) → ¬ ZB Z F (rs ++ z.borrowed) b ∧ b < w.heap.size := by
          intro b hb
          have hb' : Fz b := by rcases hb with (h | h) | h <;> first | exact h.elim | exact h
          have hA := (List.nodup_append.1 (List.nodup_append.1 hnod).1).2.2
          have hB := (List.nodup_append.1 (List.nodup_append.1 (List.nodup_append.1 hnod).1).1).2.2
          rcases r2 b hb' with ⟨r, s, e1, _, e2⟩ | ⟨r, e1, e2⟩
          · refine ⟨?_, I.lt_size e2⟩
            rintro (h | ⟨r', e3, e4⟩)
            · exact (I.own r b e2).1 h
            · have := I.disj r r' b e2 e4
              subst this
              exact hB r (List.mem_map.2 ⟨_, e1, rfl⟩) r (by simpa using e3) rfl
          · refine ⟨?_, I.lt_size e2⟩
            rintro (h | ⟨r', e3, e4⟩)
            · exact (I.own r b e2).1 h
            · have := I.disj r r' b e2 e4
              subst this
              exact hA r (List.mem_append_right _ (by simpa using e3)) r e1 rfl
        have hc2 := hcall w (ZB Z F (rs ++ z.borrowed)) _ _ hall hsz hFoz
        -- the operands
        have hargs : c.args.map a.eval = ((c.args.toList.zip c.argTypes.toList).map fun x => a.eval x.1).toArray := by
          have : (c.args.toList.zip c.argTypes.toList).map (fun x => a.eval x.1) = c.args.toList.map a.eval := by
            show List.map (a.eval ∘ Prod.fst) _ = _
            rw [← List.map_map, List.map_fst_zip (by simpa using Nat.le_of_eq hlen)]
          rw [this, ← Array.toList_map, Array.toArray_toList]
        have hex : (execOp a.eval o).run P w = .ok (.enter g ((fs ++ (c.args.toList.zip c.argTypes.toList).map (fun x => a.eval x.1) ++ vs).toArray)) w := by
          unfold execOp
          rw [ho]
          simp only [resolve, hc, hV, hargs, Deferred.ofValue]
          simp only [Sem.run_bind, Sem.run_pure, Result.andThen, invoke]
          rw [callFunc_enter hfn hname hb]
          simp
        unfold Oper.wp
        rw [hex, Oper.upon_enter]
        refine hc2.mono fun e w' hR => ?_
        cases e with
        | returned v =>
          simp only at hR ⊢
          have hmuts : mutsOf (X.C.mode g) 0 (fs ++ (c.args.toList.zip c.argTypes.toList).map (fun x => a.eval x.1) ++ vs) = z.back.map (tm a) := by
            have l1 := hf1.length
            have l2 := hcaps.length
            rw [mutsOf_append, mutsOf_append, mutsOf_none (by rw [← l1]; exact hm.1)]
            simp only [Nat.zero_add, List.nil_append, List.length_append]
            rw [← l1, r6, mutsOf_none (by rw [← l2]; simpa using hm.2), List.append_nil]
          rw [hmuts] at hR
          have hfz8 : (freezeAll ({ z with borrowed := rs ++ z.borrowed } : Args).borrowed.eraseDups).val σ = some fz := h8
          have hFo2 : ∀ b, ((False ∨ Fz b) ∨ False) → Freed ({ z with borrowed := rs ++ z.borrowed } : Args).upd F b ∨ ∃ r, r ∈ ({ z with borrowed := rs ++ z.borrowed } : Args).back ∧ F r b := by
            intro b hb
            have hb' : Fz b := by rcases hb with (h | h) | h <;> first | exact h.elim | exact h
            exact r2 b hb'
          exact call_post (z := { z with borrowed := rs ++ z.borrowed }) I hold hnod hfz8 hFo2 r3 r4 r5 r7 hco hR
        | panicked ch => exact hR.elim
        | outgrown => exact hR.elim
      · cases hv2
    · cases hv2
  · cases hv
end
end Go.K

/- K, part ZC: a call that is given an inner place. -/
set_option linter.unusedVariables false
set_option linter.unusedSimpArgs false
namespace Go.K
variable [drI : Dr]
section
variable {P : Program} {X : FC} {B : Nat} {M Z0 : BSet} {w0 : World} {σ : St} {a : Act} {w : World} {Z : BSet} {F : Nat → BSet}

theorem plainArg_ok (I : Inv B M Z0 w0 σ a w Z F) {C : Ctx} {T : Nat} {o : Operand} {g : Arg} (h : (plainArg C T o).val σ = some g) : ArgRep w Z g (a.eval o) (fun _ => False) := by
  obtain ⟨e, he, h⟩ := Rd.bind_some h
  obtain ⟨Fo, h3, _⟩ := opd_ref I he
  split at h
  · rename_i t x
    simp only [Rd.val, Option.some.injEq] at h
    subst h
    exact VRep.toFr rfl h3
  · cases h
/-- What is known of an inner place. -/
structure InnerAt (σ : St) (a : Act) (w : World) (Z : BSet) (F : Nat → BSet) (g : Arg) (V : Value) (r v : Nat) (p : List Step) (Fu : BSet) : Prop where
  ver : (σ.at r).ver = v
  at' : ∃ c T t q xs b o Fc, (σ.at r).e.content = some c ∧ PathOK c p ∧ c.path p = some ⟨.sl T t, .own q, xs⟩ ∧ g = .v (.sl T t) (.own q) xs ∧ pathLoc w c (rootLoc (tm a r)) p = some (.mem b o) ∧ w.cell? ⟨b, o, none⟩ = some V ∧ ¬ Fu b ∧ F r b ∧
    VRep w Z (.sl T t) (.own q) xs V Fu ∧ (∀ b, Fu b → Fc b) ∧ RepAt w Z c (rootLoc (tm a r)) Fc ∧ (∀ b, F r b ↔ Fc b ∨ (rootLoc (tm a r)).blk = some b) ∧
    ∀ (w' : World) (Z' : BSet) (u' : TV) (Fu' : BSet) (v' : TV), c.setPath p u' = some v' → RepAt w' Z' u' (.mem b o) Fu' → PutOK w w' Z Z' Fc Fu Fu' (rootLoc (tm a r)) (.mem b o) 1 →
      ∃ F', (∀ b, F' b ↔ (Fc b ∧ ¬ Fu b) ∨ Fu' b) ∧ RepAt w' Z' v' (rootLoc (tm a r)) F'
theorem innerArg_ok (I : Inv B M Z0 w0 σ a w Z F) {o : Operand} {g : Arg} {r v : Nat} {p : List Step} (h : (innerArg o).val σ = some (g, r, v, p)) (hp : p ≠ []) : ∃ Fu, InnerAt σ a w Z F g (a.eval o) r v p Fu := by
  cases o with
  | tmp s =>
    simp only [innerArg, Rd.val] at h
    generalize hee : (σ.at s).e = e at h
    split at h
    · rename_i r' v' p'
      simp only [Rd.val] at h
      split at h
      · rename_i hver
        split at h
        · rename_i c hc
          split at h
          · rename_i T t q xs hpath
            split at h
            · rename_i hq
              simp only [Rd.val, Option.some.injEq, Prod.mk.injEq] at h
              obtain ⟨rfl, rfl, rfl, rfl⟩ := h
              have hC := I.ref s
              unfold RefOK at hC
              rw [hee] at hC
              simp only at hC
              obtain ⟨hpo, T2, te, q2, ys, l, H, k1, k2, k3, k4⟩ := hC.2 hver c hc
              obtain ⟨Fc, hR, hFc, hh⟩ := I.root hc
              obtain ⟨l', Fu, e3, hru2, hsub, hin, hne, hput⟩ := lens p' hh hR hpo hpath
              obtain ⟨b, o, rfl⟩ := hne hp
              rw [k2] at e3
              simp only [Option.some.injEq] at e3
              subst e3
              obtain ⟨hbFu, cs, hcs, hr0⟩ := hru2
              simp only [Loc.header] at k3
              simp only [WinRep] at k4
              obtain ⟨V', cells, Fe, rfl, h2, h3, h4, h5⟩ := hr0
              have h6 := hcs 0 V' rfl
              rw [add_mem, Nat.add_zero, k3] at h6
              simp only [Option.some.injEq] at h6
              have hV : a.eval (.tmp s) = V' := by rw [← h6, ← k4]; rfl
              have hFb : F r' b := by
                generalize rootLoc (tm a r') = l at hin hFc
                cases l with
                | mem b' o' =>
                  rcases hin with ⟨rfl, _⟩ | h
                  · exact (hFc b).2 (.inr rfl)
                  · exact (hFc b).2 (.inl h)
                | hdr V => exact (hFc b).2 (.inl hin)
              have hone : V'.cells.toList = [V'] ∧ ((Ty.sl T t).isAgg = true ↔ ∃ cs, V' = .agg cs) := by
                rcases h2.2 with ⟨rfl, _⟩ | ⟨g, cap, cur, rfl, _⟩ <;> simp [Value.cells, Ty.isAgg]
              refine ⟨Fu, hver, c, T, t, q, xs, b, o, Fc, hc, hpo, hpath, rfl, k2, by rw [k3, hV, h6], hbFu, hFb, ?_, hsub, hR, hFc, hput⟩
              rw [hV]
              exact ⟨⟨V', cells, Fe, hone.1, h2, h3, h4, h5⟩, hone.2⟩
            · cases h
          · cases h
        · cases h
      · cases h
    · cases h
  | _ => cases h
theorem argsIn_ok (I : Inv B M Z0 w0 σ a w Z F) {C : Ctx} {f : Nat} : ∀ {ops : List (Operand × Nat)} {i : Nat} {as : List Arg} {m : Option (Nat × Nat × List Step)}, (argsIn C f i ops).val σ = some (as, m) →
    (m = none → ArgsRep w Z as (ops.map fun x => a.eval x.1) (fun _ => False) ∧ mutsOf (C.mode f) i (ops.map fun x => a.eval x.1) = []) ∧
    ∀ r v p, m = some (r, v, p) → p ≠ [] → ∃ g V Fu, InnerAt σ a w Z F g V r v p Fu ∧ ArgsRep w Z as (ops.map fun x => a.eval x.1) Fu ∧ mutsOf (C.mode f) i (ops.map fun x => a.eval x.1) = [V]
  | [], i, as, m, h => by
    simp only [argsIn, Rd.val, Option.some.injEq, Prod.mk.injEq] at h
    obtain ⟨rfl, rfl⟩ := h
    exact ⟨fun _ => ⟨⟨rfl, fun _ h => h⟩, rfl⟩, fun r v p h => by cases h⟩
  | (o, T) :: ops, i, as, m, h => by
    simp only [argsIn] at h
    split at h
    · rename_i hm
      obtain ⟨g, h1, h2⟩ := Rd.bind_some h
      obtain ⟨z, h3, h4⟩ := Rd.bind_some h2
      simp only [Rd.val, Option.some.injEq, Prod.mk.injEq] at h4
      obtain ⟨rfl, rfl⟩ := h4
      obtain ⟨r1, r2⟩ := argsIn_ok I (as := z.1) (m := z.2) h3
      have h5 := plainArg_ok I h1
      have hmu : mutsOf (C.mode f) i (((o, T) :: ops).map fun x => a.eval x.1) = mutsOf (C.mode f) (i + 1) (ops.map fun x => a.eval x.1) := by simp only [List.map_cons, mutsOf, hm]
      refine ⟨fun h0 => ?_, fun r v p h0 hp => ?_⟩
      · obtain ⟨r3, r4⟩ := r1 h0
        exact ⟨⟨_, _, fun _ => False, fun _ => False, rfl, h5, r3, Join.none⟩, by rw [hmu]; exact r4⟩
      · obtain ⟨g', V, Fu, r3, r4, r5⟩ := r2 r v p h0 hp
        exact ⟨g', V, Fu, r3, ⟨_, _, fun _ => False, Fu, rfl, h5, r4, fun b => by simp, fun b h _ => h⟩, by rw [hmu]; exact r5⟩
    · rename_i hm
      obtain ⟨g, h1, h2⟩ := Rd.bind_some h
      obtain ⟨z, h3, h4⟩ := Rd.bind_some h2
      have hmu : mutsOf (C.mode f) i (((o, T) :: ops).map fun x => a.eval x.1) = a.eval o :: mutsOf (C.mode f) (i + 1) (ops.map fun x => a.eval x.1) := by simp only [List.map_cons, mutsOf, hm]
      split at h4
      · rename_i hz
        simp only [Rd.val, Option.some.injEq, Prod.mk.injEq] at h4
        obtain ⟨rfl, rfl⟩ := h4
        obtain ⟨r1, _⟩ := argsIn_ok I (as := z.1) (m := z.2) h3
        obtain ⟨r3, r4⟩ := r1 hz
        refine ⟨fun h0 => (by cases h0), fun r v p h0 hp => ?_⟩
        simp only [Option.some.injEq] at h0
        obtain ⟨g1, r', v', p'⟩ := g
        simp only [Prod.mk.injEq] at h0
        obtain ⟨rfl, rfl, rfl⟩ := h0
        obtain ⟨Fu, hI⟩ := innerArg_ok I h1 hp
        obtain ⟨_, c, T1, t1, q1, xs1, b1, o1, Fc, k1, k2, k3, k4, k5, k6, k7, k8, k9, k10⟩ := hI
        refine ⟨g1, _, Fu, ⟨by assumption, c, T1, t1, q1, xs1, b1, o1, Fc, k1, k2, k3, k4, k5, k6, k7, k8, k9, k10⟩, ⟨_, _, Fu, fun _ => False, rfl, ?_, r3, fun b => by simp, fun b _ h => h⟩, by rw [hmu, r4]⟩
        rw [k4]
        exact k9
      · cases h4
    · cases h
theorem callIn_ok (hΦ : ∀ g, FnOK P X.C g) (I : Inv B M Z0 w0 σ a w Z F) {o : Oper} {c : Call} {g : Nat} (ho : o.op = .call c) (hc : c.callee = .value (.func g)) (hlen : c.args.size = c.argTypes.size) :
    OpOK P B M Z0 w0 σ a w o (opCallIn X.C o.dst g (c.args.toList.zip c.argTypes.toList)) := by
  intro out hv u hu Q
  obtain ⟨z, h1, hv1⟩ := Rd.bind_some hv
  clear hv
  split at hv1
  rotate_left
  · cases hv1
  rename_i r v s p hz
  split at hv1
  · cases hv1
  rename_i hdr
  obtain ⟨old, h7, hv2⟩ := Rd.bind_some hv1
  simp only [Rd.val, Option.some.injEq] at hv2
  subst hv2
  obtain ⟨⟨res, fin⟩, hphi, hco⟩ := run_bind' hu
  obtain ⟨g1, Vm, Fu, hIn, hArgs, hmu⟩ := (argsIn_ok I (as := z.1) (m := z.2) h1).2 r v (s :: p) hz (by simp)
  obtain ⟨hver, c0, T, t, q, xs, b, of, Fc, hcont, hpo, hpath, rfl, hloc, hcell, hbFu, hFb, hrep, hsub, hR, hFc, hput⟩ := hIn
  obtain ⟨⟨fn, hfn, hbody, hname⟩, hcall⟩ := hΦ g _ _ _ hphi
  obtain ⟨body, hb⟩ := Option.isSome_iff_exists.1 hbody
  have hFuF : ∀ b, Fu b → F r b := fun b hb => (hFc b).2 (.inl (hsub b hb))
  have hc2 := hcall w Z Fu _ hArgs (fun b hb => (I.z b hb).2) (fun b hb => ⟨(I.own r b (hFuF b hb)).1, I.lt_size (hFuF b hb)⟩)
  have hargs : c.args.map a.eval = ((c.args.toList.zip c.argTypes.toList).map fun x => a.eval x.1).toArray := by
    have : (c.args.toList.zip c.argTypes.toList).map (fun x => a.eval x.1) = c.args.toList.map a.eval := by
      show List.map (a.eval ∘ Prod.fst) _ = _
      rw [← List.map_map, List.map_fst_zip (by simpa using Nat.le_of_eq hlen)]
    rw [this, ← Array.toList_map, Array.toArray_toList]
  have hex : (execOp a.eval o).run P w = .ok (.enter g (((c.args.toList.zip c.argTypes.toList).map (fun x => a.eval x.1)).toArray)) w := by
    unfold execOp
    rw [ho]
    simp only [resolve, hc, hargs, Act.eval, Deferred.ofValue]
    simp only [Sem.run_bind, Sem.run_pure, Result.andThen, invoke]
    rw [callFunc_enter hfn hname hb]
    simp
  unfold Oper.wp
  rw [hex, Oper.upon_enter]
  refine hc2.mono fun e w' hR' => ?_
  cases e with
  | returned vr =>
    simp only at hR' ⊢
    rw [hmu] at hR'
    unfold innerOut at hco
    split at hco
    rotate_left
    · cases hco
    rename_i tr y t1 q1 x1 heq
    simp only [Prod.mk.injEq] at heq
    obtain ⟨rfl, rfl⟩ := heq
    split at hco
    rotate_left
    · cases hco
    rename_i hflat
    simp only [Bool.and_eq_true] at hflat
    rw [hcont] at hco
    simp only at hco
    split at hco
    rotate_left
    · cases hco
    rename_i c' hset
    split at hco
    rotate_left
    · cases hco
    rename_i e' he
    simp only [Out.run, Option.some.injEq] at hco
    subst hco
    obtain ⟨Z', Fr, Fb, vals, p1, p2, p3, p4, p5, p6, p7, p8⟩ := hR'
    obtain ⟨V0, Vs0, G1, G2, rfl, y1, ⟨rfl, y2⟩, yj⟩ := p5
    obtain ⟨V1, Vs1, H1, H2, hVs, x2, ⟨rfl, x3⟩, xj⟩ := p6
    simp only [List.cons.injEq] at hVs
    obtain ⟨rfl, _⟩ := hVs
    have hvr : vr = V0 := by
      rcases p4 with ⟨_, p4⟩ | ⟨p4, _⟩
      · simpa using p4.symm
      · simp at p4
    subst hvr
    have htt : t1 = .sl T t := setPath_ut (s :: p) hpath hset
    subst htt
    have x2' : VRep w' Z (.sl T t) (.own q1) x1 Vm H1 := ⟨x2.1.ownZ hflat.2, x2.2⟩
    have y1' : VRep w' Z tr .fr y vr G1 := ⟨Rep.flatZ hflat.1 y1.1, y1.2⟩
    have hH1 : ∀ b', H1 b' → b' < w'.heap.size ∧ (Fu b' ∨ w.heap.size ≤ b') := fun b' hb' => (p7 b' (.inr (xj.left hb'))).2
    have hblt : b < w.heap.size := I.lt_size hFb
    have hsame : ∀ b', b' < w.heap.size → ¬ Fu b' → w'.heap[b']? = w.heap[b']? := p1.block
    have hroot_lt : ∀ b', (rootLoc (tm a r)).blk = some b' → b' < w.heap.size ∧ ¬ Fu b' := fun b' hb' => by
      refine ⟨I.lt_size ((hFc b').2 (.inr hb')), fun hf => ?_⟩
      generalize rootLoc (tm a r) = l at hb' hR
      cases l with
      | mem b2 o2 =>
        simp only [Loc.blk, Option.some.injEq] at hb'
        subst hb'
        exact hR.1 (hsub _ hf)
      | hdr V => cases hb'
    have hbH : ¬ H1 b := fun h => by
      rcases (hH1 b h).2 with h | h
      · exact hbFu h
      · omega
    have hRnew : RepAt w' Z ⟨.sl T t, .own q1, x1⟩ (.mem b of) H1 := by
      refine ⟨hbH, [Vm], fun j u hj => ?_, ?_⟩
      · cases j with
        | zero =>
          simp only [List.getElem?_cons_zero, Option.some.injEq] at hj
          subst hj
          rw [add_mem, Nat.add_zero]
          exact (cell_of_heap (hsame b hblt hbFu)).trans hcell
        | succ j => simp at hj
      · have := x2'.1
        rwa [x2'.scalar rfl] at this
    have hPut : PutOK w w' Z Z Fc Fu H1 (rootLoc (tm a r)) (.mem b of) 1 := by
      refine ⟨fun b' hz => ⟨hz, hsame b' (I.z b' hz).2 (fun h => (I.own r b' (hFuF b' h)).1 hz)⟩, fun b' h3 h4 => ?_, fun b' h3 h4 => ?_, fun b' h3 h4 => ?_, ?_⟩
      · rcases (hH1 b' h3).2 with h | h
        · exact h
        · have := I.lt_size ((hFc b').2 (.inl h4)); omega
      · obtain ⟨k1, k2⟩ := hroot_lt b' h3
        rcases (hH1 b' h4).2 with h | h
        · exact k2 h
        · omega
      · rcases h3 with ⟨h3, h5⟩ | h3
        · exact hsame b' (I.lt_size ((hFc b').2 (.inl h3))) h5
        · obtain ⟨k1, k2⟩ := hroot_lt b' h3
          exact hsame b' k1 k2
      · intro b' o' hm
        cases hm
        obtain ⟨cur, T0, fz, hh⟩ := heap_of_cell hcell
        exact Reg.same of 1 hh (hsame b hblt hbFu)
    obtain ⟨F', hF', hR2⟩ := hput _ _ ⟨.sl T t, .own q1, x1⟩ H1 c' hset hRnew hPut
    have hent := ent_of_content (w' := w') (Z' := Z) (I.ent r) hcont he hR2 (by
      intro g cur2 T2 hg hh2
      have hk : (rootLoc (tm a r)).blk = some g := by rw [hg]; rfl
      obtain ⟨k1, k2⟩ := hroot_lt g hk
      exact ⟨cur2, by rw [hsame g k1 k2]; exact hh2, rfl⟩)
    have hsplit : ([(r, (⟨v + 1, e'⟩ : Slot))] ++ resUpd o.dst old [.v tr .fr y]) = ([] ++ [(r, ⟨v + 1, e'⟩)]) ++ resUpd o.dst old [.v tr .fr y] := rfl
    obtain ⟨Z2, F2, I2⟩ := I.reroot (w' := w') (u := []) (r := r) (ver := v + 1) (F' := fun b' => F' b' ∨ (rootLoc (tm a r)).blk = some b') hcont he eaten_nil (by simp) rfl (by simp)
      (p1.mono hFuF) (fun _ => False) (fun _ h => h.elim) (by simpa [Iced] using hent)
      (by
        rintro b' (h3 | h3)
        · rcases (hF' b').1 h3 with h4 | h4
          · exact .inl ((hFc b').2 (.inl h4.1))
          · rcases (hH1 b' h4).2 with h5 | h5
            · exact .inl (hFuF b' h5)
            · exact .inr (.inr ⟨⟨h5, (hH1 b' h4).1⟩, fun h => h⟩)
        · exact .inl ((hFc b').2 (.inr h3)))
      (.inl (by omega))
    rw [hsplit, upd_append]
    cases hd : o.dst with
    | none => exact ⟨Z2, F2, I2⟩
    | some d =>
      rw [hd] at h7 hdr
      simp only [getVer, Rd.val, Option.some.injEq] at h7
      have hdne : d ≠ r := fun h => hdr (by rw [h])
      have hold : ((σ.upd ([] ++ [(r, ⟨v + 1, e'⟩)])).at d).ver = old := by
        rw [← h7]
        simp only [List.nil_append, St.upd]
        rw [at_set, if_neg (fun h => hdne h.1)]
      have hy0 : EntOK w' Z2 (.val tr .fr y) vr (fun _ => False) := VRep.toFr rfl ⟨Rep.flatZ hflat.1 y1.1, y1.2⟩
      have := I2.give (a := a) (more := []) (d := d) (e := .val tr .fr y) (V := vr) (Fe := fun _ => False) (ver := old + 1) (by rw [hold]; exact Nat.lt_succ_self _) eaten_nil rfl (by simp) (Ext.refl _ _) (fun _ => False) (fun _ h => h.elim)
        (by simpa [Iced] using hy0) (fun b h => h.elim) (fun hl => RefOK.ofPlain (by rw [at_put_self hl]; rfl))
      exact this
  | panicked ch => exact hR'.elim
  | outgrown => exact hR'.elim
theorem callX_ok (hΦ : ∀ g, FnOK P X.C g) (I : Inv B M Z0 w0 σ a w Z F) {o : Oper} {c : Call} {f : Operand} (ho : o.op = .call c) (hc : c.callee = .value f) (hlen : c.args.size = c.argTypes.size) :
    OpOK P B M Z0 w0 σ a w o (opCallX X.C o.dst f (c.args.toList.zip c.argTypes.toList)) := by
  unfold opCallX
  split
  · intro out hv u hu Q
    obtain ⟨b, _, hv⟩ := Rd.bind_some hv
    cases b with
    | true => exact callIn_ok hΦ I ho hc hlen out hv u hu Q
    | false => exact call_ok hΦ I ho hc hlen out hv u hu Q
  · exact call_ok hΦ I ho hc hlen
end
end Go.K

/- K, part XM: maps. -/
set_option linter.unusedVariables false
set_option linter.unusedSimpArgs false
namespace Go.K
variable [drI : Dr]
section
variable {P : Program} {X : FC} {B : Nat} {M Z0 : BSet} {w0 : World} {σ : St} {a : Act} {w : World} {Z : BSet} {F : Nat → BSet}

/-- The cells of a comparable value. -/
def keyCells : (t : Ty) → t.den → List Value
  | .int k, n => [.int k n]
  | .bool, b => [.bool b]
  | .str, s => [.string ⟨s.toArray⟩]
  | .pair a b, x => keyCells a x.1 ++ keyCells b x.2
  | .arr _ e, xs => List.flatMap (keyCells e) xs
  | _, _ => []
theorem rep_key : ∀ {t : Ty} {x : t.den} {cs : List Value} {Fo : BSet}, comparable t = true → Rep w Z t .fr x cs Fo → cs = keyCells t x
  | .int k, x, cs, Fo, hc, h => by
    rcases h with ⟨_, h, _⟩ | ⟨h, _⟩
    · exact h
    · cases h
  | .bool, x, cs, Fo, hc, h => by
    rcases h with ⟨_, h, _⟩ | ⟨h, _⟩
    · exact h
    · cases h
  | .str, x, cs, Fo, hc, h => by
    rcases h with ⟨_, h, _⟩ | ⟨h, _⟩
    · exact h
    · cases h
  | .unit, x, cs, Fo, hc, h => h.1
  | .pair t1 t2, x, cs, Fo, hc, h => by
    simp only [comparable, Bool.and_eq_true] at hc
    obtain ⟨c1, c2, F1, F2, rfl, h1, h2, _⟩ := h
    rw [rep_key hc.1.2 h1, rep_key hc.2 h2]; rfl
  | .arr n e, x, cs, Fo, hc, h => by
    simp only [comparable, Bool.and_eq_true] at hc
    rcases h with ⟨_, _, h, _⟩ | ⟨h, _⟩
    · have key : ∀ (x : List e.den) (cs : List Value) (Fo : BSet), ElemsRep (fun y => Rep w Z e .fr y) x cs Fo → cs = List.flatMap (keyCells e) x := by
        intro x
        induction x with
        | nil => intro cs Fo h; exact h.1
        | cons y x ih =>
          intro cs Fo h
          obtain ⟨c1, c2, F1, F2, rfl, h1, h2, _⟩ := h
          rw [rep_key hc.2 h1, ih _ _ h2]; rfl
      exact key _ _ _ h
    · cases h
  | .sl _ _, x, cs, Fo, hc, h => by simp [comparable] at hc
  | .ptr _, x, cs, Fo, hc, h => by simp [comparable] at hc
  | .mp _ _, x, cs, Fo, hc, h => by simp [comparable] at hc
theorem beq_bytes (x : ByteArray) : (x == x) = true := by
  obtain ⟨x⟩ := x
  show (x == x) = true
  simp
theorem beq_bytes2 (x y : List UInt8) : ((⟨x.toArray⟩ : ByteArray) == ⟨y.toArray⟩) = (x == y) := by
  show (x.toArray == y.toArray) = (x == y)
  simp
theorem sameBits_key : ∀ {t : Ty} {x : t.den}, ∀ u ∈ keyCells t x, ∀ n, Instr.sameBits n u u = true
  | .int k, x, u, hu, n => by simp only [keyCells, List.mem_singleton] at hu; subst hu; cases n <;> simp [Instr.sameBits]
  | .bool, x, u, hu, n => by simp only [keyCells, List.mem_singleton] at hu; subst hu; cases n <;> simp [Instr.sameBits]
  | .str, x, u, hu, n => by simp only [keyCells, List.mem_singleton] at hu; subst hu; cases n <;> exact beq_bytes _
  | .pair t1 t2, x, u, hu, n => by
    simp only [keyCells, List.mem_append] at hu
    rcases hu with hu | hu
    · exact sameBits_key u hu n
    · exact sameBits_key u hu n
  | .arr m e, x, u, hu, n => by
    simp only [keyCells, List.mem_flatMap] at hu
    obtain ⟨y, _, hu⟩ := hu
    exact sameBits_key u hu n
  | .unit, x, u, hu, n => by simp [keyCells] at hu
  | .sl _ _, x, u, hu, n => by simp [keyCells] at hu
  | .ptr _, x, u, hu, n => by simp [keyCells] at hu
  | .mp _ _, x, u, hu, n => by simp [keyCells] at hu
theorem all_zip_self {α : Type} (f : α → α → Bool) : ∀ l : List α, (∀ u ∈ l, f u u = true) → ((l.zip l).all fun p => f p.1 p.2) = true
  | [], _ => rfl
  | x :: l, h => by
    simp only [List.zip_cons_cons, List.all_cons, Bool.and_eq_true]
    exact ⟨h x (by simp), all_zip_self f l (fun u hu => h u (by simp [hu]))⟩
theorem stays_key {t : Ty} {x : t.den} {V : Value} {Fo : BSet} (hc : comparable t = true) (h : VRep w Z t .fr x V Fo) : (Instr.keyThatStays V V).run P w = .ok V w := by
  have h1 := rep_key hc h.1
  have : Instr.sameBits 10000 V V = true := by
    cases hagg : t.isAgg with
    | true =>
      obtain ⟨cs, rfl⟩ := h.2.1 hagg
      simp only [Value.cells] at h1
      show Instr.sameBits (9999 + 1) (.agg cs) (.agg cs) = true
      simp only [Instr.sameBits, beq_self_eq_true, Bool.true_and]
      rw [h1]
      exact all_zip_self (Instr.sameBits 9999) _ (fun u hu => sameBits_key u hu _)
    | false =>
      rw [h.scalar hagg] at h1
      exact sameBits_key (t := t) (x := x) V (by rw [← h1]; simp) _
  unfold Instr.keyThatStays
  rw [if_pos this]; rfl
theorem eqL_eq {α : Type} {f : α → α → Bool} (h : ∀ x y, f x y = true → x = y) : ∀ {l m : List α}, eqL f l m = true → l = m
  | [], [], _ => rfl
  | x :: l, y :: m, e => by
    simp only [eqL, Bool.and_eq_true] at e
    rw [h x y e.1, eqL_eq h e.2]
  | [], _ :: _, e => by simp [eqL] at e
  | _ :: _, [], e => by simp [eqL] at e
theorem eqB_eq : ∀ {t : Ty} {x y : t.den}, comparable t = true → eqB t x y = true → x = y
  | .int _, x, y, _, h => by simp only [eqB] at h; exact eq_of_beq (α := Int) h
  | .bool, x, y, _, h => by simp only [eqB] at h; exact eq_of_beq (α := Bool) h
  | .str, x, y, _, h => by simp only [eqB] at h; exact eq_of_beq (α := List UInt8) h
  | .unit, x, y, _, h => rfl
  | .pair t1 t2, x, y, hc, h => by
    simp only [comparable, Bool.and_eq_true] at hc
    simp only [eqB, Bool.and_eq_true] at h
    exact Prod.ext (eqB_eq hc.1.2 h.1) (eqB_eq hc.2 h.2)
  | .arr _ e, x, y, hc, h => by
    simp only [comparable, Bool.and_eq_true] at hc
    exact eqL_eq (fun x y => eqB_eq hc.2) h
  | .sl _ _, x, y, hc, h => by simp [comparable] at hc
  | .ptr _, x, y, hc, h => by simp [comparable] at hc
  | .mp _ _, x, y, hc, h => by simp [comparable] at hc
theorem VRep.key_inj {t : Ty} {x : t.den} {V V' : Value} {F1 F2 : BSet} (hc : comparable t = true) (h1 : VRep w Z t .fr x V F1) (h2 : VRep w Z t .fr x V' F2) : V = V' := by
  have e1 := rep_key hc h1.1
  have e2 := rep_key hc h2.1
  cases hagg : t.isAgg with
  | true =>
    obtain ⟨cs, rfl⟩ := h1.2.1 hagg
    obtain ⟨cs', rfl⟩ := h2.2.1 hagg
    simp only [Value.cells] at e1 e2
    rw [Array.ext' (e1.trans e2.symm)]
  | false =>
    rw [h1.scalar hagg] at e1
    rw [h2.scalar hagg] at e2
    have := e1.trans e2.symm
    simpa using this

mutual
theorem check_ok (K : CtxOK P X) : ∀ (t : Ty) {T d : Nat} {x : t.den} {V : Value} {F1 : BSet} {em : Bool}, X.C.ty T = some t → comparable t = true → t ≠ .unit → t.dep ≤ d → VRep w Z t .fr x V F1 →
    (Instr.checkKey em d T V).run P w = .ok () w
  | .int k, T, d, x, V, F1, em, hT, hc, hu, hd, h1 => by
    rw [h1.int (by simp)]
    obtain ⟨d, rfl⟩ : ∃ e, d = e + 1 := ⟨d - 1, by simp only [Ty.dep] at hd; omega⟩
    unfold Instr.checkKey
    rw [Sem.run_bind, run_underlying (K.under hT)]; rfl
  | .bool, T, d, x, V, F1, em, hT, hc, hu, hd, h1 => by
    rw [h1.bool (by simp)]
    obtain ⟨d, rfl⟩ : ∃ e, d = e + 1 := ⟨d - 1, by simp only [Ty.dep] at hd; omega⟩
    unfold Instr.checkKey
    rw [Sem.run_bind, run_underlying (K.under hT)]; rfl
  | .str, T, d, x, V, F1, em, hT, hc, hu, hd, h1 => by
    rw [h1.str (by simp)]
    obtain ⟨d, rfl⟩ : ∃ e, d = e + 1 := ⟨d - 1, by simp only [Ty.dep] at hd; omega⟩
    unfold Instr.checkKey
    rw [Sem.run_bind, run_underlying (K.under hT)]; rfl
  | .unit, T, d, x, V, F1, em, hT, hc, hu, hd, h1 => absurd rfl hu
  | .sl _ _, T, d, x, V, F1, em, hT, hc, hu, hd, h1 => by simp [comparable] at hc
  | .ptr _, T, d, x, V, F1, em, hT, hc, hu, hd, h1 => by simp [comparable] at hc
  | .mp _ _, T, d, x, V, F1, em, hT, hc, hu, hd, h1 => by simp [comparable] at hc
  | .pair t1 t2, T, d, x, V, F1, em, hT, hc, hu, hd, h1 => by
    obtain ⟨xs, rfl, r1⟩ := eagg h1 rfl
    obtain ⟨fs, e1, e2, e3, e4⟩ := K.under hT
    obtain ⟨d, rfl⟩ : ∃ e, d = e + 1 := ⟨d - 1, by
      have : 1 ≤ (Ty.pair t1 t2).dep := by simp only [Ty.dep]; omega
      omega⟩
    rw [Instr.checkKey]
    simp only [Sem.run_bind, run_underlying e1, Result.andThen_ok]
    rw [← Array.forIn_toList]
    refine (congrArg (fun r => Result.andThen r (fun a w' => Sem.run P (pure ()) w')) (checkFields K (.pair t1 t2) (xs := xs) (em := em) e2 hc hd (px := []) rfl (by simp) r1 ?g ?hg)).trans rfl
    intro f u V hn h1 h2
    simp only [Sem.run_bind, hn, ne_eq, not_false_eq_true, if_true, h1, h2, Result.andThen_ok, Sem.run_pure]
  | .arr n e, T, d, x, V, F1, em, hT, hc, hu, hd, h1 => by
    obtain ⟨xs, rfl, r1⟩ := eagg h1 rfl
    obtain ⟨Te, e1, e2⟩ := K.under hT
    simp only [comparable, Bool.and_eq_true, bne_iff_ne, ne_eq] at hc
    obtain ⟨d, rfl⟩ : ∃ e, d = e + 1 := ⟨d - 1, by simp only [Ty.dep] at hd; omega⟩
    simp only [Ty.dep] at hd
    rcases r1 with ⟨_, l1, r1, _⟩ | ⟨h, _⟩
    rotate_left
    · cases h
    rw [Instr.checkKey]
    simp only [Sem.run_bind, run_underlying e1, Result.andThen_ok]
    simp only [Std.Legacy.Range.forIn_eq_forIn_range', Std.Legacy.Range.size, Nat.sub_zero, Nat.add_one_sub_one, Nat.div_one]
    have items : ∀ (g : Nat → PUnit → Sem (ForInStep PUnit)), (∀ i u V, (part Te xs (i * e.cells)).run P w = .ok V w → (Instr.checkKey em d Te V).run P w = .ok () w → (g i u).run P w = .ok (.yield PUnit.unit) w) →
        ∀ (n k : Nat) {x : List e.den} {px cx : List Value} {G1 : BSet}, x.length = n → px.length = k * e.cells → xs.toList = px ++ cx →
        ElemsRep (fun z => Rep w Z e .fr z) x cx G1 → (forIn (List.range' k n) PUnit.unit g).run P w = .ok () w := by
      intro g hg n
      induction n with
      | zero => intro k x px cx G1 _ _ _ _; simp
      | succ n ih =>
        intro k x px cx G1 lx p1 e3 q1
        cases x with
        | nil => simp at lx
        | cons x1 x =>
        obtain ⟨c1, c2, H1, H2, rfl, a1, a2, _⟩ := q1
        obtain ⟨V, v1, v2⟩ := K.part (w := w) e2 (p := px) (r := c2) a1
        have hx : xs = (px ++ c1 ++ c2).toArray := by rw [← Array.toArray_toList (xs := xs), e3, List.append_assoc]
        rw [← hx, p1] at v1
        have hck := check_ok K e (em := em) e2 hc.2 hc.1 (by omega : e.dep ≤ d) v2
        rw [List.range'_succ]
        simp only [List.forIn_cons, Sem.run_bind, hg k _ V v1 hck, Result.andThen_ok]
        exact ih (k + 1) (px := px ++ c1) (by simpa using lx) (by rw [List.length_append, a1.length, p1, Nat.add_mul, Nat.one_mul]) (by rw [e3, List.append_assoc]) a2
    refine (congrArg (fun r => Result.andThen r (fun a w' => Sem.run P (pure ()) w')) (items ?g1 ?hg1 n 0 (px := []) l1 (by simp) rfl r1)).trans rfl
    intro i u V h1 h2
    simp only [Sem.run_bind, K.sizeOf e2, Result.andThen_ok, h1, h2, Sem.run_pure]
theorem checkFields (K : CtxOK P X) : ∀ (t : Ty) {d o : Nat} {fs : List Field} {x : t.den} {xs : Array Value} {px cx : List Value} {F1 : BSet} {em : Bool}, fieldsOK X.C.ty fs t o = true → comparable t = true → t.dep ≤ d + 1 →
    px.length = o → xs.toList = px ++ cx → Rep w Z t .fr x cx F1 →
    ∀ (g : Field → PUnit → Sem (ForInStep PUnit)), (∀ f u V, f.name ≠ "_" → (part f.type xs f.offset).run P w = .ok V w → (Instr.checkKey em d f.type V).run P w = .ok () w → (g f u).run P w = .ok (.yield PUnit.unit) w) →
    (forIn fs PUnit.unit g).run P w = .ok () w
  | .unit, d, o, fs, x, xs, px, cx, F1, em, hf, hc, hd, e1, e3, r1, g, hg => by
    cases fs with
    | nil => simp
    | cons f fs => simp [fieldsOK] at hf
  | .pair t1 t2, d, o, fs, x, xs, px, cx, F1, em, hf, hc, hd, e1, e3, r1, g, hg => by
    cases fs with
    | nil => simp [fieldsOK] at hf
    | cons f fs =>
      simp only [fieldsOK, Bool.and_eq_true, beq_iff_eq, bne_iff_ne, ne_eq] at hf
      obtain ⟨⟨⟨hn, hty⟩, ho⟩, hf⟩ := hf
      simp only [comparable, Bool.and_eq_true, bne_iff_ne, ne_eq] at hc
      obtain ⟨c1, c2, G1, G2, rfl, a1, a2, _⟩ := r1
      obtain ⟨V, v1, v2⟩ := K.part (w := w) hty (p := px) (r := c2) a1
      have hx : xs = (px ++ c1 ++ c2).toArray := by rw [← Array.toArray_toList (xs := xs), e3, List.append_assoc]
      rw [← hx, show px.length = f.offset by omega] at v1
      simp only [Ty.dep] at hd
      have hck := check_ok K t1 (em := em) hty hc.1.2 hc.1.1 (by omega : t1.dep ≤ d) v2
      simp only [List.forIn_cons, Sem.run_bind, hg f _ V hn v1 hck, Result.andThen_ok]
      exact checkFields K t2 hf hc.2 (by omega) (px := px ++ c1) (by rw [List.length_append, a1.length]; omega) (by rw [e3, List.append_assoc]) a2 g hg
  | .int _, d, o, fs, x, xs, px, cx, F1, em, hf, _, _, _, _, _, _, _ => by cases fs <;> simp [fieldsOK] at hf
  | .bool, d, o, fs, x, xs, px, cx, F1, em, hf, _, _, _, _, _, _, _ => by cases fs <;> simp [fieldsOK] at hf
  | .str, d, o, fs, x, xs, px, cx, F1, em, hf, _, _, _, _, _, _, _ => by cases fs <;> simp [fieldsOK] at hf
  | .sl _ _, d, o, fs, x, xs, px, cx, F1, em, hf, _, _, _, _, _, _, _ => by cases fs <;> simp [fieldsOK] at hf
  | .ptr _, d, o, fs, x, xs, px, cx, F1, em, hf, _, _, _, _, _, _, _ => by cases fs <;> simp [fieldsOK] at hf
  | .arr _ _, d, o, fs, x, xs, px, cx, F1, em, hf, _, _, _, _, _, _, _ => by cases fs <;> simp [fieldsOK] at hf
  | .mp _ _, d, o, fs, x, xs, px, cx, F1, em, hf, _, _, _, _, _, _, _ => by cases fs <;> simp [fieldsOK] at hf
end

/-! ### Finding a key -/
abbrev MRep (w : World) (Z : BSet) (kt vt : Ty) (l : List (kt.den × vt.den)) (es : List MapEntry) : Prop :=
  MapRep (fun y cs => Rep w Z kt .fr y cs (fun _ => False)) (fun y cs => Rep w Z vt .fr y cs (fun _ => False)) kt.isAgg vt.isAgg l es
/-- Where a key stands. -/
inductive Look {kt vt : Ty} (x : kt.den) (l : List (kt.den × vt.den)) (es : List MapEntry) : Option (Nat × Value) → Prop where
  | no : mpFind (eqB kt) x l = none → (∀ v, mpPut (eqB kt) x v l = l ++ [(x, v)]) → Look x l es none
  | yes {j : Nat} {e : MapEntry} {y : kt.den × vt.den} : es[j]? = some e → l[j]? = some y → eqB kt x y.1 = true → mpFind (eqB kt) x l = some y.2 → (∀ v, mpPut (eqB kt) x v l = l.set j (x, v)) → Look x l es (some (j, e.val))
theorem Look.cons {kt vt : Ty} {x : kt.den} {l : List (kt.den × vt.den)} {es : List MapEntry} {z : kt.den × vt.den} {e : MapEntry} (hz : eqB kt x z.1 = false) :
    ∀ {r : Option (Nat × Value)}, Look x l es r → Look x (z :: l) (e :: es) (r.map fun p => (p.1 + 1, p.2))
  | _, .no h1 h2 => .no (by simp [mpFind, hz, h1]) (fun v => by simp [mpPut, hz, h2])
  | _, .yes h1 h2 h3 h4 h5 => .yes (by simpa using h1) (by simpa using h2) h3 (by simp [mpFind, hz, h4]) (fun v => by simp [mpPut, hz, h5])
theorem MRep.keyV {kt vt : Ty} {z : kt.den × vt.den} {l : List (kt.den × vt.den)} {e : MapEntry} {es : List MapEntry} (h : MRep w Z kt vt (z :: l) (e :: es)) : VRep w Z kt .fr z.1 e.key (fun _ => False) ∧ VRep w Z vt .fr z.2 e.val (fun _ => False) ∧ MRep w Z kt vt l es := by
  obtain ⟨e', es', he, h1, h2, h3⟩ := h
  cases he
  exact ⟨h1, h2, h3⟩
theorem asking_ok (K : CtxOK P X) {kt vt : Ty} {Tk : Nat} (hT : X.C.ty Tk = some kt) (hk : keyTy kt = true) {x : kt.den} {V : Value} {F1 : BSet} (hV : VRep w Z kt .fr x V F1) :
    ∀ {l : List (kt.den × vt.den)} {es : List MapEntry}, MRep w Z kt vt l es → ∃ r, Look x l es r ∧ ∀ i, (Instr.findAsking Tk V es i).run P w = .ok (r.map fun p => (i + p.1, p.2)) w := by
  intro l
  induction l with
  | nil =>
    intro es h
    have h : es = [] := h
    subst h
    exact ⟨none, .no rfl (fun v => rfl), fun i => rfl⟩
  | cons z l ih =>
    intro es h
    cases es with
    | nil => obtain ⟨_, _, he, _⟩ := h; cases he
    | cons e es =>
    obtain ⟨h1, h2, h3⟩ := MRep.keyV h
    simp only [keyTy, Bool.and_eq_true, bne_iff_ne, ne_eq, decide_eq_true_eq] at hk
    have heq : (Op.equal Tk V e.key).run P w = .ok (eqB kt x z.1) w := eq_ok (w := w) K kt hT hk.1.1 hk.1.2 (by show kt.dep ≤ 10000; omega) hV h1
    cases hb : eqB kt x z.1 with
    | true =>
      refine ⟨some (0, e.val), .yes (y := z) rfl rfl hb (by simp [mpFind, hb]) (fun v => by simp [mpPut, hb]), fun i => ?_⟩
      simp only [Instr.findAsking]
      rw [Sem.run_bind, heq, hb]
      rfl
    | false =>
      obtain ⟨r, hr, hrun⟩ := ih h3
      refine ⟨_, hr.cons hb, fun i => ?_⟩
      simp only [Instr.findAsking]
      rw [Sem.run_bind, heq, hb]
      simp only [Result.andThen, Bool.false_eq_true, if_false]
      rw [hrun]
      cases r with
      | none => rfl
      | some p => simp [Nat.add_assoc, Nat.add_comm 1]
theorem now_ok (K : CtxOK P X) {kt vt : Ty} {td : TypeDesc} (hc : comparable kt = true) {x : kt.den} {V : Value} {F1 : BSet} (hV : VRep w Z kt .fr x V F1)
    (hs : ∀ (z : kt.den) (V' : Value) F2, VRep w Z kt .fr z V' F2 → Instr.sameNow td V V' = some (eqB kt x z)) :
    ∀ {l : List (kt.den × vt.den)} {es : List MapEntry}, MRep w Z kt vt l es → ∃ r, Look x l es r ∧ ∀ i, Instr.findNow td V es i = some (r.map fun p => (i + p.1, p.2)) := by
  intro l
  induction l with
  | nil =>
    intro es h
    have h : es = [] := h
    subst h
    exact ⟨none, .no rfl (fun v => rfl), fun i => rfl⟩
  | cons z l ih =>
    intro es h
    cases es with
    | nil => obtain ⟨_, _, he, _⟩ := h; cases he
    | cons e es =>
    obtain ⟨h1, h2, h3⟩ := MRep.keyV h
    have heq := hs _ _ _ h1
    cases hb : eqB kt x z.1 with
    | true =>
      refine ⟨some (0, e.val), .yes (y := z) rfl rfl hb (by simp [mpFind, hb]) (fun v => by simp [mpPut, hb]), fun i => ?_⟩
      simp only [Instr.findNow, heq, hb]
      rfl
    | false =>
      obtain ⟨r, hr, hrun⟩ := ih h3
      refine ⟨_, hr.cons hb, fun i => ?_⟩
      simp only [Instr.findNow, heq, hb, hrun]
      cases r with
      | none => rfl
      | some p => simp [Nat.add_assoc, Nat.add_comm 1]
theorem find_ok (K : CtxOK P X) {kt vt : Ty} {Tk : Nat} (hT : X.C.ty Tk = some kt) (hk : keyTy kt = true) {x : kt.den} {V : Value} {F1 : BSet} (hV : VRep w Z kt .fr x V F1)
    {l : List (kt.den × vt.den)} {es : List MapEntry} (h : MRep w Z kt vt l es) : ∃ r, Look x l es r ∧ (Instr.findKey Tk V es).run P w = .ok r w := by
  have hk0 := hk
  simp only [keyTy, Bool.and_eq_true, bne_iff_ne, ne_eq, decide_eq_true_eq] at hk
  have hid : ∀ r : Option (Nat × Value), (r.map fun p => (0 + p.1, p.2)) = r := by intro r; cases r <;> simp
  have wide : (match P.underlying Tk with | some (.array _ _) | some (.struct _) => true | _ => false) = true → ∃ r, Look x l es r ∧ (Instr.findKey Tk V es).run P w = .ok r w := by
    intro hw
    obtain ⟨r, h1, h2⟩ := asking_ok K hT hk0 hV h
    refine ⟨r, h1, ?_⟩
    rw [run_findKey_eq w hw, h2 0, hid]
  have plain : ∀ td, P.underlying Tk = some td → (∀ (z : kt.den) (V' : Value) F2, VRep w Z kt .fr z V' F2 → Instr.sameNow td V V' = some (eqB kt x z)) → ∃ r, Look x l es r ∧ (Instr.findKey Tk V es).run P w = .ok r w := by
    intro td hu hs
    obtain ⟨r, h1, h2⟩ := now_ok K hk.1.1 hV hs h
    refine ⟨r, h1, ?_⟩
    unfold Instr.findKey
    rw [Sem.run_bind, run_underlying hu]
    simp only [Result.andThen, h2 0, hid]
    rfl
  cases kt with
  | int k => exact plain _ (K.under hT) (fun z V' F2 h2 => by rw [hV.int (by simp), h2.int (by simp)]; simp only [Instr.sameNow, if_true]; rfl)
  | bool => exact plain _ (K.under hT) (fun z V' F2 h2 => by rw [hV.bool (by simp), h2.bool (by simp)]; rfl)
  | str => exact plain _ (K.under hT) (fun z V' F2 h2 => by rw [hV.str (by simp), h2.str (by simp)]; show some _ = some _; rw [beq_bytes2]; rfl)
  | unit => exact absurd rfl hk.1.2
  | pair t1 t2 => obtain ⟨fs, h1, _⟩ := K.under hT; exact wide (by rw [h1])
  | arr n e => obtain ⟨Te, h1, _⟩ := K.under hT; exact wide (by rw [h1])
  | sl _ _ => simp [comparable] at hk
  | ptr _ => simp [comparable] at hk
  | mp _ _ => simp [comparable] at hk
theorem MRep.at {kt vt : Ty} : ∀ {l : List (kt.den × vt.den)} {es : List MapEntry} {j : Nat} {e : MapEntry} {y : kt.den × vt.den}, MRep w Z kt vt l es → es[j]? = some e → l[j]? = some y → VRep w Z kt .fr y.1 e.key (fun _ => False) ∧ VRep w Z vt .fr y.2 e.val (fun _ => False)
  | [], _, j, e, y, h, h1, h2 => by simp at h2
  | z :: l, [], j, e, y, h, h1, h2 => by simp at h1
  | z :: l, e0 :: es, 0, e, y, h, h1, h2 => by
    simp only [List.getElem?_cons_zero, Option.some.injEq] at h1 h2
    subst h1; subst h2
    exact ⟨(MRep.keyV h).1, (MRep.keyV h).2.1⟩
  | z :: l, e0 :: es, j + 1, e, y, h, h1, h2 => MRep.at (MRep.keyV h).2.2 (by simpa using h1) (by simpa using h2)
theorem MRep.set {kt vt : Ty} {x : kt.den} {v : vt.den} {e' : MapEntry} (hk : VRep w Z kt .fr x e'.key (fun _ => False)) (hv : VRep w Z vt .fr v e'.val (fun _ => False)) :
    ∀ {l : List (kt.den × vt.den)} {es : List MapEntry} {j : Nat}, MRep w Z kt vt l es → MRep w Z kt vt (l.set j (x, v)) (es.set j e')
  | [], _, j, h => by have h : _ = [] := h; subst h; exact rfl
  | z :: l, [], j, h => by obtain ⟨_, _, he, _⟩ := h; cases he
  | z :: l, e0 :: es, 0, h => ⟨e', es, rfl, hk, hv, (MRep.keyV h).2.2⟩
  | z :: l, e0 :: es, j + 1, h => ⟨e0, es.set j e', rfl, (MRep.keyV h).1, (MRep.keyV h).2.1, MRep.set hk hv (MRep.keyV h).2.2⟩
theorem MRep.push {kt vt : Ty} {x : kt.den} {v : vt.den} {e' : MapEntry} (hk : VRep w Z kt .fr x e'.key (fun _ => False)) (hv : VRep w Z vt .fr v e'.val (fun _ => False)) :
    ∀ {l : List (kt.den × vt.den)} {es : List MapEntry}, MRep w Z kt vt l es → MRep w Z kt vt (l ++ [(x, v)]) (es ++ [e'])
  | [], _, h => by have h : _ = [] := h; subst h; exact ⟨e', [], rfl, hk, hv, rfl⟩
  | z :: l, [], h => by obtain ⟨_, _, he, _⟩ := h; cases he
  | z :: l, e0 :: es, h => ⟨e0, es ++ [e'], rfl, (MRep.keyV h).1, (MRep.keyV h).2.1, MRep.push hk hv (MRep.keyV h).2.2⟩

/-! ### The operations -/
theorem VRep.map {kt vt : Ty} {q : Ow} {l : List (kt.den × vt.den)} {V : Value} {Fo : BSet} (h : VRep w Z (.mp kt vt) (.own q) l V Fo) :
    ∃ g es ck, V = .map (some g) ∧ w.heap[g]? = some (.map es ck) ∧ MRep w Z kt vt l es.toList ∧ ∀ b, Fo b ↔ b = g := by
  have h1 := h.1
  rw [h.scalar rfl] at h1
  obtain ⟨g, es, ck, hV, h2, h3, h4⟩ := h1
  simp only [List.cons.injEq, and_true] at hV
  exact ⟨g, es, ck, hV, h2, h3, h4⟩
theorem makeMap_ok (K : CtxOK P X) (I : Inv B M Z0 w0 σ a w Z F) {o : Oper} {T : Nat} (ho : o.op = .makeMap T none) : OpOK P B M Z0 w0 σ a w o (opMakeMap X.C o.dst T) := by
  intro out hv u hu Q
  have hex : execOp a.eval o = (Instr.makeMap T none >>= fun v => pure (Next.value v)) := by unfold execOp; rw [ho]; rfl
  unfold opMakeMap at hv
  split at hv
  · rename_i k v hT
    obtain ⟨d, hd, rfl⟩ := put_val hv
    simp only [Out.run, Option.some.injEq] at hu
    subst hu
    refine ok_put (Fe := fun b => b = w.heap.size) (e := .val (.mp k v) (.own .fr) []) I (more := []) hd (addr_run hex (V := .map (some w.heap.size)) (w' := w.alloc (.map #[] 0)) rfl) eaten_nil rfl (by simp) (Ext.alloc w _) ?_ ?_ trivial Q
    · exact .mk1 rfl (by simp) ⟨w.heap.size, #[], 0, rfl, heap_alloc_new w _, rfl, fun b => Iff.rfl⟩
    · rintro b rfl
      exact .inr ⟨Nat.le_refl _, by simp⟩
  · cases hv
theorem asKey_ok (I : Inv B M Z0 w0 σ a w Z F) {C : Ctx} {kt : Ty} {x : Operand} {y : kt.den} (h : (asKey C kt x).val σ = some y) : VRep w Z kt .fr y (a.eval x) (fun _ => False) := by
  obtain ⟨e, h1, h2⟩ := Rd.bind_some h
  split at h2
  · rename_i t q z
    split at h2
    · rename_i ht
      subst ht
      split at h2
      · rename_i hq
        simp only [Rd.val, Option.some.injEq] at h2
        subst h2
        obtain ⟨Fo, h3⟩ := opd_val I h1
        exact h3.toFr hq
      · cases h2
    · cases h2
  · cases h2
theorem CtxOK.zeroV (K : CtxOK P X) {T : Nat} {t : Ty} (h : X.C.ty T = some t) (hz : t.hasZero = true) : ∃ V, (Go.zeroValue T).run P w = .ok V w ∧ VRep w Z t .fr t.zero V (fun _ => False) := by
  obtain ⟨i, h1, h2, h3⟩ := K.size h
  obtain ⟨z, h4, h5, h6⟩ := h3 hz
  refine ⟨z, ?_, ?_, ?_⟩
  · unfold Go.zeroValue
    rw [Sem.run_bind, run_typeInfo w h1]
    simp only [Result.andThen, h4, Sem.run_pure]
  · rw [cellsEq_ok h5]; exact zero_flat w Z hz
  · rw [← h6]
    cases z <;> simp
theorem asMap_ok (I : Inv B M Z0 w0 σ a w Z F) {x : Operand} {r : Nat} (h : (asMap x).val σ = some r) : a.eval x = tm a r := by
  cases x with
  | tmp t =>
    simp only [asMap, Rd.val] at h
    split at h
    · simp only [Rd.val, Option.some.injEq] at h
      subst h; rfl
    · rename_i r' v he
      simp only [Rd.val] at h
      split at h
      · rename_i hv
        simp only [Rd.val, Option.some.injEq] at h
        subst h
        have hR := I.ref t
        unfold RefOK at hR
        rw [he] at hR
        exact hR.2 hv
      · cases h
    · cases h
  | _ => cases h
theorem lookup_ok (K : CtxOK P X) (I : Inv B M Z0 w0 σ a w Z F) {o : Oper} {T : Nat} {m k : Operand} {ok : Bool} (ho : o.op = .lookup T m k ok) : OpOK P B M Z0 w0 σ a w o (opLookup X.C o.dst T m k ok) := by
  intro out hv u hu Q
  have hex : execOp a.eval o = (Instr.lookup T (a.eval m) (a.eval k) ok >>= fun v => pure (Next.value v)) := by unfold execOp; rw [ho]
  obtain ⟨r, h1, h2⟩ := Rd.bind_some hv
  simp only [Rd.val] at h2
  split at h2
  rotate_left
  · cases h2
  rename_i kt vt l hre
  have hm : VRep w Z (.mp kt vt) (.own .fr) l (a.eval m) (F r) := by
    have := I.ent r
    rw [hre, ← asMap_ok I h1] at this
    exact this
  obtain ⟨x, h3, h4⟩ := Rd.bind_some h2
  have hk := asKey_ok I h3
  split at h4
  rotate_left
  · cases h4
  rename_i hc
  simp only [Bool.and_eq_true, decide_eq_true_eq] at hc
  obtain ⟨⟨hkt, hz⟩, hT⟩ := hc
  obtain ⟨Tk, Tv, hu1, hu2, hu3⟩ := K.under hT
  obtain ⟨g, es, ck, hV, hg, hr, _⟩ := hm.map
  obtain ⟨r, hl, hfind⟩ := find_ok (vt := vt) K hu2 hkt hk hr
  have hkt' := hkt
  simp only [keyTy, Bool.and_eq_true, bne_iff_ne, ne_eq, decide_eq_true_eq] at hkt'
  have hck : (Instr.checkKey es.isEmpty 10000 Tk (a.eval k)).run P w = .ok () w := check_ok K kt hu2 hkt'.1.1 hkt'.1.2 (by omega) hk
  have key : ∃ V, (Instr.lookup T (a.eval m) (a.eval k) ok).run P w = .ok (if ok then .tuple #[V, .bool (mpFind (eqB kt) x l).isSome] else V) w ∧ VRep w Z vt .fr ((mpFind (eqB kt) x l).getD vt.zero) V (fun _ => False) := by
    cases hl with
    | no hn hp =>
      obtain ⟨V, hz1, hz2⟩ := K.zeroV (w := w) (Z := Z) hu3 hz
      refine ⟨V, ?_, by rw [hn]; exact hz2⟩
      unfold Instr.lookup
      rw [Sem.run_bind, run_underlying hu1]
      simp only [Result.andThen, hV]
      simp only [Sem.run_bind, MapKept.run_getObj_map hg, Result.andThen_ok, Sem.run_pure, hck, hfind, hz1, hn]
      cases ok <;> rfl
    | @yes j e y he hy hb hf hp =>
      refine ⟨e.val, ?_, by rw [hf]; exact (MRep.at hr he hy).2⟩
      unfold Instr.lookup
      rw [Sem.run_bind, run_underlying hu1]
      simp only [Result.andThen, hV]
      simp only [Sem.run_bind, MapKept.run_getObj_map hg, Result.andThen_ok, Sem.run_pure, hck, hfind, hf]
      cases ok <;> rfl
  obtain ⟨V, hrun, hVr⟩ := key
  cases ok with
  | true =>
    refine ok_plain I (addr_run hex hrun) (e := .tup _) ?_ trivial h4 hu Q
    exact ⟨_, rfl, V, [.bool (mpFind (eqB kt) x l).isSome], _, _, rfl, hVr, ⟨_, [], _, _, rfl, VRep.ofBool _, ⟨rfl, fun _ h => h⟩, Join.none⟩, Join.none⟩
  | false => exact ok_val I (addr_run hex hrun) hVr h4 hu Q
theorem mapUpdate_ok (K : CtxOK P X) (I : Inv B M Z0 w0 σ a w Z F) {o : Oper} {T : Nat} {m k v : Operand} (ho : o.op = .mapUpdate T m k v) : OpOK P B M Z0 w0 σ a w o (opMapUpdate X.C o.dst T m k v) := by
  intro out hv u hu Q
  have hex : execOp a.eval o = (Instr.mapUpdate T (a.eval m) (a.eval k) (a.eval v) >>= fun _ => pure Next.skip) := by unfold execOp; rw [ho]
  unfold opMapUpdate at hv
  split at hv
  · cases hv
  rename_i hd
  have hdn : o.dst = none := by cases hd' : o.dst <;> simp_all
  obtain ⟨r, h1, hv1⟩ := Rd.bind_some hv
  clear hv
  have hv := hv1
  simp only [Rd.val] at hv
  split at hv
  rotate_left
  · cases hv
  rename_i kt vt l hre
  have hmr := asMap_ok I h1
  obtain ⟨x, h3, h4⟩ := Rd.bind_some hv
  obtain ⟨y, h5, h6⟩ := Rd.bind_some h4
  have hk := asKey_ok I h3
  have hy := asKey_ok I h5
  split at h6
  rotate_left
  · cases h6
  rename_i hc
  simp only [Bool.and_eq_true, decide_eq_true_eq] at hc
  obtain ⟨hkt, hT⟩ := hc
  simp only [Rd.val, Option.some.injEq] at h6
  subst h6
  simp only [Out.run, Option.some.injEq] at hu
  subst hu
  obtain ⟨Tk, Tv, hu1, hu2, hu3⟩ := K.under hT
  have hI := I.ent r
  rw [hre] at hI
  have hI' : VRep w Z (.mp kt vt) (.own .fr) l (tm a r) (F r) := hI
  obtain ⟨g, es, ck, hV, hg, hr, hF⟩ := hI'.map
  obtain ⟨res, hl, hfind⟩ := find_ok (vt := vt) K hu2 hkt hk hr
  have hkt' := hkt
  simp only [keyTy, Bool.and_eq_true, bne_iff_ne, ne_eq, decide_eq_true_eq] at hkt'
  have hck : (Instr.checkKey false 10000 Tk (a.eval k)).run P w = .ok () w := check_ok K kt hu2 hkt'.1.1 hkt'.1.2 (by omega) hk
  have hVe : a.eval m = .map (some g) := hmr.trans hV
  have key : ∃ es' ck', (Instr.mapUpdate T (a.eval m) (a.eval k) (a.eval v)).run P w = .ok () { w with heap := w.heap.setIfInBounds g (.map es' ck') } ∧ MRep w Z kt vt (mpPut (eqB kt) x y l) es'.toList := by
    cases hl with
    | no hn hp =>
      refine ⟨es.push { key := a.eval k, val := a.eval v, born := ck }, ck + 1, ?_, ?_⟩
      · unfold Instr.mapUpdate
        rw [Sem.run_bind, run_underlying hu1]
        simp only [Result.andThen, hVe]
        simp only [Sem.run_bind, MapKept.run_getObj_map hg, Result.andThen_ok, hck, hfind, MapKept.run_setObj_map _ hg]
      · rw [hp, Array.toList_push]
        exact MRep.push (e' := { key := a.eval k, val := a.eval v, born := ck }) hk hy hr
    | @yes j e z he hz hb hf hp =>
      have hxz := eqB_eq hkt'.1.1 hb
      have hke : e.key = a.eval k := by
        have h7 := (MRep.at hr he hz).1
        rw [← hxz] at h7
        exact VRep.key_inj hkt'.1.1 h7 hk
      have hej : es[j]? = some e := by simpa using he
      refine ⟨es.modify j (fun e' => { e' with key := a.eval k, val := a.eval v }), ck, ?_, ?_⟩
      · unfold Instr.mapUpdate
        rw [Sem.run_bind, run_underlying hu1]
        simp only [Result.andThen, hVe]
        simp only [Sem.run_bind, MapKept.run_getObj_map hg, Result.andThen_ok, hck, hfind, hej, Option.map_some, Option.getD_some, hke, stays_key hkt'.1.1 hk, MapKept.run_setObj_map _ hg]
      · rw [hp, Array.toList_modify]
        have : es.toList.modify j (fun e' => { e' with key := a.eval k, val := a.eval v }) = es.toList.set j { e with key := a.eval k, val := a.eval v } := by
          apply List.ext_getElem?
          intro i
          rw [List.getElem?_modify, List.getElem?_set]
          by_cases hi : j = i
          · subst hi
            rw [he]
            have : j < es.toList.length := (List.getElem?_eq_some_iff.1 he).1
            simpa [this] using this
          · simp [hi]
        rw [this]
        exact MRep.set (e' := { e with key := a.eval k, val := a.eval v }) hk hy hr
  obtain ⟨es', ck', hrun, hr'⟩ := key
  have hgl : g < w.heap.size := I.lt_size ((hF g).2 rfl)
  have hrl : r < σ.length := I.lt_len ((hF g).2 rfl)
  have hoth : ∀ b, b ≠ g → (w.heap.setIfInBounds g (.map es' ck'))[b]? = w.heap[b]? := fun b hb => by rw [Array.getElem?_setIfInBounds]; simp [Ne.symm hb]
  have hself : (w.heap.setIfInBounds g (.map es' ck'))[g]? = some (.map es' ck') := by rw [Array.getElem?_setIfInBounds]; simp [hgl]
  unfold Oper.wp
  rw [hex, Sem.run_bind, hrun]
  show Good B M Z0 w0 _ (a.put o.dst undef) _
  rw [hdn]
  have hZg : ∀ b, Z b → b ≠ g := fun b hb e => (I.own r g ((hF g).2 rfl)).1 (e ▸ hb)
  refine ⟨Z, F, I.change (fun t => t = r) (by rw [put_size, I.len, length_upd]) (by rw [put_defers]; exact I.defers) ?_ ?_ (fun b h => h) ?_ ?_ ?_ ?_ ?_ ?_⟩
  · intro t ht
    refine ⟨at_upd_not _ _ _ (by simpa using ht), rfl, rfl⟩
  · refine ⟨rfl, rfl, rfl, by simp, fun b hb hn => hoth b (fun e => hn ⟨r, rfl, (hF b).2 e⟩), Dr.refl _⟩
  · intro b hb
    exact ⟨by simpa using (I.z b hb).2, .inl hb⟩
  · rintro t rfl
    have e1 : (σ.upd [(t, ⟨(σ.at t).ver + 1, .val (.mp kt vt) (.own .fr) (mpPut (eqB kt) x y l)⟩)]).at t = ⟨(σ.at t).ver + 1, .val (.mp kt vt) (.own .fr) (mpPut (eqB kt) x y l)⟩ := by
      rw [St.upd, St.upd, at_set]; simp [hrl]
    rw [e1]
    show VRep _ Z (.mp kt vt) (.own .fr) _ (tm a t) (F t)
    rw [hV]
    refine .mk1 rfl (by simp) ⟨g, es', ck', rfl, hself, ?_, hF⟩
    exact hr'.mono (fun _ _ h => h.frame (fun b hb => ⟨hb, hoth b (hZg b hb)⟩) (fun _ h => h.elim)) (fun _ _ h => h.frame (fun b hb => ⟨hb, hoth b (hZg b hb)⟩) (fun _ h => h.elim))
  · rintro t rfl
    unfold RefOK
    have e1 : (σ.upd [(t, ⟨(σ.at t).ver + 1, .val (.mp kt vt) (.own .fr) (mpPut (eqB kt) x y l)⟩)]).at t = ⟨(σ.at t).ver + 1, .val (.mp kt vt) (.own .fr) (mpPut (eqB kt) x y l)⟩ := by
      rw [St.upd, St.upd, at_set]; simp [hrl]
    rw [e1]
    trivial
  · rintro t rfl b hb
    obtain ⟨h7, h8, h9⟩ := I.own t b hb
    exact ⟨h7, by simpa using h9, .inl ⟨t, rfl, hb⟩⟩
  · rintro t t' rfl rfl b _ _; rfl
  · rintro t rfl
    left
    rw [St.upd, St.upd, at_set]
    simp [hrl]
end
end Go.K

/- K, part 1: every operation that the machine takes is sound. -/
set_option linter.unusedVariables false
set_option linter.unusedSimpArgs false
namespace Go.K
variable [drI : Dr]
section
variable {P : Program} {X : FC} {B : Nat} {M Z0 : BSet} {w0 : World} {σ : St} {a : Act} {w : World} {Z : BSet} {F : Nat → BSet}

theorem fail_ok {o : Oper} : OpOK P B M Z0 w0 σ a w o .fail := by intro out hv; cases hv
theorem step_ok (K : CtxOK P X) (hΦ : ∀ g, FnOK P X.C g) (I : Inv B M Z0 w0 σ a w Z F) (o : Oper) : OpOK P B M Z0 w0 σ a w o (step X o) := by
  unfold step
  split
  · rename_i x ho; exact move_ok I ho
  · rename_i x ho
    split
    · exact assignOwn_ok I ho
    · exact assign_ok I ho
  · rename_i c x y ho; exact pick_ok I ho
  · rename_i T ho; exact alloc_ok K I ho
  · rename_i T x ho; exact box_ok I ho
  · rename_i T ps ho; exact build_ok K I ho
  · rename_i T n ps ho; exact buildSlice_ok K I ho
  · rename_i T x ho; exact load_ok K I ho
  · rename_i T ad x ho; exact store_ok K I ho
  · rename_i x ho; exact nilCheck_ok I ho
  · rename_i op T x y T2 ho; exact bin_ok K I ho
  · rename_i op T x ho; exact un_ok I ho
  · rename_i S D x ho; exact convert_ok K I ho
  · rename_i fn first caps ho; exact makeFunc_ok I ho
  · rename_i T n c ho; exact makeSlice_ok K I ho
  · rename_i T x lo hi mx ho; exact slice_ok K I ho
  · rename_i T x f ho
    split
    · exact fieldIce_ok K I ho
    · exact fieldAddr_ok K I ho
  · rename_i T x i ho; exact indexAddr_ok K I ho
  · rename_i T x i ho; exact index_ok K I ho
  · rename_i x i ho; exact extract_ok I ho
  · rename_i T ho; exact makeMap_ok K I ho
  · rename_i T m k ok ho; exact lookup_ok K I ho
  · rename_i T m k v ho; exact mapUpdate_ok K I ho
  · rename_i c ho
    split
    · rename_i hc
      split
      · rename_i x T h1 h2; exact len_ok K I ho hc h1 h2
      · exact fail_ok
    · rename_i hc; exact minmax_ok I ho _ (.inl ⟨hc, rfl⟩)
    · rename_i hc; exact minmax_ok I ho _ (.inr ⟨hc, rfl⟩)
    · rename_i hc
      split
      · rename_i s x T T2 h1 h2; exact append_ok K I ho hc h1 h2
      · exact fail_ok
    · rename_i hc
      split
      · rename_i x T h1 h2; exact clear_ok K I ho hc h1 h2
      · exact fail_ok
    · exact fail_ok
    · exact fail_ok
    · rename_i f hc
      split
      · rename_i hl; exact callX_ok hΦ I ho hc hl
      · exact fail_ok
  · exact fail_ok
end
end Go.K

/- K, part 2: regions. -/
set_option linter.unusedVariables false
set_option linter.unusedSimpArgs false
namespace Go.K
variable [drI : Dr]

theorem Rd.run_reads.{u} {α : Type u} {σ : St} : ∀ {x : Rd α} {l : List Nat} {a : α} {r : List Nat}, x.run σ l = some (a, r) → ∀ t, t ∈ l → t ∈ r
  | .ret a, l, b, r, h, t, ht => by simp only [Rd.run, Option.some.injEq, Prod.mk.injEq] at h; rw [← h.2]; exact ht
  | .fail, l, b, r, h, t, ht => by simp [Rd.run] at h
  | .get u k, l, b, r, h, t, ht => by simp only [Rd.run] at h; exact Rd.run_reads h t (List.mem_cons_of_mem _ ht)
/-- What is read decides. -/
theorem Rd.run_local.{u} {α : Type u} {σ σ' : St} : ∀ {x : Rd α} {l : List Nat} {a : α} {r : List Nat}, x.run σ l = some (a, r) → (∀ t, t ∈ r → σ'.at t = σ.at t) → x.run σ' l = some (a, r)
  | .ret a, l, b, r, h, _ => h
  | .fail, l, b, r, h, _ => by simp [Rd.run] at h
  | .get u k, l, b, r, h, hr => by
    simp only [Rd.run] at h ⊢
    have hu : σ'.at u = σ.at u := hr u (Rd.run_reads h u List.mem_cons_self)
    rw [hu]
    exact Rd.run_local h hr

/-- One operation's turn: what it writes and what it has looked at. -/
def exec (F : FC) (ops : Array Oper) (o : Oper) (σ : St) : Option (Upd × List Nat) :=
  let go (more : List Nat) : Option (Upd × List Nat) := match (step F o).run σ more with
    | none => none
    | some (out, rd) => match out.run with
      | some u => some (u, rd)
      | none => none
  let skip (more : List Nat) : Option (Upd × List Nat) := match o.dst with
    | none => some ([], more)
    | some d => some ([(d, ⟨(σ.at d).ver + 1, .undf⟩)], d :: more)
  if o.dst.any F.C.pin then none else match o.guard with
  | none => go []
  | some (j, want) => match (ops[j]?).bind (·.dst) with
    | none => none
    | some g => match (σ.at g).e with
      | .undf => skip [g]
      | .val .bool .fr b => if b = want then go [g] else skip [g]
      | _ => none
theorem exec_local {F : FC} {ops : Array Oper} {o : Oper} {σ σ' : St} {u : Upd} {r : List Nat} (h : exec F ops o σ = some (u, r)) (hr : ∀ t, t ∈ r → σ'.at t = σ.at t) : exec F ops o σ' = some (u, r) := by
  have go : ∀ more : List Nat, (match (step F o).run σ more with
    | none => none
    | some (out, rd) => match out.run with
      | some u => some (u, rd)
      | none => none) = some (u, r) → (match (step F o).run σ' more with
    | none => none
    | some (out, rd) => match out.run with
      | some u => some (u, rd)
      | none => none) = some (u, r) ∧ ∀ t, t ∈ more → t ∈ r := by
    intro more h
    cases hs : (step F o).run σ more with
    | none => rw [hs] at h; cases h
    | some p =>
      obtain ⟨out, rd⟩ := p
      rw [hs] at h
      simp only at h
      split at h
      · rename_i u' hu
        simp only [Option.some.injEq, Prod.mk.injEq] at h
        obtain ⟨rfl, rfl⟩ := h
        rw [Rd.run_local hs hr]
        simp only [hu]
        exact ⟨by first | rfl | trivial, Rd.run_reads hs⟩
      · cases h
  have skip : ∀ more : List Nat, (match o.dst with
    | none => some ([], more)
    | some d => some ([(d, (⟨(σ.at d).ver + 1, .undf⟩ : Slot))], d :: more)) = some (u, r) → (match o.dst with
    | none => some ([], more)
    | some d => some ([(d, (⟨(σ'.at d).ver + 1, .undf⟩ : Slot))], d :: more)) = some (u, r) ∧ ∀ t, t ∈ more → t ∈ r := by
    intro more h
    cases hd : o.dst with
    | none =>
      rw [hd] at h
      simp only [Option.some.injEq, Prod.mk.injEq] at h ⊢
      exact ⟨h, fun t ht => h.2 ▸ ht⟩
    | some d =>
      rw [hd] at h
      simp only [Option.some.injEq, Prod.mk.injEq] at h ⊢
      have : σ'.at d = σ.at d := hr d (by rw [← h.2]; exact List.mem_cons_self)
      rw [this]
      exact ⟨h, fun t ht => by rw [← h.2]; exact List.mem_cons_of_mem _ ht⟩
  unfold exec at h ⊢
  simp only at h ⊢
  split at h
  · cases h
  rename_i hpin
  rw [if_neg hpin]
  cases hg : o.guard with
  | none => rw [hg] at h; exact (go [] h).1
  | some p =>
    obtain ⟨j, want⟩ := p
    rw [hg] at h
    simp only at h ⊢
    cases hj : (ops[j]?).bind (·.dst) with
    | none => rw [hj] at h; cases h
    | some g =>
      rw [hj] at h
      simp only at h ⊢
      have key : g ∈ r → σ'.at g = σ.at g := hr g
      cases he : (σ.at g).e with
      | undf =>
        rw [he] at h
        obtain ⟨h1, h2⟩ := skip [g] h
        rw [key (h2 g (by simp)), he]
        exact h1
      | val t q x =>
        rw [he] at h
        cases t with
        | bool =>
          cases q with
          | fr =>
            simp only at h
            split at h
            · rename_i hb
              obtain ⟨h1, h2⟩ := go [g] h
              rw [key (h2 g (by simp)), he]
              simp only [hb, if_true]
              exact h1
            · rename_i hb
              obtain ⟨h1, h2⟩ := skip [g] h
              rw [key (h2 g (by simp)), he]
              simp only [hb, if_false]
              exact h1
          | _ => cases h
        | _ => cases h
      | _ => rw [he] at h; cases h

theorem set_at (σ : St) (g : Nat) : σ.set g (σ.at g) = σ := by
  apply List.ext_getElem?
  intro i
  rw [List.getElem?_set]
  split
  · rename_i h
    subst h
    split
    · rename_i h2
      unfold St.at
      rw [List.getD_eq_getElem?_getD, List.getElem?_eq_getElem h2]; rfl
    · rename_i h2
      rw [List.getElem?_eq_none (Nat.le_of_not_lt h2)]
  · rfl
theorem run_bind2 {α β : Type} {f : α → Out β} {u : β} {o : Out α} (h : (o.bind f).run = some u) : ∃ x, o.run = some x ∧ (f x).run = some u := run_bind' h
/-- A turn of the tree is a turn of the operation. -/
theorem evOpBr_run {F : FC} {ops : Array Oper} {i : Nat} {o : Oper} {σ : St} {k : St × Log → Out (St × List Log)} {r : St × List Log} (h : (evOpBr F ops i o σ k).run = some r) :
    ∃ u rd lg, exec F ops o σ = some (u, rd) ∧ lg.i = i ∧ lg.wr = u.map (·.1) ∧ (∀ t, t ∈ rd → t ∈ lg.rd ∨ t ∈ lg.wr) ∧ (k (σ.upd u, lg)).run = some r := by
  have hgo : ∀ (more : List Nat), ((opRun F o i σ more).bind k).run = some r → ∃ u rd lg, (match (step F o).run σ more with
    | none => none
    | some (out, rd) => match out.run with
      | some u => some (u, rd)
      | none => none) = some (u, rd) ∧ lg.i = i ∧ lg.wr = u.map (·.1) ∧ (∀ t, t ∈ rd → t ∈ lg.rd ∨ t ∈ lg.wr) ∧ (k (σ.upd u, lg)).run = some r := by
    intro more h
    obtain ⟨x, h1, h2⟩ := run_bind2 h
    unfold opRun at h1
    split at h1
    · cases h1
    · rename_i out rd hs
      obtain ⟨u, h3, h4⟩ := run_bind2 h1
      simp only [Out.run, Option.some.injEq] at h4
      subst h4
      refine ⟨u, rd, ⟨i, rd, u.map (·.1)⟩, ?_, rfl, rfl, fun t ht => .inl ht, h2⟩
      rw [hs]
      simp only [h3]
  have hskip : ∀ (more : List Nat), ((skipOp o i σ more).bind k).run = some r → ∃ u rd lg, (match o.dst with
    | none => some ([], more)
    | some d => some ([(d, (⟨(σ.at d).ver + 1, .undf⟩ : Slot))], d :: more)) = some (u, rd) ∧ lg.i = i ∧ lg.wr = u.map (·.1) ∧ (∀ t, t ∈ rd → t ∈ lg.rd ∨ t ∈ lg.wr) ∧ (k (σ.upd u, lg)).run = some r := by
    intro more h
    obtain ⟨x, h1, h2⟩ := run_bind2 h
    unfold skipOp at h1
    cases hd : o.dst with
    | none =>
      rw [hd] at h1
      simp only [Out.run, Option.some.injEq] at h1
      subst h1
      exact ⟨[], more, ⟨i, more, []⟩, rfl, rfl, rfl, fun t ht => .inl ht, h2⟩
    | some d =>
      rw [hd] at h1
      simp only [Out.run, Option.some.injEq] at h1
      subst h1
      refine ⟨_, _, ⟨i, more, [d]⟩, rfl, rfl, rfl, fun t ht => ?_, h2⟩
      rcases List.mem_cons.1 ht with rfl | ht
      · exact .inr (by simp)
      · exact .inl ht
  unfold evOpBr at h
  unfold exec
  simp only
  split at h
  · cases h
  rename_i hpin
  rw [if_neg hpin]
  cases hg : o.guard with
  | none => rw [hg] at h; exact hgo [] h
  | some p =>
    obtain ⟨j, want⟩ := p
    rw [hg] at h
    simp only at h ⊢
    cases hj : (ops[j]?).bind (·.dst) with
    | none => rw [hj] at h; cases h
    | some g =>
      rw [hj] at h
      simp only at h ⊢
      cases he : (σ.at g).e with
      | undf => rw [he] at h; exact hskip [g] h
      | val t q x =>
        rw [he] at h
        cases t with
        | bool =>
          cases q with
          | fr =>
            have hset : σ.set g ⟨(σ.at g).ver, .val .bool .fr x⟩ = σ := by
              have := set_at σ g
              rw [← he]; exact this
            simp only [Out.run] at h
            cases x with
            | true =>
              simp only [cond_true] at h
              rw [hset] at h
              cases want with
              | true => simp only [cond_true] at h; simpa using hgo [g] h
              | false => simp only [cond_false] at h; simpa using hskip [g] h
            | false =>
              simp only [cond_false] at h
              rw [hset] at h
              cases want with
              | true => simp only [cond_true] at h; simpa using hskip [g] h
              | false => simp only [cond_false] at h; simpa using hgo [g] h
          | _ => cases h
        | _ => cases h
      | _ => rw [he] at h; cases h

section
variable {P : Program} {X : FC} {B : Nat} {M Z0 : BSet} {w0 : World} {σ : St} {a : Act} {w : World}
theorem skip_good (h : Good B M Z0 w0 σ a w) (d : Option Nat) : Good B M Z0 w0 (σ.upd (match d with | none => [] | some d => [(d, ⟨(σ.at d).ver + 1, .undf⟩)])) (a.put d undef) w := by
  obtain ⟨Z, F, I⟩ := h
  cases d with
  | none => exact ⟨Z, F, I⟩
  | some d =>
    have := I.give (more := []) (d := d) (e := .undf) (V := undef) (Fe := fun _ => False) (ver := (σ.at d).ver + 1) (w' := w) (Nat.lt_succ_self _) eaten_nil rfl (by simp) (Ext.refl _ _) (fun _ => False) (fun _ h => h.elim) ⟨rfl, fun _ h => h⟩ (fun b h => h.elim)
      (fun hl => RefOK.ofPlain (by rw [at_put_self hl]; rfl))
    exact this
/-- The invariant, and the pinned temporaries are as they were. -/
def GoodP (X : FC) (pv : Nat → Value) (B : Nat) (M Z0 : BSet) (w0 : World) (σ : St) (a : Act) (w : World) : Prop := Good B M Z0 w0 σ a w ∧ ∀ t, X.C.pin t = true → tm a t = pv t
theorem wp_put {Q : Exit → Act → World → Prop} {Kt : Act → World → Prop} {o : Oper} {a : Act} {w : World} (h : o.wp P a w Kt Q) : o.wp P a w (fun a' w' => Kt a' w' ∧ ∀ t, o.dst ≠ some t → tm a' t = tm a t) Q := by
  have hput : ∀ (d : Option Nat) (a : Act) (V : Value) (t : Nat), d ≠ some t → tm (a.put d V) t = tm a t := by
    intro d a V t hd
    cases d with
    | none => rfl
    | some d => rw [tm_put]; simp [show ¬ (t = d) from fun e => hd (by rw [e])]
  unfold Oper.wp at *
  generalize (execOp a.eval o).run P w = r at *
  cases r with
  | ok n w' =>
    cases n <;> simp only [Oper.upon] at h ⊢ <;>
      first
        | exact ⟨h, fun t ht => hput _ _ _ t ht⟩
        | exact Calls.mono h (fun e w'' he => by cases e <;> first | exact ⟨he, fun t ht => hput _ _ _ t ht⟩ | exact he)
        | exact Rows.mono h (fun _ _ he => ⟨he, fun t ht => hput _ _ _ t ht⟩)
        | exact ⟨h, fun t ht => (hput _ _ _ t ht).trans rfl⟩
  | halt x w' => cases x <;> simp only [Oper.upon] at h ⊢ <;> exact h
theorem skip_goodP {pv : Nat → Value} {o : Oper} (hpin : ¬ o.dst.any X.C.pin = true) (h : GoodP X pv B M Z0 w0 σ a w) : GoodP X pv B M Z0 w0 (σ.upd (match o.dst with | none => [] | some d => [(d, ⟨(σ.at d).ver + 1, .undf⟩)])) (a.put o.dst undef) w := by
  refine ⟨skip_good h.1 o.dst, fun t ht => ?_⟩
  rw [← h.2 t ht]
  cases hd : o.dst with
  | none => rfl
  | some d => rw [hd] at hpin; rw [tm_put]; simp [show ¬ (t = d) from fun e => by subst e; simp [ht] at hpin]
variable {pv : Nat → Value}
theorem exec_ok (K : CtxOK P X) (hΦ : ∀ g, FnOK P X.C g) (hG : GoodP X pv B M Z0 w0 σ a w) {ops : Array Oper} {i : Nat} {o : Oper} (ho : ops[i]? = some o) {u : Upd} {rd : List Nat} (h : exec X ops o σ = some (u, rd))
    {Kt : Act → World → Prop} (Q : Exit → Act → World → Prop) (hK : ∀ a' w', GoodP X pv B M Z0 w0 (σ.upd u) a' w' → Kt a' w') : wpOp P ops Q i Kt a w := by
  have hpin : ¬ o.dst.any X.C.pin = true := by unfold exec at h; simp only at h; split at h; cases h; assumption
  have hgo : ∀ more : List Nat, (match (step X o).run σ more with
    | none => none
    | some (out, rd) => match out.run with
      | some u => some (u, rd)
      | none => none) = some (u, rd) → o.wp P a w Kt Q := by
    intro more h
    cases hs : (step X o).run σ more with
    | none => rw [hs] at h; cases h
    | some p =>
      obtain ⟨out, rd'⟩ := p
      rw [hs] at h
      simp only at h
      split at h
      · rename_i u' hu
        simp only [Option.some.injEq, Prod.mk.injEq] at h
        obtain ⟨rfl, rfl⟩ := h
        obtain ⟨⟨Z, F, I⟩, hp⟩ := hG
        exact Oper.wp_mono (fun a' w' h => hK a' w' ⟨h.1, fun t ht => (h.2 t (fun e => by rw [e] at hpin; simp [ht] at hpin)).trans (hp t ht)⟩) (wp_put (step_ok K hΦ I o out (Rd.val_of_run hs) _ hu Q))
      · cases h
  have hskip : ∀ more : List Nat, (match o.dst with
    | none => some ([], more)
    | some d => some ([(d, (⟨(σ.at d).ver + 1, .undf⟩ : Slot))], d :: more)) = some (u, rd) → Kt (a.put o.dst undef) w := by
    intro more h
    have := skip_goodP hpin hG
    cases hd : o.dst with
    | none =>
      rw [hd] at h this
      simp only [Option.some.injEq, Prod.mk.injEq] at h
      rw [← h.1] at hK
      exact hK _ _ this
    | some d =>
      rw [hd] at h this
      simp only [Option.some.injEq, Prod.mk.injEq] at h
      rw [← h.1] at hK
      exact hK _ _ this
  unfold exec at h
  simp only at h
  split at h
  · cases h
  unfold wpOp
  simp only [ho]
  cases hg : o.guard with
  | none =>
    rw [hg] at h
    have : Region.wanted o (yielded ops a.tmps) = true := by unfold Region.wanted; rw [hg]
    simp only [this, if_true]
    exact .inl (hgo [] h)
  | some p =>
    obtain ⟨j, want⟩ := p
    rw [hg] at h
    simp only at h
    cases hj : (ops[j]?).bind (·.dst) with
    | none => rw [hj] at h; cases h
    | some g =>
      rw [hj] at h
      simp only at h
      have hw : Region.wanted o (yielded ops a.tmps) = (yielded ops a.tmps j == some want) := by unfold Region.wanted; rw [hg]
      have hy : ∀ V, tm a g = V → g < a.tmps.size → yielded ops a.tmps j = (match V with | .bool b => some b | _ => none) := by
        intro V hV hl
        unfold yielded
        rw [hj]
        simp only [Option.bind_some, Array.getElem?_eq_getElem hl]
        have : a.tmps[g] = V := by
          unfold tm at hV
          rw [Array.getD_eq_getD_getElem?, Array.getElem?_eq_getElem hl] at hV
          exact hV
        rw [this]
        cases V <;> rfl
      obtain ⟨⟨Z, F, I⟩, _⟩ := hG
      have hE := I.ent g
      cases he : (σ.at g).e with
      | undf =>
        rw [he] at h hE
        have hl : g < a.tmps.size := by rw [I.len]; exact in_range (by rw [he]; simp)
        rw [hw, hy undef hE.1 hl]
        simp only [undef]
        exact hskip [g] h
      | val t q x =>
        rw [he] at h hE
        have hl : g < a.tmps.size := by rw [I.len]; exact in_range (by rw [he]; simp)
        cases t with
        | bool =>
          cases q with
          | fr =>
            simp only at h
            have hV := VRep.bool (by simp) hE
            rw [hw, hy _ hV hl]
            simp only
            split at h
            · rename_i hb
              simp only [hb, beq_self_eq_true, if_true]
              exact .inl (hgo [g] h)
            · rename_i hb
              have : (some x == some want) = false := by simpa using hb
              simp only [this, Bool.false_eq_true, if_false]
              exact hskip [g] h
          | _ => cases h
        | _ => cases h
      | _ => rw [he] at h; cases h

/-- In text order. -/
theorem evOps_text (K : CtxOK P X) (hΦ : ∀ g, FnOK P X.C g) {ops : Array Oper} {Q : Exit → Act → World → Prop} : ∀ (l : List (Oper × Nat)) {σ : St} {a : Act} {w : World} {ls : List Log} {r : St × List Log}, (∀ o i, (o, i) ∈ l → ops[i]? = some o) → (evOps X ops l σ ls).run = some r →
    GoodP X pv B M Z0 w0 σ a w → (∀ a' w', GoodP X pv B M Z0 w0 r.1 a' w' → Q .normal a' w') → wpOps P ops Q (l.map (·.2)) a w
  | [], σ, a, w, ls, r, hl, h, hG, hQ => by
    simp only [evOps, Out.run, Option.some.injEq] at h
    subst h
    exact hQ a w hG
  | (o, i) :: l, σ, a, w, ls, r, hl, h, hG, hQ => by
    simp only [evOps] at h
    obtain ⟨u, rd, lg, h1, _, _, _, h2⟩ := evOpBr_run h
    rw [List.map_cons, wpOps_cons]
    refine exec_ok K hΦ hG (hl o i List.mem_cons_self) h1 Q fun a' w' hG' => ?_
    exact evOps_text K hΦ l (fun o i hm => hl o i (List.mem_cons_of_mem _ hm)) h2 hG' hQ
theorem region_text (K : CtxOK P X) (hΦ : ∀ g, FnOK P X.C g) {id : Nat} {ops : Array Oper} {Q : Exit → Act → World → Prop} {σ' : St} (h : (evRegion X ops false σ).run = some σ') (hG : GoodP X pv B M Z0 w0 σ a w) (hQ : ∀ a' w', GoodP X pv B M Z0 w0 σ' a' w' → Q .normal a' w') :
    (Code.region id ops false).wp P Q a w := by
  apply wp_region
  unfold evRegion at h
  obtain ⟨⟨s, ls⟩, h1, h2⟩ := run_bind2 h
  simp only [Bool.false_eq_true, if_false, Out.run, Option.some.injEq] at h2
  subst h2
  have hl : (ops.toList.zipIdx.map (·.2)) = List.range ops.size := by
    rw [List.zipIdx_map_snd, List.range_eq_range']; simp
  rw [← hl]
  refine evOps_text K hΦ _ (fun o i hm => ?_) h1 hG hQ
  have := List.mem_zipIdx_iff_getElem?.1 hm
  simpa using this
end
end Go.K

/- K, part 3: what a set of turns makes, in whatever order. -/
set_option linter.unusedVariables false
set_option linter.unusedSimpArgs false
namespace Go.K
variable [drI : Dr]

structure Turn where
  u : Upd
  rd : List Nat
/-- The turns of a set, in text order. -/
def runS (S : Nat → Bool) : Nat → List Turn → St → St
  | _, [], σ => σ
  | i, t :: ts, σ => runS S (i + 1) ts (if S i then σ.upd t.u else σ)
theorem runS_length (S : Nat → Bool) : ∀ (ts : List Turn) (i : Nat) (σ : St), (runS S i ts σ).length = σ.length
  | [], i, σ => rfl
  | t :: ts, i, σ => by
    rw [runS, runS_length S ts]
    split
    · exact length_upd _ _
    · rfl
theorem upd_at_same : ∀ (u : Upd) {σ σ' : St} {t : Nat}, σ.length = σ'.length → σ.at t = σ'.at t → (σ.upd u).at t = (σ'.upd u).at t
  | [], σ, σ', t, hl, h => h
  | (d, s) :: u, σ, σ', t, hl, h => by
    refine upd_at_same u (by simp [hl]) ?_
    rw [at_set, at_set, hl, h]
theorem upd_at_key : ∀ (u : Upd) {σ σ' : St} {t : Nat}, σ.length = σ'.length → t ∈ u.map (·.1) → (σ.upd u).at t = (σ'.upd u).at t
  | (d, s) :: u, σ, σ', t, hl, h => by
    by_cases ht : t ∈ u.map (·.1)
    · exact upd_at_key u (by simp [hl]) ht
    · have htd : t = d := by
        rcases List.mem_cons.1 h with h | h
        · exact h
        · exact absurd h ht
      subst htd
      rw [St.upd, St.upd, at_upd_not _ _ _ ht, at_upd_not _ _ _ ht, at_set, at_set, hl]
      by_cases hlt : t < σ'.length
      · simp [hlt]
      · simp only [hlt, and_false, if_false]
        rw [at_ge (Nat.le_of_not_lt (hl ▸ hlt)), at_ge (Nat.le_of_not_lt hlt)]
theorem st_ext {σ σ' : St} (hl : σ.length = σ'.length) (h : ∀ t, σ.at t = σ'.at t) : σ = σ' := by
  apply List.ext_getElem hl
  intro i h1 h2
  have := h i
  unfold St.at at this
  rw [List.getD_eq_getElem?_getD, List.getD_eq_getElem?_getD, List.getElem?_eq_getElem h1, List.getElem?_eq_getElem h2] at this
  exact this
/-- A temporary turns by its writers alone. -/
theorem runS_at {S S' : Nat → Bool} : ∀ (ts : List Turn) (i : Nat) {σ σ' : St} {t : Nat}, σ.length = σ'.length → σ.at t = σ'.at t → (∀ (k : Nat) (tr : Turn), ts[k]? = some tr → t ∈ tr.u.map (·.1) → S (i + k) = S' (i + k)) →
    (runS S i ts σ).at t = (runS S' i ts σ').at t
  | [], i, σ, σ', t, hl, h, _ => h
  | tr :: ts, i, σ, σ', t, hl, h, hS => by
    rw [runS, runS]
    refine runS_at ts (i + 1) ?_ ?_ (fun k tr' hk ht => by have := hS (k + 1) tr' (by simpa using hk) ht; rwa [show i + (k + 1) = i + 1 + k by omega] at this)
    · split <;> split <;> simp [length_upd, hl]
    · by_cases ht : t ∈ tr.u.map (·.1)
      · have := hS 0 tr rfl ht
        rw [Nat.add_zero] at this
        rw [this]
        split
        · exact upd_at_same _ hl h
        · exact h
      · have e1 : (if S i then σ.upd tr.u else σ).at t = σ.at t := by
          split
          · exact at_upd_not _ _ _ ht
          · rfl
        have e2 : (if S' i then σ'.upd tr.u else σ').at t = σ'.at t := by
          split
          · exact at_upd_not _ _ _ ht
          · rfl
        rw [e1, e2, h]
theorem runS_none {S : Nat → Bool} : ∀ (ts : List Turn) (i : Nat) {σ : St} {t : Nat}, (∀ (k : Nat) (tr : Turn), ts[k]? = some tr → t ∈ tr.u.map (·.1) → S (i + k) = false) → (runS S i ts σ).at t = σ.at t
  | [], i, σ, t, _ => rfl
  | tr :: ts, i, σ, t, hS => by
    rw [runS, runS_none ts (i + 1) (fun k tr' hk ht => by have := hS (k + 1) tr' (by simpa using hk) ht; rwa [show i + (k + 1) = i + 1 + k by omega] at this)]
    split
    · rename_i h
      refine at_upd_not _ _ _ (fun ht => ?_)
      have := hS 0 tr rfl ht
      rw [Nat.add_zero, h] at this
      cases this
    · rfl
theorem runS_last {S : Nat → Bool} {tr : Turn} {t : Nat} (ht : t ∈ tr.u.map (·.1)) : ∀ (ts : List Turn) (i m : Nat) {σ σx : St}, σ.length = σx.length → ts[m]? = some tr → S (i + m) = true →
    (∀ (k : Nat) (tr' : Turn), m < k → ts[k]? = some tr' → t ∈ tr'.u.map (·.1) → S (i + k) = false) → (runS S i ts σ).at t = (σx.upd tr.u).at t
  | [], i, m, σ, σx, hl, hm, _, _ => by simp at hm
  | tr0 :: ts, i, 0, σ, σx, hl, hm, hS, hk => by
    simp only [List.getElem?_cons_zero, Option.some.injEq] at hm
    subst hm
    rw [Nat.add_zero] at hS
    rw [runS, runS_none ts (i + 1) (fun k tr' hk' ht' => by have := hk (k + 1) tr' (by omega) (by simpa using hk') ht'; rwa [show i + (k + 1) = i + 1 + k by omega] at this), hS]
    simp only [if_true]
    exact upd_at_key _ hl ht
  | tr0 :: ts, i, m + 1, σ, σx, hl, hm, hS, hk => by
    rw [runS]
    refine runS_last ht ts (i + 1) m ?_ (by simpa using hm) (by rwa [show i + 1 + m = i + (m + 1) by omega]) (fun k tr' hk' he ht' => by have := hk (k + 1) tr' (by omega) (by simpa using he) ht'; rwa [show i + (k + 1) = i + 1 + k by omega] at this)
    split <;> simp [length_upd, hl]
/-- One more turn. -/
theorem runS_add {S : Nat → Bool} {ts : List Turn} {σ : St} {m : Nat} {tr : Turn} (hm : ts[m]? = some tr) (hS : S m = false)
    (hk : ∀ (k : Nat) (tr' : Turn) (t : Nat), m < k → ts[k]? = some tr' → t ∈ tr'.u.map (·.1) → t ∈ tr.u.map (·.1) → S k = false) :
    runS (fun k => S k || k == m) 0 ts σ = (runS S 0 ts σ).upd tr.u := by
  refine st_ext (by rw [runS_length, length_upd, runS_length]) fun t => ?_
  by_cases ht : t ∈ tr.u.map (·.1)
  · refine runS_last ht ts 0 m (σ := σ) (σx := runS S 0 ts σ) (runS_length _ _ _ _).symm hm (by simp) (fun k tr' h1 h2 h3 => ?_)
    simp only [Nat.zero_add, Bool.or_eq_false_iff, beq_eq_false_iff_ne, ne_eq]
    exact ⟨hk k tr' t h1 h2 h3 ht, by omega⟩
  · rw [at_upd_not _ _ _ ht]
    refine runS_at ts 0 rfl rfl (fun k tr' h1 h2 => ?_)
    simp only [Nat.zero_add]
    by_cases hkm : k = m
    · subst hkm
      rw [hm] at h1
      simp only [Option.some.injEq] at h1
      subst h1
      exact absurd h2 ht
    · have : (k == m) = false := by simpa using hkm
      rw [this, Bool.or_false]

def foldT (ts : List Turn) (σ : St) : St := ts.foldl (fun σ t => σ.upd t.u) σ
theorem runS_none' {S : Nat → Bool} : ∀ (ts : List Turn) (i : Nat) (σ : St), (∀ k, i ≤ k → S k = false) → runS S i ts σ = σ
  | [], i, σ, h => rfl
  | t :: ts, i, σ, h => by
    rw [runS, h i (Nat.le_refl _)]
    exact runS_none' ts (i + 1) σ fun k hk => h k (by omega)
theorem runS_take : ∀ (ts : List Turn) (i k : Nat) (σ : St), runS (fun x => decide (x < i + k)) i ts σ = foldT (ts.take k) σ
  | [], i, k, σ => by simp [runS, foldT]
  | t :: ts, i, 0, σ => by
    rw [runS_none' _ _ _ (fun k hk => by simp; omega)]; rfl
  | t :: ts, i, k + 1, σ => by
    rw [runS]
    have : decide (i < i + (k + 1)) = true := by simp
    rw [this]
    simp only [if_true]
    rw [show (fun x => decide (x < i + (k + 1))) = (fun x => decide (x < i + 1 + k)) from funext fun x => by rw [show i + (k + 1) = i + 1 + k by omega], runS_take ts (i + 1) k]
    rfl
theorem runS_all {S : Nat → Bool} : ∀ (ts : List Turn) (i : Nat) (σ : St), (∀ k, i ≤ k → k < i + ts.length → S k = true) → runS S i ts σ = foldT ts σ
  | [], i, σ, h => rfl
  | t :: ts, i, σ, h => by
    rw [runS, h i (Nat.le_refl _) (by simp)]
    exact runS_all ts (i + 1) _ fun k h1 h2 => h k (by omega) (by simp; omega)
/-- The tree's path, turn by turn. -/
theorem evOps_turns {F : FC} {ops : Array Oper} : ∀ (l : List (Oper × Nat)) {σ : St} {ls : List Log} {r : St × List Log}, (evOps F ops l σ ls).run = some r →
    ∃ (ts : List Turn) (lgs : List Log), ts.length = l.length ∧ lgs.length = l.length ∧ r.2 = lgs.reverse ++ ls ∧ r.1 = foldT ts σ ∧
      ∀ (k : Nat) (o : Oper) (i : Nat) (tr : Turn) (lg : Log), l[k]? = some (o, i) → ts[k]? = some tr → lgs[k]? = some lg → lg.i = i ∧ lg.wr = tr.u.map (·.1) ∧ (∀ t, t ∈ tr.rd → t ∈ lg.rd ∨ t ∈ lg.wr) ∧ exec F ops o (foldT (ts.take k) σ) = some (tr.u, tr.rd)
  | [], σ, ls, r, h => by
    simp only [evOps, Out.run, Option.some.injEq] at h
    subst h
    exact ⟨[], [], rfl, rfl, rfl, rfl, fun k o i tr lg h => by simp at h⟩
  | (o, i) :: l, σ, ls, r, h => by
    simp only [evOps] at h
    obtain ⟨u, rd, lg, h1, h2, h3, h4, h5⟩ := evOpBr_run h
    obtain ⟨ts, lgs, e1, e2, e3, e4, e5⟩ := evOps_turns l h5
    refine ⟨⟨u, rd⟩ :: ts, lg :: lgs, by simp [e1], by simp [e2], by rw [e3]; simp, e4, fun k o' i' tr lg' g1 g2 g3 => ?_⟩
    cases k with
    | zero =>
      simp only [List.getElem?_cons_zero, Option.some.injEq, Prod.mk.injEq] at g1 g2 g3
      obtain ⟨rfl, rfl⟩ := g1
      subst g2; subst g3
      exact ⟨h2, h3, h4, h1⟩
    | succ k =>
      simp only [List.getElem?_cons_succ] at g1 g2 g3
      obtain ⟨f1, f2, f3, f4⟩ := e5 k o' i' tr lg' g1 g2 g3
      exact ⟨f1, f2, f3, f4⟩
end Go.K

/- K, part 4: regions that draw their order. -/
set_option linter.unusedVariables false
set_option linter.unusedSimpArgs false
namespace Go.K
variable [drI : Dr]

def maskOf (acc : Array Nat) (o : Oper) : Nat := o.after.foldl (fun s e => if Region.binds .any e then s ||| 2 ^ e.on ||| acc.getD e.on 0 else s) 0
theorem mask_bit (acc : Array Nat) (b : Nat) : ∀ (l : List Edge) (s : Nat), (l.foldl (fun s e => if Region.binds .any e then s ||| 2 ^ e.on ||| acc.getD e.on 0 else s) s).testBit b = true →
    s.testBit b = true ∨ ∃ e, e ∈ l ∧ Region.binds .any e = true ∧ (b = e.on ∨ (acc.getD e.on 0).testBit b = true)
  | [], s, h => .inl h
  | e :: l, s, h => by
    rw [List.foldl_cons] at h
    rcases mask_bit acc b l _ h with h1 | ⟨e', h1, h2, h3⟩
    · split at h1
      · rename_i hb
        simp only [Nat.testBit_or, Bool.or_eq_true, Nat.testBit_two_pow] at h1
        rcases h1 with (h1 | h1) | h1
        · exact .inl h1
        · exact .inr ⟨e, List.mem_cons_self, hb, .inl (by have := h1; simp at this; exact this.symm)⟩
        · exact .inr ⟨e, List.mem_cons_self, hb, .inr h1⟩
      · exact .inl h1
    · exact .inr ⟨e', List.mem_cons_of_mem _ h1, h2, h3⟩
/-- A set that is closed under the binding edges is closed under the masks. -/
theorem before_aux (ops : Array Oper) (S : Nat → Prop) (hcl : ∀ (i : Nat) (o : Oper) (e : Edge), ops[i]? = some o → S i → e ∈ o.after.toList → Region.binds .any e = true → S e.on) :
    ∀ (l : List Oper) (acc : Array Nat), (∀ k o, l[k]? = some o → ops[acc.size + k]? = some o) →
      (∀ i b, i < acc.size → (S i ∨ ∀ o e, ops[i]? = some o → e ∈ o.after.toList → Region.binds .any e = true → S e.on) → (acc.getD i 0).testBit b = true → S b) →
      ∀ i b, (S i ∨ ∀ o e, ops[i]? = some o → e ∈ o.after.toList → Region.binds .any e = true → S e.on) → ((l.foldl (fun acc o => acc.push (maskOf acc o)) acc).getD i 0).testBit b = true → S b
  | [], acc, _, h, i, b, hi, hb => by
    rw [List.foldl_nil] at hb
    rcases Nat.lt_or_ge i acc.size with h1 | h1
    · exact h i b h1 hi hb
    · rw [Array.getD_eq_getD_getElem?, Array.getElem?_eq_none h1] at hb
      simp at hb
  | o :: l, acc, hl, h, i, b, hi, hb => by
    rw [List.foldl_cons] at hb
    refine before_aux ops S hcl l (acc.push (maskOf acc o)) (fun k o' hk => ?_) (fun i b hlt hi hb => ?_) i b hi hb
    · have := hl (k + 1) o' (by simpa using hk)
      rw [Array.size_push]
      rwa [show acc.size + (k + 1) = acc.size + 1 + k by omega] at this
    · rw [Array.size_push] at hlt
      rw [Array.getD_eq_getD_getElem?, Array.getElem?_push] at hb
      split at hb
      · rename_i hia
        subst hia
        simp only [Option.getD_some] at hb
        have ho : ops[acc.size]? = some o := by have := hl 0 o rfl; simpa using this
        have hdir : ∀ e, e ∈ o.after.toList → Region.binds .any e = true → S e.on := by
          intro e he hbn
          rcases hi with hi | hi
          · exact hcl _ _ e ho hi he hbn
          · exact hi o e ho he hbn
        unfold maskOf at hb
        rw [← Array.foldl_toList] at hb
        rcases mask_bit acc b _ _ hb with h1 | ⟨e, h1, h2, h3⟩
        · simp at h1
        · rcases h3 with rfl | h3
          · exact hdir e h1 h2
          · have hlt' : e.on < acc.size := by
              rcases Nat.lt_or_ge e.on acc.size with h4 | h4
              · exact h4
              · rw [Array.getD_eq_getD_getElem?, Array.getElem?_eq_none h4] at h3
                simp at h3
            exact h e.on b hlt' (.inl (hdir e h1 h2)) h3
      · rename_i hia
        rw [← Array.getD_eq_getD_getElem?] at hb
        exact h i b (by omega) hi hb
theorem before_closed (ops : Array Oper) (S : Nat → Prop) (hcl : ∀ (i : Nat) (o : Oper) (e : Edge), ops[i]? = some o → S i → e ∈ o.after.toList → Region.binds .any e = true → S e.on) (i b : Nat)
    (hi : S i ∨ ∀ o e, ops[i]? = some o → e ∈ o.after.toList → Region.binds .any e = true → S e.on) (hb : ((Region.before ops).getD i 0).testBit b = true) : S b := by
  unfold Region.before at hb
  rw [← Array.foldl_toList] at hb
  exact before_aux ops S hcl ops.toList #[] (fun k o hk => by simpa using hk) (fun i b h => by simp at h) i b hi hb

theorem count_set : ∀ (l : List Bool) (i : Nat), l[i]? = some false → ((l.set i true).filter (!·)).length + 1 = (l.filter (!·)).length
  | [], i, h => by simp at h
  | b :: l, 0, h => by
    simp only [List.getElem?_cons_zero, Option.some.injEq] at h
    subst h
    simp
  | b :: l, i + 1, h => by
    have := count_set l i (by simpa using h)
    cases b <;> simp_all
section
variable {P : Program} {X : FC} {B : Nat} {M Z0 : BSet} {w0 : World} {pv : Nat → Value}
def SetOf (listed : Array Bool) : Nat → Bool := fun k => listed.getD k false
theorem any_ok (K : CtxOK P X) (hΦ : ∀ g, FnOK P X.C g) {ops : Array Oper} {ts : List Turn} {σ0 : St} {Q : Exit → Act → World → Prop} (hts : ts.length = ops.size)
    (hturn : ∀ (k : Nat) (o : Oper) (tr : Turn), ops[k]? = some o → ts[k]? = some tr → exec X ops o (foldT (ts.take k) σ0) = some (tr.u, tr.rd))
    (hconf : ∀ (i k : Nat) (ti tk : Turn), i < k → ts[i]? = some ti → ts[k]? = some tk → ((Region.before ops).getD k 0).testBit i = true ∨
      ((∀ t, t ∈ tk.u.map (·.1) → t ∉ ti.u.map (·.1) ∧ t ∉ ti.rd) ∧ ∀ t, t ∈ ti.u.map (·.1) → t ∉ tk.rd))
    (hedge : edgesOk ops = true) (hQ : ∀ a' w', GoodP X pv B M Z0 w0 (foldT ts σ0) a' w' → Q .normal a' w') :
    ∀ (fuel : Nat) (listed : Array Bool) (a : Act) (w : World), listed.size = ops.size → (∀ (i : Nat) (o : Oper) (e : Edge), ops[i]? = some o → SetOf listed i = true → e ∈ o.after.toList → Region.binds .any e = true → SetOf listed e.on = true) →
      (listed.toList.filter (!·)).length ≤ fuel → GoodP X pv B M Z0 w0 (runS (SetOf listed) 0 ts σ0) a w → wpAny P .any ops Q fuel listed a w := by
  -- where nothing is ready, all is listed
  have hdone : ∀ (listed : Array Bool), listed.size = ops.size → Region.ready .any ops listed = [] → ∀ k, k < ops.size → SetOf listed k = true := by
    intro listed hsz hr k
    induction k using Nat.strongRecOn with
    | _ k ih =>
      intro hk
      cases hS : SetOf listed k with
      | true => rfl
      | false =>
        exfalso
        have ho : ops[k]? = some ops[k] := Array.getElem?_eq_getElem hk
        have hmem : k ∈ Region.ready .any ops listed := by
          unfold Region.ready
          simp only [List.mem_filter, List.mem_range]
          refine ⟨hk, ?_⟩
          have h1 : listed.getD k true = false := by
            unfold SetOf at hS
            rw [Array.getD_eq_getD_getElem?, Array.getElem?_eq_getElem (hsz ▸ hk)] at hS ⊢
            exact hS
          simp only [h1, Bool.not_false, Bool.true_and, ho, Option.map_some, Option.getD_some, Array.all_eq_true']
          intro e he
          simp only [Bool.or_eq_true, Bool.not_eq_true']
          cases hb : Region.binds .any e with
          | false => exact .inl rfl
          | true =>
            right
            unfold edgesOk at hedge
            simp only [List.all_eq_true, Bool.or_eq_true, Bool.not_eq_true', decide_eq_true_eq, Prod.forall] at hedge
            have h2 := hedge ops[k] k (List.mem_zipIdx_iff_getElem?.2 (by simpa using ho)) e (by simpa using he)
            have hlt : e.on < k := by
              rcases h2 with h2 | h2
              · rw [hb] at h2; cases h2
              · exact h2
            exact ih e.on hlt (by omega)
        rw [hr] at hmem
        cases hmem
  have hfin : ∀ (listed : Array Bool) (a : Act) (w : World), listed.size = ops.size → GoodP X pv B M Z0 w0 (runS (SetOf listed) 0 ts σ0) a w → Region.ready .any ops listed = [] → Q .normal a w := by
    intro listed a w hsz hG hr
    rw [runS_all ts 0 σ0 (fun k _ hk => hdone listed hsz hr k (by omega))] at hG
    exact hQ a w hG
  intro fuel
  induction fuel with
  | zero =>
    intro listed a w hsz hcl hn hG
    have hr : Region.ready .any ops listed = [] := by
      rw [List.eq_nil_iff_forall_not_mem]
      intro i hi
      unfold Region.ready at hi
      simp only [List.mem_filter, List.mem_range, Bool.and_eq_true, Bool.not_eq_true'] at hi
      have hlt : i < listed.size := hsz ▸ hi.1
      have h1 : listed[i] = false := by
        have := hi.2.1
        rw [Array.getD_eq_getD_getElem?, Array.getElem?_eq_getElem hlt] at this
        exact this
      have h2 : listed[i] ∈ listed.toList.filter (!·) := by
        rw [List.mem_filter]
        exact ⟨by simp, by simp [h1]⟩
      rw [List.length_eq_zero_iff.1 (Nat.le_zero.1 hn)] at h2
      cases h2
    exact ⟨hr, hfin listed a w hsz hG hr⟩
  | succ fuel ih =>
    intro listed a w hsz hcl hn hG
    refine ⟨hfin listed a w hsz hG, fun i hi => ?_⟩
    unfold Region.ready at hi
    simp only [List.mem_filter, List.mem_range, Bool.and_eq_true, Bool.not_eq_true'] at hi
    obtain ⟨hiop, hun, hrd⟩ := hi
    have hlt : i < listed.size := hsz ▸ hiop
    have ho : ops[i]? = some ops[i] := Array.getElem?_eq_getElem hiop
    have htl : i < ts.length := hts ▸ hiop
    have htr : ts[i]? = some ts[i] := List.getElem?_eq_getElem htl
    have hSi : SetOf listed i = false := by
      unfold SetOf
      rw [Array.getD_eq_getD_getElem?, Array.getElem?_eq_getElem hlt] at hun ⊢
      exact hun
    have hdir : ∀ o e, ops[i]? = some o → e ∈ o.after.toList → Region.binds .any e = true → SetOf listed e.on = true := by
      intro o e ho' he hb
      rw [ho] at ho'
      cases ho'
      rw [ho] at hrd
      simp only [Option.map_some, Option.getD_some, Array.all_eq_true'] at hrd
      have := hrd e (by simpa using he)
      simp only [Bool.or_eq_true, Bool.not_eq_true', hb] at this
      rcases this with h | h
      · cases h
      · exact h
    have hbefore : ∀ k b, (SetOf listed k = true ∨ k = i) → ((Region.before ops).getD k 0).testBit b = true → SetOf listed b = true := by
      intro k b hk hb
      refine before_closed ops (fun k => SetOf listed k = true) (fun i o e h1 h2 h3 h4 => hcl i o e h1 h2 h3 h4) k b ?_ hb
      rcases hk with hk | rfl
      · exact .inl hk
      · exact .inr hdir
    have hexec : exec X ops ops[i] (runS (SetOf listed) 0 ts σ0) = some (ts[i].u, ts[i].rd) := by
      refine exec_local (hturn i _ _ ho htr) fun t ht => ?_
      have := runS_take ts 0 i σ0
      simp only [Nat.zero_add] at this
      rw [← this]
      refine runS_at ts 0 rfl rfl fun k tk hk htk => ?_
      simp only [Nat.zero_add]
      rcases Nat.lt_trichotomy k i with h | h | h
      · rcases hconf k i tk ts[i] h hk htr with h1 | ⟨_, h2⟩
        · rw [hbefore i k (.inr rfl) h1]; simp [h]
        · exact absurd ht (h2 t htk)
      · subst h; rw [hSi]; simp
      · have h3 : SetOf listed k = false := by
          cases hS : SetOf listed k with
          | false => rfl
          | true =>
            rcases hconf i k ts[i] tk h htr hk with h1 | ⟨h2, _⟩
            · have := hbefore k i (.inl hS) h1
              rw [hSi] at this; cases this
            · exact absurd ht (h2 t htk).2
        rw [h3]
        have : ¬ k < i := by omega
        simp [this]
    refine exec_ok K hΦ hG ho hexec Q fun a' w' hG' => ?_
    have hset : SetOf (listed.setIfInBounds i true) = fun k => SetOf listed k || k == i := by
      funext k
      unfold SetOf
      rw [Array.getD_eq_getD_getElem?, Array.getD_eq_getD_getElem?, Array.getElem?_setIfInBounds]
      by_cases hk : i = k
      · subst hk; simp [hlt]
      · have : (k == i) = false := by simpa using fun e => hk e.symm
        simp [hk, this]
    refine ih (listed.setIfInBounds i true) a' w' (by simp [hsz]) ?_ ?_ ?_
    · intro k o e h1 h2 h3 h4
      rw [hset] at h2 ⊢
      simp only [Bool.or_eq_true, beq_iff_eq] at h2 ⊢
      rcases h2 with h2 | rfl
      · exact .inl (hcl k o e h1 h2 h3 h4)
      · exact .inl (hdir o e h1 h3 h4)
    · have h1 : listed.toList[i]? = some false := by
        rw [Array.getElem?_toList, Array.getElem?_eq_getElem hlt]
        rw [Array.getD_eq_getD_getElem?, Array.getElem?_eq_getElem hlt] at hun
        exact congrArg some hun
      have h2 := count_set listed.toList i h1
      rw [Array.toList_setIfInBounds]
      omega
    · rw [hset, runS_add htr hSi]
      · exact hG'
      · intro k tk t h1 h2 h3 h4
        cases hS : SetOf listed k with
        | false => rfl
        | true =>
          rcases hconf i k ts[i] tk h1 htr h2 with h5 | ⟨h5, _⟩
          · have := hbefore k i (.inl hS) h5
            rw [hSi] at this; cases this
          · exact absurd h4 (h5 t h3).1

theorem good_drawn {σ : St} {a : Act} {w : World} (h : GoodP X pv B M Z0 w0 σ a w) : GoodP X pv B M Z0 w0 σ a { w with drawn := w.drawn + 1 } := by
  obtain ⟨⟨Z, F, I⟩, hp⟩ := h
  refine ⟨?_, hp⟩
  exact ⟨Z, F, I.change (fun _ => False) I.len I.defers (fun t _ => ⟨rfl, rfl, rfl⟩) ⟨rfl, rfl, rfl, Nat.le_refl _, fun _ _ _ => rfl, Dr.of_le (Nat.le_succ _)⟩ (fun _ h => h) (fun b hb => ⟨(I.z b hb).2, .inl hb⟩) (fun _ h => h.elim) (fun _ h => h.elim) (fun _ h => h.elim) (fun _ _ h => h.elim) (fun _ h => h.elim)⟩
theorem okLogs_pair {bf : Array Nat} : ∀ {ls : List Log}, okLogs bf ls = true → ∀ (i k : Nat) (a b : Log), i < k → ls[i]? = some a → ls[k]? = some b → apartLogs bf a b = true
  | [], _, i, k, a, b, _, h, _ => by simp at h
  | x :: ls, h, 0, k + 1, a, b, _, h1, h2 => by
    simp only [okLogs, Bool.and_eq_true, List.all_eq_true] at h
    simp only [List.getElem?_cons_zero, Option.some.injEq] at h1
    subst h1
    exact h.1 b (List.mem_of_getElem? (by simpa using h2))
  | x :: ls, h, i + 1, k + 1, a, b, hlt, h1, h2 => by
    simp only [okLogs, Bool.and_eq_true] at h
    exact okLogs_pair h.2 i k a b (by omega) (by simpa using h1) (by simpa using h2)
theorem not_meets {a b : List Nat} (h : meets a b = false) : ∀ t, t ∈ a → t ∉ b := by
  intro t h1 h2
  unfold meets at h
  rw [List.any_eq_false] at h
  exact h t h1 (by simpa using h2)

theorem region_draw (K : CtxOK P X) (hΦ : ∀ g, FnOK P X.C g) {σ : St} {a : Act} {w : World} {id : Nat} {ops : Array Oper} {Q : Exit → Act → World → Prop} {σ' : St} (h : (evRegion X ops true σ).run = some σ') (hG : GoodP X pv B M Z0 w0 σ a w)
    (hQ : ∀ a' w', GoodP X pv B M Z0 w0 σ' a' w' → Q .normal a' w') : (Code.region id ops true).wp P Q a w := by
  unfold evRegion at h
  obtain ⟨⟨s, ls⟩, h1, h2⟩ := run_bind2 h
  simp only [if_true] at h2
  split at h2
  · rename_i hok
    simp only [Out.run, Option.some.injEq] at h2
    subst h2
    simp only [Bool.and_eq_true] at hok
    obtain ⟨ts, lgs, e1, e2, e3, e4, e5⟩ := evOps_turns _ h1
    simp only [List.append_nil] at e3 e4
    subst e3 e4
    have hlen : ops.toList.zipIdx.length = ops.size := by simp
    have hzip : ∀ (k : Nat) (o : Oper), ops[k]? = some o → ops.toList.zipIdx[k]? = some (o, k) := by
      intro k o ho
      rw [List.getElem?_zipIdx]
      simp [ho]
    apply wp_region_any K.mixed
    refine any_ok K hΦ (ts := ts) (σ0 := σ) (by rw [e1, hlen]) (fun k o tr ho htr => ?_) (fun i k ti tk hlt hi hk => ?_) hok.2 hQ ops.size _ a _ (by simp) (fun i o e _ hS => ?_) (by simp) ?_
    · have hkl : k < lgs.length := by
        rw [e2, hlen]
        rcases Nat.lt_or_ge k ops.size with h | h
        · exact h
        · rw [Array.getElem?_eq_none h] at ho; cases ho
      exact (e5 k o k tr lgs[k] (hzip k o ho) htr (List.getElem?_eq_getElem hkl)).2.2.2
    · have hkl : k < ts.length := by
        rcases Nat.lt_or_ge k ts.length with h | h
        · exact h
        · rw [List.getElem?_eq_none h] at hk; cases hk
      have hkn : k < ops.size := by rw [e1, hlen] at hkl; exact hkl
      have hin : i < ops.size := by omega
      obtain ⟨i1, i2, i3, _⟩ := e5 i _ i ti (lgs[i]'(by rw [e2, hlen]; exact hin)) (hzip i _ (Array.getElem?_eq_getElem hin)) hi (List.getElem?_eq_getElem _)
      obtain ⟨k1, k2, k3, _⟩ := e5 k _ k tk (lgs[k]'(by rw [e2, hlen]; exact hkn)) (hzip k _ (Array.getElem?_eq_getElem hkn)) hk (List.getElem?_eq_getElem _)
      have hpair := okLogs_pair hok.1 (lgs.length - 1 - k) (lgs.length - 1 - i) (lgs[k]'(by rw [e2, hlen]; exact hkn)) (lgs[i]'(by rw [e2, hlen]; exact hin)) (by rw [e2, hlen]; omega)
        (by rw [List.getElem?_reverse (by rw [e2, hlen]; omega)]; rw [show lgs.length - 1 - (lgs.length - 1 - k) = k by rw [e2, hlen]; omega]; exact List.getElem?_eq_getElem _)
        (by rw [List.getElem?_reverse (by rw [e2, hlen]; omega)]; rw [show lgs.length - 1 - (lgs.length - 1 - i) = i by rw [e2, hlen]; omega]; exact List.getElem?_eq_getElem _)
      unfold apartLogs at hpair
      rw [i1, k1] at hpair
      simp only [Bool.or_eq_true, Bool.not_eq_true', Bool.or_eq_false_iff] at hpair
      rcases hpair with hb | ⟨⟨m1, m2⟩, m3⟩
      · exact .inl hb
      · refine .inr ⟨fun t ht => ?_, fun t ht hr => ?_⟩
        · rw [← k2] at ht
          have n1 := not_meets m1 t ht
          have n2 := not_meets m2 t ht
          refine ⟨by rw [← i2]; exact n1, fun hr => ?_⟩
          rcases i3 t hr with h | h
          · exact n2 h
          · exact n1 h
        · rw [← i2] at ht
          rcases k3 t hr with h | h
          · exact not_meets m3 t h ht
          · exact not_meets m1 t h ht
    · unfold SetOf at hS
      rw [Array.getD_eq_getD_getElem?, Array.getElem?_replicate] at hS
      split at hS <;> simp at hS
    · rw [runS_none' ts 0 σ (fun k _ => by
        unfold SetOf
        rw [Array.getD_eq_getD_getElem?, Array.getElem?_replicate]
        split <;> rfl)]
      exact good_drawn hG
  · cases h2
end
end Go.K

/- K, part 5: code. -/
set_option linter.unusedVariables false
set_option linter.unusedSimpArgs false
namespace Go.K
variable [drI : Dr]
section
variable {P : Program} {X : FC} {B : Nat} {M Z0 : BSet} {w0 : World} {pv : Nat → Value}

/-- A loop's summary is true. -/
def LoopOK (P : Program) (X : FC) (pv : Nat → Value) (B : Nat) (M Z0 : BSet) (w0 : World) (L : Sums) (cur : Nat) (c : Code) : Prop :=
  ∀ (σ : St) (a : Act) (w : World) (r : Exit × St) (Q : Exit → Act → World → Prop), (L cur (headAt X (3 * cur) σ)).run = some r → GoodP X pv B M Z0 w0 σ a w → (∀ a' w', GoodP X pv B M Z0 w0 r.2 a' w' → Q r.1 a' w') → (Code.loop c).wp P Q a w
def LoopsOK (P : Program) (X : FC) (pv : Nat → Value) (B : Nat) (M Z0 : BSet) (w0 : World) (L : Sums) : Nat → Code → Prop
  | cur, .seq x y => LoopsOK P X pv B M Z0 w0 L cur x ∧ LoopsOK P X pv B M Z0 w0 L cur y
  | cur, .cond _ x y => LoopsOK P X pv B M Z0 w0 L cur x ∧ LoopsOK P X pv B M Z0 w0 L cur y
  | _, .block id c => LoopsOK P X pv B M Z0 w0 L id c
  | cur, .loop c => LoopOK P X pv B M Z0 w0 L cur c
  | _, _ => True

theorem ev_ok (K : CtxOK P X) (hΦ : ∀ g, FnOK P X.C g) {L : Sums} : ∀ (c : Code) (cur : Nat) {σ : St} {a : Act} {w : World} {r : Exit × St} {Q : Exit → Act → World → Prop}, LoopsOK P X pv B M Z0 w0 L cur c → (ev X L cur c σ).run = some r → GoodP X pv B M Z0 w0 σ a w →
    (∀ a' w', GoodP X pv B M Z0 w0 r.2 a' w' → Q r.1 a' w') → c.wp P Q a w := by
  intro c
  induction c with
  | skip => intro cur σ a w r Q hL h hG hQ; simp only [ev, Out.run, Option.some.injEq] at h; subst h; exact wp_skip (hQ a w hG)
  | region id ops draw =>
    intro cur σ a w r Q hL h hG hQ
    simp only [ev] at h
    obtain ⟨σ', h1, h2⟩ := run_bind2 h
    simp only [Out.run, Option.some.injEq] at h2
    subst h2
    cases draw with
    | true => exact region_draw K hΦ h1 hG hQ
    | false => exact region_text K hΦ h1 hG hQ
  | seq x y ihx ihy =>
    intro cur σ a w r Q hL h hG hQ
    simp only [ev] at h
    obtain ⟨⟨e, σ'⟩, h1, h2⟩ := run_bind2 h
    refine wp_seq (ihx cur hL.1 h1 hG fun a' w' hG' => ?_)
    cases e with
    | normal => exact ihy cur hL.2 h2 hG' hQ
    | _ =>
      simp only [Out.run, Option.some.injEq] at h2
      subst h2
      exact hQ a' w' hG'
  | ret => intro cur σ a w r Q hL h hG hQ; simp only [ev, Out.run, Option.some.injEq] at h; subst h; exact wp_ret (hQ a w hG)
  | exit id => intro cur σ a w r Q hL h hG hQ; simp only [ev, Out.run, Option.some.injEq] at h; subst h; exact wp_exit (hQ a w hG)
  | loop x ih => intro cur σ a w r Q hL h hG hQ; simp only [ev] at h; exact hL σ a w r Q h hG hQ
  | block id x ih =>
    intro cur σ a w r Q hL h hG hQ
    simp only [ev] at h
    obtain ⟨⟨e, σ'⟩, h1, h2⟩ := run_bind2 h
    refine wp_block (ih id hL h1 hG fun a' w' hG' => ?_)
    cases e with
    | exit i =>
      simp only at h2 ⊢
      unfold Exit.inBlock
      split at h2
      · rename_i hi
        simp only [Out.run, Option.some.injEq] at h2
        subst h2
        simp only [hi, if_true]
        exact hQ a' w' hG'
      · rename_i hi
        simp only [Out.run, Option.some.injEq] at h2
        subst h2
        simp only [hi, if_false]
        exact hQ a' w' hG'
    | _ =>
      simp only [Out.run, Option.some.injEq] at h2
      subst h2
      exact hQ a' w' hG'
  | cond c x y ihx ihy =>
    intro cur σ a w r Q hL h hG hQ
    simp only [ev] at h
    split at h
    · rename_i t
      split at h
      · rename_i b he
        have hset : σ.set t ⟨(σ.at t).ver, .val .bool .fr b⟩ = σ := by
          have := set_at σ t
          rw [← he]; exact this
        have hc : a.eval (.tmp t) = .bool b := by
          obtain ⟨⟨Z, F, I⟩, _⟩ := hG
          have hE := I.ent t
          rw [he] at hE
          exact VRep.bool (by simp) hE
        simp only [Out.run] at h
        cases b with
        | true => simp only [cond_true] at h; rw [hset] at h; exact wp_cond_true hc (ihx cur hL.1 h hG hQ)
        | false => simp only [cond_false] at h; rw [hset] at h; exact wp_cond_false hc (ihy cur hL.2 h hG hQ)
      · cases h
    · exact wp_cond_true rfl (ihx cur hL.1 h hG hQ)
    · exact wp_cond_false rfl (ihy cur hL.2 h hG hQ)
    · cases h
  | _ => intro cur σ a w r Q hL h hG hQ; simp [ev, Out.run] at h

theorem canonFrom_length (keep : Nat → Bool) (τ : St) : ∀ (i : Nat) (σ : St), (canonFrom keep τ i σ).length = σ.length
  | i, [] => rfl
  | i, s :: r => by simp [canonFrom, canonFrom_length keep τ (i + 1) r]
theorem canonFrom_at (keep : Nat → Bool) (τ : St) : ∀ (i : Nat) (σ : St) (t : Nat), keep (i + t) = true ∧ t < σ.length ∧ (canonFrom keep τ i σ).at t = ⟨0, (σ.at t).e.canon keep τ⟩ ∨ (keep (i + t) = false ∨ σ.length ≤ t) ∧ (canonFrom keep τ i σ).at t = ⟨0, .un⟩
  | i, [], t => .inr ⟨.inr (Nat.zero_le _), by simp [canonFrom, St.at]⟩
  | i, s :: r, 0 => by
    simp only [canonFrom]
    cases hk : keep i with
    | true => exact .inl ⟨by simp, Nat.succ_pos _, rfl⟩
    | false => exact .inr ⟨.inl (by simp), rfl⟩
  | i, s :: r, t + 1 => by
    have := canonFrom_at keep τ (i + 1) r t
    have e : i + 1 + t = i + (t + 1) := by omega
    rw [e] at this
    rcases this with ⟨h1, h2, h3⟩ | ⟨h1, h2⟩
    · exact .inl ⟨h1, Nat.succ_lt_succ h2, by simpa [canonFrom, St.at] using h3⟩
    · exact .inr ⟨h1.imp id Nat.succ_le_succ, by simpa [canonFrom, St.at] using h2⟩
theorem canonAt_at (keep : Nat → Bool) (σ : St) (t : Nat) : (canonAt keep σ).at t = ⟨0, .un⟩ ∨ keep t = true ∧ (canonAt keep σ).at t = ⟨0, (σ.at t).e.canon keep σ⟩ := by
  rcases canonFrom_at keep σ 0 σ t with ⟨h1, _, h2⟩ | ⟨_, h2⟩
  · exact .inr ⟨by simpa using h1, h2⟩
  · exact .inl h2
theorem stands_iff {keep : Nat → Bool} {σ : St} {r v : Nat} (h : stands keep σ r v = true) : keep r = true ∧ (σ.at r).ver = v := by
  simp only [stands, Bool.and_eq_true] at h
  exact ⟨h.1, Nat.eq_of_beq_eq_true h.2⟩
theorem capsCanon_some {keep : Nat → Bool} {σ : St} : ∀ {c l : List Cap}, capsCanon keep σ c = some l → ∀ i r v : Nat, l[i]? = some (Cap.root r v) → v = 0 ∧ ∃ v', c[i]? = some (Cap.root r v') ∧ stands keep σ r v' = true
  | [], l, h, i => by simp only [capsCanon, Option.some.injEq] at h; subst h; simp
  | .arg a :: cs, l, h, i => by
    simp only [capsCanon] at h
    split at h
    · rename_i l' hl
      simp only [Option.some.injEq] at h; subst h
      have ih := capsCanon_some hl
      cases i with
      | zero => simp
      | succ i => simpa using ih i
    · cases h
  | .root r v :: cs, l, h, i => by
    simp only [capsCanon] at h
    split at h
    · rename_i l' hl
      split at h
      · rename_i hs
        simp only [Option.some.injEq] at h; subst h
        have ih := capsCanon_some hl
        cases i with
        | zero =>
          intro r' v' h
          simp only [List.getElem?_cons_zero, Option.some.injEq, Cap.root.injEq] at h
          exact ⟨h.2.symm, v, by rw [← h.1]; rfl, by rw [← h.1]; exact hs⟩
        | succ i => simpa using ih i
      · cases h
    · cases h
theorem capsOK_canon {w : World} {Z : BSet} {keep : Nat → Bool} {σ : St} : ∀ {c l : List Cap} {cs : List Value}, capsCanon keep σ c = some l → CapsOK w Z c cs → CapsOK w Z l cs
  | [], l, cs, h, hc => by simp only [capsCanon, Option.some.injEq] at h; subst h; exact hc
  | .arg a :: c, l, cs, h, hc => by
    simp only [capsCanon] at h
    split at h
    · rename_i l' hl
      simp only [Option.some.injEq] at h; subst h
      obtain ⟨V, Vs, e, h1, h2⟩ := hc
      exact ⟨V, Vs, e, h1, capsOK_canon hl h2⟩
    · cases h
  | .root r v :: c, l, cs, h, hc => by
    simp only [capsCanon] at h
    split at h
    · rename_i l' hl
      split at h
      · simp only [Option.some.injEq] at h; subst h
        obtain ⟨V, Vs, e, h1, h2⟩ := hc
        exact ⟨V, Vs, e, (fun a h => by cases h), capsOK_canon hl h2⟩
      · cases h
    · cases h
theorem content_canon (keep : Nat → Bool) (σ : St) (e : Ent) : (e.canon keep σ).content = e.content := by
  cases e with
  | fnl g f c => simp only [Ent.canon]; split <;> rfl
  | sref r v p win => simp only [Ent.canon]; split <;> rfl
  | pref r v p => simp only [Ent.canon]; split <;> rfl
  | _ => rfl
theorem fbox_canon {keep : Nat → Bool} {σ : St} {e : Ent} {g : Nat} {f c : List Arg} (h : e.canon keep σ = .fbox g f c) : e = .fbox g f c := by
  cases e with
  | fnl g f c => simp only [Ent.canon] at h; split at h <;> cases h
  | sref r v p win => simp only [Ent.canon] at h; split at h <;> cases h
  | pref r v p => simp only [Ent.canon] at h; split at h <;> cases h
  | fbox g f c => exact h
  | _ => cases h
theorem good_canon {keep : Nat → Bool} {σ : St} {a : Act} {w : World} (h : Good B M Z0 w0 σ a w) : Good B M Z0 w0 (canonAt keep σ) a w := by
  obtain ⟨Z, F, I⟩ := h
  -- a root that stands
  have hroot : ∀ r v, stands keep σ r v = true → (((canonAt keep σ).at r).e = .un ∧ (σ.at r).e = .un ∨ ((canonAt keep σ).at r).e = (σ.at r).e.canon keep σ) ∧ ((canonAt keep σ).at r).ver = 0 ∧ (σ.at r).ver = v := by
    intro r v hs
    obtain ⟨hk, hv⟩ := stands_iff hs
    rcases canonFrom_at keep σ 0 σ r with ⟨_, _, h2⟩ | ⟨h1, h2⟩
    · have h3 : (canonAt keep σ).at r = _ := h2
      rw [h3]; exact ⟨.inr rfl, rfl, hv⟩
    · have h3 : (canonAt keep σ).at r = _ := h2
      rcases h1 with h1 | h1
      · rw [Nat.zero_add] at h1; rw [h1] at hk; cases hk
      · rw [h3, at_ge h1]; exact ⟨.inl ⟨rfl, rfl⟩, rfl, by rw [← hv, at_ge h1]⟩
  have hcont : ∀ r v, stands keep σ r v = true → ((canonAt keep σ).at r).e.content = (σ.at r).e.content := by
    intro r v hs
    rcases (hroot r v hs).1 with ⟨h1, h2⟩ | h1
    · rw [h1, h2]
    · rw [h1, content_canon]
  have hfb : ∀ r v, stands keep σ r v = true → ∀ g f c, ((canonAt keep σ).at r).e = .fbox g f c → (σ.at r).e = .fbox g f c := by
    intro r v hs g f c h
    rcases (hroot r v hs).1 with ⟨h1, h2⟩ | h1
    · rw [h1] at h; cases h
    · rw [h1] at h; exact fbox_canon h
  have hS : ∀ r v, stands keep σ r v = true → ∀ p win V, SRefOK w (σ.at r).e (tm a r) p win V → SRefOK w ((canonAt keep σ).at r).e (tm a r) p win V := by
    intro r v hs p win V h c hc
    exact h c (by rw [← hcont r v hs]; exact hc)
  have hP : ∀ r v, stands keep σ r v = true → ∀ p V, PRefOK w (σ.at r).e (tm a r) p V → PRefOK w ((canonAt keep σ).at r).e (tm a r) p V := by
    intro r v hs p V h
    exact ⟨fun c hc => h.1 c (by rw [← hcont r v hs]; exact hc), fun g f c hc => h.2 g f c (hfb r v hs g f c hc)⟩
  have hat : ∀ t, ((canonAt keep σ).at t).e = .un ∨ ((canonAt keep σ).at t).e = (σ.at t).e.canon keep σ := by
    intro t
    rcases canonAt_at keep σ t with h | ⟨_, h⟩
    · left; rw [h]
    · right; rw [h]
  classical
  refine ⟨Z, fun t => if ((canonAt keep σ).at t).e = .un then (fun _ => False) else F t, by rw [I.len, canonAt, canonFrom_length], fun t => ?_, fun t => ?_, fun t t' b h1 h2 => ?_, fun t b h1 => ?_, I.z, I.z0, I.frame, I.size, I.os, I.tape, I.output, I.defers, I.drawn⟩
  · by_cases hu : ((canonAt keep σ).at t).e = .un
    · rw [hu]; simp only [if_true]; exact EntOK.un
    · simp only [hu, if_false]
      have h := (hat t).resolve_left hu
      rw [h] at hu ⊢
      have hE := I.ent t
      generalize (σ.at t).e = e at hu hE
      cases e with
      | fnl g f c =>
        simp only [Ent.canon] at hu ⊢
        split at hu
        · rename_i l hl
          obtain ⟨h0, fs, cs, e1, h1, h2⟩ := hE
          exact ⟨h0, fs, cs, e1, h1, capsOK_canon hl h2⟩
        · exact absurd rfl hu
      | sref r v p win =>
        simp only [Ent.canon] at hu ⊢
        split at hu
        · rename_i hs; simp only [hs, if_true]; exact hE
        · exact absurd rfl hu
      | pref r v p =>
        simp only [Ent.canon] at hu ⊢
        split at hu
        · rename_i hs; simp only [hs, if_true]; exact hE
        · exact absurd rfl hu
      | undf => exact absurd rfl hu
      | tup xs => exact absurd rfl hu
      | un => exact absurd rfl hu
      | tref r v xs => exact absurd rfl hu
      | _ => exact hE
  · rcases hat t with h | h
    · exact RefOK.ofPlain (by rw [h]; rfl)
    · have hR := I.ref t
      unfold RefOK at hR ⊢
      rw [h]
      generalize (σ.at t).e = e at hR
      cases e with
      | fnl g f c =>
        simp only [Ent.canon]
        cases hl : capsCanon keep σ c with
        | none => trivial
        | some l =>
          simp only at hR ⊢
          intro i r v hi
          obtain ⟨rfl, v', h2, h3⟩ := capsCanon_some hl i r v hi
          obtain ⟨_, h4, h5⟩ := hroot r v' h3
          exact ⟨Nat.zero_le _, fun _ => (hR i r v' h2).2 h5⟩
      | sref r v p win =>
        simp only [Ent.canon]
        by_cases hs : stands keep σ r v = true
        · simp only [hs, if_true] at hR ⊢
          exact ⟨Nat.zero_le _, fun _ => hS r v hs _ _ _ (hR.2 (hroot r v hs).2.2)⟩
        · simp only [hs]; trivial
      | pref r v p =>
        simp only [Ent.canon]
        by_cases hs : stands keep σ r v = true
        · simp only [hs, if_true] at hR ⊢
          exact ⟨Nat.zero_le _, fun _ => hP r v hs _ _ (hR.2 (hroot r v hs).2.2)⟩
        · simp only [hs]; trivial
      | _ => trivial
  · split at h1
    · exact h1.elim
    · split at h2
      · exact h2.elim
      · exact I.disj t t' b h1 h2
  · split at h1
    · exact h1.elim
    · exact I.own t b h1
theorem good_ice : ∀ (l : List Nat) {σ : St} {a : Act} {w : World}, Good B M Z0 w0 σ a w → Good B M Z0 w0 (iceAt l σ) a w
  | [], σ, a, w, h => h
  | t :: ts, σ, a, w, h => by
    simp only [iceAt]
    refine good_ice ts ?_
    generalize he : (σ.at t).e = e
    cases e with
    | val ty q x =>
      simp only
      cases hq : (!q.clean && q.whole) with
      | false => exact h
      | true =>
        simp only [cond_true]
        rw [Bool.and_eq_true] at hq
        obtain ⟨Z, F, I⟩ := h
        classical
        have hlt : t < σ.length := by
          by_cases h1 : t < σ.length
          · exact h1
          · rw [at_ge (Nat.le_of_not_lt h1)] at he; cases he
        have hset : ∀ s, St.at (σ.set t ⟨(σ.at t).ver + 1, .val ty .fr x⟩) s = if s = t then ⟨(σ.at t).ver + 1, .val ty .fr x⟩ else σ.at s := by
          intro s
          rw [at_set]
          by_cases h1 : s = t
          · simp [h1, hlt]
          · simp [h1]
        have hE := I.ent t
        rw [he] at hE
        refine ⟨fun b => Z b ∨ F t b, fun s => if s = t then (fun _ => False) else F s, I.change (fun s => s = t) (by rw [I.len]; simp) I.defers (fun s hs => ?_) (Ext.refl w _) (fun b hb => .inl hb) (fun b hb => ?_) (fun s hs => ?_) (fun s hs => ?_) (fun s hs b hb => ?_) (fun s s' hs hs' b hb _ => ?_) (fun r hr => ?_)⟩
        · rw [hset, if_neg hs]; exact ⟨rfl, rfl, by simp [hs]⟩
        · rcases hb with hb | hb
          · exact ⟨(I.z b hb).2, .inl hb⟩
          · exact ⟨(I.own t b hb).2.2, .inr (.inl ⟨t, rfl, hb⟩)⟩
        · subst hs
          rw [hset, if_pos rfl]
          simp only [if_true]
          exact VRep.freeze (fun b hb => .inl hb) hq.2 (fun b hb => .inr hb) hE
        · subst hs
          exact RefOK.ofPlain (by rw [hset, if_pos rfl]; rfl)
        · subst hs
          simp at hb
        · exact hs.trans hs'.symm
        · subst hr
          exact .inl (by rw [hset, if_pos rfl]; exact Nat.lt_succ_self _)
    | _ => exact h
theorem good_canonP {keep : Nat → Bool} {σ : St} {a : Act} {w : World} (h : GoodP X pv B M Z0 w0 σ a w) : GoodP X pv B M Z0 w0 (canonAt keep σ) a w := ⟨good_canon h.1, h.2⟩
theorem good_headP {i : Nat} {σ : St} {a : Act} {w : World} (h : GoodP X pv B M Z0 w0 σ a w) : GoodP X pv B M Z0 w0 (headAt X i σ) a w := ⟨good_canon (good_ice _ h.1), h.2⟩
end
end Go.K

/- K, part 6: loops by rounds; functions. -/
set_option linter.unusedVariables false
set_option linter.unusedSimpArgs false
namespace Go.K
variable [drI : Dr]
section
variable {P : Program} {X : FC} {B : Nat} {M Z0 : BSet} {w0 : World} {pv : Nat → Value}

theorem rounds_ok (K : CtxOK P X) (hΦ : ∀ g, FnOK P X.C g) {L : Sums} {cur : Nat} {c : Code} (hL : LoopsOK P X pv B M Z0 w0 L cur c) : ∀ (n : Nat) {σ : St} {a : Act} {w : World} {r : Exit × St} {Q : Exit → Act → World → Prop}, (evLoop X L cur c n σ).run = some r → GoodP X pv B M Z0 w0 σ a w →
    (∀ a' w', GoodP X pv B M Z0 w0 r.2 a' w' → Q r.1 a' w') → Code.rounds P c Q n a w
  | 0, σ, a, w, r, Q, h, hG, hQ => by simp [evLoop, Out.run] at h
  | n + 1, σ, a, w, r, Q, h, hG, hQ => by
    simp only [evLoop, evRound] at h
    obtain ⟨⟨e, σ1⟩, h1, h2⟩ := run_bind2 h
    obtain ⟨⟨e', σ'⟩, h3, h4⟩ := run_bind2 h1
    rw [rounds_succ]
    refine ev_ok K hΦ c cur hL h3 hG fun a' w' hG' => ?_
    cases e' with
    | normal =>
      simp only [Out.run, Option.some.injEq, Prod.mk.injEq] at h4
      obtain ⟨rfl, rfl⟩ := h4
      exact rounds_ok K hΦ hL n h2 (good_headP hG') hQ
    | _ =>
      simp only [Out.run, Option.some.injEq, Prod.mk.injEq] at h4
      obtain ⟨rfl, rfl⟩ := h4
      simp only [Out.run, Option.some.injEq] at h2
      subst h2
      exact hQ a' w' (good_headP hG')
/-- A summary that the rounds bear out. -/
theorem loopOK_of_rounds (K : CtxOK P X) (hΦ : ∀ g, FnOK P X.C g) {L : Sums} {cur : Nat} {c : Code} (hL : LoopsOK P X pv B M Z0 w0 L cur c)
    (h : ∀ τ r, (L cur τ).run = some r → ∃ n, (evLoop X L cur c n τ).run = some r) : LoopOK P X pv B M Z0 w0 L cur c := by
  intro σ a w r Q hr hG hQ
  obtain ⟨n, hn⟩ := h _ _ hr
  exact wp_loop_rounds n (rounds_ok K hΦ hL n hn (good_headP hG) hQ)
end
end Go.K

/- K, part 7: functions. -/
set_option linter.unusedVariables false
set_option linter.unusedSimpArgs false
namespace Go.K
variable [drI : Dr]

theorem argsRep_foot {w : World} {Z : BSet} : ∀ {args : List Arg} {vs : List Value} {Fo : BSet}, ArgsRep w Z args vs Fo → vs.length = args.length ∧ ∃ G : Nat → BSet, (∀ i a, args[i]? = some a → ArgRep w Z a (vs.getD i undef) (G i)) ∧
      (∀ i j b, G i b → G j b → i = j) ∧ (∀ i b, G i b → Fo b) ∧ ∀ i, args.length ≤ i → E0 (G i)
  | [], vs, Fo, h => by
    obtain ⟨rfl, _⟩ := h
    exact ⟨rfl, fun _ _ => False, by simp, by simp, by simp, fun _ _ _ h => h⟩
  | a :: as, _, Fo, ⟨V, Vs, F1, F2, rfl, h1, h2, j⟩ => by
    obtain ⟨hl, G, g1, g2, g3, g4⟩ := argsRep_foot h2
    refine ⟨by simp [hl], fun i => match i with | 0 => F1 | i + 1 => G i, fun i x hx => ?_, fun i k b hi hk => ?_, fun i b hb => ?_, fun i hi => ?_⟩
    · cases i with
      | zero => simp only [List.getElem?_cons_zero, Option.some.injEq] at hx; subst hx; exact h1
      | succ i => simpa using g1 i x (by simpa using hx)
    · cases i <;> cases k
      · rfl
      · exact (j.2 b hi (g3 _ b hk)).elim
      · exact (j.2 b hk (g3 _ b hi)).elim
      · exact congrArg _ (g2 _ _ b hi hk)
    · cases i with
      | zero => exact j.left hb
      | succ i => exact j.right (g3 i b hb)
    · cases i with
      | zero => simp at hi
      | succ i => exact g4 i (by simpa using hi)

theorem enter_at {fn : Func} {args : List Arg} (t : Nat) : (enter fn args).at t = match args[t]? with | some a => ⟨0, a.entry⟩ | none => ⟨0, .un⟩ := by
  unfold enter St.at
  rw [List.getD_eq_getElem?_getD, List.getElem?_append]
  split
  · rename_i h
    rw [List.length_map] at h
    rw [List.getElem?_map, List.getElem?_eq_getElem h]; rfl
  · rename_i h
    rw [List.length_map] at h
    rw [List.getElem?_eq_none (l := args) (Nat.le_of_not_lt h), List.getElem?_replicate]
    split <;> rfl
theorem entry_ok {w : World} {Z : BSet} {a : Arg} {V : Value} {Fo : BSet} (h : ArgRep w Z a V Fo) : EntOK w Z a.entry V Fo := by
  cases a with
  | v t q x => exact h
  | fn g f c =>
    obtain ⟨h, h0⟩ := h
    cases h with
    | fn h1 h2 => exact ⟨h0, _, _, rfl, h1, capOf_args h2⟩
  | pfn g f c => exact h
  | gone => exact h
theorem tm_start {vs : List Value} {n t : Nat} {ds : List Deferred} : tm { tmps := vs.toArray ++ Array.replicate n undef, defers := ds } t = vs.getD t undef := by
  unfold tm
  rw [Array.getD_eq_getD_getElem?, Array.getElem?_append, List.getD_eq_getElem?_getD]
  split
  · simp
  · rename_i h
    rw [List.size_toArray] at h
    rw [List.getElem?_eq_none (Nat.le_of_not_lt h), Array.getElem?_replicate]
    split <;> rfl
theorem enter_good {w : World} {Z Fo : BSet} {fn : Func} {args : List Arg} {vs : List Value} (h : ArgsRep w Z args vs Fo) (hZ : ∀ b, Z b → b < w.heap.size) (hF : ∀ b, Fo b → ¬ Z b ∧ b < w.heap.size) :
    Good w.heap.size Fo Z w (enter fn args) { tmps := vs.toArray ++ Array.replicate (fn.ntmps - vs.toArray.size) undef, defers := [] } w := by
  obtain ⟨hl, G, g1, g2, g3, g4⟩ := argsRep_foot h
  refine ⟨Z, G, ?_, fun t => ?_, fun t => ?_, g2, fun t b hb => ?_, fun b hb => ⟨.inl hb, hZ b hb⟩, fun _ h => h, fun _ _ _ => rfl, Nat.le_refl _, rfl, rfl, rfl, rfl, Dr.refl _⟩
  · simp [enter, hl]
  · rw [enter_at, tm_start]
    cases ha : args[t]? with
    | some a => exact entry_ok (g1 t a ha)
    | none =>
      have := g4 t (by simpa using ha)
      exact this
  · unfold RefOK
    rw [enter_at]
    cases ha : args[t]? with
    | none => trivial
    | some a =>
      cases a with
      | fn g f c =>
        simp only [Arg.entry]
        intro i r v hi
        rw [List.getElem?_map] at hi
        cases hc : c[i]? <;> rw [hc] at hi <;> cases hi
      | _ => trivial
  · exact ⟨(hF b (g3 t b hb)).1, .inr (g3 t b hb), (hF b (g3 t b hb)).2⟩

section
variable {P : Program} {X : FC} {B : Nat} {M Z0 : BSet} {w0 : World} {σ0 : St} {a : Act} {w : World} {Z : BSet} {F : Nat → BSet}
def Agree (σ0 σ : St) : Prop := ∀ t, σ.at t = σ0.at t ∨ (σ.at t).e = .un
/-- What has been taken out between two states. -/
def Took (F : Nat → BSet) (σ σ' : St) : BSet := fun b => ∃ t, F t b ∧ (σ.at t).e ≠ .un ∧ (σ'.at t).e = .un
theorem Agree.eq {σ : St} (h : Agree σ0 σ) {t : Nat} {e : Ent} (he : (σ.at t).e = e) (hn : e ≠ .un) : σ.at t = σ0.at t := (h t).resolve_right (fun h2 => hn (he.symm.trans h2))
theorem Agree.set {σ : St} (h : Agree σ0 σ) (r : Nat) : Agree σ0 (σ.set r ⟨0, .un⟩) := by
  intro t
  rw [at_set]
  split
  · exact .inr rfl
  · exact h t
theorem agree_set (σ : St) (r : Nat) : Agree σ (σ.set r ⟨0, .un⟩) := Agree.set (fun _ => .inl rfl) r
theorem Agree.trans {σ σ' σ'' : St} (h : Agree σ σ') (h2 : Agree σ' σ'') : Agree σ σ'' := fun t => by
  rcases h2 t with h3 | h3
  · rcases h t with h4 | h4
    · exact .inl (h3.trans h4)
    · exact .inr (by rw [h3]; exact h4)
  · exact .inr h3
theorem took_set {σ : St} {r b : Nat} (h : F r b) (hn : (σ.at r).e ≠ .un) : Took F σ (σ.set r ⟨0, .un⟩) b := by
  refine ⟨r, h, hn, ?_⟩
  rw [at_set]
  have : r < σ.length := in_range hn
  simp [this]
theorem Took.left {σ σ' σ'' : St} (h : Agree σ' σ'') {b : Nat} (hb : Took F σ σ' b) : Took F σ σ'' b := by
  obtain ⟨t, h1, h2, h3⟩ := hb
  refine ⟨t, h1, h2, ?_⟩
  rcases h t with h4 | h4
  · rw [h4]; exact h3
  · exact h4
theorem Took.right {σ σ' σ'' : St} (h : Agree σ σ') {b : Nat} (hb : Took F σ' σ'' b) : Took F σ σ'' b := by
  obtain ⟨t, h1, h2, h3⟩ := hb
  refine ⟨t, h1, ?_, h3⟩
  rcases h t with h4 | h4
  · rw [← h4]; exact h2
  · exact absurd h4 h2
theorem took_apart (hd : ∀ t t' b, F t b → F t' b → t = t') {σ σ' σ'' : St} {b : Nat} (h1 : Took F σ σ' b) (h2 : Took F σ' σ'' b) : False := by
  obtain ⟨t, e1, _, e2⟩ := h1
  obtain ⟨t', e3, e4, _⟩ := h2
  rw [hd t t' b e1 e3] at e2
  exact e4 e2

theorem FRep.monoZ {w : World} {Z Z' : BSet} (h : ∀ b, Z b → Z' b) {a : Arg} {V : Value} (hr : FRep w Z a V) : FRep w Z' a V := hr.frame (fun b hb => ⟨h b hb, rfl⟩)
theorem FReps.monoZ {w : World} {Z Z' : BSet} (h : ∀ b, Z b → Z' b) {a : List Arg} {V : List Value} (hr : FReps w Z a V) : FReps w Z' a V := hr.frame (fun b hb => ⟨h b hb, rfl⟩)
theorem capsGive_ok (I : Inv B M Z0 w0 σ0 a w Z F) {c0 : List Cap} {t0 g : Nat} {f : List Arg} {fs cs0 : List Value} (ht0 : (σ0.at t0).e = .fnl g f c0) (hV : tm a t0 = .func (.func g) fs.toArray cs0.toArray) :
    ∀ {caps : List Cap} {k : Nat} {σ σ' : St} {as : List Arg} {cs : List Value}, (∀ i, caps[i]? = c0[k + i]?) → cs0.drop k = cs → capsGive σ caps = some (as, σ') → Agree σ0 σ → CapsOK w Z caps cs →
      FReps w (fun b => Z b ∨ Took F σ σ' b) as cs ∧ Agree σ σ'
  | [], k, σ, σ', as, cs, hk, hcs, h, hA, hC => by
    simp only [capsGive, Option.some.injEq, Prod.mk.injEq] at h
    obtain ⟨rfl, rfl⟩ := h
    have : cs = [] := hC
    subst this
    exact ⟨.nil, fun _ => .inl rfl⟩
  | .arg x :: caps, k, σ, σ', as, cs, hk, hcs, h, hA, hC => by
    obtain ⟨V, Vs, hcV, h1, h2⟩ := hC
    subst hcV
    simp only [capsGive] at h
    split at h
    · rename_i as' σ1 hr
      simp only [Option.some.injEq, Prod.mk.injEq] at h
      obtain ⟨rfl, rfl⟩ := h
      obtain ⟨r1, r2⟩ := capsGive_ok I ht0 hV (k := k + 1) (fun i => by rw [show k + 1 + i = k + (i + 1) by omega]; rw [← hk (i + 1)]; rfl) (by rw [← List.drop_drop, hcs]; rfl) hr hA h2
      exact ⟨.cons ((h1 x rfl).monoZ fun b hb => .inl hb) r1, r2⟩
    · cases h
  | .root r v :: caps, k, σ, σ', as, cs, hk, hcs, h, hA, hC => by
    obtain ⟨V, Vs, hcV, h1, h2⟩ := hC
    subst hcV
    simp only [capsGive] at h
    split at h
    rotate_left
    · cases h
    rename_i hv
    have hVr : (σ.at r).e ≠ .un → V = tm a r := by
      intro hn
      have he : σ.at r = σ0.at r := hA.eq rfl hn
      have hR := I.ref t0
      unfold RefOK at hR
      rw [ht0] at hR
      have h0 := hk 0
      simp only [List.getElem?_cons_zero, Nat.add_zero] at h0
      obtain ⟨_, h4⟩ := hR k r v h0.symm
      obtain ⟨fs', cs', h5, h6⟩ := h4 (by rw [← he]; exact hv)
      rw [hV] at h5
      simp only [Value.func.injEq, true_and] at h5
      rw [← h5.2] at h6
      have h7 : cs0[k]? = some V := by
        have := congrArg (fun l => l[0]?) hcs
        simpa using this
      rw [List.getElem?_toArray] at h6
      rw [h7] at h6
      exact Option.some.inj h6
    split at h
    · rename_i t q x hr
      split at h
      rotate_left
      · cases h
      rename_i hq
      split at h
      rotate_left
      · cases h
      rename_i as' σ1 hc
      simp only [Option.some.injEq, Prod.mk.injEq] at h
      obtain ⟨rfl, rfl⟩ := h
      obtain ⟨r1, r2⟩ := capsGive_ok I ht0 hV (k := k + 1) (fun i => by rw [show k + 1 + i = k + (i + 1) by omega]; rw [← hk (i + 1)]; rfl) (by rw [← List.drop_drop, hcs]; rfl) hc (hA.set r) h2
      have he := hA.eq hr (by simp)
      have hE := I.ent r
      rw [← he, hr] at hE
      have hn : (σ.at r).e ≠ .un := by rw [hr]; simp
      rw [hVr hn]
      refine ⟨.cons (.v (VRep.freeze (fun b hb => .inl hb) (by simpa [Ow.whole] using hq) (fun b hb => .inr (Took.left r2 (took_set hb hn))) hE)) (r1.monoZ fun b hb => hb.imp id (Took.right (agree_set σ r))), (agree_set σ r).trans r2⟩
    · rename_i g2 f2 c2 hr
      split at h
      rotate_left
      · cases h
      rename_i as' σ1 hc
      simp only [Option.some.injEq, Prod.mk.injEq] at h
      obtain ⟨rfl, rfl⟩ := h
      obtain ⟨r1, r2⟩ := capsGive_ok I ht0 hV (k := k + 1) (fun i => by rw [show k + 1 + i = k + (i + 1) by omega]; rw [← hk (i + 1)]; rfl) (by rw [← List.drop_drop, hcs]; rfl) hc (hA.set r) h2
      have he := hA.eq hr (by simp)
      have hE := I.ent r
      rw [← he, hr] at hE
      have hn : (σ.at r).e ≠ .un := by rw [hr]; simp
      rw [hVr hn]
      obtain ⟨b, T, V', e1, e2, e3, e4⟩ := hE
      rw [e1]
      refine ⟨.cons (.pfn rfl (.inr (Took.left r2 (took_set ((e4 b).2 rfl) hn))) ?_ (e3.monoZ fun b hb => .inl hb)) (r1.monoZ fun b hb => hb.imp id (Took.right (agree_set σ r))), (agree_set σ r).trans r2⟩
      unfold World.cell?
      rw [e2]; rfl
    · cases h

/-- What the results' variables read as. -/
def resVals (P : Program) (a : Act) (w : World) (rv : ResultVar) (v : Value) : Prop :=
  (match rv with | .tmp t => (Pure.pure (a.tmps.getD t undef) : Sem Value) | .cell c t => do loadVar t (← asAddr (a.tmps.getD c undef))).run P w = .ok v w
theorem result_ok (K : CtxOK P X) (I : Inv B M Z0 w0 σ0 a w Z F) {rv : ResultVar} {σ σ' : St} {x : Arg} (h : result X.C.ty σ rv = some (x, σ')) (hA : Agree σ0 σ) (hw : ∀ n ∈ winsOf σ0 [rv], n = 0) :
    ∃ (V : Value) (Fr Ice : BSet), resVals P a w rv V ∧ Agree σ σ' ∧ (∀ b, Fr b → Took F σ σ' b) ∧ (∀ b, Ice b → Took F σ σ' b) ∧ (∀ b, Fr b → ¬ Ice b) ∧ ArgRep w (fun b => Z b ∨ Ice b) x V Fr := by
  have hZ : ∀ {y : Arg} {V : Value} {Fo : BSet}, ArgRep w Z y V Fo → ArgRep w (fun b => Z b ∨ False) y V Fo := fun h => h.monoZ fun b hb => .inl hb
  cases rv with
  | tmp t =>
    simp only [result] at h
    split at h
    · rename_i ty q y he
      simp only [Option.some.injEq, Prod.mk.injEq] at h
      obtain ⟨rfl, rfl⟩ := h
      have e1 := hA.eq he (by simp)
      have hE := I.ent t
      rw [← e1, he] at hE
      refine ⟨tm a t, F t, fun _ => False, rfl, ?_, ?_, fun b h => h.elim, fun b _ h => h, hZ hE⟩
      · split
        · exact fun _ => .inl rfl
        · exact agree_set σ t
      · intro b hb
        split
        · rename_i hq; exact absurd hb (hE.1.e0 hq b)
        · exact took_set hb (by rw [he]; simp)
    · rename_i r v he
      split at h
      rotate_left
      · cases h
      rename_i T e q y hr
      split at h
      rotate_left
      · cases h
      rename_i hv
      simp only [Option.some.injEq, Prod.mk.injEq] at h
      obtain ⟨rfl, rfl⟩ := h
      have e1 := hA.eq he (by simp)
      have e2 := hA.eq hr (by simp)
      have hE := I.ent r
      rw [← e2, hr] at hE
      have := sl_root I (by rw [← e1]; exact he) (by rw [← e2]; exact hv) (by rw [← e2]; exact hr)
      refine ⟨tm a t, F r, fun _ => False, rfl, agree_set σ r, fun b hb => took_set hb (by rw [hr]; simp), fun b h => h.elim, fun b _ h => h, ?_⟩
      rw [this]
      exact hZ hE
    · rename_i r v lo hi he
      split at h
      rotate_left
      · cases h
      rename_i T e q y hr
      split at h
      rotate_left
      · cases h
      rename_i hv
      simp only [Option.some.injEq, Prod.mk.injEq] at h
      obtain ⟨rfl, rfl⟩ := h
      have e1 := hA.eq he (by simp)
      have e2 := hA.eq hr (by simp)
      have hE := I.ent r
      rw [← e2, hr] at hE
      have hC := I.ref t
      unfold RefOK at hC
      rw [← e1, he] at hC
      simp only at hC
      rw [← e2] at hC
      obtain ⟨_, T', te, q', ys, l', H, c1, c2, c3, c4⟩ := hC.2 hv ⟨.sl T e, .own q, y⟩ (by rw [hr]; rfl)
      simp only [TV.path, Option.some.injEq] at c1
      cases c1
      simp only [pathLoc, Option.some.injEq] at c2
      subst c2
      obtain ⟨h7, h8, A, m1, cap1, A', cc, rfl, hV, h9, h10, h11, h12⟩ := c4
      have hsc := hE.scalar rfl
      obtain ⟨⟨V, cells, Fe, hVr, hown, hel, hF, hdj⟩, hagg⟩ := hE
      rw [hsc] at hVr
      simp only [List.cons.injEq, and_true] at hVr
      have hroot : rootLoc (tm a r) = .hdr (tm a r) := by
        rw [hVr]
        rcases hown.2 with ⟨rfl, _⟩ | ⟨g, cap, cur, rfl, _⟩ <;> rfl
      rw [hroot] at c3
      simp only [Loc.header, Option.some.injEq] at c3
      rw [hVr] at c3
      subst c3
      have hlo : lo = 0 := hw lo (by simp only [winsOf]; rw [← e1, he]; exact List.mem_cons_self)
      subst hlo
      obtain ⟨rfl, rfl⟩ := h12 rfl
      obtain ⟨p', ci, r', Fc, rfl, g1, g2, g3⟩ := hel.seg (fun _ _ _ h => h.length) (Nat.zero_le hi) h8
      rw [Nat.zero_mul] at g1
      have hp0 : p' = [] := List.length_eq_zero_iff.1 g1
      subst hp0
      rw [List.drop_zero] at g2
      have gl := g2.length (fun _ _ _ h => h.length)
      have htl : (y.take hi).length = hi := by rw [List.length_take]; omega
      rw [htl] at gl
      refine ⟨tm a t, fun b => (tm a t).ownBlock = some b ∨ Fc b, fun _ => False, rfl, agree_set σ r, fun b hb => took_set (r := r) ?_ (by rw [hr]; simp), fun b h => h.elim, fun b _ h => h, hZ (y := .v (.sl T e) (.own q) (y.take hi)) ?_⟩
      · rw [hV] at hb
        exact (hF b).2 (hb.imp (fun h => by cases A' with | none => cases h | some ad => exact h) (g3 b))
      · rw [hV]
        refine .mk1 rfl (by simp) ⟨_, ci, Fc, rfl, ⟨by rw [htl, gl], ?_⟩, g2, fun b => Iff.rfl, fun b hb hc => hdj b (by cases A' with | none => cases hb | some ad => exact hb) (g3 b hc)⟩
        rw [htl]
        rcases hown.2 with ⟨hs, hn⟩ | ⟨g, cap, cur, hs, hb0, hg, hn1, hn2, hcs, hct⟩
        · simp only [Value.slice.injEq] at hs
          obtain ⟨rfl, rfl, rfl⟩ := hs
          have : hi = 0 := by omega
          subst this
          exact .inl ⟨rfl, rfl⟩
        · simp only [Value.slice.injEq] at hs
          obtain ⟨rfl, rfl, rfl⟩ := hs
          refine .inr ⟨g, cc, cur, rfl, hb0, hg, by omega, hn2, hcs, ?_⟩
          have hle : hi * e.cells ≤ y.length * e.cells := Nat.mul_le_mul_right _ h8
          have := congrArg (List.take (hi * e.cells)) hct
          rw [List.take_take, Nat.min_eq_left hle, List.nil_append, ← gl, List.take_left' rfl] at this
          rw [← gl]; exact this
    · rename_i r v he
      split at h
      rotate_left
      · cases h
      rename_i ty q y hr
      split at h
      rotate_left
      · cases h
      rename_i hv
      simp only [Option.some.injEq, Prod.mk.injEq] at h
      obtain ⟨rfl, rfl⟩ := h
      have e1 := hA.eq he (by simp)
      have e2 := hA.eq hr (by simp)
      have hE := I.ent r
      rw [← e2, hr] at hE
      have := ptr_root I (by rw [← e1]; exact he) (by rw [← e2]; exact hv) (by rw [← e2]; exact hr)
      refine ⟨tm a t, F r, fun _ => False, rfl, agree_set σ r, fun b hb => took_set hb (by rw [hr]; simp), fun b h => h.elim, fun b _ h => h, ?_⟩
      rw [this]
      exact hZ hE
    · rename_i g f caps he
      split at h
      rotate_left
      · cases h
      rename_i as σ1 hc
      simp only [Option.some.injEq, Prod.mk.injEq] at h
      obtain ⟨rfl, rfl⟩ := h
      have e1 := hA.eq he (by simp)
      have hE := I.ent t
      rw [← e1, he] at hE
      obtain ⟨h0, fs, cs, h1, h2, h3⟩ := hE
      obtain ⟨r1, r2⟩ := capsGive_ok I (by rw [← e1]; exact he) h1 (k := 0) (fun i => by rw [Nat.zero_add]) rfl hc hA h3
      refine ⟨tm a t, fun _ => False, Took F σ σ1, rfl, r2, fun b h => h.elim, fun b h => h, fun b h => h.elim, ?_, fun _ h => h⟩
      rw [h1]
      exact .fn (h2.monoZ fun b hb => .inl hb) r1
    · cases h
  | cell c T =>
    simp only [result] at h
    split at h
    rotate_left
    · cases h
    rename_i ty q y he
    split at h
    rotate_left
    · cases h
    rename_i hq
    simp only [Option.some.injEq, Prod.mk.injEq] at h
    obtain ⟨rfl, rfl⟩ := h
    have e1 := hA.eq he (by simp)
    have hE := I.ent c
    rw [← e1, he] at hE
    have hsc := hE.scalar rfl
    obtain ⟨⟨g, cur, T', Fe, h1, h2, h3, h4, h5⟩, _⟩ := hE
    rw [hsc] at h1
    simp only [List.cons.injEq, and_true] at h1
    have hcells : CellsAt w ⟨g, 0, none⟩ cur.toList := by
      intro j u hj
      rw [show (⟨g, 0, none⟩ : Addr).add j = ⟨g, j, none⟩ by unfold Addr.add; split <;> simp_all]
      unfold World.cell?
      rw [h2]
      simpa using hj
    obtain ⟨V, r1, r2, _⟩ := K.loadVar hq.2 hcells h3
    refine ⟨V, Fe, fun _ => False, ?_, agree_set σ c, fun b hb => took_set ((h4 b).2 (.inr hb)) (by rw [he]; simp), fun b h => h.elim, fun b _ h => h, ?_⟩
    · unfold resVals
      show (do loadVar T (← asAddr (tm a c)) : Sem Value).run P w = _
      rw [h1]
      exact r1
    · exact hZ (y := .v ty q y) r2
inductive ResAll (P : Program) (a : Act) (w : World) : List ResultVar → List Value → Prop where
  | nil : ResAll P a w [] []
  | cons {r V rs Vs} : resVals P a w r V → ResAll P a w rs Vs → ResAll P a w (r :: rs) (V :: Vs)
theorem ResAll.length_eq {P : Program} {a : Act} {w : World} {rs : List ResultVar} {Vs : List Value} (h : ResAll P a w rs Vs) : rs.length = Vs.length := by
  induction h with
  | nil => rfl
  | cons _ _ ih => simp [ih]
theorem iced_ok {b : Bool} {x x' : Arg} {σ σ1 σ' : St} (h : iced b (x, σ1) = some (x', σ')) {V : Value} {Fr Ice : BSet} (h3 : ∀ b, Fr b → Took F σ σ1 b) (h4 : ∀ b, Ice b → Took F σ σ1 b) (h5 : ∀ b, Fr b → ¬ Ice b) (h6 : ArgRep w (fun b => Z b ∨ Ice b) x V Fr) :
    σ' = σ1 ∧ ∃ (Fr' Ice' : BSet), (∀ b, Fr' b → Took F σ σ1 b) ∧ (∀ b, Ice' b → Took F σ σ1 b) ∧ (∀ b, Fr' b → ¬ Ice' b) ∧ ArgRep w (fun b => Z b ∨ Ice' b) x' V Fr' := by
  unfold iced at h
  split at h
  · rename_i t q y σ2 e
    cases e
    split at h
    · split at h
      · rename_i hq
        simp only [Option.some.injEq, Prod.mk.injEq] at h
        obtain ⟨rfl, rfl⟩ := h
        refine ⟨rfl, fun _ => False, fun b => Ice b ∨ Fr b, fun b h => h.elim, fun b hb => hb.elim (h4 b) (h3 b), fun b h => h.elim, ?_⟩
        exact VRep.freeze (fun b hb => hb.elim .inl (fun h => .inr (.inl h))) hq (fun b hb => .inr (.inr hb)) h6
      · cases h
    · simp only [Option.some.injEq, Prod.mk.injEq] at h
      obtain ⟨rfl, rfl⟩ := h
      exact ⟨rfl, Fr, Ice, h3, h4, h5, h6⟩
  · simp only [Option.some.injEq, Prod.mk.injEq] at h
    obtain ⟨rfl, rfl⟩ := h
    exact ⟨rfl, Fr, Ice, h3, h4, h5, h6⟩
theorem winsOf_cons {σ : St} {r : ResultVar} {rs : List ResultVar} (h : ∀ n ∈ winsOf σ (r :: rs), n = 0) : (∀ n ∈ winsOf σ [r], n = 0) ∧ ∀ n ∈ winsOf σ rs, n = 0 := by
  cases r with
  | tmp t =>
    simp only [winsOf] at h ⊢
    split at h
    · exact ⟨fun n hn => h n (by simp only [List.mem_singleton] at hn; subst hn; exact List.mem_cons_self), fun n hn => h n (List.mem_cons_of_mem _ hn)⟩
    · exact ⟨fun n hn => (List.not_mem_nil hn).elim, h⟩
  | cell a T => exact ⟨fun n hn => (List.not_mem_nil hn).elim, h⟩
theorem resultsOf_ok (K : CtxOK P X) (I : Inv B M Z0 w0 σ0 a w Z F) {fr : Nat → Bool} : ∀ {rs : List ResultVar} {i : Nat} {σ σ' : St} {xs : List Arg}, resultsOf X.C.ty fr i rs σ = some (xs, σ') → Agree σ0 σ → (∀ n ∈ winsOf σ0 rs, n = 0) →
    ∃ (Vs : List Value) (Fr Ice : BSet), ResAll P a w rs Vs ∧ Agree σ σ' ∧ (∀ b, Fr b → Took F σ σ' b) ∧ (∀ b, Ice b → Took F σ σ' b) ∧ (∀ b, Fr b → ¬ Ice b) ∧ ArgsRep w (fun b => Z b ∨ Ice b) xs Vs Fr ∧ xs.length = rs.length
  | [], i, σ, σ', xs, h, hA, hw => by
    simp only [resultsOf, Option.some.injEq, Prod.mk.injEq] at h
    obtain ⟨rfl, rfl⟩ := h
    exact ⟨[], fun _ => False, fun _ => False, .nil, fun _ => .inl rfl, fun b h => h.elim, fun b h => h.elim, fun b _ h => h, ⟨rfl, fun _ h => h⟩, rfl⟩
  | r :: rs, i, σ, σ', xs, h, hA, hw => by
    obtain ⟨hw1, hw2⟩ := winsOf_cons hw
    simp only [resultsOf] at h
    split at h
    rotate_left
    · cases h
    rename_i p h1
    obtain ⟨x0, σ0'⟩ := p
    split at h
    rotate_left
    · cases h
    rename_i x σ1 hice
    split at h
    rotate_left
    · cases h
    rename_i ys σ2 h2
    simp only [Option.some.injEq, Prod.mk.injEq] at h
    obtain ⟨rfl, rfl⟩ := h
    obtain ⟨V, Fr0, Ice0, a1, a2, b3, b4, b5, b6⟩ := result_ok K I h1 hA hw1
    obtain ⟨rfl, Fr, Ice, a3, a4, a5, a6⟩ := iced_ok hice b3 b4 b5 b6
    have hA1 : Agree σ0 σ1 := hA.trans a2
    obtain ⟨Vs, Fr', Ice', b1, b2, b3, b4, b5, b6, b7⟩ := resultsOf_ok K I h2 hA1 hw2
    have hapart : ∀ b, Took F σ σ1 b → Took F σ1 σ2 b → False := fun b => took_apart I.disj
    refine ⟨V :: Vs, fun b => Fr b ∨ Fr' b, fun b => Ice b ∨ Ice' b, .cons a1 b1, a2.trans b2, ?_, ?_, ?_, ⟨V, Vs, Fr, Fr', rfl, a6.monoZ (fun b hb => hb.imp id .inl), b6.monoZ (fun b hb => hb.imp id .inr), fun b => Iff.rfl, fun b h1 h2 => hapart b (a3 b h1) (b3 b h2)⟩, by simp [b7]⟩
    · rintro b (hb | hb)
      · exact Took.left b2 (a3 b hb)
      · exact Took.right a2 (b3 b hb)
    · rintro b (hb | hb)
      · exact Took.left b2 (a4 b hb)
      · exact Took.right a2 (b4 b hb)
    · rintro b (hb | hb) (hc | hc)
      · exact a5 b hb hc
      · exact hapart b (a3 b hb) (b4 b hc)
      · exact hapart b (a4 b hc) (b3 b hb)
      · exact b5 b hb hc
theorem results_run {fn : Func} {Vs : List Value} (h : ResAll P a w fn.results.toList Vs) :
    ∃ v, (results fn a.tmps).run P w = .ok v w ∧ unpack fn.results.toList.length v Vs := by
  have key : ∀ (f : ResultVar → Sem Value), (∀ r V, resVals P a w r V → (f r).run P w = .ok V w) → ∀ {rs : List ResultVar} {Vs : List Value}, ResAll P a w rs Vs → (rs.mapM f).run P w = .ok Vs w := by
    intro f hf rs Vs h
    induction h with
    | nil => rfl
    | cons h1 _ ih =>
      rw [List.mapM_cons, Sem.run_bind, hf _ _ h1]
      simp only [Result.andThen]
      rw [Sem.run_bind, ih]
      rfl
  have hlen := h.length_eq
  unfold results
  rw [Array.mapM_eq_mapM_toList, Sem.run_bind, Sem.run_map, key _ (by intro r V h; cases r <;> exact h) h]
  simp only [Result.andThen, Sem.run_pure]
  refine ⟨_, rfl, ?_⟩
  unfold unpack
  rw [hlen]
  split
  · rename_i h1
    simp only [List.size_toArray] at h1
    obtain ⟨x, rfl⟩ := List.length_eq_one_iff.1 h1
    exact .inl ⟨rfl, rfl⟩
  · rename_i h1
    simp only [List.size_toArray] at h1
    exact .inr ⟨h1, _, rfl, rfl⟩
end
end Go.K

/- K, part 8: a function that the machine evaluates does as it says. -/
set_option linter.unusedVariables false
set_option linter.unusedSimpArgs false
namespace Go.K
variable [drI : Dr]

/-- A function does as `φ` says, its parameters being of the modes `m`. -/
def FnIs (P : Program) (g : Nat) (m : Nat → Mode) (φ : List Arg → Out (List Arg × List Arg)) : Prop :=
  ∀ args res fin, (φ args).run = some (res, fin) → (∃ fn, P.funcs[g]? = some fn ∧ fn.body.isSome = true ∧ (fn.name == "runtime.NumGoroutine") = false) ∧ ∀ (w : World) (Z Fo : BSet) (vs : List Value), ArgsRep w Z args vs Fo → (∀ b, Z b → b < w.heap.size) → (∀ b, Fo b → ¬ Z b ∧ b < w.heap.size) →
    Calls P g vs.toArray w fun e w' => match e with
      | .returned v => CallPost w w' Z Fo (mutsOf m 0 vs) res fin v
      | _ => False
theorem FnIs.ok {P : Program} {C : Ctx} {g : Nat} (h : FnIs P g (C.mode g) (C.Φ g)) : FnOK P C g := h

section
variable {P : Program} {X : FC} {B : Nat} {M Z0 : BSet} {w0 : World} {σ0 : St} {a : Act} {w : World} {Z : BSet} {F : Nat → BSet}
theorem finals_ok (I : Inv B M Z0 w0 σ0 a w Z F) {m : Nat → Mode} {σ : St} (hA : Agree σ0 σ) : ∀ (us : List Value) (i : Nat) {fin : List Arg}, finals m σ i us.length = some fin → (∀ k u, us[k]? = some u → m (i + k) = .mut → tm a (i + k) = u) →
    ∃ Fb : BSet, ArgsRep w Z fin (mutsOf m i us) Fb ∧ ∀ b, Fb b → ∃ t, i ≤ t ∧ F t b ∧ (σ.at t).e ≠ .un
  | [], i, fin, h, hp => by
    simp only [List.length_nil, finals, Option.some.injEq] at h
    subst h
    exact ⟨fun _ => False, ⟨rfl, fun _ h => h⟩, fun b h => h.elim⟩
  | u :: us, i, fin, h, hp => by
    simp only [List.length_cons, finals] at h
    have hp' : ∀ k u, us[k]? = some u → m (i + 1 + k) = .mut → tm a (i + 1 + k) = u := fun k u hu hm => by
      rw [show i + 1 + k = i + (k + 1) by omega] at hm ⊢
      exact hp (k + 1) u (by simpa using hu) hm
    have hrd : finals m σ (i + 1) us.length = some fin → m i ≠ .mut → ∃ Fb : BSet, ArgsRep w Z fin (mutsOf m i (u :: us)) Fb ∧ ∀ b, Fb b → ∃ t, i ≤ t ∧ F t b ∧ (σ.at t).e ≠ .un := by
      intro h hm
      obtain ⟨Fb, h1, h2⟩ := finals_ok I hA us (i + 1) h hp'
      refine ⟨Fb, ?_, fun b hb => (h2 b hb).imp fun t ht => ⟨by omega, ht.2⟩⟩
      unfold mutsOf
      split
      · rename_i hmi; exact absurd hmi hm
      · exact h1
    by_cases hmi : m i = .mut
    · rw [hmi] at h
      simp only at h
      split at h
      rotate_left
      · cases h
      rename_i t q x he
      split at h
      rotate_left
      · cases h
      rename_i l hl
      simp only [Option.some.injEq] at h
      subst h
      obtain ⟨Fb, h1, h2⟩ := finals_ok I hA us (i + 1) hl hp'
      have e1 := hA.eq he (by simp)
      have hE := I.ent i
      rw [← e1, he] at hE
      have hv : tm a i = u := hp 0 u rfl (by simpa using hmi)
      refine ⟨fun b => F i b ∨ Fb b, ?_, ?_⟩
      · unfold mutsOf
        rw [hmi]
        refine ⟨u, _, F i, Fb, rfl, by rw [← hv]; exact hE, h1, fun b => Iff.rfl, fun b hb hb' => ?_⟩
        obtain ⟨t, ht, hf, _⟩ := h2 b hb'
        have := I.disj i t b hb hf
        omega
      · rintro b (hb | hb)
        · exact ⟨i, Nat.le_refl _, hb, by rw [he]; simp⟩
        · exact (h2 b hb).imp fun t ht => ⟨by omega, ht.2⟩
    · refine hrd ?_ hmi
      split at h
      · rename_i h2; exact absurd h2 hmi
      · exact h
end

theorem fn_ok {P : Program} {X : FC} (K : CtxOK P X) (hΦ : ∀ g, FnOK P X.C g) {g : Nat} {fn : Func} {c : Code} (hf : P.funcs[g]? = some fn) (hname : (fn.name == "runtime.NumGoroutine") = false) (hb : fn.body = some c) {L : Sums}
    (hL : ∀ pv B M Z0 w0, LoopsOK P X pv B M Z0 w0 L 0 c) (hpin : ∀ i, X.C.mode g i = .mut → X.C.pin i = true)
    {φ : List Arg → Out (List Arg × List Arg)} (h : ∀ args r, (φ args).run = some r → (evFn X L g fn args).run = some r) : FnIs P g (X.C.mode g) φ := by
  intro args res fin hr
  refine ⟨⟨fn, hf, by rw [hb]; rfl, hname⟩, fun w Z Fo vs hA hZ hF => ?_⟩
  have hev := h args _ hr
  unfold evFn at hev
  rw [hb] at hev
  simp only at hev
  obtain ⟨⟨e, σ⟩, h1, h2⟩ := run_bind2 hev
  obtain ⟨hl, _⟩ := argsRep_foot hA
  refine calls_of_wp hf hb ?_
  refine ev_ok (pv := tm { tmps := vs.toArray ++ Array.replicate (fn.ntmps - vs.toArray.size) undef, defers := [] }) K hΦ c 0 (hL _ w.heap.size Fo Z w) h1 ⟨enter_good hA hZ hF, fun _ _ => rfl⟩ fun a' w' hG => ?_
  obtain ⟨⟨Z', F', I⟩, hp⟩ := hG
  have hleave : (leave X g fn args.length σ).run = some (res, fin) → a'.defers = [] ∧ ∃ v, (results fn a'.tmps).run P w' = .ok v w' ∧ CallPost w w' Z Fo (mutsOf (X.C.mode g) 0 vs) res fin v := by
    intro h3
    unfold leave at h3
    obtain ⟨hzero, h3⟩ := zeros_run h3
    split at h3
    rotate_left
    · cases h3
    rename_i res' σ' hres
    split at h3
    rotate_left
    · cases h3
    rename_i fin' hfin
    simp only [Out.run, Option.some.injEq, Prod.mk.injEq] at h3
    obtain ⟨rfl, rfl⟩ := h3
    obtain ⟨Vs, Fr, Ice, r1, r2, r3, r4, r5, r6, r7⟩ := resultsOf_ok K I hres (fun _ => .inl rfl) hzero
    obtain ⟨v, r8, r9⟩ := results_run r1
    rw [← hl] at hfin
    obtain ⟨Fb, f1, f2⟩ := finals_ok I r2 vs 0 hfin (fun k u hu hm => by
      rw [hp _ (hpin _ hm)]
      rw [tm_start, Nat.zero_add, List.getD_eq_getElem?_getD, hu]; rfl)
    have hTook : ∀ b, Took F' σ σ' b → ∃ t, F' t b := fun b ⟨t, h, _⟩ => ⟨t, h⟩
    have hown : ∀ t b, F' t b → ¬ Z' b ∧ b < w'.heap.size ∧ (Fo b ∨ w.heap.size ≤ b) := fun t b hb => by
      obtain ⟨o1, o2, o3⟩ := I.own t b hb
      exact ⟨o1, o3, o2.symm⟩
    have hFbT : ∀ b, Fb b → Took F' σ σ' b → False := by
      intro b hb ⟨t, t1, _, t2⟩
      obtain ⟨t', _, t3, t4⟩ := f2 b hb
      rw [I.disj t t' b t1 t3] at t2
      exact t4 t2
    refine ⟨I.defers, v, r8, ⟨fun b => Z' b ∨ Ice b, Fr, Fb, Vs, ⟨I.os, I.tape, I.output, I.size, fun b hb hn => I.frame b hb hn, I.drawn⟩, fun b hb => .inl (I.z0 b hb), ?_, by rw [r7]; exact r9, r6, f1.monoZ (fun b hb => .inl hb), ?_, fun b hb hb' => hFbT b hb' (r3 b hb)⟩⟩
    · rintro b (hz | hz)
      · obtain ⟨z1, z2⟩ := I.z b hz
        refine ⟨z2, ?_⟩
        rcases z1 with z1 | z1 | z1
        · exact .inl z1
        · exact .inr (.inr z1)
        · exact .inr (.inl z1)
      · obtain ⟨t, ht⟩ := hTook b (r4 b hz)
        exact ⟨(hown t b ht).2.1, .inr (hown t b ht).2.2⟩
    · rintro b (hb | hb)
      · obtain ⟨t, ht⟩ := hTook b (r3 b hb)
        refine ⟨?_, (hown t b ht).2⟩
        rintro (hz | hz)
        · exact (hown t b ht).1 hz
        · exact r5 b hb hz
      · obtain ⟨t, _, ht, _⟩ := f2 b hb
        refine ⟨?_, (hown t b ht).2⟩
        rintro (hz | hz)
        · exact (hown t b ht).1 hz
        · exact hFbT b hb (r4 b hz)
  cases e with
  | normal => exact hleave h2
  | ret => exact hleave h2
  | _ => cases h2
end Go.K

/- K, part 9: shapes of states, loops as plain functions, tables of contracts. -/
set_option linter.unusedVariables false
set_option linter.unusedSimpArgs false
namespace Go.K
variable [drI : Dr]

/-! Arguments of a shape. -/
inductive ASh where
  | v (t : Ty) (q : Ow) | fn (g : Nat) (f c : List ASh) | pfn (g : Nat) (f c : List ASh)
mutual
def ASh.den : ASh → Type
  | .v t _ => t.den
  | .fn _ f c => denL f × denL c
  | .pfn _ f c => denL f × denL c
def denL : List ASh → Type
  | [] => Unit
  | a :: r => a.den × denL r
end
mutual
def ASh.enc : (s : ASh) → s.den → Arg
  | .v t q, x => .v t q x
  | .fn g f c, x => .fn g (encL f x.1) (encL c x.2)
  | .pfn g f c, x => .pfn g (encL f x.1) (encL c x.2)
def encL : (l : List ASh) → denL l → List Arg
  | [], _ => []
  | a :: r, x => a.enc x.1 :: encL r x.2
end
mutual
def ASh.dec : (s : ASh) → Arg → Option s.den
  | .v t q, .v t' q' x => if h : t' = t then (if q' = q then some (h ▸ x) else none) else none
  | .fn g f c, .fn g' f' c' => match Nat.beq g' g with
    | true => (match decL f f', decL c c' with | some a, some b => some (a, b) | _, _ => none)
    | false => none
  | .pfn g f c, .pfn g' f' c' => match Nat.beq g' g with
    | true => (match decL f f', decL c c' with | some a, some b => some (a, b) | _, _ => none)
    | false => none
  | _, _ => none
def decL : (l : List ASh) → List Arg → Option (denL l)
  | [], [] => some ()
  | s :: r, a :: as => match s.dec a, decL r as with | some x, some y => some (x, y) | _, _ => none
  | _, _ => none
end
mutual
theorem ASh.dec_ok : ∀ {s : ASh} {a : Arg} {x : s.den}, s.dec a = some x → a = s.enc x
  | .v t q, .v t' q' y, x, h => by
    simp only [ASh.dec] at h
    split at h
    · rename_i ht
      split at h
      · rename_i hq
        subst ht; subst hq
        replace h := Option.some.inj h
        subst h; rfl
      · cases h
    · cases h
  | .fn g f c, .fn g' f' c', x, h => by
    simp only [ASh.dec] at h
    split at h
    · rename_i hg
      split at h
      · rename_i a b ha hb
        replace h := Option.some.inj h
        subst h
        rw [Nat.eq_of_beq_eq_true hg, decL_ok ha, decL_ok hb]; rfl
      · cases h
    · cases h
  | .pfn g f c, .pfn g' f' c', x, h => by
    simp only [ASh.dec] at h
    split at h
    · rename_i hg
      split at h
      · rename_i a b ha hb
        replace h := Option.some.inj h
        subst h
        rw [Nat.eq_of_beq_eq_true hg, decL_ok ha, decL_ok hb]; rfl
      · cases h
    · cases h
  | .v t q, .fn .., x, h => by simp [ASh.dec] at h
  | .v t q, .pfn .., x, h => by simp [ASh.dec] at h
  | .v t q, .gone, x, h => by simp [ASh.dec] at h
  | .fn .., .v .., x, h => by simp [ASh.dec] at h
  | .fn .., .pfn .., x, h => by simp [ASh.dec] at h
  | .fn .., .gone, x, h => by simp [ASh.dec] at h
  | .pfn .., .v .., x, h => by simp [ASh.dec] at h
  | .pfn .., .fn .., x, h => by simp [ASh.dec] at h
  | .pfn .., .gone, x, h => by simp [ASh.dec] at h
theorem decL_ok : ∀ {l : List ASh} {as : List Arg} {x : denL l}, decL l as = some x → as = encL l x
  | [], [], x, h => rfl
  | s :: r, a :: as, x, h => by
    simp only [decL] at h
    split at h
    · rename_i u y hu hy
      replace h := Option.some.inj h
      subst h
      rw [ASh.dec_ok hu, decL_ok hy]; rfl
    · cases h
  | [], a :: as, x, h => by simp [decL] at h
  | s :: r, [], x, h => by simp [decL] at h
end

/-! States of a shape: what the temporaries hold that live on; how many dead ones lie ahead of each. -/
inductive CSh where | arg (a : ASh) | root (r : Nat)
inductive Sh where
  | val (t : Ty) (q : Ow) | sref (r : Nat) (p : List Step) | win (r : Nat) (p : List Step) | pref (r : Nat) (p : List Step)
  | fnl (g : Nat) (f : List ASh) (c : List CSh) | fbox (g : Nat) (f c : List ASh) | pfn (g : Nat) (f c : List ASh)
def denC : List CSh → Type
  | [] => Unit
  | .arg a :: r => a.den × denC r
  | .root _ :: r => denC r
def encC : (l : List CSh) → denC l → List Cap
  | [], _ => []
  | .arg a :: r, x => .arg (a.enc x.1) :: encC r x.2
  | .root k :: r, x => .root k 0 :: encC r x
def decC : (l : List CSh) → List Cap → Option (denC l)
  | [], [] => some ()
  | .arg s :: r, .arg a :: as => match s.dec a, decC r as with | some x, some y => some (x, y) | _, _ => none
  | .root k :: r, .root k' v :: as => match Nat.beq k' k && Nat.beq v 0 with | true => decC r as | false => none
  | _, _ => none
theorem decC_ok : ∀ {l : List CSh} {as : List Cap} {x : denC l}, decC l as = some x → as = encC l x
  | [], [], x, h => rfl
  | .arg s :: r, .arg a :: as, x, h => by
    simp only [decC] at h
    split at h
    · rename_i u y hu hy
      replace h := Option.some.inj h
      subst h
      rw [ASh.dec_ok hu, decC_ok hy]; rfl
    · cases h
  | .root k :: r, .root k' v :: as, x, h => by
    simp only [decC] at h
    split at h
    · rename_i hk
      simp only [Bool.and_eq_true] at hk
      rw [Nat.eq_of_beq_eq_true hk.1, Nat.eq_of_beq_eq_true hk.2, decC_ok h]; rfl
    · cases h
  | [], _ :: _, x, h => by simp [decC] at h
  | .arg _ :: _, [], x, h => by simp [decC] at h
  | .root _ :: _, [], x, h => by simp [decC] at h
  | .arg _ :: _, .root .. :: _, x, h => by simp [decC] at h
  | .root _ :: _, .arg _ :: _, x, h => by simp [decC] at h

def stDen : List (Nat × Sh) → Type
  | [] => Unit
  | (_, .val t _) :: r => t.den × stDen r
  | (_, .sref ..) :: r => stDen r
  | (_, .win ..) :: r => Nat × Nat × stDen r
  | (_, .pref ..) :: r => stDen r
  | (_, .fnl _ f c) :: r => denL f × denC c × stDen r
  | (_, .fbox _ f c) :: r => denL f × denL c × stDen r
  | (_, .pfn _ f c) :: r => denL f × denL c × stDen r
def dead (n : Nat) (σ : St) : St := match n with | 0 => σ | n + 1 => ⟨0, .un⟩ :: dead n σ
def stEnc : (l : List (Nat × Sh)) → Nat → stDen l → St
  | [], n, _ => dead n []
  | (k, .val t q) :: r, n, x => dead k (⟨0, .val t q x.1⟩ :: stEnc r n x.2)
  | (k, .sref a p) :: r, n, x => dead k (⟨0, .sref a 0 p none⟩ :: stEnc r n x)
  | (k, .win a p) :: r, n, x => dead k (⟨0, .sref a 0 p (some (x.1, x.2.1))⟩ :: stEnc r n x.2.2)
  | (k, .pref a p) :: r, n, x => dead k (⟨0, .pref a 0 p⟩ :: stEnc r n x)
  | (k, .fnl g f c) :: r, n, x => dead k (⟨0, .fnl g (encL f x.1) (encC c x.2.1)⟩ :: stEnc r n x.2.2)
  | (k, .fbox g f c) :: r, n, x => dead k (⟨0, .fbox g (encL f x.1) (encL c x.2.1)⟩ :: stEnc r n x.2.2)
  | (k, .pfn g f c) :: r, n, x => dead k (⟨0, .pfn g (encL f x.1) (encL c x.2.1)⟩ :: stEnc r n x.2.2)
def undead : Nat → St → Option St
  | 0, σ => some σ
  | n + 1, σ => match σ with | ⟨0, .un⟩ :: σ => undead n σ | _ => none
theorem undead_ok : ∀ {n : Nat} {σ τ : St}, undead n σ = some τ → σ = dead n τ
  | 0, σ, τ, h => Option.some.inj h
  | n + 1, σ, τ, h => by
    simp only [undead] at h
    split at h
    · rw [undead_ok h]; rfl
    · cases h
def pathB : List Step → List Step → Bool
  | [], [] => true
  | .fld i :: p, .fld j :: q => Nat.beq i j && pathB p q
  | .idx i :: p, .idx j :: q => Nat.beq i j && pathB p q
  | _, _ => false
theorem pathB_ok : ∀ {p q : List Step}, pathB p q = true → p = q
  | [], [], _ => rfl
  | .fld i :: p, .fld j :: q, h => by
    simp only [pathB, Bool.and_eq_true] at h
    rw [Nat.eq_of_beq_eq_true h.1, pathB_ok h.2]
  | .idx i :: p, .idx j :: q, h => by
    simp only [pathB, Bool.and_eq_true] at h
    rw [Nat.eq_of_beq_eq_true h.1, pathB_ok h.2]
  | [], _ :: _, h => by simp [pathB] at h
  | .fld _ :: _, [], h => by simp [pathB] at h
  | .idx _ :: _, [], h => by simp [pathB] at h
  | .fld _ :: _, .idx _ :: _, h => by simp [pathB] at h
  | .idx _ :: _, .fld _ :: _, h => by simp [pathB] at h
def stDec : (l : List (Nat × Sh)) → Nat → St → Option (stDen l)
  | [], n, σ => match undead n σ with | some [] => some () | _ => none
  | (k, .val t q) :: r, n, σ => match undead k σ with
    | some (⟨0, .val t' q' x⟩ :: τ) => if h : t' = t then (if q' = q then (match stDec r n τ with | some v => some (h ▸ x, v) | none => none) else none) else none
    | _ => none
  | (k, .sref a p) :: r, n, σ => match undead k σ with
    | some (⟨0, .sref a' 0 p' none⟩ :: τ) => (match Nat.beq a' a && pathB p' p with | true => stDec r n τ | false => none)
    | _ => none
  | (k, .win a p) :: r, n, σ => match undead k σ with
    | some (⟨0, .sref a' 0 p' (some (lo, hi))⟩ :: τ) => (match Nat.beq a' a && pathB p' p with | true => (match stDec r n τ with | some v => some (lo, hi, v) | none => none) | false => none)
    | _ => none
  | (k, .pref a p) :: r, n, σ => match undead k σ with
    | some (⟨0, .pref a' 0 p'⟩ :: τ) => (match Nat.beq a' a && pathB p' p with | true => stDec r n τ | false => none)
    | _ => none
  | (k, .fnl g f c) :: r, n, σ => match undead k σ with
    | some (⟨0, .fnl g' f' c'⟩ :: τ) => (match Nat.beq g' g with | true => (match decL f f', decC c c', stDec r n τ with | some x, some y, some v => some (x, y, v) | _, _, _ => none) | false => none)
    | _ => none
  | (k, .fbox g f c) :: r, n, σ => match undead k σ with
    | some (⟨0, .fbox g' f' c'⟩ :: τ) => (match Nat.beq g' g with | true => (match decL f f', decL c c', stDec r n τ with | some x, some y, some v => some (x, y, v) | _, _, _ => none) | false => none)
    | _ => none
  | (k, .pfn g f c) :: r, n, σ => match undead k σ with
    | some (⟨0, .pfn g' f' c'⟩ :: τ) => (match Nat.beq g' g with | true => (match decL f f', decL c c', stDec r n τ with | some x, some y, some v => some (x, y, v) | _, _, _ => none) | false => none)
    | _ => none
theorem stDec_ok : ∀ {l : List (Nat × Sh)} {n : Nat} {σ : St} {v : stDen l}, stDec l n σ = some v → σ = stEnc l n v
  | [], n, σ, v, h => by
    simp only [stDec] at h
    split at h
    · rename_i hu; exact undead_ok hu
    · cases h
  | (k, .val t q) :: r, n, σ, v, h => by
    simp only [stDec] at h
    split at h
    · rename_i t' q' x τ hu
      split at h
      · rename_i ht
        split at h
        · rename_i hq
          split at h
          · rename_i w hw
            subst ht; subst hq
            replace h := Option.some.inj h
            subst h
            rw [undead_ok hu, stDec_ok hw]; rfl
          · cases h
        · cases h
      · cases h
    · cases h
  | (k, .sref a p) :: r, n, σ, v, h => by
    simp only [stDec] at h
    split at h
    · rename_i a' p' τ hu
      split at h
      · rename_i hc
        simp only [Bool.and_eq_true] at hc
        rw [undead_ok hu, Nat.eq_of_beq_eq_true hc.1, pathB_ok hc.2, stDec_ok h]; rfl
      · cases h
    · cases h
  | (k, .pref a p) :: r, n, σ, v, h => by
    simp only [stDec] at h
    split at h
    · rename_i a' p' τ hu
      split at h
      · rename_i hc
        simp only [Bool.and_eq_true] at hc
        rw [undead_ok hu, Nat.eq_of_beq_eq_true hc.1, pathB_ok hc.2, stDec_ok h]; rfl
      · cases h
    · cases h
  | (k, .win a p) :: r, n, σ, v, h => by
    simp only [stDec] at h
    split at h
    · rename_i a' p' lo hi τ hu
      split at h
      · rename_i hc
        split at h
        · rename_i w hw
          replace h := Option.some.inj h
          subst h
          simp only [Bool.and_eq_true] at hc
          rw [undead_ok hu, Nat.eq_of_beq_eq_true hc.1, pathB_ok hc.2, stDec_ok hw]; rfl
        · cases h
      · cases h
    · cases h
  | (k, .fnl g f c) :: r, n, σ, v, h => by
    simp only [stDec] at h
    split at h
    · rename_i hu
      split at h
      · rename_i hg
        split at h
        · rename_i x y w hx hy hw
          replace h := Option.some.inj h
          subst h
          rw [undead_ok hu, Nat.eq_of_beq_eq_true hg, decL_ok hx, decC_ok hy, stDec_ok hw]; rfl
        · cases h
      · cases h
    · cases h
  | (k, .fbox g f c) :: r, n, σ, v, h => by
    simp only [stDec] at h
    split at h
    · rename_i hu
      split at h
      · rename_i hg
        split at h
        · rename_i x y w hx hy hw
          replace h := Option.some.inj h
          subst h
          rw [undead_ok hu, Nat.eq_of_beq_eq_true hg, decL_ok hx, decL_ok hy, stDec_ok hw]; rfl
        · cases h
      · cases h
    · cases h
  | (k, .pfn g f c) :: r, n, σ, v, h => by
    simp only [stDec] at h
    split at h
    · rename_i hu
      split at h
      · rename_i hg
        split at h
        · rename_i x y w hx hy hw
          replace h := Option.some.inj h
          subst h
          rw [undead_ok hu, Nat.eq_of_beq_eq_true hg, decL_ok hx, decL_ok hy, stDec_ok hw]; rfl
        · cases h
      · cases h
    · cases h
structure Pat where
  l : List (Nat × Sh)
  n : Nat
def Pat.den (p : Pat) : Type := stDen p.l
def Pat.enc (p : Pat) (v : p.den) : St := stEnc p.l p.n v
def Pat.dec (p : Pat) (σ : St) : Option p.den := stDec p.l p.n σ

/-! Loops as plain functions. -/
inductive Ctl (α β : Type) where | next (a : α) | stop (b : β)
def iter {α β : Type} (step : α → Option (Ctl α β)) : Nat → α → Option β
  | 0, _ => none
  | n + 1, a => match step a with
    | none => none
    | some (.stop b) => some b
    | some (.next a') => iter step n a'
theorem iter_more {α β : Type} {step : α → Option (Ctl α β)} : ∀ {n : Nat} {a : α} {b : β}, iter step n a = some b → ∀ m, n ≤ m → iter step m a = some b
  | 0, a, b, h, m, _ => by cases h
  | n + 1, a, b, h, 0, hm => by omega
  | n + 1, a, b, h, m + 1, hm => by
    simp only [iter] at h ⊢
    split at h
    · cases h
    · exact h
    · exact iter_more h m (by omega)
open Classical in
/-- The loop, whatever number of rounds it takes. -/
noncomputable def loop {α β : Type} (step : α → Option (Ctl α β)) (a : α) : Option β :=
  if h : ∃ b n, iter step n a = some b then some (Classical.choose h) else none
theorem loop_iter {α β : Type} {step : α → Option (Ctl α β)} {a : α} {b : β} : loop step a = some b ↔ ∃ n, iter step n a = some b := by
  unfold loop
  constructor
  · intro h
    split at h
    · rename_i hh
      simp only [Option.some.injEq] at h
      obtain ⟨n, hn⟩ := Classical.choose_spec hh
      exact ⟨n, by rw [← h]; exact hn⟩
    · cases h
  · rintro ⟨n, hn⟩
    have hh : ∃ b n, iter step n a = some b := ⟨b, n, hn⟩
    simp only [hh, dif_pos]
    obtain ⟨m, hm⟩ := Classical.choose_spec hh
    have h1 := iter_more hm (max n m) (by omega)
    have h2 := iter_more hn (max n m) (by omega)
    rw [h1] at h2
    exact h2
theorem loop_eq {α β : Type} (step : α → Option (Ctl α β)) (a : α) : loop step a = match step a with | none => none | some (.stop b) => some b | some (.next a') => loop step a' := by
  apply Option.ext
  intro b
  rw [loop_iter]
  constructor
  · rintro ⟨n, hn⟩
    cases n with
    | zero => cases hn
    | succ n =>
      simp only [iter] at hn
      split at hn
      · cases hn
      · exact hn
      · exact loop_iter.2 ⟨n, hn⟩
  · intro h
    split at h
    · cases h
    · rename_i hs
      exact ⟨1, by simp only [iter, hs]; exact h⟩
    · rename_i hs
      obtain ⟨n, hn⟩ := loop_iter.1 h
      exact ⟨n + 1, by simp only [iter, hs]; exact hn⟩

abbrev Ex := Exit × Pat
def exDen : Ex → List Ex → Type
  | x, [] => x.2.den
  | x, y :: r => x.2.den ⊕ exDen y r
def exTree : (x : Ex) → (r : List Ex) → exDen x r → Out (Exit × St)
  | x, [], v => .done (x.1, x.2.enc v)
  | x, y :: r, b => .alt (β := x.2.den) (γ := exDen y r) b (fun v => .done (x.1, x.2.enc v)) (fun b => exTree y r b)
def exVal : (x : Ex) → (r : List Ex) → exDen x r → Exit × St
  | x, [], v => (x.1, x.2.enc v)
  | x, y :: r, b => match (b : x.2.den ⊕ exDen y r) with | .inl v => (x.1, x.2.enc v) | .inr b => exVal y r b
theorem exTree_run : ∀ {x : Ex} {r : List Ex} {b : exDen x r}, (exTree x r b).run = some (exVal x r b)
  | x, [], v => rfl
  | x, y :: r, .inl v => rfl
  | x, y :: r, .inr b => exTree_run (x := y) (r := r) (b := b)
/-- A loop's summary. -/
structure LSum where
  cur : Nat
  pat : Pat
  x : Ex
  xs : List Ex
  step : pat.den → Option (Ctl pat.den (exDen x xs))
noncomputable def sums : List LSum → Sums
  | [], _, _ => .bad
  | s :: r, cur, σ => match Nat.beq s.cur cur with
    | true => (match s.pat.dec σ with | some v => .opt (loop s.step v) (exTree s.x s.xs) | none => .bad)
    | false => sums r cur σ
theorem sums_run : ∀ {ls : List LSum} {s : LSum} {σ : St} {r : Exit × St}, distinct (ls.map (·.cur)) = true → s ∈ ls → (sums ls s.cur σ).run = some r → ∃ v b, σ = s.pat.enc v ∧ loop s.step v = some b ∧ r = exVal s.x s.xs b
  | s' :: ls, s, σ, r, hd, hs, h => by
    simp only [List.map_cons, distinct, Bool.and_eq_true, Bool.not_eq_true', List.contains_eq_mem, decide_eq_false_iff_not] at hd
    simp only [sums] at h
    rcases List.mem_cons.1 hs with rfl | hs
    · rw [Nat.beq_refl] at h
      simp only at h
      split at h
      · rename_i v hv
        simp only [Out.run] at h
        cases hl : loop s.step v with
        | none => rw [hl] at h; cases h
        | some b =>
          rw [hl] at h
          simp only [Option.bind_some, exTree_run, Option.some.injEq] at h
          exact ⟨v, b, stDec_ok hv, hl, h.symm⟩
      · cases h
    · have : Nat.beq s'.cur s.cur = false := by
        cases hb : Nat.beq s'.cur s.cur with
        | false => rfl
        | true => exact absurd (Nat.eq_of_beq_eq_true hb ▸ List.mem_map_of_mem (f := fun s : LSum => s.cur) hs) hd.1
      rw [this] at h
      exact sums_run hd.2 hs h
def notNormal : List Ex → Bool
  | [] => true
  | (.normal, _) :: _ => false
  | _ :: r => notNormal r
def ctlVal (s : LSum) : Ctl s.pat.den (exDen s.x s.xs) → Exit × St
  | .next v => (.normal, s.pat.enc v)
  | .stop b => exVal s.x s.xs b
/-- The rounds are as the summary says. -/
def RoundIs (X : FC) (L : Sums) (cur : Nat) (c : Code) (s : LSum) : Prop := ∀ v, (evRound X L cur c (s.pat.enc v)).run = (s.step v).bind fun r => some (ctlVal s r)
theorem exVal_not : ∀ {x : Ex} {r : List Ex} {b : exDen x r}, notNormal (x :: r) = true → (exVal x r b).1 ≠ .normal
  | (e, p), [], v, h => by
    cases e <;> simp_all [notNormal, exVal]
  | (e, p), y :: r, .inl v, h => by
    cases e <;> simp_all [notNormal, exVal]
  | (e, p), y :: r, .inr b, h => by
    have : notNormal (y :: r) = true := by cases e <;> simp_all [notNormal]
    exact exVal_not (x := y) (r := r) (b := b) this
theorem round_iter {X : FC} {L : Sums} {cur : Nat} {c : Code} {s : LSum} (h : RoundIs X L cur c s) (hn : notNormal (s.x :: s.xs) = true) : ∀ (n : Nat) {v : s.pat.den} {b : exDen s.x s.xs}, iter s.step n v = some b → (evLoop X L cur c n (s.pat.enc v)).run = some (exVal s.x s.xs b)
  | 0, v, b, hi => by cases hi
  | n + 1, v, b, hi => by
    simp only [evLoop]
    rw [run_bind_eq, h v]
    simp only [iter] at hi
    split at hi
    · cases hi
    · rename_i b' hs
      replace hi := Option.some.inj hi
      subst hi
      rw [hs]
      simp only [Option.bind_some, ctlVal]
      have := exVal_not (b := b') hn
      generalize exVal s.x s.xs b' = y at this ⊢
      obtain ⟨e, σ⟩ := y
      cases e <;> first | rfl | exact absurd rfl this
    · rename_i v' hs
      rw [hs]
      simp only [Option.bind_some, ctlVal]
      exact round_iter h hn n hi
/-- The loops of a body, each with the block around it. -/
def loopsOf : Nat → Code → List (Nat × Code)
  | cur, .seq a b => loopsOf cur a ++ loopsOf cur b
  | cur, .cond _ a b => loopsOf cur a ++ loopsOf cur b
  | _, .block id c => loopsOf id c
  | cur, .loop c => (cur, c) :: loopsOf cur c
  | _, _ => []
def RoundsOK (X : FC) (L : Sums) : List (Nat × Code) → List LSum → Prop
  | [], _ => True
  | (cur, c) :: r, s :: ss => (s.cur = cur ∧ notNormal (s.x :: s.xs) = true ∧ RoundIs X L cur c s) ∧ RoundsOK X L r ss
  | _ :: _, [] => False
theorem rounds_mem {X : FC} {L : Sums} : ∀ {l : List (Nat × Code)} {ss : List LSum}, RoundsOK X L l ss → ∀ cur c, (cur, c) ∈ l → ∃ s, s ∈ ss ∧ s.cur = cur ∧ notNormal (s.x :: s.xs) = true ∧ RoundIs X L cur c s
  | [], ss, _, cur, c, hm => by cases hm
  | (cur', c') :: r, s :: ss, h, cur, c, hm => by
    rcases List.mem_cons.1 hm with h1 | h1
    · cases h1; exact ⟨s, List.mem_cons_self, h.1⟩
    · obtain ⟨s', h2, h3⟩ := rounds_mem h.2 cur c h1
      exact ⟨s', List.mem_cons_of_mem _ h2, h3⟩
theorem loopsOK_of {P : Program} {X : FC} (K : CtxOK P X) (hΦ : ∀ g, FnOK P X.C g) {ls : List LSum} (hd : distinct (ls.map (·.cur)) = true) {pv : Nat → Value} {B : Nat} {M Z0 : BSet} {w0 : World} :
    ∀ (c : Code) (cur : Nat), (∀ k d, (k, d) ∈ loopsOf cur c → ∃ s, s ∈ ls ∧ s.cur = k ∧ notNormal (s.x :: s.xs) = true ∧ RoundIs X (sums ls) k d s) → LoopsOK P X pv B M Z0 w0 (sums ls) cur c := by
  intro c
  induction c with
  | seq a b iha ihb =>
    intro cur h
    exact ⟨iha cur fun k d hm => h k d (List.mem_append_left _ hm), ihb cur fun k d hm => h k d (List.mem_append_right _ hm)⟩
  | cond t a b iha ihb =>
    intro cur h
    exact ⟨iha cur fun k d hm => h k d (List.mem_append_left _ hm), ihb cur fun k d hm => h k d (List.mem_append_right _ hm)⟩
  | block id a ih => intro cur h; exact ih id h
  | loop a ih =>
    intro cur h
    have hin := ih cur fun k d hm => h k d (List.mem_cons_of_mem _ hm)
    obtain ⟨s, s1, rfl, s3, s4⟩ := h cur a List.mem_cons_self
    refine loopOK_of_rounds K hΦ hin fun τ r hr => ?_
    obtain ⟨v, b, rfl, e2, rfl⟩ := sums_run hd s1 hr
    obtain ⟨n, hn⟩ := loop_iter.1 e2
    exact ⟨n, round_iter s4 s3 n hn⟩
  | _ => intro cur h; trivial

/-! Tables. -/
structure Spec where
  a : List ASh
  β : Type
  gen : denL a → Option β
  out : β → List Arg × List Arg
def phi : List Spec → List Arg → Out (List Arg × List Arg)
  | [], _ => .bad
  | s :: r, args => match decL s.a args with | some v => .opt (s.gen v) fun y => .done (s.out y) | none => phi r args
structure Row where
  g : Nat
  m : List Mode
  s : List Spec
def modeOf (m : List Mode) (i : Nat) : Mode := m.getD i .rd
def findRow : List Row → Nat → Option Row
  | [], _ => none
  | r :: rs, g => match Nat.beq r.g g with | true => some r | false => findRow rs g
theorem findRow_ok : ∀ {rs : List Row} {g : Nat} {r : Row}, findRow rs g = some r → r ∈ rs ∧ r.g = g
  | x :: rs, g, r, h => by
    simp only [findRow] at h
    split at h
    · rename_i hb
      simp only [Option.some.injEq] at h
      subst h
      exact ⟨List.mem_cons_self, Nat.eq_of_beq_eq_true hb⟩
    · exact ⟨List.mem_cons_of_mem _ (findRow_ok h).1, (findRow_ok h).2⟩
def RowIs (P : Program) (r : Row) : Prop := FnIs P r.g (modeOf r.m) (phi r.s)
theorem fnIs_cons {P : Program} {g : Nat} {m : Nat → Mode} {s : Spec} {r : List Spec} (h1 : FnIs P g m (phi [s])) (h2 : FnIs P g m (phi r)) : FnIs P g m (phi (s :: r)) := by
  intro args res fin h
  simp only [phi] at h
  split at h
  · rename_i v hv
    exact h1 args res fin (by simp only [phi, hv]; exact h)
  · exact h2 args res fin h
/-- What is told of a seat's types. -/
structure Seat where
  ty : Nat → Option Ty
  bytes : Nat → Nat
  fty : Nat → Bool
  ft : Nat → Nat → Nat
  et : Nat → Nat
structure SeatOK (P : Program) (S : Seat) : Prop where
  ty : ∀ T t, S.ty T = some t → tyChk P S.ty T t = true
  bytes : ∀ T Te e, S.ty T = some (.sl Te e) → ∃ i, P.info? Te = some i ∧ i.bytes = S.bytes T ∧ 0 < i.bytes
  fty : ∀ T, S.fty T = true → ∃ ps rs v, P.underlying T = some (.func ps rs v)
  mixed : P.follows .mixedOrders = true
def memN : List Nat → Nat → Bool
  | [], _ => false
  | a :: l, b => Nat.beq a b || memN l b
def tyOf : List (Nat × Ty) → Nat → Option Ty
  | [], _ => none
  | (k, t) :: r, T => match Nat.beq k T with | true => some t | false => tyOf r T
def natOf : List (Nat × Nat) → Nat → Nat
  | [], _ => 0
  | (k, t) :: r, T => match Nat.beq k T with | true => t | false => natOf r T
def fieldOf : List (Nat × List Nat) → Nat → Nat → Nat
  | [], _, _ => 0
  | (k, t) :: r, T, i => match Nat.beq k T with | true => t.getD i 0 | false => fieldOf r T i
/-- What is told of a function beside its code. -/
structure Cfg where
  g : Nat
  m : List Mode
  keep : List (List Nat)
  hint : List (Nat × Ow)
  rfr : List Nat
  ice : List (Nat × List Nat)
def iceOf : List (Nat × List Nat) → Nat → List Nat
  | [], _ => []
  | (k, t) :: r, i => match Nat.beq k i with | true => t | false => iceOf r i
def seatOf (tys : List (Nat × Ty)) (bys : List (Nat × Nat)) (ftys : List Nat) (flds : List (Nat × List Nat)) (els : List (Nat × Nat)) : Seat := ⟨tyOf tys, natOf bys, memN ftys, fieldOf flds, natOf els⟩
def hintOf : List (Nat × Ow) → Nat → Ow
  | [], _ => .fr
  | (t, q) :: r, u => match Nat.beq t u with | true => q | false => hintOf r u
def mkCtx (S : Seat) (c : Cfg) (tab : List Row) : FC where
  C := { ty := S.ty, bytes := S.bytes, fty := S.fty, hint := hintOf c.hint, keep := fun i t => memN (c.keep.getD i []) t, ice := iceOf c.ice, pin := fun t => match modeOf c.m t with | .mut => true | _ => false, rfr := memN c.rfr,
         mode := fun g => match Nat.beq g c.g with | true => modeOf c.m | false => (match findRow tab g with | some r => modeOf r.m | none => fun _ => .rd),
         Φ := fun g args => match Nat.beq g c.g with | true => .bad | false => (match findRow tab g with | some r => phi r.s args | none => .bad) }
  ft := S.ft
  et := S.et
theorem mkCtx_ok {P : Program} {S : Seat} {c : Cfg} {tab : List Row} (h : SeatOK P S) : CtxOK P (mkCtx S c tab) := ⟨h.ty, h.bytes, h.fty, h.mixed⟩
theorem mkCtx_tab {P : Program} {S : Seat} {c : Cfg} {tab : List Row} (h : ∀ r, r ∈ tab → RowIs P r) : ∀ g, FnOK P (mkCtx S c tab).C g := by
  intro g args res fin hr
  simp only [mkCtx] at hr ⊢
  cases hb : Nat.beq g c.g with
  | true => rw [hb] at hr; cases hr
  | false =>
    rw [hb] at hr
    simp only at hr ⊢
    cases hf : findRow tab g with
    | none => rw [hf] at hr; cases hr
    | some r =>
      rw [hf] at hr
      simp only at hr ⊢
      obtain ⟨h1, h2⟩ := findRow_ok hf
      have := h r h1
      unfold RowIs at this
      rw [h2] at this
      exact this args res fin hr
/-- A function is as its plain function says. -/
theorem spec_is {P : Program} {S : Seat} (hS : SeatOK P S) {tab : List Row} (hT : ∀ r, r ∈ tab → RowIs P r) {c : Cfg} {fn : Func} {code : Code} (hf : P.funcs[c.g]? = some fn) (hname : (fn.name == "runtime.NumGoroutine") = false) (hb : fn.body = some code)
    {ls : List LSum} (hd : distinct (ls.map (·.cur)) = true) (hr : RoundsOK (mkCtx S c tab) (sums ls) (loopsOf 0 code) ls) {s : Spec}
    (he : ∀ v, (evFn (mkCtx S c tab) (sums ls) c.g fn (encL s.a v)).run = (s.gen v).bind fun y => some (s.out y)) : FnIs P c.g (modeOf c.m) (phi [s]) := by
  have hm : (mkCtx S c tab).C.mode c.g = modeOf c.m := by simp [mkCtx, Nat.beq_refl]
  have key := fn_ok (X := mkCtx S c tab) (mkCtx_ok hS) (mkCtx_tab hT) hf hname hb (L := sums ls) (φ := phi [s])
    (fun pv B M Z0 w0 => loopsOK_of (mkCtx_ok hS) (mkCtx_tab hT) hd code 0 (rounds_mem hr)) (fun i hi => by rw [hm] at hi; simp [mkCtx, hi])
    (fun args r h => by
      simp only [phi] at h
      split at h
      · rename_i v hv
        rw [decL_ok hv, he v]
        exact h
      · cases h)
  rw [hm] at key
  exact key
theorem tab_nil {P : Program} : ∀ r, r ∈ ([] : List Row) → RowIs P r := fun _ h => by cases h
theorem tab_cons {P : Program} {r : Row} {rs : List Row} (h : FnIs P r.g (modeOf r.m) (phi r.s)) (t : ∀ r, r ∈ rs → RowIs P r) : ∀ x, x ∈ r :: rs → RowIs P x := fun x hx => by
  rcases List.mem_cons.1 hx with rfl | hx
  · exact h
  · exact t x hx
theorem kb_ite {α β : Type} {c : Bool} {x y : Option α} {k : α → Option β} : (bif c then x else y).bind k = bif c then x.bind k else y.bind k := by cases c <;> rfl
theorem kb_alt {α β γ δ : Type} {s : β ⊕ γ} {f : β → Option α} {g : γ → Option α} {k : α → Option δ} : (alt s f g).bind k = alt s (fun y => (f y).bind k) (fun y => (g y).bind k) := by cases s <;> rfl
theorem kb_some {α β : Type} {a : α} {k : α → Option β} : (some a).bind k = k a := rfl
theorem kb_none {α β : Type} {k : α → Option β} : (none : Option α).bind k = none := rfl
theorem kb_bind {α β γ : Type} {x : Option α} {f : α → Option β} {k : β → Option γ} : (x.bind f).bind k = x.bind fun y => (f y).bind k := by cases x <;> rfl
def bodyAt (l : List (Nat × Code)) (k : Nat) : Code := (l.getD k (0, .skip)).2
end Go.K

/- K, part 10: what a law's arguments read as; a law's row. -/
set_option linter.unusedVariables false
set_option linter.unusedSimpArgs false
namespace Go.K
variable [drI : Dr]

/-- Types of data that come in. -/
def Ty.plainArg : Ty → Bool
  | .int _ | .bool | .str | .unit => true
  | .pair a b => a.plainArg && b.plainArg
  | .sl _ e => e.plainArg
  | _ => false
/-- What a datum of the type can be. -/
def Fits : (t : Ty) → t.den → Prop
  | .int k, n => (Lit.int k n).wf = true
  | .bool, _ => True
  | .str, s => s.length ≤ maxLen
  | .unit, _ => True
  | .pair a b, x => Fits a x.1 ∧ Fits b x.2
  | .sl _ e, xs => xs.length ≤ maxLen ∧ ∀ y, y ∈ xs → Fits e y
  | _, _ => True

section
variable {P : Program} {X : FC} {w : World} {H : Type} {enc : TypeId × Value → H}
theorem CtxOK.cells (K : CtxOK P X) {T : Nat} {t : Ty} (h : X.C.ty T = some t) : P.cellsOf T = t.cells := by
  obtain ⟨i, h1, h2, _⟩ := K.size h
  unfold Program.cellsOf
  rw [h1]; exact h2
theorem cells?_at {w : World} {base : Nat} {a : Addr} {n : Nat} {cs : List Value} (h : w.cells? base a n = some cs) : cs.length = n ∧ CellsAt w a cs ∧ (0 < n → a.block < w.heap.size ∧ a.spot = none) := by
  unfold World.cells? at h
  split at h
  rotate_left
  · cases h
  have hl := mapM_some_length h
  rw [List.length_range] at hl
  refine ⟨hl, fun j u hj => ?_, fun hn => ?_⟩
  · have hjn : j < n := by
      rcases Nat.lt_or_ge j n with h2 | h2
      · exact h2
      · rw [List.getElem?_eq_none (by omega)] at hj; cases hj
    rw [mapM_some_get h j j (by simp [hjn])]; exact hj
  · have h0 := mapM_some_get h 0 0 (by simp [hn])
    rw [List.getElem?_eq_getElem (by omega)] at h0
    have hb : (a.add 0).block = a.block := add_block a 0
    unfold World.cell? at h0
    rw [hb] at h0
    split at h0
    · rename_i c T fz hh
      refine ⟨(Array.getElem?_eq_some_iff.1 hh).1, ?_⟩
      split at h0
      · cases h0
      · rename_i hs
        have e : a.add 0 = a := by unfold Addr.add; rfl
        rw [e] at hs
        cases hsp : a.spot with
        | none => rfl
        | some s => rw [hsp] at hs; simp at hs
    · cases h0
def ReadA (P : Program) (X : FC) (w : World) (enc : TypeId × Value → H) (t : Ty) : Prop :=
  ∀ (T fuel : Nat) (cs : List Value) (d : DataW H) (ps : List MemPlace), X.C.ty T = some t → DataW.trod enc P w 0 (fun _ => true) true fuel T cs = some (d, ps) → ∃ x : t.den, Rep w (fun b => b < w.heap.size) t .fr x cs (fun _ => False) ∧ Fits t x
def ReadF (P : Program) (X : FC) (w : World) (enc : TypeId × Value → H) (t : Ty) : Prop :=
  ∀ (fs : List Field) (fuel o : Nat) (cs : List Value) (xs : List (DataW H × List MemPlace)), fieldsOK X.C.ty fs t o = true →
    (fs.mapM fun f => DataW.trod enc P w 0 (fun _ => true) true fuel f.type ((cs.drop f.offset).take (P.cellsOf f.type))) = some xs → o + t.cells ≤ cs.length → ∃ x : t.den, Rep w (fun b => b < w.heap.size) t .fr x ((cs.drop o).take t.cells) (fun _ => False) ∧ Fits t x
theorem read_elems (K : CtxOK P X) {e : Ty} (hA : ReadA P X w enc e) {Te fuel : Nat} (hT : X.C.ty Te = some e) {a : Addr} {n : Nat} {els : List (DataW H × List MemPlace)}
    (h : ((List.range n).mapM fun i => (w.cells? 0 (a.add (i * e.cells)) e.cells).bind (DataW.trod enc P w 0 (fun _ => true) true fuel Te)) = some els) (hs : a.spot = none) :
    ∀ m, m ≤ n → ∃ (xs : List e.den) (cells : List Value), xs.length = m ∧ cells.length = m * e.cells ∧ CellsAt w a cells ∧ ElemsRep (fun y => Rep w (fun b => b < w.heap.size) e .fr y) xs cells (fun _ => False) ∧ ∀ y, y ∈ xs → Fits e y
  | 0, _ => ⟨[], [], rfl, by simp, fun j u hj => by simp at hj, ⟨rfl, fun _ h => h⟩, by simp⟩
  | m + 1, hm => by
    obtain ⟨xs, cells, h1, h2, h3, h4, h5⟩ := read_elems K hA hT h hs m (by omega)
    have hg := mapM_some_get h m m (List.getElem?_range (by omega))
    have hl := mapM_some_length h
    rw [List.length_range] at hl
    rw [List.getElem?_eq_getElem (by omega)] at hg
    simp only [Option.bind_eq_some_iff] at hg
    obtain ⟨cs, hc, ht⟩ := hg
    obtain ⟨x, hx, hf⟩ := hA Te fuel cs _ _ hT ht
    obtain ⟨c1, c2, _⟩ := cells?_at hc
    refine ⟨xs ++ [x], cells ++ cs, by simp [h1], by rw [List.length_append, h2, c1, Nat.add_mul, Nat.one_mul], fun j u hj => ?_, h4.append (F2 := fun _ => False) ⟨cs, [], _, _, by simp, hx, ⟨rfl, fun _ h => h⟩, Join.none⟩ Join.none, fun y hy => ?_⟩
    · rcases Nat.lt_or_ge j cells.length with h6 | h6
      · rw [List.getElem?_append_left h6] at hj
        exact h3 j u hj
      · rw [List.getElem?_append_right h6] at hj
        have := c2 (j - cells.length) u hj
        rw [add_add _ hs, show m * e.cells + (j - cells.length) = j by omega] at this
        exact this
    · rcases List.mem_append.1 hy with hy | hy
      · exact h5 y hy
      · simp only [List.mem_singleton] at hy; subst hy; exact hf
theorem read_both (K : CtxOK P X) : ∀ (t : Ty), t.plainArg = true → ReadA P X w enc t ∧ ReadF P X w enc t
  | .int k, _ => by
    refine ⟨fun T fuel cs d ps hT h => ?_, fun fs fuel o cs xs hf _ _ => by cases fs <;> simp [fieldsOK] at hf⟩
    have hu := K.under hT
    cases fuel with
    | zero => cases h
    | succ fuel =>
      unfold DataW.trod at h
      rw [hu] at h
      split at h <;> first | (rename_i h1; cases h1; done) | skip
      all_goals first | (simp_all; done) | skip
      rename_i k1 k2 n h1
      simp only [Option.some.injEq, TypeDesc.int.injEq] at h1
      subst h1
      split at h
      · rename_i hk
        obtain ⟨rfl, hw⟩ := hk
        exact ⟨n, .inl ⟨by simp, rfl, fun _ h => h⟩, hw⟩
      · cases h
  | .bool, _ => by
    refine ⟨fun T fuel cs d ps hT h => ?_, fun fs fuel o cs xs hf _ _ => by cases fs <;> simp [fieldsOK] at hf⟩
    have hu := K.under hT
    cases fuel with
    | zero => cases h
    | succ fuel =>
      unfold DataW.trod at h
      rw [hu] at h
      split at h <;> first | (rename_i h1; cases h1; done) | skip
      all_goals first | (simp_all; done) | skip
      rename_i b h1
      exact ⟨b, .inl ⟨by simp, rfl, fun _ h => h⟩, trivial⟩
  | .str, _ => by
    refine ⟨fun T fuel cs d ps hT h => ?_, fun fs fuel o cs xs hf _ _ => by cases fs <;> simp [fieldsOK] at hf⟩
    have hu := K.under hT
    cases fuel with
    | zero => cases h
    | succ fuel =>
      unfold DataW.trod at h
      rw [hu] at h
      split at h <;> first | (rename_i h1; cases h1; done) | skip
      all_goals first | (simp_all; done) | skip
      rename_i s h1
      split at h
      · rename_i hs
        exact ⟨s.data.toList, .inl ⟨by simp, rfl, fun _ h => h⟩, by simpa [Fits] using hs⟩
      · cases h
  | .unit, _ => by
    have hF : ReadF P X w enc .unit := by
      intro fs fuel o cs xs hf _ _
      exact ⟨(), ⟨by simp [Ty.cells], fun _ h => h⟩, trivial⟩
    refine ⟨fun T fuel cs d ps hT h => ?_, hF⟩
    obtain ⟨fs, hu⟩ := K.under hT
    have hc := K.cells hT
    cases fuel with
    | zero => cases h
    | succ fuel =>
      unfold DataW.trod at h
      rw [hu] at h
      split at h <;> first | (rename_i h1; cases h1; done) | skip
      all_goals first | (simp_all; done) | skip
      rename_i fs' h1
      split at h
      · rename_i hlen
        rw [hc, Ty.cells] at hlen
        exact ⟨(), ⟨List.length_eq_zero_iff.1 hlen, fun _ h => h⟩, trivial⟩
      · cases h
  | .pair a b, hp => by
    simp only [Ty.plainArg, Bool.and_eq_true] at hp
    obtain ⟨hAa, _⟩ := read_both K a hp.1
    obtain ⟨_, hFb⟩ := read_both K b hp.2
    have hF : ReadF P X w enc (.pair a b) := by
      intro fs fuel o cs xs hf h hl
      cases fs with
      | nil => simp [fieldsOK] at hf
      | cons f fs =>
        simp only [fieldsOK, Bool.and_eq_true, beq_iff_eq] at hf
        obtain ⟨⟨⟨_, h1⟩, h2⟩, h3⟩ := hf
        rw [List.mapM_cons] at h
        simp only [Option.bind_eq_bind, Option.bind_eq_some_iff] at h
        obtain ⟨⟨d1, p1⟩, e1, ys, e2, _⟩ := h
        rw [K.cells h1, h2] at e1
        obtain ⟨x, hx, hfx⟩ := hAa f.type fuel _ d1 p1 h1 e1
        simp only [Ty.cells] at hl
        obtain ⟨y, hy, hfy⟩ := hFb fs fuel (o + a.cells) cs ys h3 e2 (by omega)
        refine ⟨(x, y), ⟨_, _, _, _, ?_, hx, hy, Join.none⟩, hfx, hfy⟩
        rw [Ty.cells, List.take_add, List.drop_drop]
    refine ⟨fun T fuel cs d ps hT h => ?_, hF⟩
    obtain ⟨fs, hu, hfs, _⟩ := K.under hT
    have hc := K.cells hT
    cases fuel with
    | zero => cases h
    | succ fuel =>
      unfold DataW.trod at h
      rw [hu] at h
      split at h <;> first | (rename_i h1; cases h1; done) | skip
      all_goals first | (simp_all; done) | skip
      rename_i cs' x1 cs2 fs1 h1
      simp only [Option.some.injEq, TypeDesc.struct.injEq] at h1
      subst h1
      split at h
      · rename_i hlen
        simp only [Option.map_eq_some_iff] at h
        obtain ⟨xs, h4, _⟩ := h
        obtain ⟨x, hx, hfx⟩ := hF fs.toList fuel 0 cs' xs hfs h4 (by omega)
        rw [List.drop_zero, List.take_of_length_le (by omega)] at hx
        exact ⟨x, hx, hfx⟩
      · cases h
  | .sl Te e, hp => by
    simp only [Ty.plainArg] at hp
    obtain ⟨hAe, _⟩ := read_both K e hp
    refine ⟨fun T fuel cs d ps hT h => ?_, fun fs fuel o cs xs hf _ _ => by cases fs <;> simp [fieldsOK] at hf⟩
    obtain ⟨hu, hTe, hpos⟩ := K.under hT
    have hc := K.cells hTe
    cases fuel with
    | zero => cases h
    | succ fuel =>
      unfold DataW.trod at h
      rw [hu] at h
      split at h <;> first | (rename_i h1; cases h1; done) | skip
      all_goals first | (simp_all; done) | skip
      · exact ⟨([] : List e.den), ⟨none, 0, [], rfl, fun _ h => h, Nat.le_refl _, Nat.zero_le _, fun h => absurd rfl h, ⟨rfl, fun _ h => h⟩⟩, Nat.zero_le _, by simp⟩
      · rename_i Te' ad len cap h1
        simp only [Option.some.injEq, TypeDesc.slice.injEq] at h1
        subst h1
        split at h
        rotate_left
        · cases h
        rename_i hb
        simp only [Option.bind_eq_some_iff] at h
        obtain ⟨els, h4, _⟩ := h
        rw [hc] at h4
        by_cases hz : len = 0
        · subst hz
          exact ⟨([] : List e.den), ⟨some ad, cap, [], rfl, fun _ h => h, hb.2.1, hb.2.2, fun h => absurd rfl h, ⟨rfl, fun _ h => h⟩⟩, Nat.zero_le _, by simp⟩
        · have hsp : ad.spot = none ∧ ad.block < w.heap.size := by
            have hg := mapM_some_get h4 0 0 (List.getElem?_range (by omega))
            have hl := mapM_some_length h4
            rw [List.length_range] at hl
            rw [List.getElem?_eq_getElem (by omega)] at hg
            simp only [Option.bind_eq_some_iff] at hg
            obtain ⟨cs', hcs, _⟩ := hg
            obtain ⟨_, _, h6⟩ := cells?_at hcs
            rw [Nat.zero_mul] at h6
            have e0 : ad.add 0 = ad := by unfold Addr.add; rfl
            rw [e0] at h6
            exact ⟨(h6 hpos).2, (h6 hpos).1⟩
          obtain ⟨xs, cells, r1, r2, r3, r4, r5⟩ := read_elems K hAe hTe h4 hsp.1 len (Nat.le_refl _)
          exact ⟨xs, ⟨some ad, cap, cells, by rw [r1], fun _ h => h, by omega, hb.2.2, fun _ => ⟨ad, rfl, hsp.1, hsp.2, r3⟩, r4⟩, by show xs.length ≤ maxLen; omega, r5⟩
  | .ptr t, hp => by simp [Ty.plainArg] at hp
  | .arr n e, hp => by simp [Ty.plainArg] at hp
  | .mp k v, hp => by simp [Ty.plainArg] at hp
end
end Go.K

/- K, part 11: from a law's plain function to its row's contract. -/
set_option linter.unusedVariables false
set_option linter.unusedSimpArgs false
namespace Go.K
open Go.RowKit
variable [drI : Dr]
/-- The shapes of what comes in. -/
def frL (ts : List Ty) : List ASh := ts.map fun t => .v t .fr
def FitsL : (ts : List Ty) → denL (frL ts) → Prop
  | [], _ => True
  | t :: ts, x => Fits t x.1 ∧ FitsL ts x.2
section
variable {P : Program} {X : FC} {w : World} {H : Type} {enc : TypeId × Value → H}
theorem okWide_agg (K : CtxOK P X) {T : Nat} {t : Ty} (hT : X.C.ty T = some t) (hp : t.plainArg = true) {base : Nat} {v : Value} (h : Value.okWide P w .any base T v) : t.isAgg = true ↔ ∃ cs, v = .agg cs := by
  have hu := K.under hT
  unfold Value.okWide at h
  cases t with
  | pair a b =>
    obtain ⟨fs, h1, _⟩ := hu
    rw [h1] at h
    obtain ⟨cs, h2, _⟩ := h
    exact ⟨fun _ => ⟨cs, h2⟩, fun _ => rfl⟩
  | unit =>
    obtain ⟨fs, h1⟩ := hu
    rw [h1] at h
    obtain ⟨cs, h2, _⟩ := h
    exact ⟨fun _ => ⟨cs, h2⟩, fun _ => rfl⟩
  | int k =>
    simp only at hu
    rw [hu] at h
    refine ⟨fun h => (by cases h), fun ⟨cs, e⟩ => ?_⟩
    subst e
    simp [Cell.okWide, Cell.ok, hu] at h
  | bool =>
    simp only at hu
    rw [hu] at h
    refine ⟨fun h => (by cases h), fun ⟨cs, e⟩ => ?_⟩
    subst e
    simp [Cell.okWide, Cell.ok, hu] at h
  | str =>
    simp only at hu
    rw [hu] at h
    refine ⟨fun h => (by cases h), fun ⟨cs, e⟩ => ?_⟩
    subst e
    simp [Cell.okWide, Cell.ok, hu] at h
  | sl Te e =>
    obtain ⟨hu, _⟩ := hu
    rw [hu] at h
    refine ⟨fun h => (by cases h), fun ⟨cs, e⟩ => ?_⟩
    subst e
    simp [Cell.okWide, Cell.ok, hu] at h
  | ptr t => simp [Ty.plainArg] at hp
  | arr n e => simp [Ty.plainArg] at hp
  | mp k v => simp [Ty.plainArg] at hp
theorem read_all (K : CtxOK P X) : ∀ {ts : List Ty} {Ts : List TypeId} {vs : List Value} {ds : List (DataW H)} {ps : List MemPlace}, (ts.all Ty.plainArg = true) → (Ts.map X.C.ty = ts.map some) → DataW.TrodAll enc P w 0 (fun _ => true) true Ts vs ds ps →
    (∀ (j : Nat) T v, Ts[j]? = some T → vs[j]? = some v → ∃ base, Value.okWide P w .any base T v) → ∃ x : denL (frL ts), ArgsRep w (fun b => b < w.heap.size) (encL (frL ts) x) vs (fun _ => False) ∧ FitsL ts x
  | [], [], vs, ds, ps, _, _, h, _ => by
    cases vs with
    | nil => exact ⟨(), ⟨rfl, fun _ h => h⟩, trivial⟩
    | cons v vs => exact h.elim
  | [], _ :: _, vs, ds, ps, _, hm, h, _ => by simp at hm
  | _ :: _, [], vs, ds, ps, _, hm, h, _ => by simp at hm
  | t :: ts, T :: Ts, vs, ds, ps, hp, hm, h, hv => by
    simp only [List.all_cons, Bool.and_eq_true] at hp
    simp only [List.map_cons, List.cons.injEq] at hm
    cases vs with
    | nil => exact h.elim
    | cons v vs =>
      cases ds with
      | nil => exact h.elim
      | cons d ds =>
        obtain ⟨p, q, ⟨fuel, h1⟩, h2, _⟩ := h
        obtain ⟨x, hx, hf⟩ := (read_both K t hp.1).1 T fuel _ d p hm.1 h1
        obtain ⟨y, hy, hg⟩ := read_all K hp.2 hm.2 h2 (fun j T v h3 h4 => hv (j + 1) T v (by simpa using h3) (by simpa using h4))
        obtain ⟨base, hok⟩ := hv 0 T v rfl rfl
        exact ⟨(x, y), ⟨v, vs, _, _, rfl, ⟨hx, okWide_agg K hm.1 hp.1 hok⟩, hy, Join.none⟩, hf, hg⟩
theorem trodAll_stays (hl : laidOutB P = true) {w' : World} (hb : Below w.heap.size w w') : ∀ {Ts : List TypeId} {vs : List Value} {ds : List (DataW H)} {ps : List MemPlace}, (Ts.all fun T => P.readableRec T && decide (T < P.types.size)) = true → (∀ x ∈ ps, x.block < w.heap.size) → DataW.TrodAll enc P w 0 (fun _ => true) true Ts vs ds ps →
    DataW.TrodAll enc P w' 0 (fun b => decide (b < w.heap.size)) true Ts vs ds ps
  | [], vs, ds, ps, _, _, h => by
    cases vs <;> cases ds <;> first | exact h | exact h.elim
  | T :: Ts, vs, ds, ps, hr, hlt, h => by
    simp only [List.all_cons, Bool.and_eq_true, decide_eq_true_eq] at hr
    cases vs with
    | nil => exact h.elim
    | cons v vs =>
      cases ds with
      | nil => exact h.elim
      | cons d ds =>
        obtain ⟨p, q, h1, h2, rfl⟩ := h
        exact ⟨p, q, Below.trod hl hr.1.1 hr.1.2 h1 hb (fun x hx => hlt x (List.mem_append_left _ hx)), trodAll_stays hl hb (by simpa using hr.2) (fun x hx => hlt x (List.mem_append_right _ hx)) h2, rfl⟩
theorem keptBut_below {w' : World} (hb : Below w.heap.size w w') (may : MemPlace → Prop) : w.keptBut w' may := by
  refine ⟨hb.os, hb.output, fun i hi => ?_⟩
  rw [hb.block i hi]
  generalize w.heap[i]? = o
  cases o with
  | none => rfl
  | some o => cases o <;> first | rfl | exact ⟨rfl, rfl, rfl, fun _ _ => rfl⟩ | exact .inr ⟨rfl, rfl⟩
theorem trodAll_length {b : Nat} {sp : Nat → Bool} {hd : Bool} : ∀ {Ts : List TypeId} {vs : List Value} {ds : List (DataW H)} {ps : List MemPlace}, DataW.TrodAll enc P w b sp hd Ts vs ds ps → ds.length = Ts.length
  | [], vs, ds, ps, h => by
    cases vs <;> cases ds <;> first | rfl | exact h.elim
  | T :: Ts, vs, ds, ps, h => by
    cases vs with
    | nil => exact h.elim
    | cons v vs =>
      cases ds with
      | nil => exact h.elim
      | cons d ds =>
        obtain ⟨_, _, _, h2, _⟩ := h
        simp [trodAll_length h2]
mutual
theorem ASh.dec_enc : ∀ {s : ASh} {x : s.den}, s.dec (s.enc x) = some x
  | .v t q, x => by simp only [ASh.enc, ASh.dec, dif_pos, if_pos]
  | .fn g f c, x => by simp only [ASh.enc, ASh.dec, Nat.beq_refl, decL_encL]; rfl
  | .pfn g f c, x => by simp only [ASh.enc, ASh.dec, Nat.beq_refl, decL_encL]; rfl
theorem decL_encL : ∀ {l : List ASh} {x : denL l}, decL l (encL l x) = some x
  | [], x => rfl
  | s :: r, x => by simp only [encL, decL, ASh.dec_enc, decL_encL]; rfl
end
/-- The contract that a law's row asks for. -/
theorem law_contract (hl : laidOutB P = true) (K : CtxOK P X) {f : Func} {g : Nat} {s : ChangeSpec} {Tb : Nat} {ts : List Ty} (hs : s.vars = []) (hfn : ∀ ds : List (DataW H), ds.length = ts.length → s.fn H ds = { results := [.lit (.bool true)], args := ds })
    (hres : f.resultTypes = #[Tb]) (hTb : P.underlying Tb = some .bool) (hp : ts.all Ty.plainArg = true) (hm : f.params.toList.map X.C.ty = ts.map some) (hr : (f.params.toList.all fun T => P.readableRec T && decide (T < P.types.size)) = true)
    {β : Type} {gen : denL (frL ts) → Option β} {out : β → List Arg × List Arg} {m : Nat → Mode} (his : FnIs P g m (phi [⟨frL ts, β, gen, out⟩])) (hlaw : ∀ v : denL (frL ts), FitsL ts v → ∃ y, gen v = some y ∧ out y = ([.v .bool .fr true], []))
    (args : Array Value) (ds gs : List (DataW H)) (before : List MemPlace) (base : Nat) (hval : ∀ (j : Nat) t v, f.params[j]? = some t → args[j]? = some v → Value.okWide P w .any base t v)
    (hW : DataW.Whole enc P f.params.toList s.vars false w args.toList ds gs before) :
    Calls P g args w fun e W' => ∃ v, e = .returned v ∧ s.post enc P f false true false false w args v W' := by
  have hlt := hW.lt
  obtain ⟨p, q, hA, hV, rfl, hfz, hnd⟩ := id hW
  obtain ⟨x, hx, hfit⟩ := read_all K hp hm hA (fun j T v h1 h2 => ⟨base, hval j T v (by simpa using h1) (by simpa using h2)⟩)
  obtain ⟨y, hy, hout⟩ := hlaw x hfit
  have hgs : gs = [] ∧ q = [] := by
    rw [hs] at hV
    cases gs with
    | nil => exact ⟨rfl, hV⟩
    | cons g gs => exact hV.elim
  obtain ⟨rfl, rfl⟩ := hgs
  have hdl : ds.length = ts.length := by
    have h1 := trodAll_length hA
    have h2 := congrArg List.length hm
    simp only [List.length_map] at h2
    omega
  have hphi : (phi [⟨frL ts, β, gen, out⟩] (encL (frL ts) x)).run = some ([.v .bool .fr true], []) := by
    simp only [phi, decL_encL]
    simp only [Out.run, hy, Option.bind_some, hout]
  obtain ⟨_, hcall⟩ := his _ _ _ hphi
  have := hcall w (fun b => b < w.heap.size) (fun _ => False) args.toList hx (fun b hb => hb) (fun b hb => hb.elim)
  refine this.mono fun e W' he => ?_
  cases e with
  | panicked c => exact he.elim
  | outgrown => exact he.elim
  | returned v =>
    obtain ⟨Z', Fr, Fb, vals, hext, hZ, hZ', hun, hrep, _, _, _⟩ := he.post
    have hb : Below w.heap.size w W' := ⟨hext.os, hext.tape, hext.output, hext.size, fun k hk => hext.block k hk (fun h => h)⟩
    obtain ⟨V, Vs, F1, F2, rfl, hV1, ⟨rfl, _⟩, _⟩ := hrep
    rcases hun with ⟨_, hvv⟩ | ⟨h, _⟩
    rotate_left
    · exact absurd rfl h
    simp only [List.cons.injEq, and_true] at hvv
    subst hvv
    have hb1 : V = .bool true := VRep.bool (by simp) hV1
    subst hb1
    refine ⟨_, rfl, ds, [], p ++ [], [], p, [], hW, ?_, ?_, ?_, keptBut_below hb _, fun h => by cases h⟩
    · rw [List.append_nil, hfn ds ?_, hres]
      · exact ⟨[], [], ⟨1, by unfold DataW.trod; rw [hTb]; rfl⟩, rfl, rfl⟩
      · exact hdl
    · rw [List.append_nil, hfn ds ?_]
      · exact trodAll_stays hl hb hr (fun x hx => hlt x (by simpa using hx)) hA
      · exact hdl
    · rw [hs, List.append_nil, hfn ds ?_]
      · rfl
      · exact hdl
end
end Go.K

/- K, part 12: a seat's table, checked. -/
set_option linter.unusedVariables false
namespace Go.K
variable [drI : Dr]
theorem tyOf_mem : ∀ {l : List (Nat × Ty)} {T : Nat} {t : Ty}, tyOf l T = some t → (T, t) ∈ l
  | (k, u) :: r, T, t, h => by
    simp only [tyOf] at h
    split at h
    · rename_i hb
      rw [Nat.eq_of_beq_eq_true hb] at *
      cases h
      exact List.mem_cons_self
    · exact List.mem_cons_of_mem _ (tyOf_mem h)
theorem memN_mem : ∀ {l : List Nat} {T : Nat}, memN l T = true → T ∈ l
  | a :: r, T, h => by
    simp only [memN, Bool.or_eq_true] at h
    rcases h with h | h
    · rw [Nat.eq_of_beq_eq_true h]; exact List.mem_cons_self
    · exact List.mem_cons_of_mem _ (memN_mem h)
def bytesChk (P : Program) (bys : List (Nat × Nat)) : Nat × Ty → Bool
  | (T, .sl Te _) => match P.info? Te with | some i => i.bytes == natOf bys T && decide (0 < i.bytes) | none => false
  | _ => true
def funcChk (P : Program) (T : Nat) : Bool := match P.underlying T with | some (.func ..) => true | _ => false
theorem seat_ok {P : Program} {tys : List (Nat × Ty)} {bys : List (Nat × Nat)} {ftys : List Nat} {flds : List (Nat × List Nat)} {els : List (Nat × Nat)}
    (h1 : (tys.all fun x => tyChk P (tyOf tys) x.1 x.2) = true) (h2 : tys.all (bytesChk P bys) = true) (h3 : ftys.all (funcChk P) = true) (h4 : P.follows .mixedOrders = true) : SeatOK P (seatOf tys bys ftys flds els) where
  ty T t h := List.all_eq_true.1 h1 _ (tyOf_mem h)
  bytes T Te e h := by
    have := List.all_eq_true.1 h2 _ (tyOf_mem h)
    simp only [bytesChk] at this
    split at this
    · rename_i i hi
      simp only [Bool.and_eq_true, beq_iff_eq, decide_eq_true_eq] at this
      exact ⟨i, hi, this.1, this.2⟩
    · cases this
  fty T h := by
    have := List.all_eq_true.1 h3 _ (memN_mem h)
    unfold funcChk at this
    split at this
    · exact ⟨_, _, _, ‹_›⟩
    · cases this
  mixed := h4
end Go.K

